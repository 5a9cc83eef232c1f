/- The proof's parts, merged: Printed by gen.py, a program of this claim  what each Go function computes.. No conditions but those that each states. -/
import Derived.Test.YtaebhfnbgkbdhaaQc
import Derived.Test.YtaebhfnbgkbdhaaProg
import Derived.KernelRfl
set_option maxRecDepth 100000
set_option linter.unusedVariables false
namespace OT
open Go Go.Proofs.Try
abbrev aD:Type:=((List UInt8)×Int×Unit)
abbrev bC:Ty:=(bB [(.af u8),i64])
abbrev Row:Type:=(Int×Int×Int×(List UInt8)×Unit)
abbrev aw:Ty:=(bB [i64,i64,i64,.str])
abbrev Change:Type:=(Bool×Row×Bool×Row×Unit)
abbrev bk:Ty:=(bB [.bool,aw,.bool,aw])
abbrev Key:Type:=(Int×Int×Unit)
abbrev aA:Ty:=(bB [i64,i64])
abbrev Tx:Type:=(Int×(List Change)×(List Int)×(List Key)×Unit)
abbrev bg:Ty:=(bB [i64,(.af bk),(.af i64),(.af aA)])
abbrev Op:Type:=(Int×Int×Row×Int×Unit)
abbrev jm:Ty:=(bB [i64,i64,aw,i64])
abbrev aE:Type:=(Int×Bool×Change×Unit)
abbrev bu:Ty:=(bB [i64,.bool,bk])
abbrev sf:Type:=(Int×(List Tx)×Unit)
abbrev qR:Ty:=(bB [i64,(.af bg)])
abbrev nB:Type:=(Int×(List Row)×Unit)
abbrev kA:Ty:=(bB [i64,(.af aw)])
abbrev xS:Type:=(Int×(List Change)×Unit)
abbrev iI:Ty:=(bB [i64,(.af bk)])
noncomputable def bn:TL:=[(2,i64),(27,aw),(70,bg),(24,(.af aw)),(33,bk),(25,(.af bg)),(38,aA),(4,.bool),(68,(.af aA)),(51,(.af bk)),(29,jm),(66,(.af i64)),(9,.str),(35,bu),(42,aA),(92,(.map aA .bool)),(22,(.af u8)),(46,qR),(49,kA),(53,iI),(96,bC),(120,(.af .str)),(3,i64),(5,u8),(121,(.int .u64))]
theorem aO:(CA prog bn&&yg prog bn)=true:=by kernel_rfl
namespace jY
abbrev Arg:Type:=(List UInt8)×Unit
abbrev Out:Type:=Bool×Unit
abbrev ps:PQ:=[(.ro,(.af u8))]
noncomputable def D:FD:={ fn:=f4,tl:=bn,ps:=ps,rs:=[(.bool,(ai .bool))] }
noncomputable def aa (a:Arg):Option Out:=@lift Out λk=>D.W k a
noncomputable def p (J:Arg):Option Out:=some (decide ((1048576:Int) < (J.1.length:Int)),())
theorem ab (k:Nat) (J:Arg):@Eq (Option Out) (D.W k J) (p J):=by kernel_rfl
theorem ok:Ok prog 4 D.sig:=az func4 aO (by kernel_rfl) (an _)
end jY
namespace dV
abbrev Arg:Type:=(List UInt8)×Unit
abbrev Out:Type:=aD×Unit
abbrev ps:PQ:=[(.ro,(.af u8))]
noncomputable def D:FD:={ fn:=f19,tl:=bn,ps:=ps,rs:=[((.ptr bC),(.ptr true (ai bC)))] }
noncomputable def aa (a:Arg):Option Out:=@lift Out λk=>D.W k a
noncomputable def p (J:Arg):Option Out:=some ((J.1,(0:Int),()),())
theorem ab (k:Nat) (J:Arg):@Eq (Option Out) (D.W k J) (p J):=by kernel_rfl
theorem ok:Ok prog 19 D.sig:=az func19 aO (by kernel_rfl) (an _)
end dV
namespace aj
abbrev Arg:Type:=aD×Int×Unit
abbrev Out:Type:=Int×aD×Unit
abbrev ps:PQ:=[(.dm (ai bC) (ai bC),bC),(.ro,i64)]
noncomputable def D:FD:={ fn:=f33,tl:=bn,ps:=ps,rs:=[(i64,(ai i64))],es:=[0],od:=[(8,[0,1,2,3,4,5,6,7,8,9,10,11,12,13,14,15]),(10,[0,1,2,3,4,5,6,7,8,9,10,11,12,13,14,15,16,17])] }
noncomputable def aa (a:Arg):Option Out:=@lift Out λk=>D.W k a
noncomputable def p (J:Arg):Option Out:=bif decide (J.2.1 < (1:Int)) then (some ((0:Int),(J.1.1,ap (J.1.2.1+(1:Int)),J.1.2.2),())) else bif decide ((J.1.1.length:Int)=(0:Int)) then (if J.2.1=0 then none else some ((ap ((ap ((ap (J.1.2.1+(1:Int))) - (1:Int)))*(7:Int))).tmod J.2.1,(J.1.1,ap (J.1.2.1+(1:Int)),J.1.2.2),())) else if (J.1.1.length:Int)=0 then none else if 0<=(ap ((ap (J.1.2.1+(1:Int))) - (1:Int))).tmod (J.1.1.length:Int) then ((J.1.1[((ap ((ap (J.1.2.1+(1:Int))) - (1:Int))).tmod (J.1.1.length:Int)).toNat]?).bind λx2=>if (J.1.1.length:Int)=0 then none else let j5:=λ(p4:Int)=>(if J.2.1=0 then none else some (p4.tmod J.2.1,(J.1.1,ap (J.1.2.1+(1:Int)),J.1.2.2),()):Option Out);bif decide ((200:Int) < J.2.1) then (if (J.1.1.length:Int)=0 then none else if 0<=(ap ((ap ((ap (J.1.2.1+(1:Int))) - (1:Int)))+(1:Int))).tmod (J.1.1.length:Int) then ((J.1.1[((ap ((ap ((ap (J.1.2.1+(1:Int))) - (1:Int)))+(1:Int))).tmod (J.1.1.length:Int)).toNat]?).bind λx3=>j5 (ap ((ap ((ap ((ap ((ap (x2.toNat:Int))+(ap ((ap ((ap ((ap (J.1.2.1+(1:Int))) - (1:Int))).tdiv (J.1.1.length:Int)))*(37:Int)))))*(251:Int)))+(ap ((ap (x3.toNat:Int))*(13:Int)))))+(ap ((ap (J.1.2.1+(1:Int))) - (1:Int)))))) else none) else j5 (ap ((ap (x2.toNat:Int))+(ap ((ap ((ap ((ap (J.1.2.1+(1:Int))) - (1:Int))).tdiv (J.1.1.length:Int)))*(37:Int)))))) else none
theorem ab (k:Nat) (J:Arg):@Eq (Option Out) (D.W k J) (p J):=by kernel_rfl
theorem ok:Ok prog 33 D.sig:=az func33 aO (by kernel_rfl) (an _)
end aj
namespace aM
abbrev Arg:Type:=aD×(List Int)×Unit
abbrev Out:Type:=Int×aD×Unit
abbrev ps:PQ:=[(.dm (ai bC) (ai bC),bC),(.ro,(.af i64))]
noncomputable def D:FD:={ fn:=f32,tl:=bn,ps:=ps,rs:=[(i64,(ai i64))],gl:=[(33,aj.D.sig)],es:=[0] }
noncomputable def aa (a:Arg):Option Out:=@lift Out λk=>D.W k a
noncomputable def p (J:Arg):Option Out:=(aj.aa (J.1,(J.2.1.length:Int),())).bind λr2=>if 0<=r2.1 then ((J.2.1[r2.1.toNat]?).bind λx3=>some (x3,r2.2.1,())) else none
theorem ab (k:Nat) (J:Arg):@Eq (Option Out) (D.W k J) (p J):=by kernel_rfl
theorem ok:Ok prog 32 D.sig:=az func32 aO (by kernel_rfl) (fc aj.ok (an _))
end aM
namespace bK
abbrev Arg:Type:=aD×Int×Unit
abbrev Out:Type:=Bool×aD×Unit
abbrev ps:PQ:=[(.dm (ai bC) (ai bC),bC),(.ro,i64)]
noncomputable def D:FD:={ fn:=f21,tl:=bn,ps:=ps,rs:=[(.bool,(ai .bool))],gl:=[(33,aj.D.sig)],es:=[0] }
noncomputable def aa (a:Arg):Option Out:=@lift Out λk=>D.W k a
noncomputable def p (J:Arg):Option Out:=(aj.aa (J.1,J.2.1,())).bind λr2=>some (decide (r2.1=(0:Int)),r2.2.1,())
theorem ab (k:Nat) (J:Arg):@Eq (Option Out) (D.W k J) (p J):=by kernel_rfl
theorem ok:Ok prog 21 D.sig:=az func21 aO (by kernel_rfl) (fc aj.ok (an _))
end bK
namespace cF
abbrev Arg:Type:=aD×Unit
abbrev Out:Type:=Row×aD×Unit
abbrev ps:PQ:=[(.dm (ai bC) (ai bC),bC)]
noncomputable def D:FD:={ fn:=f56,tl:=bn,ps:=ps,rs:=[(aw,(ai aw))],gl:=[(32,aM.D.sig),(33,aj.D.sig)],es:=[0] }
noncomputable def aa (a:Arg):Option Out:=@lift Out λk=>D.W k a
noncomputable def p (J:Arg):Option Out:=(aj.aa (J.1,(3:Int),())).bind λr2=>(aj.aa (r2.2.1,(6:Int),())).bind λr3=>(aj.aa (r3.2.1,(9:Int),())).bind λr4=>(aM.aa (r4.2.1,[r4.1,(300:Int),(999:Int)],())).bind λr5=>(aj.aa (r5.2.1,(4:Int),())).bind λr6=>if 0<=r6.1/\r6.1 < ([([]:List UInt8),([97]:List UInt8),([97,98,99]:List UInt8),([97,98,99,100,101,102,103,104]:List UInt8)].length:Int) then (([([]:List UInt8),([97]:List UInt8),([97,98,99]:List UInt8),([97,98,99,100,101,102,103,104]:List UInt8)][r6.1.toNat]?).bind λx7=>some ((r2.1,ap ((1:Int)+r3.1),r5.1,x7,()),r6.2.1,())) else none
theorem ab (k:Nat) (J:Arg):@Eq (Option Out) (D.W k J) (p J):=by kernel_rfl
theorem ok:Ok prog 56 D.sig:=az func56 aO (by kernel_rfl) (fc aM.ok (fc aj.ok (an _)))
end cF
namespace cZ
abbrev Arg:Type:=aD×(List Row)×(List Tx)×Unit
abbrev Out:Type:=Op×aD×Unit
abbrev ps:PQ:=[(.dm (ai bC) (ai bC),bC),(.ro,(.af aw)),(.ro,(.af bg))]
noncomputable def D:FD:={ fn:=f23,tl:=bn,ps:=ps,rs:=[(jm,(ai jm))],gl:=[(21,bK.D.sig),(32,aM.D.sig),(33,aj.D.sig),(56,cF.D.sig)],es:=[0] }
noncomputable def aa (a:Arg):Option Out:=@lift Out λk=>D.W k a
noncomputable def p (J:Arg):Option Out:=(aj.aa (J.1,(4:Int),())).bind λr2=>let Fy:=λ(Mh:aD) (cG:Int)=>((cF.aa (Mh,())).bind λJo=>(aM.aa (Jo.2.1,[(1:Int),(1:Int),(1:Int),(2:Int),(0:Int)],())).bind λCB=>let Jp:=λ(Jq:aD) (Fz:Row)=>(let FA:=λ(Mi:aD) (wv:Row)=>(let Jr:=λ(fg:Row)=>((aj.aa (Mi,(12:Int),())).bind λaG=>bif decide (aG.1=(0:Int)) then (some (((1:Int),(0:Int),((0:Int),(0:Int),(0:Int),([]:List UInt8),()),(0:Int),()),aG.2.1,())) else bif decide (aG.1=(1:Int)) then (bif decide (aG.1=(1:Int)) then (some (((2:Int),cG,fg,(0:Int),()),aG.2.1,())) else bif decide (aG.1=(4:Int)) then (bif decide (aG.1=(4:Int)) then (some (((3:Int),cG,fg,(0:Int),()),aG.2.1,())) else bif decide (aG.1=(7:Int)) then (some (((4:Int),cG,(fg.1,fg.2.1,(0:Int),([]:List UInt8),()),(0:Int),()),aG.2.1,())) else bif decide (aG.1=(8:Int)) then (some (((5:Int),cG,((0:Int),(0:Int),(0:Int),([]:List UInt8),()),(0:Int),()),aG.2.1,())) else bif decide (aG.1=(9:Int)) then ((aj.aa (aG.2.1,(3:Int),())).bind λJs=>some (((6:Int),cG,((0:Int),(0:Int),(0:Int),([]:List UInt8),()),Js.1,()),Js.2.1,())) else bif decide (aG.1=(10:Int)) then ((aM.aa (aG.2.1,[(7:Int),(8:Int)],())).bind λJt=>some ((Jt.1,cG,((0:Int),(0:Int),(0:Int),([]:List UInt8),()),(0:Int),()),Jt.2.1,())) else some (((9:Int),(0:Int),((0:Int),(0:Int),(0:Int),([]:List UInt8),()),(0:Int),()),aG.2.1,())) else bif decide (aG.1=(5:Int)) then (bif decide (aG.1=(5:Int)) then (some (((3:Int),cG,fg,(0:Int),()),aG.2.1,())) else bif decide (aG.1=(7:Int)) then (some (((4:Int),cG,(fg.1,fg.2.1,(0:Int),([]:List UInt8),()),(0:Int),()),aG.2.1,())) else bif decide (aG.1=(8:Int)) then (some (((5:Int),cG,((0:Int),(0:Int),(0:Int),([]:List UInt8),()),(0:Int),()),aG.2.1,())) else bif decide (aG.1=(9:Int)) then ((aj.aa (aG.2.1,(3:Int),())).bind λJu=>some (((6:Int),cG,((0:Int),(0:Int),(0:Int),([]:List UInt8),()),Ju.1,()),Ju.2.1,())) else bif decide (aG.1=(10:Int)) then ((aM.aa (aG.2.1,[(7:Int),(8:Int)],())).bind λJv=>some ((Jv.1,cG,((0:Int),(0:Int),(0:Int),([]:List UInt8),()),(0:Int),()),Jv.2.1,())) else some (((9:Int),(0:Int),((0:Int),(0:Int),(0:Int),([]:List UInt8),()),(0:Int),()),aG.2.1,())) else bif decide (aG.1=(6:Int)) then (some (((3:Int),cG,fg,(0:Int),()),aG.2.1,())) else bif decide (aG.1=(7:Int)) then (some (((4:Int),cG,(fg.1,fg.2.1,(0:Int),([]:List UInt8),()),(0:Int),()),aG.2.1,())) else bif decide (aG.1=(8:Int)) then (some (((5:Int),cG,((0:Int),(0:Int),(0:Int),([]:List UInt8),()),(0:Int),()),aG.2.1,())) else bif decide (aG.1=(9:Int)) then ((aj.aa (aG.2.1,(3:Int),())).bind λJw=>some (((6:Int),cG,((0:Int),(0:Int),(0:Int),([]:List UInt8),()),Jw.1,()),Jw.2.1,())) else bif decide (aG.1=(10:Int)) then ((aM.aa (aG.2.1,[(7:Int),(8:Int)],())).bind λJx=>some ((Jx.1,cG,((0:Int),(0:Int),(0:Int),([]:List UInt8),()),(0:Int),()),Jx.2.1,())) else some (((9:Int),(0:Int),((0:Int),(0:Int),(0:Int),([]:List UInt8),()),(0:Int),()),aG.2.1,())) else bif decide (aG.1=(2:Int)) then (bif decide (aG.1=(2:Int)) then (some (((2:Int),cG,fg,(0:Int),()),aG.2.1,())) else bif decide (aG.1=(4:Int)) then (bif decide (aG.1=(4:Int)) then (some (((3:Int),cG,fg,(0:Int),()),aG.2.1,())) else bif decide (aG.1=(7:Int)) then (some (((4:Int),cG,(fg.1,fg.2.1,(0:Int),([]:List UInt8),()),(0:Int),()),aG.2.1,())) else bif decide (aG.1=(8:Int)) then (some (((5:Int),cG,((0:Int),(0:Int),(0:Int),([]:List UInt8),()),(0:Int),()),aG.2.1,())) else bif decide (aG.1=(9:Int)) then ((aj.aa (aG.2.1,(3:Int),())).bind λJy=>some (((6:Int),cG,((0:Int),(0:Int),(0:Int),([]:List UInt8),()),Jy.1,()),Jy.2.1,())) else bif decide (aG.1=(10:Int)) then ((aM.aa (aG.2.1,[(7:Int),(8:Int)],())).bind λJz=>some ((Jz.1,cG,((0:Int),(0:Int),(0:Int),([]:List UInt8),()),(0:Int),()),Jz.2.1,())) else some (((9:Int),(0:Int),((0:Int),(0:Int),(0:Int),([]:List UInt8),()),(0:Int),()),aG.2.1,())) else bif decide (aG.1=(5:Int)) then (bif decide (aG.1=(5:Int)) then (some (((3:Int),cG,fg,(0:Int),()),aG.2.1,())) else bif decide (aG.1=(7:Int)) then (some (((4:Int),cG,(fg.1,fg.2.1,(0:Int),([]:List UInt8),()),(0:Int),()),aG.2.1,())) else bif decide (aG.1=(8:Int)) then (some (((5:Int),cG,((0:Int),(0:Int),(0:Int),([]:List UInt8),()),(0:Int),()),aG.2.1,())) else bif decide (aG.1=(9:Int)) then ((aj.aa (aG.2.1,(3:Int),())).bind λJA=>some (((6:Int),cG,((0:Int),(0:Int),(0:Int),([]:List UInt8),()),JA.1,()),JA.2.1,())) else bif decide (aG.1=(10:Int)) then ((aM.aa (aG.2.1,[(7:Int),(8:Int)],())).bind λJB=>some ((JB.1,cG,((0:Int),(0:Int),(0:Int),([]:List UInt8),()),(0:Int),()),JB.2.1,())) else some (((9:Int),(0:Int),((0:Int),(0:Int),(0:Int),([]:List UInt8),()),(0:Int),()),aG.2.1,())) else bif decide (aG.1=(6:Int)) then (some (((3:Int),cG,fg,(0:Int),()),aG.2.1,())) else bif decide (aG.1=(7:Int)) then (some (((4:Int),cG,(fg.1,fg.2.1,(0:Int),([]:List UInt8),()),(0:Int),()),aG.2.1,())) else bif decide (aG.1=(8:Int)) then (some (((5:Int),cG,((0:Int),(0:Int),(0:Int),([]:List UInt8),()),(0:Int),()),aG.2.1,())) else bif decide (aG.1=(9:Int)) then ((aj.aa (aG.2.1,(3:Int),())).bind λJC=>some (((6:Int),cG,((0:Int),(0:Int),(0:Int),([]:List UInt8),()),JC.1,()),JC.2.1,())) else bif decide (aG.1=(10:Int)) then ((aM.aa (aG.2.1,[(7:Int),(8:Int)],())).bind λJD=>some ((JD.1,cG,((0:Int),(0:Int),(0:Int),([]:List UInt8),()),(0:Int),()),JD.2.1,())) else some (((9:Int),(0:Int),((0:Int),(0:Int),(0:Int),([]:List UInt8),()),(0:Int),()),aG.2.1,())) else bif decide (aG.1=(3:Int)) then (some (((2:Int),cG,fg,(0:Int),()),aG.2.1,())) else bif decide (aG.1=(4:Int)) then (bif decide (aG.1=(4:Int)) then (some (((3:Int),cG,fg,(0:Int),()),aG.2.1,())) else bif decide (aG.1=(7:Int)) then (some (((4:Int),cG,(fg.1,fg.2.1,(0:Int),([]:List UInt8),()),(0:Int),()),aG.2.1,())) else bif decide (aG.1=(8:Int)) then (some (((5:Int),cG,((0:Int),(0:Int),(0:Int),([]:List UInt8),()),(0:Int),()),aG.2.1,())) else bif decide (aG.1=(9:Int)) then ((aj.aa (aG.2.1,(3:Int),())).bind λJE=>some (((6:Int),cG,((0:Int),(0:Int),(0:Int),([]:List UInt8),()),JE.1,()),JE.2.1,())) else bif decide (aG.1=(10:Int)) then ((aM.aa (aG.2.1,[(7:Int),(8:Int)],())).bind λJF=>some ((JF.1,cG,((0:Int),(0:Int),(0:Int),([]:List UInt8),()),(0:Int),()),JF.2.1,())) else some (((9:Int),(0:Int),((0:Int),(0:Int),(0:Int),([]:List UInt8),()),(0:Int),()),aG.2.1,())) else bif decide (aG.1=(5:Int)) then (bif decide (aG.1=(5:Int)) then (some (((3:Int),cG,fg,(0:Int),()),aG.2.1,())) else bif decide (aG.1=(7:Int)) then (some (((4:Int),cG,(fg.1,fg.2.1,(0:Int),([]:List UInt8),()),(0:Int),()),aG.2.1,())) else bif decide (aG.1=(8:Int)) then (some (((5:Int),cG,((0:Int),(0:Int),(0:Int),([]:List UInt8),()),(0:Int),()),aG.2.1,())) else bif decide (aG.1=(9:Int)) then ((aj.aa (aG.2.1,(3:Int),())).bind λJG=>some (((6:Int),cG,((0:Int),(0:Int),(0:Int),([]:List UInt8),()),JG.1,()),JG.2.1,())) else bif decide (aG.1=(10:Int)) then ((aM.aa (aG.2.1,[(7:Int),(8:Int)],())).bind λJH=>some ((JH.1,cG,((0:Int),(0:Int),(0:Int),([]:List UInt8),()),(0:Int),()),JH.2.1,())) else some (((9:Int),(0:Int),((0:Int),(0:Int),(0:Int),([]:List UInt8),()),(0:Int),()),aG.2.1,())) else bif decide (aG.1=(6:Int)) then (some (((3:Int),cG,fg,(0:Int),()),aG.2.1,())) else bif decide (aG.1=(7:Int)) then (some (((4:Int),cG,(fg.1,fg.2.1,(0:Int),([]:List UInt8),()),(0:Int),()),aG.2.1,())) else bif decide (aG.1=(8:Int)) then (some (((5:Int),cG,((0:Int),(0:Int),(0:Int),([]:List UInt8),()),(0:Int),()),aG.2.1,())) else bif decide (aG.1=(9:Int)) then ((aj.aa (aG.2.1,(3:Int),())).bind λJI=>some (((6:Int),cG,((0:Int),(0:Int),(0:Int),([]:List UInt8),()),JI.1,()),JI.2.1,())) else bif decide (aG.1=(10:Int)) then ((aM.aa (aG.2.1,[(7:Int),(8:Int)],())).bind λJJ=>some ((JJ.1,cG,((0:Int),(0:Int),(0:Int),([]:List UInt8),()),(0:Int),()),JJ.2.1,())) else some (((9:Int),(0:Int),((0:Int),(0:Int),(0:Int),([]:List UInt8),()),(0:Int),()),aG.2.1,()):Option Out);bif decide (wv.1=(0:Int)) then (Jr (wv.1,wv.2.1,wv.2.2.1,([]:List UInt8),wv.2.2.2.2)) else Jr wv:Option Out);bif decide ((0:Int) < (J.2.1.length:Int)) then ((bK.aa (Jq,(3:Int),())).bind λFB=>bif !FB.1 then ((aj.aa (FB.2.1,(J.2.1.length:Int),())).bind λFC=>if 0<=FC.1 then ((J.2.1[FC.1.toNat]?).bind λJK=>FA FC.2.1 (JK.1,JK.2.1,Fz.2.2)) else none) else FA FB.2.1 Fz) else FA Jq Fz:Option Out);bif decide (CB.1=(0:Int)) then ((aM.aa (CB.2.1,[(1:Int),(2:Int),(3:Int),(4:Int)],())).bind λJL=>(aM.aa (JL.2.1,[(8:Int),(3:Int),(0:Int),(9:Int)],())).bind λJM=>Jp JM.2.1 ((0:Int),JL.1,JM.1,([]:List UInt8),())) else Jp CB.2.1 (CB.1,Jo.1.2):Option Out);bif decide ((0:Int) < (J.2.2.1.length:Int)) then ((bK.aa (r2.2.1,(8:Int),())).bind λr3=>bif !r3.1 then ((aj.aa (r3.2.1,(J.2.2.1.length:Int),())).bind λr4=>if 0<=r4.1 then ((J.2.2.1[r4.1.toNat]?).bind λx5=>Fy r4.2.1 x5.1) else none) else Fy r3.2.1 (ap ((1:Int)+r2.1))) else Fy r2.2.1 (ap ((1:Int)+r2.1))
theorem ab (k:Nat) (J:Arg):@Eq (Option Out) (D.W k J) (p J):=by kernel_rfl
theorem ok:Ok prog 23 D.sig:=az func23 aO (by kernel_rfl) (fc bK.ok (fc aM.ok (fc aj.ok (fc cF.ok (an _)))))
end cZ
namespace bQ
abbrev Arg:Type:=Int×Unit
abbrev Out:Type:=aE×Unit
abbrev ps:PQ:=[(.ro,i64)]
noncomputable def D:FD:={ fn:=f28,tl:=bn,ps:=ps,rs:=[(bu,(ai bu))] }
noncomputable def aa (a:Arg):Option Out:=@lift Out λk=>D.W k a
noncomputable def p (J:Arg):Option Out:=some ((J.1,false,(false,((0:Int),(0:Int),(0:Int),([]:List UInt8),()),false,((0:Int),(0:Int),(0:Int),([]:List UInt8),()),()),()),())
theorem ab (k:Nat) (J:Arg):@Eq (Option Out) (D.W k J) (p J):=by kernel_rfl
theorem ok:Ok prog 28 D.sig:=az func28 aO (by kernel_rfl) (an _)
end bQ
namespace dO
abbrev Arg:Type:=(List Tx)×Int×Unit
abbrev Out:Type:=Int×Unit
abbrev ps:PQ:=[(.ro,(.af bg)),(.ro,i64)]
noncomputable def D:FD:={ fn:=f72,tl:=bn,ps:=ps,rs:=[(i64,(ai i64))],lv:=[(2,[0,1,5])],lx:=[(0,[])] }
noncomputable def aa (a:Arg):Option Out:=@lift Out λk=>D.W k a
noncomputable def T0 (J:Arg) (U:Int):St:={ n:=20,sl:=[(0,.val (.af bg) J.1),(1,.val i64 J.2.1),(5,.val i64 U)],vr:=[],ax:=[] }
noncomputable def b0 (self:Int->Option Out) (e0:(Unit)->Option Out) (J:Arg) (U:Int):Option Out:=bif decide (U < (J.1.length:Int)) then (if 0<=U then ((J.1[U.toNat]?).bind λbe=>bif decide (be.1=J.2.1) then (some (U,())) else self (ap (U+(1:Int)))) else none) else e0 ()
noncomputable abbrev B0 (_:Nat):=b0
noncomputable def q0 (J:Arg) (uh:(Unit)):Option Out:=some ((-1:Int),())
noncomputable abbrev Q0 (_:Nat):=q0
noncomputable def s0 (k:Nat) (J:Arg):(Int)->Option Out:=λU=>D.L k [1,0,1,0,0] [0,1,5] [] (ag 0 (aJ (D.N k [1,1]) D.K0)) (T0 J U)
noncomputable def r0 (k:Nat) (J:Arg):(Int)->Option Out:=au (λw v=>B0 k w (Q0 k J) J v) k
theorem aR (k:Nat) (J:Arg):s0 k J=r0 k J:=
 funext λU=>aN _ _ _ (T0 J) _ (λrec v=>by kernel_rfl) k U
noncomputable def p (l0:(Int)->Option Out) (J:Arg):Option Out:=l0 (0:Int)
theorem ab (k:Nat) (J:Arg):@Eq (Option Out) (D.W k J) (p (r0 k J) J):=
 Eq.trans (b:=p (s0 k J) J) (by kernel_rfl) (by rw[aR])
theorem ok:Ok prog 72 D.sig:=az func72 aO (by kernel_rfl) (an _)
end dO
namespace cw
abbrev Arg:Type:=(List Tx)×Unit
abbrev Out:Type:=Int×Unit
abbrev ps:PQ:=[(.ro,(.af bg))]
noncomputable def D:FD:={ fn:=f69,tl:=bn,ps:=ps,rs:=[(i64,(ai i64))],lv:=[(3,[0,3,4])],lx:=[(0,[3])] }
noncomputable def aa (a:Arg):Option Out:=@lift Out λk=>D.W k a
noncomputable def T0 (J:Arg) (U:Int×Int):St:={ n:=20,sl:=[(0,.val (.af bg) J.1),(3,.val i64 U.1),(4,.val i64 U.2)],vr:=[],ax:=[] }
noncomputable def b0 (self:(Int×Int)->Option Out) (e0:Int->Option Out) (J:Arg) (U:Int×Int):Option Out:=bif decide (U.2 < (J.1.length:Int)) then (if 0<=U.2 then ((J.1[U.2.toNat]?).bind λbe=>self (ap (U.1+(be.2.1.length:Int)),ap (U.2+(1:Int)))) else none) else e0 U.1
noncomputable abbrev B0 (_:Nat):=b0
noncomputable def q0 (J:Arg) (uh:Int):Option Out:=some (uh,())
noncomputable abbrev Q0 (_:Nat):=q0
noncomputable def s0 (k:Nat) (J:Arg):(Int×Int)->Option Out:=λU=>D.L k [1,1,0,1,0,0] [0,3,4] [] (ag 0 (aJ (D.N k [1,1,1]) D.K0)) (T0 J U)
noncomputable def r0 (k:Nat) (J:Arg):(Int×Int)->Option Out:=au (λw v=>B0 k w (Q0 k J) J v) k
theorem aR (k:Nat) (J:Arg):s0 k J=r0 k J:=
 funext λU=>aN _ _ _ (T0 J) _ (λrec v=>by kernel_rfl) k U
noncomputable def p (l0:(Int×Int)->Option Out) (J:Arg):Option Out:=l0 ((0:Int),(0:Int))
theorem ab (k:Nat) (J:Arg):@Eq (Option Out) (D.W k J) (p (r0 k J) J):=
 Eq.trans (b:=p (s0 k J) J) (by kernel_rfl) (by rw[aR])
theorem ok:Ok prog 69 D.sig:=az func69 aO (by kernel_rfl) (an _)
end cw
namespace bH
abbrev Arg:Type:=(List Tx)×Int×Key×Unit
abbrev Out:Type:=Bool×Unit
abbrev ps:PQ:=[(.ro,(.af bg)),(.ro,i64),(.ro,aA)]
noncomputable def D:FD:={ fn:=f87,tl:=bn,ps:=ps,rs:=[(.bool,(ai .bool))],lv:=[(2,[0,1,5,7]),(6,[0,1,5,7,8])],lx:=[(0,[]),(1,[0,1,5,7]),(2,[0,1,5,7])] }
noncomputable def aa (a:Arg):Option Out:=@lift Out λk=>D.W k a
noncomputable def T0 (J:Arg) (U:(List Tx)×Int×Key×Int):St:={ n:=68,sl:=[(0,.val (.af bg) U.1),(1,.val i64 U.2.1),(5,.box aA (ai aA) [] U.2.2.1),(7,.val i64 U.2.2.2)],vr:=[],ax:=[] }
noncomputable def S0 (rec:RT Out) (J:Arg):((List Tx)×Int×Key×Int)->Option Out:=λU=>rec (T0 J U)
noncomputable def cT (K:KT Out) (J:Arg):(Unit)->Option Out:=λz=>K (.exit 0) ({ n:=68,sl:=[],vr:=[],ax:=[] })
noncomputable def T1 (J:Arg) (cg:List Tx) (ft:Int) (ec:Key) (cD:Int) (eC:Int):St:={ n:=68,sl:=[(0,.val (.af bg) cg),(1,.val i64 ft),(5,.box aA (ai aA) [] ec),(7,.val i64 cD),(8,.val i64 eC)],vr:=[],ax:=[] }
noncomputable def b1 (self:Int->Option Out) (e2:(Unit)->Option Out) (J:Arg) (cg:List Tx) (ft:Int) (ec:Key) (cD:Int) (eC:Int):Option Out:=if 0<=cD then ((cg[cD.toNat]?).bind λmC=>bif decide (eC < (mC.2.2.2.1.length:Int)) then (if 0<=cD then ((cg[cD.toNat]?).bind λCC=>if 0<=eC then ((CC.2.2.2.1[eC.toNat]?).bind λmD=>bif (Ty.eq aA mD ec) then (some (true,())) else bif decide (mD.1=(0:Int)) then (bif decide (mD.2.1=ec.1) then (some (true,())) else bif decide (ec.1=(0:Int)) then (bif decide (mD.1=ec.2.1) then (some (true,())) else self (ap (eC+(1:Int)))) else self (ap (eC+(1:Int)))) else bif decide (ec.1=(0:Int)) then (bif decide (mD.1=ec.2.1) then (some (true,())) else self (ap (eC+(1:Int)))) else self (ap (eC+(1:Int)))) else none) else none) else e2 ()) else none
noncomputable abbrev B1 (_:Nat):=b1
noncomputable def q0 (self:((List Tx)×Int×Key×Int)->Option Out) (e0:(Unit)->Option Out) (J:Arg) (cg:List Tx) (ft:Int) (ec:Key) (cD:Int) (vt:(Unit)):Option Out:=self (cg,ft,ec,ap (cD+(1:Int)))
noncomputable abbrev Q0 (_:Nat):=q0
noncomputable def s1 (k:Nat) (rec:RT Out) (K:KT Out) (J:Arg):(List Tx)->Int->Key->Int->(Int)->Option Out:=λcg ft ec cD=>λeC=>D.L k [1,0,1,0,0,1,0,0,1,1,0,0] [0,1,5,7,8] [] (ag 2 (ag 1 (aJ (D.N k [1,0,1,0,0,1,1]) (fd rec (dg [0,1,5,7] []) K)))) (T1 J cg ft ec cD eC)
noncomputable def r1 (k:Nat) (self:((List Tx)×Int×Key×Int)->Option Out) (e0:(Unit)->Option Out) (J:Arg):(List Tx)->Int->Key->Int->(Int)->Option Out:=λcg ft ec cD=>au (λw v=>B1 k w (Q0 k self e0 J cg ft ec cD) J cg ft ec cD v) k
theorem iX (k:Nat) (rec:RT Out) (K:KT Out) (J:Arg):s1 k rec K J=r1 k (S0 rec J) (cT K J) J:=
 funext λcg=>funext λft=>funext λec=>funext λcD=>funext λeC=>aN _ _ _ (T1 J cg ft ec cD) _ (λrec v=>by kernel_rfl) k eC
noncomputable def b0 (self:((List Tx)×Int×Key×Int)->Option Out) (e0:(Unit)->Option Out) (l1:(List Tx)->Int->Key->Int->(Int)->Option Out) (J:Arg) (U:(List Tx)×Int×Key×Int):Option Out:=bif decide (U.2.2.2 < (U.1.length:Int)) then (if 0<=U.2.2.2 then ((U.1[U.2.2.2.toNat]?).bind λbe=>bif decide (be.1=U.2.1) then (self (U.1,U.2.1,U.2.2.1,ap (U.2.2.2+(1:Int)))) else l1 U.1 U.2.1 U.2.2.1 U.2.2.2 (0:Int)) else none) else e0 ()
noncomputable def B0 (k:Nat) (self:((List Tx)×Int×Key×Int)->Option Out) (e0:(Unit)->Option Out) (J:Arg) (U:(List Tx)×Int×Key×Int):Option Out:=b0 self e0 (r1 k self e0 J) J U
theorem iY (k:Nat) (rec:RT Out) (K:KT Out) (J:Arg) (U:(List Tx)×Int×Key×Int):D.N k [1,0,1,0,0] (T0 J U) (fd rec (dg [0,1,5,7] []) K)=B0 k (S0 rec J) (cT K J) J U:=
 Eq.trans (b:=b0 (S0 rec J) (cT K J) (s1 k rec K J) J U) (by kernel_rfl) (by rw[iX];rfl)
noncomputable def q1 (J:Arg) (sV:(Unit)):Option Out:=some (false,())
noncomputable abbrev Q1 (_:Nat):=q1
theorem nC (k:Nat) (J:Arg) (sV:(Unit)):cT (ag 0 (aJ (D.N k [1,1]) D.K0)) J sV=q1 J sV:=by kernel_rfl
noncomputable def s0 (k:Nat) (J:Arg):((List Tx)×Int×Key×Int)->Option Out:=λU=>D.L k [1,0,1,0,0] [0,1,5,7] [] (ag 0 (aJ (D.N k [1,1]) D.K0)) (T0 J U)
noncomputable def r0 (k:Nat) (J:Arg):((List Tx)×Int×Key×Int)->Option Out:=au (λw v=>B0 k w (Q1 k J) J v) k
theorem aR (k:Nat) (J:Arg):s0 k J=r0 k J:=by
 funext U;
 have h0:cT (ag 0 (aJ (D.N k [1,1]) D.K0)) J=Q1 k J:=funext λz=>nC k J z
 refine (aN _ _ _ (T0 J) (λself v=>B0 k self (cT (ag 0 (aJ (D.N k [1,1]) D.K0)) J) J v) (λrec v=>iY k rec (ag 0 (aJ (D.N k [1,1]) D.K0)) J v) k U).trans ?_
 rw[h0]
 rfl
noncomputable def p (l0:((List Tx)×Int×Key×Int)->Option Out) (J:Arg):Option Out:=l0 (J.1,J.2.1,J.2.2.1,(0:Int))
theorem ab (k:Nat) (J:Arg):@Eq (Option Out) (D.W k J) (p (r0 k J) J):=
 Eq.trans (b:=p (s0 k J) J) (by kernel_rfl) (by rw[aR])
theorem ok:Ok prog 87 D.sig:=az func87 aO (by kernel_rfl) (an _)
end bH
namespace bP
abbrev Arg:Type:=(List Row)×Int×Int×Unit
abbrev Out:Type:=Int×Unit
abbrev ps:PQ:=[(.ro,(.af aw)),(.ro,i64),(.ro,i64)]
noncomputable def D:FD:={ fn:=f95,tl:=bn,ps:=ps,rs:=[(i64,(ai i64))],lv:=[(2,[0,1,2,7])],lx:=[(0,[])] }
noncomputable def aa (a:Arg):Option Out:=@lift Out λk=>D.W k a
noncomputable def T0 (J:Arg) (U:Int):St:={ n:=31,sl:=[(0,.val (.af aw) J.1),(1,.val i64 J.2.1),(2,.val i64 J.2.2.1),(7,.val i64 U)],vr:=[],ax:=[] }
noncomputable def b0 (self:Int->Option Out) (e0:(Unit)->Option Out) (J:Arg) (U:Int):Option Out:=bif decide (U < (J.1.length:Int)) then (if 0<=U then ((J.1[U.toNat]?).bind λbe=>bif decide (be.1=J.2.1) then (if 0<=U then ((J.1[U.toNat]?).bind λsg=>bif decide (sg.2.1=J.2.2.1) then (some (U,())) else self (ap (U+(1:Int)))) else none) else self (ap (U+(1:Int)))) else none) else e0 ()
noncomputable abbrev B0 (_:Nat):=b0
noncomputable def q0 (J:Arg) (dL:(Unit)):Option Out:=some ((-1:Int),())
noncomputable abbrev Q0 (_:Nat):=q0
noncomputable def s0 (k:Nat) (J:Arg):(Int)->Option Out:=λU=>D.L k [1,0,1,0,0] [0,1,2,7] [] (ag 0 (aJ (D.N k [1,1]) D.K0)) (T0 J U)
noncomputable def r0 (k:Nat) (J:Arg):(Int)->Option Out:=au (λw v=>B0 k w (Q0 k J) J v) k
theorem aR (k:Nat) (J:Arg):s0 k J=r0 k J:=
 funext λU=>aN _ _ _ (T0 J) _ (λrec v=>by kernel_rfl) k U
noncomputable def p (l0:(Int)->Option Out) (J:Arg):Option Out:=l0 (0:Int)
theorem ab (k:Nat) (J:Arg):@Eq (Option Out) (D.W k J) (p (r0 k J) J):=
 Eq.trans (b:=p (s0 k J) J) (by kernel_rfl) (by rw[aR])
theorem ok:Ok prog 95 D.sig:=az func95 aO (by kernel_rfl) (an _)
end bP
namespace fa
abbrev Arg:Type:=(List Row)×Op×Unit
abbrev Out:Type:=Change×Int×Unit
abbrev ps:PQ:=[(.ro,(.af aw)),(.ro,(.ptr jm))]
noncomputable def D:FD:={ fn:=f88,tl:=bn,ps:=ps,rs:=[(bk,(ai bk)),(i64,(ai i64))],gl:=[(95,bP.D.sig)],od:=[(1,[0,1,2,3,4,5,6,7,8,9,10,11,12])] }
noncomputable def aa (a:Arg):Option Out:=@lift Out λk=>D.W k a
noncomputable def p (J:Arg):Option Out:=(bP.aa (J.1,J.2.1.2.2.1.1,J.2.1.2.2.1.2.1,())).bind λr2=>let j5:Option Out:=let j7:Option Out:=let Lu:=λ(p9:Change)=>(bif p9.2.2.1 then (some ((p9.1,p9.2.1,p9.2.2.1,J.2.1.2.2.1,p9.2.2.2.2),(0:Int),())) else some (p9,(0:Int),()):Option Out);bif decide ((0:Int)<=r2.1) then (if 0<=r2.1 then ((J.1[r2.1.toNat]?).bind λx8=>Lu (decide ((0:Int)<=r2.1),x8,!decide (J.2.1.1=(4:Int)),((0:Int),(0:Int),(0:Int),([]:List UInt8),()),())) else none) else Lu (decide ((0:Int)<=r2.1),((0:Int),(0:Int),(0:Int),([]:List UInt8),()),!decide (J.2.1.1=(4:Int)),((0:Int),(0:Int),(0:Int),([]:List UInt8),()),());bif !decide (J.2.1.1=(2:Int)) then (bif decide (r2.1 < (0:Int)) then (some ((false,((0:Int),(0:Int),(0:Int),([]:List UInt8),()),false,((0:Int),(0:Int),(0:Int),([]:List UInt8),()),()),(4:Int),())) else j7) else j7;bif decide (J.2.1.1=(2:Int)) then (bif decide ((0:Int)<=r2.1) then (some ((false,((0:Int),(0:Int),(0:Int),([]:List UInt8),()),false,((0:Int),(0:Int),(0:Int),([]:List UInt8),()),()),(6:Int),())) else j5) else j5
theorem ab (k:Nat) (J:Arg):@Eq (Option Out) (D.W k J) (p J):=by kernel_rfl
theorem ok:Ok prog 88 D.sig:=az func88 aO (by kernel_rfl) (fc bP.ok (an _))
end fa
namespace dv
abbrev Arg:Type:=Change×Unit
abbrev Out:Type:=Int×Int×Unit
abbrev ps:PQ:=[(.ro,(.ptr bk))]
noncomputable def D:FD:={ fn:=f97,tl:=bn,ps:=ps,rs:=[(i64,(ai i64)),(i64,(ai i64))],od:=[(2,[0,1,2,3,4,5,6,7,8,9,10,11]),(3,[0,1,2,3,4,5,6,7,8,9,10,11])] }
noncomputable def aa (a:Arg):Option Out:=@lift Out λk=>D.W k a
noncomputable def p (J:Arg):Option Out:=bif J.1.2.2.1 then (some (J.1.2.2.2.1.1,J.1.2.2.2.1.2.1,())) else some (J.1.2.1.1,J.1.2.1.2.1,())
theorem ab (k:Nat) (J:Arg):@Eq (Option Out) (D.W k J) (p J):=by kernel_rfl
theorem ok:Ok prog 97 D.sig:=az func97 aO (by kernel_rfl) (an _)
end dv
namespace bi
abbrev Arg:Type:=Int×Int×Int×Unit
abbrev Out:Type:=Bool×Unit
abbrev ps:PQ:=[(.ro,i64),(.ro,i64),(.ro,i64)]
noncomputable def D:FD:={ fn:=f65,tl:=bn,ps:=ps,rs:=[(.bool,(ai .bool))] }
noncomputable def aa (a:Arg):Option Out:=@lift Out λk=>D.W k a
noncomputable def p (J:Arg):Option Out:=bif decide (J.2.1<=J.1) then (some (decide (J.1<=J.2.2.1),())) else some (false,())
theorem ab (k:Nat) (J:Arg):@Eq (Option Out) (D.W k J) (p J):=by kernel_rfl
theorem ok:Ok prog 65 D.sig:=az func65 aO (by kernel_rfl) (an _)
end bi
namespace cH
abbrev Arg:Type:=(List Row)×Change×Unit
abbrev Out:Type:=Int×Unit
abbrev ps:PQ:=[(.ro,(.af aw)),(.ro,(.ptr bk))]
noncomputable def D:FD:={ fn:=f100,tl:=bn,ps:=ps,rs:=[(i64,(ai i64))],gl:=[(65,bi.D.sig),(97,dv.D.sig)],lv:=[(5,[0,1,6,7])],lx:=[(0,[])],od:=[(7,[0,1,2,3,4,5,6,7,8,9,10,11,12,13,14,15,16,17,18,19,20,21,22,23,24,25,26,27,28,29,30,31,32,33,34,35])] }
noncomputable def aa (a:Arg):Option Out:=@lift Out λk=>D.W k a
noncomputable def T0 (J:Arg) (cD:Int) (iv:Int):St:={ n:=80,sl:=[(0,.val (.af aw) J.1),(1,.cp bk J.2.1),(6,.val i64 cD),(7,.val i64 iv)],vr:=[],ax:=[] }
noncomputable def b0 (self:Int->Option Out) (e0:(Unit)->Option Out) (J:Arg) (cD:Int) (iv:Int):Option Out:=bif decide (iv < (J.1.length:Int)) then (if 0<=iv then ((J.1[iv.toNat]?).bind λmC=>bif decide (mC.1=cD) then (if 0<=iv then ((J.1[iv.toNat]?).bind λCC=>bif !decide (CC.1=(0:Int)) then (bif !J.2.1.2.2.1 then (some ((8:Int),())) else if 0<=iv then ((J.1[iv.toNat]?).bind λmD=>bif decide (J.2.1.2.2.2.1.2.2.1 < (mD.2.2.2.1.length:Int)) then (some ((8:Int),())) else self (ap (iv+(1:Int)))) else none) else self (ap (iv+(1:Int)))) else none) else self (ap (iv+(1:Int)))) else none) else e0 ()
noncomputable abbrev B0 (_:Nat):=b0
noncomputable def q0 (J:Arg) (cD:Int) (vt:(Unit)):Option Out:=some ((0:Int),())
noncomputable abbrev Q0 (_:Nat):=q0
noncomputable def s0 (k:Nat) (J:Arg):Int->(Int)->Option Out:=λcD=>λiv=>D.L k [1,1,1,0,1,0,0] [0,1,6,7] [] (ag 0 (aJ (D.N k [1,1,1,1]) D.K0)) (T0 J cD iv)
noncomputable def r0 (k:Nat) (J:Arg):Int->(Int)->Option Out:=λcD=>au (λw v=>B0 k w (Q0 k J cD) J cD v) k
theorem aR (k:Nat) (J:Arg):s0 k J=r0 k J:=
 funext λcD=>funext λiv=>aN _ _ _ (T0 J cD) _ (λrec v=>by kernel_rfl) k iv
noncomputable def p (l0:Int->(Int)->Option Out) (J:Arg):Option Out:=(dv.aa (J.2.1,())).bind λr2=>let JN:Option Out:=l0 r2.2.1 (0:Int);bif J.2.1.2.2.1 then ((bi.aa (r2.2.1,(1:Int),(3:Int),())).bind λr3=>bif !r3.1 then (some ((10:Int),())) else bif decide ((8:Int) < J.2.1.2.2.2.1.2.2.1) then (some ((10:Int),())) else bif !decide (J.2.1.2.2.2.1.2.2.2.1=([]:List UInt8)) then (some ((10:Int),())) else JN) else JN
theorem ab (k:Nat) (J:Arg):@Eq (Option Out) (D.W k J) (p (r0 k J) J):=
 Eq.trans (b:=p (s0 k J) J) (by kernel_rfl) (by rw[aR])
theorem ok:Ok prog 100 D.sig:=az func100 aO (by kernel_rfl) (fc bi.ok (fc dv.ok (an _)))
end cH
namespace fM
abbrev Arg:Type:=(List Row)×Int×Unit
abbrev Out:Type:=Int×Unit
abbrev ps:PQ:=[(.ro,(.af aw)),(.ro,i64)]
noncomputable def D:FD:={ fn:=f101,tl:=bn,ps:=ps,rs:=[(i64,(ai i64))],gl:=[(95,bP.D.sig)] }
noncomputable def aa (a:Arg):Option Out:=@lift Out λk=>D.W k a
noncomputable def p (J:Arg):Option Out:=(bP.aa (J.1,(0:Int),J.2.1,())).bind λr2=>bif decide (r2.1 < (0:Int)) then (some ((-1:Int),())) else if 0<=r2.1 then ((J.1[r2.1.toNat]?).bind λx3=>some (x3.2.2.1,())) else none
theorem ab (k:Nat) (J:Arg):@Eq (Option Out) (D.W k J) (p J):=by kernel_rfl
theorem ok:Ok prog 101 D.sig:=az func101 aO (by kernel_rfl) (fc bP.ok (an _))
end fM
namespace g_
abbrev Arg:Type:=(List Row)×Change×Unit
abbrev Out:Type:=Int×Unit
abbrev ps:PQ:=[(.ro,(.af aw)),(.ro,(.ptr bk))]
noncomputable def D:FD:={ fn:=f89,tl:=bn,ps:=ps,rs:=[(i64,(ai i64))],gl:=[(97,dv.D.sig),(100,cH.D.sig),(101,fM.D.sig)] }
noncomputable def aa (a:Arg):Option Out:=@lift Out λk=>D.W k a
noncomputable def p (J:Arg):Option Out:=(dv.aa (J.2.1,())).bind λr2=>bif decide (r2.1=(0:Int)) then ((cH.aa (J.1,J.2.1,())).bind λr3=>some (r3.1,())) else bif !J.2.1.2.2.1 then (some ((0:Int),())) else (fM.aa (J.1,r2.1,())).bind λr4=>bif decide (r4.1 < (0:Int)) then (some ((4:Int),())) else bif decide (r4.1 < (J.2.1.2.2.2.1.2.2.2.1.length:Int)) then (some ((10:Int),())) else some ((0:Int),())
theorem ab (k:Nat) (J:Arg):@Eq (Option Out) (D.W k J) (p J):=by kernel_rfl
theorem ok:Ok prog 89 D.sig:=az func89 aO (by kernel_rfl) (fc dv.ok (fc cH.ok (fc fM.ok (an _))))
end g_
namespace aI
abbrev Arg:Type:=(List Row)×(List Tx)×Key×Unit
abbrev Out:Type:=Int×Unit
abbrev ps:PQ:=[(.ro,(.af aw)),(.ro,(.af bg)),(.ro,aA)]
noncomputable def D:FD:={ fn:=f90,tl:=bn,ps:=ps,rs:=[(i64,(ai i64))],lv:=[(3,[0,1,5,7,8]),(7,[1,5,7,9]),(14,[7,10,11]),(18,[7,10,11,12,13])],lx:=[(0,[1,5,7]),(2,[5,7]),(4,[10]),(6,[7,10,11,12])],od:=[(5,[0,1,2,3,4,5,6,7,8,9,10,11,12,13,14]),(20,[0,1,2,3,4,5,6,7,8,9])] }
noncomputable def aa (a:Arg):Option Out:=@lift Out λk=>D.W k a
noncomputable def T0 (J:Arg) (U:(List Key)×Int):St:={ n:=82,sl:=[(0,.val (.af aw) J.1),(1,.val (.af bg) J.2.1),(5,.box aA (ai aA) [] J.2.2.1),(7,.own (.af aA) (aF (.af aA)) [] U.1),(8,.val i64 U.2)],vr:=[],ax:=[] }
noncomputable def S0 (rec:RT Out) (J:Arg):((List Key)×Int)->Option Out:=λU=>rec (T0 J U)
noncomputable def cT (K:KT Out) (J:Arg):(List Key)->Option Out:=λz=>K (.exit 0) ({ n:=82,sl:=[(1,.val (.af bg) J.2.1),(5,.box aA (ai aA) [] J.2.2.1),(7,.own (.af aA) (aF (.af aA)) [] z)],vr:=[],ax:=[] })
noncomputable def b0 (self:((List Key)×Int)->Option Out) (e0:(List Key)->Option Out) (J:Arg) (U:(List Key)×Int):Option Out:=bif decide (U.2 < (J.1.length:Int)) then (if 0<=U.2 then ((J.1[U.2.toNat]?).bind λbe=>if 0<=U.2 then ((J.1[U.2.toNat]?).bind λsg=>if U.1.length+[(be.1,sg.2.1,())].length<=cU then (self (U.1++[(be.1,sg.2.1,())],ap (U.2+(1:Int)))) else none) else none) else none) else e0 U.1
noncomputable abbrev B0 (_:Nat):=b0
theorem iY (k:Nat) (rec:RT Out) (K:KT Out) (J:Arg) (U:(List Key)×Int):D.N k [1,1,0,1,0,0] (T0 J U) (fd rec (dg [0,1,5,7,8] []) K)=b0 (S0 rec J) (cT K J) J U:=by kernel_rfl
noncomputable def T1 (J:Arg) (bT:(List Key)×Int):St:={ n:=82,sl:=[(1,.val (.af bg) J.2.1),(5,.box aA (ai aA) [] J.2.2.1),(7,.own (.af aA) (aF (.af aA)) [] bT.1),(9,.val i64 bT.2)],vr:=[],ax:=[] }
noncomputable def S1 (rec:RT Out) (J:Arg):((List Key)×Int)->Option Out:=λbT=>rec (T1 J bT)
noncomputable def fh (K:KT Out) (J:Arg):(List Key)->Option Out:=λz=>K (.exit 2) ({ n:=82,sl:=[(5,.box aA (ai aA) [] J.2.2.1),(7,.own (.af aA) (aF (.af aA)) [] z)],vr:=[],ax:=[] })
noncomputable def b1 (self:((List Key)×Int)->Option Out) (e2:(List Key)->Option Out) (J:Arg) (bT:(List Key)×Int):Option Out:=bif decide (bT.2 < (J.2.1.length:Int)) then (if 0<=bT.2 then ((J.2.1[bT.2.toNat]?).bind λqS=>if bT.1.length+qS.2.2.2.1.length<=cU then (self (bT.1++qS.2.2.2.1,ap (bT.2+(1:Int)))) else none) else none) else e2 bT.1
noncomputable abbrev B1 (_:Nat):=b1
theorem nD (k:Nat) (rec:RT Out) (K:KT Out) (J:Arg) (bT:(List Key)×Int):D.N k [1,1,1,0,1,0,0] (T1 J bT) (fd rec (dg [1,5,7,9] []) K)=b1 (S1 rec J) (fh K J) J bT:=by kernel_rfl
noncomputable def T2 (J:Arg) (fF:(List Key)×Int×Int):St:={ n:=82,sl:=[(7,.own (.af aA) (aF (.af aA)) [] fF.1),(10,.val i64 fF.2.1),(11,.val i64 fF.2.2)],vr:=[],ax:=[] }
noncomputable def S2 (rec:RT Out) (J:Arg):((List Key)×Int×Int)->Option Out:=λfF=>rec (T2 J fF)
noncomputable def ww (K:KT Out) (J:Arg):Int->Option Out:=λz=>K (.exit 4) ({ n:=82,sl:=[(10,.val i64 z)],vr:=[],ax:=[] })
noncomputable def T3 (J:Arg) (iw:List Key) (kD:Int) (iy:Int) (iZ:Bool×Int):St:={ n:=82,sl:=[(7,.own (.af aA) (aF (.af aA)) [] iw),(10,.val i64 kD),(11,.val i64 iy),(12,.val .bool iZ.1),(13,.val i64 iZ.2)],vr:=[],ax:=[] }
noncomputable def b3 (self:(Bool×Int)->Option Out) (e6:Bool->Option Out) (J:Arg) (iw:List Key) (kD:Int) (iy:Int) (iZ:Bool×Int):Option Out:=bif decide (iZ.2 < iy) then (bif iZ.1 then (if 0<=iZ.2/\iZ.2 < (iw.length:Int) then ((iw[iZ.2.toNat]?).bind λKs=>if 0<=iy/\iy < (iw.length:Int) then ((iw[iy.toNat]?).bind λKt=>self (!(Ty.eq aA Ks Kt),ap (iZ.2+(1:Int)))) else none) else none) else e6 iZ.1) else e6 iZ.1
noncomputable abbrev B3 (_:Nat):=b3
noncomputable def q2 (self:((List Key)×Int×Int)->Option Out) (e4:Int->Option Out) (J:Arg) (iw:List Key) (kD:Int) (iy:Int) (Ku:Bool):Option Out:=bif Ku then (self (iw,ap (kD+(1:Int)),ap (iy+(1:Int)))) else self (iw,kD,ap (iy+(1:Int)))
noncomputable abbrev Q2 (_:Nat):=q2
noncomputable def s3 (k:Nat) (rec:RT Out) (K:KT Out) (J:Arg):(List Key)->Int->Int->(Bool×Int)->Option Out:=λiw kD iy=>λiZ=>D.L k [1,1,1,1,1,1,0,1,0,0,1,0,0,1,0,1,0,0] [7,10,11,12,13] [] (ag 6 (aJ (D.N k [1,1,1,1,1,1,0,1,0,0,1,0,0,1,1]) (ag 5 (aJ (D.N k [1,1,1,1,1,1,0,1,0,0,1,1]) (fd rec (dg [7,10,11] []) K))))) (T3 J iw kD iy iZ)
noncomputable def r3 (k:Nat) (self:((List Key)×Int×Int)->Option Out) (e4:Int->Option Out) (J:Arg):(List Key)->Int->Int->(Bool×Int)->Option Out:=λiw kD iy=>au (λw v=>B3 k w (Q2 k self e4 J iw kD iy) J iw kD iy v) k
theorem Kv (k:Nat) (rec:RT Out) (K:KT Out) (J:Arg):s3 k rec K J=r3 k (S2 rec J) (ww K J) J:=
 funext λiw=>funext λkD=>funext λiy=>funext λiZ=>aN _ _ _ (T3 J iw kD iy) _ (λrec v=>by kernel_rfl) k iZ
noncomputable def b2 (self:((List Key)×Int×Int)->Option Out) (e4:Int->Option Out) (l3:(List Key)->Int->Int->(Bool×Int)->Option Out) (J:Arg) (fF:(List Key)×Int×Int):Option Out:=bif decide (fF.2.2 < (fF.1.length:Int)) then (l3 fF.1 fF.2.1 fF.2.2 (true,(0:Int))) else e4 fF.2.1
noncomputable def B2 (k:Nat) (self:((List Key)×Int×Int)->Option Out) (e4:Int->Option Out) (J:Arg) (fF:(List Key)×Int×Int):Option Out:=b2 self e4 (r3 k self e4 J) J fF
theorem Kw (k:Nat) (rec:RT Out) (K:KT Out) (J:Arg) (fF:(List Key)×Int×Int):D.N k [1,1,1,1,1,1,0,1,0,0] (T2 J fF) (fd rec (dg [7,10,11] []) K)=B2 k (S2 rec J) (ww K J) J fF:=
 Eq.trans (b:=b2 (S2 rec J) (ww K J) (s3 k rec K J) J fF) (by kernel_rfl) (by rw[Kv];rfl)
noncomputable def q3 (J:Arg) (yh:Int):Option Out:=some (yh,())
noncomputable abbrev Q3 (_:Nat):=q3
theorem Kx (k:Nat) (J:Arg) (yh:Int):ww (ag 4 (aJ (D.N k [1,1,1,1,1,1,1]) D.K0)) J yh=q3 J yh:=by kernel_rfl
noncomputable def s2 (k:Nat) (J:Arg):((List Key)×Int×Int)->Option Out:=λfF=>D.L k [1,1,1,1,1,1,0,1,0,0] [7,10,11] [] (ag 4 (aJ (D.N k [1,1,1,1,1,1,1]) D.K0)) (T2 J fF)
noncomputable def r2 (k:Nat) (J:Arg):((List Key)×Int×Int)->Option Out:=au (λw v=>B2 k w (Q3 k J) J v) k
theorem nE (k:Nat) (J:Arg):s2 k J=r2 k J:=by
 funext fF;
 have h4:ww (ag 4 (aJ (D.N k [1,1,1,1,1,1,1]) D.K0)) J=Q3 k J:=funext λz=>Kx k J z
 refine (aN _ _ _ (T2 J) (λself v=>B2 k self (ww (ag 4 (aJ (D.N k [1,1,1,1,1,1,1]) D.K0)) J) J v) (λrec v=>Kw k rec (ag 4 (aJ (D.N k [1,1,1,1,1,1,1]) D.K0)) J v) k fF).trans ?_
 rw[h4]
 rfl
noncomputable def q1 (l2:((List Key)×Int×Int)->Option Out) (J:Arg) (mE:(List Key)):Option Out:=let Hc:=λ(Ky:List Key)=>(l2 (Ky,(0:Int),(0:Int)):Option Out);bif !decide (J.2.2.1.2.1=(0:Int)) then (if mE.length+[J.2.2.1].length<=cU then (Hc (mE++[J.2.2.1])) else none) else Hc mE
noncomputable def Q1 (k:Nat) (J:Arg) (mE:(List Key)):Option Out:=q1 (r2 k J) J mE
theorem nC (k:Nat) (J:Arg) (mE:(List Key)):fh (ag 2 (aJ (D.N k [1,1,1,1]) D.K0)) J mE=Q1 k J mE:=
 Eq.trans (b:=q1 (s2 k J) J mE) (by kernel_rfl) (by rw[nE];rfl)
noncomputable def s1 (k:Nat) (J:Arg):((List Key)×Int)->Option Out:=λbT=>D.L k [1,1,1,0,1,0,0] [1,5,7,9] [] (ag 2 (aJ (D.N k [1,1,1,1]) D.K0)) (T1 J bT)
noncomputable def r1 (k:Nat) (J:Arg):((List Key)×Int)->Option Out:=au (λw v=>B1 k w (Q1 k J) J v) k
theorem iX (k:Nat) (J:Arg):s1 k J=r1 k J:=by
 funext bT;
 have Y:fh (ag 2 (aJ (D.N k [1,1,1,1]) D.K0)) J=Q1 k J:=funext λz=>nC k J z
 refine (aN _ _ _ (T1 J) (λself v=>B1 k self (fh (ag 2 (aJ (D.N k [1,1,1,1]) D.K0)) J) J v) (λrec v=>nD k rec (ag 2 (aJ (D.N k [1,1,1,1]) D.K0)) J v) k bT).trans ?_
 rw[Y]
 rfl
noncomputable def q0 (l1:((List Key)×Int)->Option Out) (J:Arg) (dL:(List Key)):Option Out:=l1 (dL,(0:Int))
noncomputable def Q0 (k:Nat) (J:Arg) (dL:(List Key)):Option Out:=q0 (r1 k J) J dL
theorem nF (k:Nat) (J:Arg) (dL:(List Key)):cT (ag 0 (aJ (D.N k [1,1,1]) D.K0)) J dL=Q0 k J dL:=
 Eq.trans (b:=q0 (s1 k J) J dL) (by kernel_rfl) (by rw[iX];rfl)
noncomputable def s0 (k:Nat) (J:Arg):((List Key)×Int)->Option Out:=λU=>D.L k [1,1,0,1,0,0] [0,1,5,7,8] [] (ag 0 (aJ (D.N k [1,1,1]) D.K0)) (T0 J U)
noncomputable def r0 (k:Nat) (J:Arg):((List Key)×Int)->Option Out:=au (λw v=>B0 k w (Q0 k J) J v) k
theorem aR (k:Nat) (J:Arg):s0 k J=r0 k J:=by
 funext U;
 have h0:cT (ag 0 (aJ (D.N k [1,1,1]) D.K0)) J=Q0 k J:=funext λz=>nF k J z
 refine (aN _ _ _ (T0 J) (λself v=>B0 k self (cT (ag 0 (aJ (D.N k [1,1,1]) D.K0)) J) J v) (λrec v=>iY k rec (ag 0 (aJ (D.N k [1,1,1]) D.K0)) J v) k U).trans ?_
 rw[h0]
 rfl
noncomputable def p (l0:((List Key)×Int)->Option Out) (J:Arg):Option Out:=l0 (([]:List Key),(0:Int))
theorem ab (k:Nat) (J:Arg):@Eq (Option Out) (D.W k J) (p (r0 k J) J):=
 Eq.trans (b:=p (s0 k J) J) (by kernel_rfl) (by rw[aR])
theorem ok:Ok prog 90 D.sig:=az func90 aO (by kernel_rfl) (an _)
end aI
namespace dP
abbrev Arg:Type:=(List Row)×(List Tx)×Op×Unit
abbrev Out:Type:=aE×Unit
abbrev ps:PQ:=[(.ro,(.af aw)),(.ro,(.af bg)),(.ro,(.ptr jm))]
noncomputable def D:FD:={ fn:=f73,tl:=bn,ps:=ps,rs:=[(bu,(ai bu))],gl:=[(28,bQ.D.sig),(69,cw.D.sig),(87,bH.D.sig),(88,fa.D.sig),(89,g_.D.sig),(90,aI.D.sig)],od:=[(1,[0,1,2,3,4,5,6,7,8,9,10,11,12]),(2,[0,1,2,3,4,5,6])] }
noncomputable def aa (a:Arg):Option Out:=@lift Out λk=>D.W k a
noncomputable def p (J:Arg):Option Out:=(bH.aa (J.2.1,J.2.2.1.2.1,(J.2.2.1.2.2.1.1,J.2.2.1.2.2.1.2.1,()),())).bind λr2=>bif r2.1 then ((bQ.aa ((7:Int),())).bind λr3=>some (r3.1,())) else (fa.aa (J.1,J.2.2.1,())).bind λr4=>bif !decide (r4.2.1=(0:Int)) then ((bQ.aa (r4.2.1,())).bind λr5=>some (r5.1,())) else (g_.aa (J.1,r4.1,())).bind λr6=>bif !decide (r6.1=(0:Int)) then ((bQ.aa (r6.1,())).bind λr7=>some (r7.1,())) else (aI.aa (J.1,J.2.1,(J.2.2.1.2.2.1.1,J.2.2.1.2.2.1.2.1,()),())).bind λr8=>bif decide ((12:Int) < r8.1) then ((bQ.aa ((9:Int),())).bind λsh=>some (sh.1,())) else (cw.aa (J.2.1,())).bind λr9=>bif decide ((12:Int)<=r9.1) then ((bQ.aa ((9:Int),())).bind λpr=>some (pr.1,())) else bif r4.1.1 then (bif r4.1.2.2.1 then (bif (Ty.eq aw r4.1.2.1 r4.1.2.2.2.1) then (some (((0:Int),false,(false,((0:Int),(0:Int),(0:Int),([]:List UInt8),()),false,((0:Int),(0:Int),(0:Int),([]:List UInt8),()),()),()),())) else some (((0:Int),true,r4.1,()),())) else some (((0:Int),true,r4.1,()),())) else some (((0:Int),true,r4.1,()),())
theorem ab (k:Nat) (J:Arg):@Eq (Option Out) (D.W k J) (p J):=by kernel_rfl
theorem ok:Ok prog 73 D.sig:=az func73 aO (by kernel_rfl) (fc bQ.ok (fc cw.ok (fc bH.ok (fc fa.ok (fc g_.ok (fc aI.ok (an _)))))))
end dP
namespace dW
abbrev Arg:Type:=(List Row)×(List Tx)×Op×Unit
abbrev Out:Type:=aE×Unit
abbrev ps:PQ:=[(.ro,(.af aw)),(.ro,(.af bg)),(.ro,(.ptr jm))]
noncomputable def D:FD:={ fn:=f31,tl:=bn,ps:=ps,rs:=[(bu,(ai bu))],gl:=[(28,bQ.D.sig),(72,dO.D.sig),(73,dP.D.sig)],od:=[(17,[0,1,2,3,4,5,6,7,8,9,10])] }
noncomputable def aa (a:Arg):Option Out:=@lift Out λk=>D.W k a
noncomputable def p (J:Arg):Option Out:=bif decide (J.2.2.1.1=(1:Int)) then (bif decide ((4:Int)<=(J.2.1.length:Int)) then ((bQ.aa ((2:Int),())).bind λr2=>some (r2.1,())) else some (((0:Int),false,(false,((0:Int),(0:Int),(0:Int),([]:List UInt8),()),false,((0:Int),(0:Int),(0:Int),([]:List UInt8),()),()),()),())) else bif decide (J.2.2.1.1=(9:Int)) then (some (((0:Int),false,(false,((0:Int),(0:Int),(0:Int),([]:List UInt8),()),false,((0:Int),(0:Int),(0:Int),([]:List UInt8),()),()),()),())) else (dO.aa (J.2.1,J.2.2.1.2.1,())).bind λr3=>bif decide (r3.1 < (0:Int)) then ((bQ.aa ((4:Int),())).bind λr4=>some (r4.1,())) else bif decide (J.2.2.1.1=(5:Int)) then (if 0<=r3.1 then ((J.2.1[r3.1.toNat]?).bind λx5=>bif decide ((8:Int)<=(x5.2.2.1.length:Int)) then ((bQ.aa ((2:Int),())).bind λr6=>some (r6.1,())) else some (((0:Int),false,(false,((0:Int),(0:Int),(0:Int),([]:List UInt8),()),false,((0:Int),(0:Int),(0:Int),([]:List UInt8),()),()),()),())) else none) else bif decide (J.2.2.1.1=(6:Int)) then (if 0<=r3.1 then ((J.2.1[r3.1.toNat]?).bind λx7=>bif decide ((x7.2.2.1.length:Int)<=J.2.2.1.2.2.2.1) then ((bQ.aa ((3:Int),())).bind λr8=>some (r8.1,())) else some (((0:Int),false,(false,((0:Int),(0:Int),(0:Int),([]:List UInt8),()),false,((0:Int),(0:Int),(0:Int),([]:List UInt8),()),()),()),())) else none) else bif decide (J.2.2.1.1=(7:Int)) then (bif decide (J.2.2.1.1=(7:Int)) then (some (((0:Int),false,(false,((0:Int),(0:Int),(0:Int),([]:List UInt8),()),false,((0:Int),(0:Int),(0:Int),([]:List UInt8),()),()),()),())) else (dP.aa (J.1,J.2.1,J.2.2.1,())).bind λsh=>some (sh.1,())) else bif decide (J.2.2.1.1=(8:Int)) then (some (((0:Int),false,(false,((0:Int),(0:Int),(0:Int),([]:List UInt8),()),false,((0:Int),(0:Int),(0:Int),([]:List UInt8),()),()),()),())) else (dP.aa (J.1,J.2.1,J.2.2.1,())).bind λpr=>some (pr.1,())
theorem ab (k:Nat) (J:Arg):@Eq (Option Out) (D.W k J) (p J):=by kernel_rfl
theorem ok:Ok prog 31 D.sig:=az func31 aO (by kernel_rfl) (fc bQ.ok (fc dO.ok (fc dP.ok (an _))))
end dW
namespace ez
abbrev Arg:Type:=Row×Row×Unit
abbrev Out:Type:=Bool×Unit
abbrev ps:PQ:=[(.ro,(.ptr aw)),(.ro,(.ptr aw))]
noncomputable def D:FD:={ fn:=f64,tl:=bn,ps:=ps,rs:=[(.bool,(ai .bool))],od:=[(1,[0,1,2,3,4,5,6,7,8,9,10,11,12,13,14,15,16,17,18,19,20,21,22,23,24,25,26,27,28,29,30,31])] }
noncomputable def aa (a:Arg):Option Out:=@lift Out λk=>D.W k a
noncomputable def p (J:Arg):Option Out:=bif decide (J.1.1 < J.2.1.1) then (some (true,())) else bif decide (J.1.1=J.2.1.1) then (some (decide (J.1.2.1 < J.2.1.2.1),())) else some (false,())
theorem ab (k:Nat) (J:Arg):@Eq (Option Out) (D.W k J) (p J):=by kernel_rfl
theorem ok:Ok prog 64 D.sig:=az func64 aO (by kernel_rfl) (an _)
end ez
namespace ci
abbrev Arg:Type:=(List Row)×Row×Unit
abbrev Out:Type:=(List Row)×Unit
abbrev ps:PQ:=[(.ro,(.af aw)),(.ro,aw)]
noncomputable def D:FD:={ fn:=f96,tl:=bn,ps:=ps,rs:=[((.af aw),(aF (.af aw)))],gl:=[(64,ez.D.sig)],lv:=[(2,[0,3,5])],lx:=[(0,[0,3,5])],od:=[(5,[0,1,4,5,6,2,3,7,8])] }
noncomputable def aa (a:Arg):Option Out:=@lift Out λk=>D.W k a
noncomputable def T0 (J:Arg) (U:Int):St:={ n:=32,sl:=[(0,.val (.af aw) J.1),(3,.box aw (ai aw) [] J.2.1),(5,.val i64 U)],vr:=[],ax:=[] }
noncomputable def b0 (self:Int->Option Out) (e0:Int->Option Out) (J:Arg) (U:Int):Option Out:=bif decide (U < (J.1.length:Int)) then (if 0<=U then ((J.1[U.toNat]?).bind λbe=>(ez.aa (be,J.2.1,())).bind λco=>bif co.1 then (self (ap (U+(1:Int)))) else e0 U) else none) else e0 U
noncomputable abbrev B0 (_:Nat):=b0
noncomputable def q0 (J:Arg) (dL:Int):Option Out:=if 0<=dL/\dL<=(J.1.length:Int) then (if ([]:List Row).length+((J.1.take dL.toNat).drop 0).length<=cU then (let FE:=([]:List Row)++((J.1.take dL.toNat).drop 0);if 0<=dL/\dL<=(J.1.length:Int) then (if FE.length+[J.2.1].length<=cU then (if (FE++[J.2.1]).length+((J.1.take J.1.length).drop dL.toNat).length<=cU then (let FF:=(FE++[J.2.1])++((J.1.take J.1.length).drop dL.toNat);some (FF,())) else none) else none) else none) else none) else none
noncomputable abbrev Q0 (_:Nat):=q0
noncomputable def s0 (k:Nat) (J:Arg):(Int)->Option Out:=λU=>D.L k [1,1,0,0,0] [0,3,5] [] (ag 0 (aJ (D.N k [1,1,1]) D.K0)) (T0 J U)
noncomputable def r0 (k:Nat) (J:Arg):(Int)->Option Out:=au (λw v=>B0 k w (Q0 k J) J v) k
theorem aR (k:Nat) (J:Arg):s0 k J=r0 k J:=
 funext λU=>aN _ _ _ (T0 J) _ (λrec v=>by kernel_rfl) k U
noncomputable def p (l0:(Int)->Option Out) (J:Arg):Option Out:=l0 (0:Int)
theorem ab (k:Nat) (J:Arg):@Eq (Option Out) (D.W k J) (p (r0 k J) J):=
 Eq.trans (b:=p (s0 k J) J) (by kernel_rfl) (by rw[aR])
theorem ok:Ok prog 96 D.sig:=az func96 aO (by kernel_rfl) (fc ez.ok (an _))
end ci
namespace dD
abbrev Arg:Type:=aD×Unit
abbrev Out:Type:=(List Row)×aD×Unit
abbrev ps:PQ:=[(.dm (ai bC) (ai bC),bC)]
noncomputable def D:FD:={ fn:=f78,tl:=bn,ps:=ps,rs:=[((.af aw),(aF (.af aw)))],gl:=[(33,aj.D.sig),(56,cF.D.sig),(95,bP.D.sig),(96,ci.D.sig)],es:=[0],lv:=[(3,[0,3,4])],lx:=[(0,[0,3])] }
noncomputable def aa (a:Arg):Option Out:=@lift Out λk=>D.W k a
noncomputable def T0 (J:Arg) (ej:aD×(List Row)×Int):St:={ n:=42,sl:=[(0,.box bC (ai bC) [] ej.1),(3,.own (.af aw) (aF (.af aw)) [] ej.2.1),(4,.val i64 ej.2.2)],vr:=[],ax:=[(0,0,false)] }
noncomputable def b0 (self:(aD×(List Row)×Int)->Option Out) (e0:(aD×(List Row))->Option Out) (J:Arg) (ej:aD×(List Row)×Int):Option Out:=bif decide ((0:Int) < ej.2.2) then ((cF.aa (ej.1,())).bind λco=>(aj.aa (co.2.1,(2:Int),())).bind λi7=>let wx:=λ(FG:Row)=>((bP.aa (ej.2.1,FG.1,FG.2.1,())).bind λnh=>bif decide (nh.1 < (0:Int)) then ((ci.aa (ej.2.1,FG,())).bind λui=>self (i7.2.1,ui.1,ap (ej.2.2 - (1:Int)))) else self (i7.2.1,ej.2.1,ap (ej.2.2 - (1:Int))):Option Out);bif decide (ap ((1:Int)+i7.1)=(2:Int)) then (bif decide ((3:Int) < (co.1.2.2.2.1.length:Int)) then (wx (ap ((1:Int)+i7.1),co.1.2.1,co.1.2.2.1,([]:List UInt8),co.1.2.2.2.2)) else wx (ap ((1:Int)+i7.1),co.1.2)) else wx (ap ((1:Int)+i7.1),co.1.2)) else e0 (ej.1,ej.2.1)
noncomputable abbrev B0 (_:Nat):=b0
noncomputable def q0 (J:Arg) (JO:(aD×(List Row))):Option Out:=some (JO.2,JO.1,())
noncomputable abbrev Q0 (_:Nat):=q0
noncomputable def s0 (k:Nat) (J:Arg):(aD×(List Row)×Int)->Option Out:=λej=>D.L k [1,1,0,1,0,0] [0,3,4] [] (ag 0 (aJ (D.N k [1,1,1]) D.K0)) (T0 J ej)
noncomputable def r0 (k:Nat) (J:Arg):(aD×(List Row)×Int)->Option Out:=au (λw v=>B0 k w (Q0 k J) J v) k
theorem aR (k:Nat) (J:Arg):s0 k J=r0 k J:=
 funext λej=>aN _ _ _ (T0 J) _ (λrec v=>by kernel_rfl) k ej
noncomputable def p (l0:(aD×(List Row)×Int)->Option Out) (J:Arg):Option Out:=(aj.aa (J.1,(6:Int),())).bind λr2=>l0 (r2.2.1,[((0:Int),(1:Int),(8:Int),([]:List UInt8),()),((0:Int),(2:Int),(3:Int),([]:List UInt8),())],r2.1)
theorem ab (k:Nat) (J:Arg):@Eq (Option Out) (D.W k J) (p (r0 k J) J):=
 Eq.trans (b:=p (s0 k J) J) (by kernel_rfl) (by rw[aR])
theorem ok:Ok prog 78 D.sig:=az func78 aO (by kernel_rfl) (fc aj.ok (fc cF.ok (fc bP.ok (fc ci.ok (an _)))))
end dD
namespace fb
abbrev Arg:Type:=(List Row)×Change×Unit
abbrev Out:Type:=(List Row)×Bool×Unit
abbrev ps:PQ:=[(.ro,(.af aw)),(.ro,(.ptr bk))]
noncomputable def D:FD:={ fn:=f79,tl:=bn,ps:=ps,rs:=[((.af aw),(aF (.af aw))),(.bool,(ai .bool))],gl:=[(95,bP.D.sig),(96,ci.D.sig),(97,dv.D.sig)],lv:=[(7,[0,1,8,9,10])],lx:=[(0,[1,9])],od:=[(3,[0,1,2,3,4,5,6,7,8,9,10,11,12,13,14,15,16,17,18,19,20,21])] }
noncomputable def aa (a:Arg):Option Out:=@lift Out λk=>D.W k a
noncomputable def T0 (J:Arg) (fu:Int) (bU:(List Row)×Int):St:={ n:=70,sl:=[(0,.val (.af aw) J.1),(1,.cp bk J.2.1),(8,.val i64 fu),(9,.own (.af aw) (aF (.af aw)) [] bU.1),(10,.val i64 bU.2)],vr:=[],ax:=[] }
noncomputable def b0 (self:((List Row)×Int)->Option Out) (e0:(List Row)->Option Out) (J:Arg) (fu:Int) (bU:(List Row)×Int):Option Out:=bif decide (bU.2 < (J.1.length:Int)) then (bif !decide (bU.2=fu) then (if 0<=bU.2 then ((J.1[bU.2.toNat]?).bind λHd=>if bU.1.length+[Hd].length<=cU then (self (bU.1++[Hd],ap (bU.2+(1:Int)))) else none) else none) else self (bU.1,ap (bU.2+(1:Int)))) else e0 bU.1
noncomputable abbrev B0 (_:Nat):=b0
noncomputable def q0 (J:Arg) (fu:Int) (sV:(List Row)):Option Out:=bif J.2.1.2.2.1 then ((ci.aa (sV,J.2.1.2.2.2.1,())).bind λKz=>some (Kz.1,true,())) else some (sV,true,())
noncomputable abbrev Q0 (_:Nat):=q0
noncomputable def s0 (k:Nat) (J:Arg):Int->((List Row)×Int)->Option Out:=λfu=>λbU=>D.L k [1,1,1,1,1,0,1,0,0] [0,1,8,9,10] [] (ag 0 (aJ (D.N k [1,1,1,1,1,1]) D.K0)) (T0 J fu bU)
noncomputable def r0 (k:Nat) (J:Arg):Int->((List Row)×Int)->Option Out:=λfu=>au (λw v=>B0 k w (Q0 k J fu) J fu v) k
theorem aR (k:Nat) (J:Arg):s0 k J=r0 k J:=
 funext λfu=>funext λbU=>aN _ _ _ (T0 J fu) _ (λrec v=>by kernel_rfl) k bU
noncomputable def p (l0:Int->((List Row)×Int)->Option Out) (J:Arg):Option Out:=(dv.aa (J.2.1,())).bind λr2=>(bP.aa (J.1,r2.1,r2.2.1,())).bind λr3=>let wx:Option Out:=l0 r3.1 (([]:List Row),(0:Int));bif !(J.2.1.1 == (decide ((0:Int)<=r3.1))) then (some (([]:List Row),false,())) else bif decide ((0:Int)<=r3.1) then (if 0<=r3.1 then ((J.1[r3.1.toNat]?).bind λx4=>bif !(Ty.eq aw x4 J.2.1.2.1) then (some (([]:List Row),false,())) else wx) else none) else wx
theorem ab (k:Nat) (J:Arg):@Eq (Option Out) (D.W k J) (p (r0 k J) J):=
 Eq.trans (b:=p (s0 k J) J) (by kernel_rfl) (by rw[aR])
theorem ok:Ok prog 79 D.sig:=az func79 aO (by kernel_rfl) (fc bP.ok (fc ci.ok (fc dv.ok (an _))))
end fb
namespace bY
abbrev Arg:Type:=Tx×Key×Unit
abbrev Out:Type:=Bool×Unit
abbrev ps:PQ:=[(.ro,(.ptr bg)),(.ro,aA)]
noncomputable def D:FD:={ fn:=f75,tl:=bn,ps:=ps,rs:=[(.bool,(ai .bool))],lv:=[(2,[0,3,5])],lx:=[(0,[])],od:=[(4,[0,1,2,3,4,5,6,7,8])] }
noncomputable def aa (a:Arg):Option Out:=@lift Out λk=>D.W k a
noncomputable def T0 (J:Arg) (U:Int):St:={ n:=24,sl:=[(0,.cp bg J.1),(3,.box aA (ai aA) [] J.2.1),(5,.val i64 U)],vr:=[],ax:=[] }
noncomputable def b0 (self:Int->Option Out) (e0:(Unit)->Option Out) (J:Arg) (U:Int):Option Out:=bif decide (U < (J.1.2.2.2.1.length:Int)) then (if 0<=U then ((J.1.2.2.2.1[U.toNat]?).bind λbe=>bif (Ty.eq aA be J.2.1) then (some (true,())) else self (ap (U+(1:Int)))) else none) else e0 ()
noncomputable abbrev B0 (_:Nat):=b0
noncomputable def q0 (J:Arg) (uh:(Unit)):Option Out:=some (false,())
noncomputable abbrev Q0 (_:Nat):=q0
noncomputable def s0 (k:Nat) (J:Arg):(Int)->Option Out:=λU=>D.L k [1,0,1,0,0] [0,3,5] [] (ag 0 (aJ (D.N k [1,1]) D.K0)) (T0 J U)
noncomputable def r0 (k:Nat) (J:Arg):(Int)->Option Out:=au (λw v=>B0 k w (Q0 k J) J v) k
theorem aR (k:Nat) (J:Arg):s0 k J=r0 k J:=
 funext λU=>aN _ _ _ (T0 J) _ (λrec v=>by kernel_rfl) k U
noncomputable def p (l0:(Int)->Option Out) (J:Arg):Option Out:=l0 (0:Int)
theorem ab (k:Nat) (J:Arg):@Eq (Option Out) (D.W k J) (p (r0 k J) J):=
 Eq.trans (b:=p (s0 k J) J) (by kernel_rfl) (by rw[aR])
theorem ok:Ok prog 75 D.sig:=az func75 aO (by kernel_rfl) (an _)
end bY
namespace dX
abbrev Arg:Type:=Change×Unit
abbrev Out:Type:=Key×Unit
abbrev ps:PQ:=[(.ro,(.ptr bk))]
noncomputable def D:FD:={ fn:=f86,tl:=bn,ps:=ps,rs:=[(aA,(ai aA))],gl:=[(97,dv.D.sig)] }
noncomputable def aa (a:Arg):Option Out:=@lift Out λk=>D.W k a
noncomputable def p (J:Arg):Option Out:=(dv.aa (J.1,())).bind λr2=>some ((r2.1,r2.2.1,()),())
theorem ab (k:Nat) (J:Arg):@Eq (Option Out) (D.W k J) (p J):=by kernel_rfl
theorem ok:Ok prog 86 D.sig:=az func86 aO (by kernel_rfl) (fc dv.ok (an _))
end dX
namespace fv
abbrev Arg:Type:=Tx×Unit
abbrev Out:Type:=Tx×Unit
abbrev ps:PQ:=[(.ro,bg)]
noncomputable def D:FD:={ fn:=f102,tl:=bn,ps:=ps,rs:=[(bg,(aF bg))],od:=[(1,[0,1,3,4,7,8,11,12,2,5,6,9,10,13,14,15])],ar:=[(1,[1,4,8,12])],bx:=[(1,[1])],pd:=[(1,[2,6,10])] }
noncomputable def aa (a:Arg):Option Out:=@lift Out λk=>D.W k a
noncomputable def p (J:Arg):Option Out:=if ([]:List Change).length+J.1.2.1.length<=cU then (if ([]:List Int).length+J.1.2.2.1.length<=cU then (if ([]:List Key).length+J.1.2.2.2.1.length<=cU then (some ((J.1.1,([]:List Change)++J.1.2.1,([]:List Int)++J.1.2.2.1,([]:List Key)++J.1.2.2.2.1,()),())) else none) else none) else none
theorem ab (k:Nat) (J:Arg):@Eq (Option Out) (D.W k J) (p J):=by kernel_rfl
theorem ok:Ok prog 102 D.sig:=az func102 aO (by kernel_rfl) (an _)
end fv
namespace ek
abbrev Arg:Type:=(List Tx)×Unit
abbrev Out:Type:=(List Tx)×Unit
abbrev ps:PQ:=[(.ro,(.af bg))]
noncomputable def D:FD:={ fn:=f98,tl:=bn,ps:=ps,rs:=[((.af bg),(aF (.af bg)))],gl:=[(102,fv.D.sig)],lv:=[(3,[0,3,4])],lx:=[(0,[3])] }
noncomputable def aa (a:Arg):Option Out:=@lift Out λk=>D.W k a
noncomputable def T0 (J:Arg) (U:(List Tx)×Int):St:={ n:=21,sl:=[(0,.val (.af bg) J.1),(3,.own (.af bg) (aF (.af bg)) [] U.1),(4,.val i64 U.2)],vr:=[],ax:=[] }
noncomputable def b0 (self:((List Tx)×Int)->Option Out) (e0:(List Tx)->Option Out) (J:Arg) (U:(List Tx)×Int):Option Out:=bif decide (U.2 < (J.1.length:Int)) then (if 0<=U.2 then ((J.1[U.2.toNat]?).bind λbe=>(fv.aa (be,())).bind λco=>if U.1.length+[co.1].length<=cU then (self (U.1++[co.1],ap (U.2+(1:Int)))) else none) else none) else e0 U.1
noncomputable abbrev B0 (_:Nat):=b0
noncomputable def q0 (J:Arg) (dL:(List Tx)):Option Out:=some (dL,())
noncomputable abbrev Q0 (_:Nat):=q0
noncomputable def s0 (k:Nat) (J:Arg):((List Tx)×Int)->Option Out:=λU=>D.L k [1,1,0,1,0,0] [0,3,4] [] (ag 0 (aJ (D.N k [1,1,1]) D.K0)) (T0 J U)
noncomputable def r0 (k:Nat) (J:Arg):((List Tx)×Int)->Option Out:=au (λw v=>B0 k w (Q0 k J) J v) k
theorem aR (k:Nat) (J:Arg):s0 k J=r0 k J:=
 funext λU=>aN _ _ _ (T0 J) _ (λrec v=>by kernel_rfl) k U
noncomputable def p (l0:((List Tx)×Int)->Option Out) (J:Arg):Option Out:=l0 (([]:List Tx),(0:Int))
theorem ab (k:Nat) (J:Arg):@Eq (Option Out) (D.W k J) (p (r0 k J) J):=
 Eq.trans (b:=p (s0 k J) J) (by kernel_rfl) (by rw[aR])
theorem ok:Ok prog 98 D.sig:=az func98 aO (by kernel_rfl) (fc fv.ok (an _))
end ek
namespace fX
abbrev Arg:Type:=(List Tx)×Int×Change×Unit
abbrev Out:Type:=(List Tx)×Unit
abbrev ps:PQ:=[(.ro,(.af bg)),(.ro,i64),(.ro,bk)]
noncomputable def D:FD:={ fn:=f80,tl:=bn,ps:=ps,rs:=[((.af bg),(aF (.af bg)))],gl:=[(75,bY.D.sig),(86,dX.D.sig),(98,ek.D.sig)],od:=[(3,[0,1,2,3,4,5,6,7,8,9,10]),(6,[0,1,2,3,4,5,6,7,8,9,10])] }
noncomputable def aa (a:Arg):Option Out:=@lift Out λk=>D.W k a
noncomputable def p (J:Arg):Option Out:=(ek.aa (J.1,())).bind λr2=>if 0<=J.2.1/\J.2.1 < (r2.1.length:Int) then ((r2.1[J.2.1.toNat]?).bind λx3=>(r2.1[J.2.1.toNat]?).bind λx4=>(r2.1[J.2.1.toNat]?).bind λx5=>if x4.2.1.length+[J.2.2.1].length<=cU then (if J.2.1.toNat=J.2.1.toNat then ((r2.1.set J.2.1.toNat x5)[J.2.1.toNat]?).bind λx6=>let y7:=(r2.1.set J.2.1.toNat x5).set J.2.1.toNat (x6.1,x4.2.1++[J.2.2.1],x6.2.2);(dX.aa (J.2.2.1,())).bind λr8=>(y7[J.2.1.toNat]?).bind λx9=>(bY.aa (x9,r8.1,())).bind λsh=>bif !sh.1 then ((y7[J.2.1.toNat]?).bind λvu=>(y7[J.2.1.toNat]?).bind λBv=>(y7[J.2.1.toNat]?).bind λEh=>if Bv.2.2.2.1.length+[r8.1].length<=cU then (if J.2.1.toNat=J.2.1.toNat then ((y7.set J.2.1.toNat Eh)[J.2.1.toNat]?).bind λzF=>let ND:=(y7.set J.2.1.toNat Eh).set J.2.1.toNat (zF.1,zF.2.1,zF.2.2.1,Bv.2.2.2.1++[r8.1],zF.2.2.2.2);some (ND,()) else none) else none) else some (y7,()) else none) else none) else none
theorem ab (k:Nat) (J:Arg):@Eq (Option Out) (D.W k J) (p J):=by kernel_rfl
theorem ok:Ok prog 80 D.sig:=az func80 aO (by kernel_rfl) (fc bY.ok (fc dX.ok (fc ek.ok (an _))))
end fX
namespace bF
abbrev Arg:Type:=aD×Unit
abbrev Out:Type:=(List Row)×(List Tx)×aD×Unit
abbrev ps:PQ:=[(.dm (ai bC) (ai bC),bC)]
noncomputable def D:FD:={ fn:=f53,tl:=bn,ps:=ps,rs:=[((.af aw),(aF (.af aw))),((.af bg),(aF (.af bg)))],gl:=[(21,bK.D.sig),(23,cZ.D.sig),(31,dW.D.sig),(33,aj.D.sig),(72,dO.D.sig),(78,dD.D.sig),(79,fb.D.sig),(80,fX.D.sig)],es:=[0],lv:=[(4,[0,4,5,6])],lx:=[(0,[0,4,5]),(1,[0,4,5,6])],od:=[(10,[0,1,2,3,5,6,4,7,8])] }
noncomputable def aa (a:Arg):Option Out:=@lift Out λk=>D.W k a
noncomputable def T0 (J:Arg) (df:aD×(List Row)×(List Tx)×Int):St:={ n:=62,sl:=[(0,.box bC (ai bC) [] df.1),(4,.own (.af aw) (aF (.af aw)) [] df.2.1),(5,.own (.af bg) (aF (.af bg)) [] df.2.2.1),(6,.val i64 df.2.2.2)],vr:=[],ax:=[(0,0,false)] }
noncomputable def b0 (self:(aD×(List Row)×(List Tx)×Int)->Option Out) (e0:(aD×(List Row)×(List Tx))->Option Out) (J:Arg) (df:aD×(List Row)×(List Tx)×Int):Option Out:=bif decide ((0:Int) < df.2.2.2) then ((cZ.aa (df.1,df.2.1,df.2.2.1,())).bind λi7=>(dW.aa (df.2.1,df.2.2.1,i7.1,())).bind λiJ=>bif !decide (iJ.1.1=(0:Int)) then (self (i7.2.1,df.2.1,df.2.2.1,ap (df.2.2.2 - (1:Int)))) else bif !iJ.1.2.1 then (self (i7.2.1,df.2.1,df.2.2.1,ap (df.2.2.2 - (1:Int)))) else (fb.aa (df.2.1,iJ.1.2.2.1,())).bind λni=>(dO.aa (df.2.2.1,i7.1.2.1,())).bind λwy=>(fX.aa (df.2.2.1,wy.1,iJ.1.2.2.1,())).bind λCD=>self (i7.2.1,ni.1,CD.1,ap (df.2.2.2 - (1:Int)))) else e0 (df.1,df.2.1,df.2.2.1)
noncomputable abbrev B0 (_:Nat):=b0
noncomputable def q0 (J:Arg) (pL:(aD×(List Row)×(List Tx))):Option Out:=(bK.aa (pL.1,(3:Int),())).bind λui=>bif ui.1 then (if 0<=(0:Int)/\(0:Int) < (pL.2.2.length:Int) then ((pL.2.2[0]?).bind λJP=>(pL.2.2[0]?).bind λMj=>if 0<=(0:Int)/\(0:Int) < (pL.2.2.length:Int) then ((pL.2.2[0]?).bind λFH=>let Mk:=pL.2.2.set 0 (FH.1,FH.2.1,[(0:Int),(Mj.2.1.length:Int)],FH.2.2.2);some (pL.2.1,Mk,ui.2.1,())) else none) else none) else some (pL.2.1,pL.2.2,ui.2.1,())
noncomputable abbrev Q0 (_:Nat):=q0
noncomputable def s0 (k:Nat) (J:Arg):(aD×(List Row)×(List Tx)×Int)->Option Out:=λdf=>D.L k [1,1,1,0,1,0,0] [0,4,5,6] [] (ag 0 (aJ (D.N k [1,1,1,1]) D.K0)) (T0 J df)
noncomputable def r0 (k:Nat) (J:Arg):(aD×(List Row)×(List Tx)×Int)->Option Out:=au (λw v=>B0 k w (Q0 k J) J v) k
theorem aR (k:Nat) (J:Arg):s0 k J=r0 k J:=
 funext λdf=>aN _ _ _ (T0 J) _ (λrec v=>by kernel_rfl) k df
noncomputable def p (l0:(aD×(List Row)×(List Tx)×Int)->Option Out) (J:Arg):Option Out:=(dD.aa (J.1,())).bind λr2=>(aj.aa (r2.2.1,(9:Int),())).bind λr3=>l0 (r3.2.1,r2.1,[((1:Int),([]:List Change),([]:List Int),([]:List Key),()),((2:Int),([]:List Change),([]:List Int),([]:List Key),())],r3.1)
theorem ab (k:Nat) (J:Arg):@Eq (Option Out) (D.W k J) (p (r0 k J) J):=
 Eq.trans (b:=p (s0 k J) J) (by kernel_rfl) (by rw[aR])
theorem ok:Ok prog 53 D.sig:=az func53 aO (by kernel_rfl) (fc bK.ok (fc cZ.ok (fc dW.ok (fc aj.ok (fc dO.ok (fc dD.ok (fc fb.ok (fc fX.ok (an _)))))))))
end bF
namespace dE
abbrev Arg:Type:=aD×Unit
abbrev Out:Type:=Row×aD×Unit
abbrev ps:PQ:=[(.dm (ai bC) (ai bC),bC)]
noncomputable def D:FD:={ fn:=f54,tl:=bn,ps:=ps,rs:=[(aw,(ai aw))],gl:=[(32,aM.D.sig),(33,aj.D.sig),(56,cF.D.sig)],es:=[0] }
noncomputable def aa (a:Arg):Option Out:=@lift Out λk=>D.W k a
noncomputable def p (J:Arg):Option Out:=(cF.aa (J.1,())).bind λr2=>(aj.aa (r2.2.1,(12:Int),())).bind λr3=>bif decide (r3.1=(0:Int)) then ((aM.aa (r3.2.1,[(-1:Int),(3:Int),(4:Int)],())).bind λr4=>some ((r4.1,r2.1.2),r4.2.1,())) else bif decide (r3.1=(1:Int)) then ((aM.aa (r3.2.1,[(0:Int),(99:Int),(100:Int)],())).bind λr5=>some ((r2.1.1,r5.1,r2.1.2.2),r5.2.1,())) else bif decide (r3.1=(2:Int)) then ((aM.aa (r3.2.1,[(-1:Int),(1000:Int)],())).bind λr6=>some ((r2.1.1,r2.1.2.1,r6.1,r2.1.2.2.2),r6.2.1,())) else bif decide (r3.1=(3:Int)) then ((aj.aa (r3.2.1,(3:Int),())).bind λr7=>if 0<=r7.1/\r7.1 < ([([65]:List UInt8),([97,98,99,100,101,102,103,104,105]:List UInt8),([97,32,98]:List UInt8)].length:Int) then (([([65]:List UInt8),([97,98,99,100,101,102,103,104,105]:List UInt8),([97,32,98]:List UInt8)][r7.1.toNat]?).bind λx8=>some ((r2.1.1,r2.1.2.1,r2.1.2.2.1,x8,r2.1.2.2.2.2),r7.2.1,())) else none) else some (r2.1,r3.2.1,())
theorem ab (k:Nat) (J:Arg):@Eq (Option Out) (D.W k J) (p J):=by kernel_rfl
theorem ok:Ok prog 54 D.sig:=az func54 aO (by kernel_rfl) (fc aM.ok (fc aj.ok (fc cF.ok (an _))))
end dE
namespace cJ
abbrev Arg:Type:=aD×Unit
abbrev Out:Type:=(List Row)×aD×Unit
abbrev ps:PQ:=[(.dm (ai bC) (ai bC),bC)]
noncomputable def D:FD:={ fn:=f81,tl:=bn,ps:=ps,rs:=[((.af aw),(aF (.af aw)))],gl:=[(33,aj.D.sig),(56,cF.D.sig),(95,bP.D.sig),(96,ci.D.sig)],es:=[0],lv:=[(3,[0,3,4])],lx:=[(0,[0,3])] }
noncomputable def aa (a:Arg):Option Out:=@lift Out λk=>D.W k a
noncomputable def T0 (J:Arg) (ej:aD×(List Row)×Int):St:={ n:=26,sl:=[(0,.box bC (ai bC) [] ej.1),(3,.own (.af aw) (aF (.af aw)) [] ej.2.1),(4,.val i64 ej.2.2)],vr:=[],ax:=[(0,0,false)] }
noncomputable def b0 (self:(aD×(List Row)×Int)->Option Out) (e0:(aD×(List Row))->Option Out) (J:Arg) (ej:aD×(List Row)×Int):Option Out:=bif decide ((0:Int) < ej.2.2) then ((cF.aa (ej.1,())).bind λco=>(bP.aa (ej.2.1,co.1.1,co.1.2.1,())).bind λi7=>bif decide (i7.1 < (0:Int)) then ((ci.aa (ej.2.1,co.1,())).bind λiJ=>self (co.2.1,iJ.1,ap (ej.2.2 - (1:Int)))) else self (co.2.1,ej.2.1,ap (ej.2.2 - (1:Int)))) else e0 (ej.1,ej.2.1)
noncomputable abbrev B0 (_:Nat):=b0
noncomputable def q0 (J:Arg) (jK:(aD×(List Row))):Option Out:=some (jK.2,jK.1,())
noncomputable abbrev Q0 (_:Nat):=q0
noncomputable def s0 (k:Nat) (J:Arg):(aD×(List Row)×Int)->Option Out:=λej=>D.L k [1,1,0,1,0,0] [0,3,4] [] (ag 0 (aJ (D.N k [1,1,1]) D.K0)) (T0 J ej)
noncomputable def r0 (k:Nat) (J:Arg):(aD×(List Row)×Int)->Option Out:=au (λw v=>B0 k w (Q0 k J) J v) k
theorem aR (k:Nat) (J:Arg):s0 k J=r0 k J:=
 funext λej=>aN _ _ _ (T0 J) _ (λrec v=>by kernel_rfl) k ej
noncomputable def p (l0:(aD×(List Row)×Int)->Option Out) (J:Arg):Option Out:=(aj.aa (J.1,(7:Int),())).bind λr2=>l0 (r2.2.1,([]:List Row),r2.1)
theorem ab (k:Nat) (J:Arg):@Eq (Option Out) (D.W k J) (p (r0 k J) J):=
 Eq.trans (b:=p (s0 k J) J) (by kernel_rfl) (by rw[aR])
theorem ok:Ok prog 81 D.sig:=az func81 aO (by kernel_rfl) (fc aj.ok (fc cF.ok (fc bP.ok (fc ci.ok (an _)))))
end cJ
namespace eJ
abbrev Arg:Type:=aD×Unit
abbrev Out:Type:=(List Row)×aD×Unit
abbrev ps:PQ:=[(.dm (ai bC) (ai bC),bC)]
noncomputable def D:FD:={ fn:=f55,tl:=bn,ps:=ps,rs:=[((.af aw),(aF (.af aw)))],gl:=[(33,aj.D.sig),(54,dE.D.sig),(81,cJ.D.sig)],es:=[0] }
noncomputable def aa (a:Arg):Option Out:=@lift Out λk=>D.W k a
noncomputable def p (J:Arg):Option Out:=(cJ.aa (J.1,())).bind λr2=>(aj.aa (r2.2.1,(10:Int),())).bind λr3=>bif decide (r3.1=(0:Int)) then ((dE.aa (r3.2.1,())).bind λr4=>if r2.1.length+[r4.1].length<=cU then (some (r2.1++[r4.1],r4.2.1,())) else none) else bif decide (r3.1=(1:Int)) then (if 0<=(61:Int)/\(61:Int)<=(61:Int)/\(61:Int)<=(cU:Int) then (some (List.replicate 61 ((0:Int),(0:Int),(0:Int),([]:List UInt8),()),r3.2.1,())) else none) else some (r2.1,r3.2.1,())
theorem ab (k:Nat) (J:Arg):@Eq (Option Out) (D.W k J) (p J):=by kernel_rfl
theorem ok:Ok prog 55 D.sig:=az func55 aO (by kernel_rfl) (fc aj.ok (fc dE.ok (fc cJ.ok (an _))))
end eJ
namespace dY
abbrev Arg:Type:=aD×Unit
abbrev Out:Type:=(List Row)×(List Tx)×aD×Unit
abbrev ps:PQ:=[(.dm (ai bC) (ai bC),bC)]
noncomputable def D:FD:={ fn:=f20,tl:=bn,ps:=ps,rs:=[((.af aw),(aF (.af aw))),((.af bg),(aF (.af bg)))],gl:=[(32,aM.D.sig),(33,aj.D.sig),(53,bF.D.sig),(54,dE.D.sig),(55,eJ.D.sig)],es:=[0],fz:=[(14,9,2)],od:=[(6,[0,1,2,3,4,5,6,7,8,9,10,11,12]),(8,[0,1,2,3,4,5,6,7,8,9,10,11,12]),(14,[0,1,2,3,4,5,6,7,8,9,10,11,12])],er:=[(6,[(4,9)]),(8,[(4,9)])] }
noncomputable def aa (a:Arg):Option Out:=@lift Out λk=>D.W k a
noncomputable def p (J:Arg):Option Out:=(bF.aa (J.1,())).bind λr2=>(aj.aa (r2.2.2.1,(14:Int),())).bind λr3=>bif decide (r3.1=(0:Int)) then ((aM.aa (r3.2.1,[(1:Int),(3:Int),(100:Int)],())).bind λr4=>(aj.aa (r4.2.1,(5:Int),())).bind λr5=>if r2.2.1.length+[(r4.1,([]:List Change),([]:List Int),[((1:Int),r5.1,())],())].length<=cU then (let y6:=r2.2.1++[(r4.1,([]:List Change),([]:List Int),[((1:Int),r5.1,())],())];some (r2.1,y6,r5.2.1,())) else none) else bif decide (r3.1=(1:Int)) then (if 0<=(0:Int)/\(0:Int) < (r2.2.1.length:Int) then ((r2.2.1[0]?).bind λx7=>(aM.aa (r3.2.1,[(0:Int),(9:Int),(-1:Int)],())).bind λr8=>(r2.2.1[0]?).bind λx9=>(r2.2.1[0]?).bind λtw=>if x9.2.2.1.length+[r8.1].length<=cU then (if 0<=(0:Int)/\(0:Int) < ((r2.2.1.set 0 tw).length:Int) then (if 0=0 then ((r2.2.1.set 0 tw)[0]?).bind λvu=>let JQ:=(r2.2.1.set 0 tw).set 0 (vu.1,vu.2.1,x9.2.2.1++[r8.1],vu.2.2.2);some (r2.1,JQ,r8.2.1,()) else none) else none) else none) else none) else bif decide (r3.1=(2:Int)) then (if 0<=(1:Int)/\(1:Int) < (r2.2.1.length:Int) then ((r2.2.1[1]?).bind λEh=>(dE.aa (r3.2.1,())).bind λtz=>(r2.2.1[1]?).bind λEi=>(r2.2.1[1]?).bind λxm=>if Ei.2.1.length+[(false,((0:Int),(0:Int),(0:Int),([]:List UInt8),()),true,tz.1,())].length<=cU then (let JR:=Ei.2.1++[(false,((0:Int),(0:Int),(0:Int),([]:List UInt8),()),true,tz.1,())];if 0<=(1:Int)/\(1:Int) < ((r2.2.1.set 1 xm).length:Int) then (if 1=1 then ((r2.2.1.set 1 xm)[1]?).bind λLv=>let NE:=(r2.2.1.set 1 xm).set 1 (Lv.1,JR,Lv.2.2);some (r2.1,NE,tz.2.1,()) else none) else none) else none) else none) else bif decide (r3.1=(3:Int)) then (if 0<=(5:Int)/\(5:Int)<=(5:Int)/\(5:Int)<=(cU:Int) then (some (r2.1,List.replicate 5 ((0:Int),([]:List Change),([]:List Int),([]:List Key),()),r3.2.1,())) else none) else bif decide (r3.1=(4:Int)) then ((eJ.aa (r3.2.1,())).bind λHe=>some (He.1,r2.2.1,He.2.1,())) else bif decide (r3.1=(5:Int)) then (if 0<=(1:Int)/\(1:Int) < (r2.2.1.length:Int) then ((r2.2.1[1]?).bind λO9=>if 0<=(0:Int)/\(0:Int) < (r2.2.1.length:Int) then ((r2.2.1[0]?).bind λO_=>(r2.2.1[0]?).bind λLw=>(r2.2.1[0]?).bind λPa=>(r2.2.1[1]?).bind λLx=>(r2.2.1[1]?).bind λJS=>if Lx.2.2.2.1.length+Lw.2.2.2.1.length<=cU then (if 0<=(1:Int)/\(1:Int) < ((r2.2.1.set 1 JS).length:Int) then (if 1=1 then ((r2.2.1.set 1 JS)[1]?).bind λHf=>let NF:=(r2.2.1.set 1 JS).set 1 (Hf.1,Hf.2.1,Hf.2.2.1,Lx.2.2.2.1++Lw.2.2.2.1,Hf.2.2.2.2);some (r2.1,NF,r3.2.1,()) else none) else none) else none) else none) else none) else some (r2.1,r2.2.1,r3.2.1,())
theorem ab (k:Nat) (J:Arg):@Eq (Option Out) (D.W k J) (p J):=by kernel_rfl
theorem ok:Ok prog 20 D.sig:=az func20 aO (by kernel_rfl) (fc aM.ok (fc aj.ok (fc bF.ok (fc dE.ok (fc eJ.ok (an _))))))
end dY
namespace fY
abbrev Arg:Type:=aD×Unit
abbrev Out:Type:=Op×aD×Unit
abbrev ps:PQ:=[(.dm (ai bC) (ai bC),bC)]
noncomputable def D:FD:={ fn:=f22,tl:=bn,ps:=ps,rs:=[(jm,(ai jm))],gl:=[(23,cZ.D.sig),(32,aM.D.sig),(33,aj.D.sig),(54,dE.D.sig)],es:=[0] }
noncomputable def aa (a:Arg):Option Out:=@lift Out λk=>D.W k a
noncomputable def p (J:Arg):Option Out:=(cZ.aa (J.1,([]:List Row),([]:List Tx),())).bind λr2=>(aj.aa (r2.2.1,(10:Int),())).bind λr3=>bif decide (r3.1=(0:Int)) then ((aM.aa (r3.2.1,[(0:Int),(10:Int),(4:Int),(2:Int)],())).bind λr4=>some ((r4.1,r2.1.2),r4.2.1,())) else bif decide (r3.1=(1:Int)) then ((aM.aa (r3.2.1,[(0:Int),(99:Int),(100:Int)],())).bind λr5=>some ((r2.1.1,r5.1,r2.1.2.2),r5.2.1,())) else bif decide (r3.1=(2:Int)) then ((aM.aa (r3.2.1,[(-1:Int),(7:Int),(8:Int)],())).bind λr6=>some ((r2.1.1,r2.1.2.1,r2.1.2.2.1,r6.1,r2.1.2.2.2.2),r6.2.1,())) else bif decide (r3.1=(3:Int)) then ((dE.aa (r3.2.1,())).bind λr7=>some ((r2.1.1,r2.1.2.1,r7.1,r2.1.2.2.2),r7.2.1,())) else some (r2.1,r3.2.1,())
theorem ab (k:Nat) (J:Arg):@Eq (Option Out) (D.W k J) (p J):=by kernel_rfl
theorem ok:Ok prog 22 D.sig:=az func22 aO (by kernel_rfl) (fc cZ.ok (fc aM.ok (fc aj.ok (fc dE.ok (an _)))))
end fY
namespace en
abbrev Arg:Type:=(List UInt8)×Unit
abbrev Out:Type:=(List Row)×(List Tx)×Op×Unit
abbrev ps:PQ:=[(.ro,(.af u8))]
noncomputable def D:FD:={ fn:=f5,tl:=bn,ps:=ps,rs:=[((.af aw),(aF (.af aw))),((.af bg),(aF (.af bg))),(jm,(ai jm))],gl:=[(19,dV.D.sig),(20,dY.D.sig),(21,bK.D.sig),(22,fY.D.sig),(23,cZ.D.sig)] }
noncomputable def aa (a:Arg):Option Out:=@lift Out λk=>D.W k a
noncomputable def p (J:Arg):Option Out:=(dV.aa (J.1,())).bind λr2=>(dY.aa (r2.1,())).bind λr3=>(bK.aa (r3.2.2.1,(10:Int),())).bind λr4=>bif r4.1 then ((fY.aa (r4.2.1,())).bind λr5=>some (r3.1,r3.2.1,r5.1,())) else (cZ.aa (r4.2.1,r3.1,r3.2.1,())).bind λr6=>some (r3.1,r3.2.1,r6.1,())
theorem ab (k:Nat) (J:Arg):@Eq (Option Out) (D.W k J) (p J):=by kernel_rfl
theorem ok:Ok prog 5 D.sig:=az func5 aO (by kernel_rfl) (fc dV.ok (fc dY.ok (fc bK.ok (fc fY.ok (fc cZ.ok (an _))))))
end en
namespace cB
abbrev Arg:Type:=Int×Int×Int×Unit
abbrev Out:Type:=Bool×Unit
abbrev ps:PQ:=[(.ro,i64),(.ro,i64),(.ro,i64)]
noncomputable def D:FD:={ fn:=f38,tl:=bn,ps:=ps,rs:=[(.bool,(ai .bool))] }
noncomputable def aa (a:Arg):Option Out:=@lift Out λk=>D.W k a
noncomputable def p (J:Arg):Option Out:=bif decide (J.2.1<=J.1) then (some (decide (J.1<=J.2.2.1),())) else some (false,())
theorem ab (k:Nat) (J:Arg):@Eq (Option Out) (D.W k J) (p J):=by kernel_rfl
theorem ok:Ok prog 38 D.sig:=az func38 aO (by kernel_rfl) (an _)
end cB
namespace fO
abbrev Arg:Type:=Int×Unit
abbrev Out:Type:=Bool×Unit
abbrev ps:PQ:=[(.ro,i64)]
noncomputable def D:FD:={ fn:=f39,tl:=bn,ps:=ps,rs:=[(.bool,(ai .bool))] }
noncomputable def aa (a:Arg):Option Out:=@lift Out λk=>D.W k a
noncomputable def p (J:Arg):Option Out:=bif decide (J.1=(2:Int)) then (some (true,())) else bif decide (J.1=(3:Int)) then (some (true,())) else some (decide (J.1=(4:Int)),())
theorem ab (k:Nat) (J:Arg):@Eq (Option Out) (D.W k J) (p J):=by kernel_rfl
theorem ok:Ok prog 39 D.sig:=az func39 aO (by kernel_rfl) (an _)
end fO
namespace fZ
abbrev Arg:Type:=Int×Unit
abbrev Out:Type:=Bool×Unit
abbrev ps:PQ:=[(.ro,i64)]
noncomputable def D:FD:={ fn:=f40,tl:=bn,ps:=ps,rs:=[(.bool,(ai .bool))],gl:=[(38,cB.D.sig)] }
noncomputable def aa (a:Arg):Option Out:=@lift Out λk=>D.W k a
noncomputable def p (J:Arg):Option Out:=(cB.aa (J.1,(1:Int),(99:Int),())).bind λr2=>some (r2.1,())
theorem ab (k:Nat) (J:Arg):@Eq (Option Out) (D.W k J) (p J):=by kernel_rfl
theorem ok:Ok prog 40 D.sig:=az func40 aO (by kernel_rfl) (fc cB.ok (an _))
end fZ
namespace bp
abbrev Arg:Type:=Row×Unit
abbrev Out:Type:=Int×Unit
abbrev ps:PQ:=[(.ro,aw)]
noncomputable def D:FD:={ fn:=f41,tl:=bn,ps:=ps,rs:=[(i64,(ai i64))],gl:=[(38,cB.D.sig)],lv:=[(6,[1,26,27])],lx:=[(0,[])] }
noncomputable def aa (a:Arg):Option Out:=@lift Out λk=>D.W k a
noncomputable def T0 (J:Arg) (gt:Int):St:={ n:=43,sl:=[(1,.box aw (ai aw) [] J.1),(26,.val i64 (J.1.2.2.2.1.length:Int)),(27,.val i64 gt)],vr:=[],ax:=[] }
noncomputable def b0 (self:Int->Option Out) (e0:(Unit)->Option Out) (J:Arg) (gt:Int):Option Out:=bif decide (gt < (J.1.2.2.2.1.length:Int)) then (if 0<=gt then ((J.1.2.2.2.1[gt.toNat]?).bind λuj=>bif decide ((uj.toNat:Int) < (97:Int)) then (some ((5:Int),())) else if 0<=gt then ((J.1.2.2.2.1[gt.toNat]?).bind λMl=>bif decide ((122:Int) < (Ml.toNat:Int)) then (some ((5:Int),())) else self (ap (gt+(1:Int)))) else none) else none) else e0 ()
noncomputable abbrev B0 (_:Nat):=b0
noncomputable def q0 (J:Arg) (CE:(Unit)):Option Out:=some ((0:Int),())
noncomputable abbrev Q0 (_:Nat):=q0
noncomputable def s0 (k:Nat) (J:Arg):(Int)->Option Out:=λgt=>D.L k [1,1,1,0,1,0,0] [1,26,27] [] (ag 0 (aJ (D.N k [1,1,1,1]) D.K0)) (T0 J gt)
noncomputable def r0 (k:Nat) (J:Arg):(Int)->Option Out:=au (λw v=>B0 k w (Q0 k J) J v) k
theorem aR (k:Nat) (J:Arg):s0 k J=r0 k J:=
 funext λgt=>aN _ _ _ (T0 J) _ (λrec v=>by kernel_rfl) k gt
noncomputable def p (l0:(Int)->Option Out) (J:Arg):Option Out:=(cB.aa (J.1.1,(0:Int),(3:Int),())).bind λr2=>bif !r2.1 then (some ((3:Int),())) else (cB.aa (J.1.2.1,(1:Int),(99:Int),())).bind λr3=>bif !r3.1 then (some ((3:Int),())) else (cB.aa (J.1.2.2.1,(0:Int),(999:Int),())).bind λr4=>bif !r4.1 then (some ((3:Int),())) else bif decide ((8:Int) < (J.1.2.2.2.1.length:Int)) then (some ((5:Int),())) else l0 (0:Int)
theorem ab (k:Nat) (J:Arg):@Eq (Option Out) (D.W k J) (p (r0 k J) J):=
 Eq.trans (b:=p (s0 k J) J) (by kernel_rfl) (by rw[aR])
theorem ok:Ok prog 41 D.sig:=az func41 aO (by kernel_rfl) (fc cB.ok (an _))
end bp
namespace eo
abbrev Arg:Type:=Op×Unit
abbrev Out:Type:=Int×Unit
abbrev ps:PQ:=[(.ro,jm)]
noncomputable def D:FD:={ fn:=f11,tl:=bn,ps:=ps,rs:=[(i64,(ai i64))],gl:=[(38,cB.D.sig),(39,fO.D.sig),(40,fZ.D.sig),(41,bp.D.sig)] }
noncomputable def aa (a:Arg):Option Out:=@lift Out λk=>D.W k a
noncomputable def p (J:Arg):Option Out:=let Ly:=λ(LA:Bool)=>(let xn:Option Out:=let LB:Option Out:=bif !LA then ((fZ.aa (J.1.2.1,())).bind λNG=>bif !NG.1 then (some ((3:Int),())) else (cB.aa (J.1.2.2.2.1,(0:Int),(7:Int),())).bind λNH=>bif !NH.1 then (some ((3:Int),())) else (fO.aa (J.1.1,())).bind λNI=>bif NI.1 then ((bp.aa (J.1.2.2.1,())).bind λNJ=>some (NJ.1,())) else some ((0:Int),())) else (cB.aa (J.1.2.2.2.1,(0:Int),(7:Int),())).bind λNK=>bif !NK.1 then (some ((3:Int),())) else (fO.aa (J.1.1,())).bind λNL=>bif NL.1 then ((bp.aa (J.1.2.2.1,())).bind λNM=>some (NM.1,())) else some ((0:Int),());bif decide (J.1.1=(4:Int)) then (bif !decide (J.1.2.2.1.2.2.1=(0:Int)) then (some ((1:Int),())) else bif !decide (J.1.2.2.1.2.2.2.1=([]:List UInt8)) then (some ((1:Int),())) else LB) else LB;(cB.aa (J.1.1,(1:Int),(9:Int),())).bind λNN=>bif !NN.1 then (some ((1:Int),())) else bif LA then (bif !decide (J.1.2.1=(0:Int)) then (some ((1:Int),())) else (fO.aa (J.1.1,())).bind λNO=>bif !NO.1 then (bif !(Ty.eq aw J.1.2.2.1 ((0:Int),(0:Int),(0:Int),([]:List UInt8),())) then (some ((1:Int),())) else bif !decide (J.1.1=(6:Int)) then (bif !decide (J.1.2.2.2.1=(0:Int)) then (some ((1:Int),())) else xn) else xn) else bif !decide (J.1.1=(6:Int)) then (bif !decide (J.1.2.2.2.1=(0:Int)) then (some ((1:Int),())) else xn) else xn) else (fO.aa (J.1.1,())).bind λNP=>bif !NP.1 then (bif !(Ty.eq aw J.1.2.2.1 ((0:Int),(0:Int),(0:Int),([]:List UInt8),())) then (some ((1:Int),())) else bif !decide (J.1.1=(6:Int)) then (bif !decide (J.1.2.2.2.1=(0:Int)) then (some ((1:Int),())) else xn) else xn) else bif !decide (J.1.1=(6:Int)) then (bif !decide (J.1.2.2.2.1=(0:Int)) then (some ((1:Int),())) else xn) else xn:Option Out);bif decide (J.1.1=(1:Int)) then (Ly true) else Ly (decide (J.1.1=(9:Int)))
theorem ab (k:Nat) (J:Arg):@Eq (Option Out) (D.W k J) (p J):=by kernel_rfl
theorem ok:Ok prog 11 D.sig:=az func11 aO (by kernel_rfl) (fc cB.ok (fc fO.ok (fc fZ.ok (fc bp.ok (an _)))))
end eo
namespace cj
abbrev Arg:Type:=(List Tx)×Unit
abbrev Out:Type:=Int×Unit
abbrev ps:PQ:=[(.ro,(.af bg))]
noncomputable def D:FD:={ fn:=f44,tl:=bn,ps:=ps,rs:=[(i64,(ai i64))],lv:=[(3,[3,6,7,8])],lx:=[(0,[3])] }
noncomputable def aa (a:Arg):Option Out:=@lift Out λk=>D.W k a
noncomputable def T0 (J:Arg) (U:Int×Int):St:={ n:=19,sl:=[(3,.val i64 U.1),(6,.val (.af bg) J.1),(7,.val i64 (J.1.length:Int)),(8,.val i64 U.2)],vr:=[],ax:=[] }
noncomputable def b0 (self:(Int×Int)->Option Out) (e0:Int->Option Out) (J:Arg) (U:Int×Int):Option Out:=bif decide (U.2 < (J.1.length:Int)) then (if 0<=U.2 then ((J.1[U.2.toNat]?).bind λbe=>self (ap (U.1+(be.2.1.length:Int)),ap (U.2+(1:Int)))) else none) else e0 U.1
noncomputable abbrev B0 (_:Nat):=b0
noncomputable def q0 (J:Arg) (uh:Int):Option Out:=some (uh,())
noncomputable abbrev Q0 (_:Nat):=q0
noncomputable def s0 (k:Nat) (J:Arg):(Int×Int)->Option Out:=λU=>D.L k [1,1,0,1,0,0] [3,6,7,8] [] (ag 0 (aJ (D.N k [1,1,1]) D.K0)) (T0 J U)
noncomputable def r0 (k:Nat) (J:Arg):(Int×Int)->Option Out:=au (λw v=>B0 k w (Q0 k J) J v) k
theorem aR (k:Nat) (J:Arg):s0 k J=r0 k J:=
 funext λU=>aN _ _ _ (T0 J) _ (λrec v=>by kernel_rfl) k U
noncomputable def p (l0:(Int×Int)->Option Out) (J:Arg):Option Out:=l0 ((0:Int),(0:Int))
theorem ab (k:Nat) (J:Arg):@Eq (Option Out) (D.W k J) (p (r0 k J) J):=
 Eq.trans (b:=p (s0 k J) J) (by kernel_rfl) (by rw[aR])
theorem ok:Ok prog 44 D.sig:=az func44 aO (by kernel_rfl) (an _)
end cj
namespace fP
abbrev Arg:Type:=Int×Int×Unit
abbrev Out:Type:=Bool×Unit
abbrev ps:PQ:=[(.ro,i64),(.ro,i64)]
noncomputable def D:FD:={ fn:=f34,tl:=bn,ps:=ps,rs:=[(.bool,(ai .bool))],gl:=[(38,cB.D.sig)] }
noncomputable def aa (a:Arg):Option Out:=@lift Out λk=>D.W k a
noncomputable def p (J:Arg):Option Out:=(cB.aa (J.1,(0:Int),(3:Int),())).bind λr2=>bif r2.1 then ((cB.aa (J.2.1,(1:Int),(99:Int),())).bind λr3=>some (r3.1,())) else some (false,())
theorem ab (k:Nat) (J:Arg):@Eq (Option Out) (D.W k J) (p J):=by kernel_rfl
theorem ok:Ok prog 34 D.sig:=az func34 aO (by kernel_rfl) (fc cB.ok (an _))
end fP
namespace dZ
abbrev Arg:Type:=Row×Row×Unit
abbrev Out:Type:=Bool×Unit
abbrev ps:PQ:=[(.ro,aw),(.ro,aw)]
noncomputable def D:FD:={ fn:=f57,tl:=bn,ps:=ps,rs:=[(.bool,(ai .bool))] }
noncomputable def aa (a:Arg):Option Out:=@lift Out λk=>D.W k a
noncomputable def p (J:Arg):Option Out:=bif decide (J.1.1 < J.2.1.1) then (some (true,())) else bif decide (J.1.1=J.2.1.1) then (some (decide (J.1.2.1 < J.2.1.2.1),())) else some (false,())
theorem ab (k:Nat) (J:Arg):@Eq (Option Out) (D.W k J) (p J):=by kernel_rfl
theorem ok:Ok prog 57 D.sig:=az func57 aO (by kernel_rfl) (an _)
end dZ
namespace eP
abbrev Arg:Type:=Row×Row×Unit
abbrev Out:Type:=Int×Unit
abbrev ps:PQ:=[(.ro,aw),(.ro,aw)]
noncomputable def D:FD:={ fn:=f61,tl:=bn,ps:=ps,rs:=[(i64,(ai i64))],gl:=[(57,dZ.D.sig)] }
noncomputable def aa (a:Arg):Option Out:=@lift Out λk=>D.W k a
noncomputable def p (J:Arg):Option Out:=(dZ.aa (J.1,J.2.1,())).bind λr2=>bif r2.1 then (some ((-1:Int),())) else (dZ.aa (J.2.1,J.1,())).bind λr3=>bif r3.1 then (some ((1:Int),())) else some ((0:Int),())
theorem ab (k:Nat) (J:Arg):@Eq (Option Out) (D.W k J) (p J):=by kernel_rfl
theorem ok:Ok prog 61 D.sig:=az func61 aO (by kernel_rfl) (fc dZ.ok (an _))
end eP
namespace cM
abbrev Arg:Type:=Change×Unit
abbrev Out:Type:=Int×Unit
abbrev ps:PQ:=[(.ro,bk)]
noncomputable def D:FD:={ fn:=f47,tl:=bn,ps:=ps,rs:=[(i64,(ai i64))],gl:=[(41,bp.D.sig),(61,eP.D.sig)] }
noncomputable def aa (a:Arg):Option Out:=@lift Out λk=>D.W k a
noncomputable def p (J:Arg):Option Out:=let j7:Option Out:=bif J.1.1 then ((bp.aa (J.1.2.1,())).bind λr8=>bif !decide (r8.1=(0:Int)) then (some (r8.1,())) else bif J.1.2.2.1 then ((bp.aa (J.1.2.2.2.1,())).bind λsh=>some (sh.1,())) else some ((0:Int),())) else bif J.1.2.2.1 then ((bp.aa (J.1.2.2.2.1,())).bind λpr=>some (pr.1,())) else some ((0:Int),());bif !J.1.1 then (bif !J.1.2.2.1 then (some ((1:Int),())) else bif J.1.1 then (bif J.1.2.2.1 then ((eP.aa (J.1.2.1,J.1.2.2.2.1,())).bind λr2=>bif !decide (r2.1=(0:Int)) then (some ((1:Int),())) else j7) else j7) else j7) else bif J.1.1 then (bif J.1.2.2.1 then ((eP.aa (J.1.2.1,J.1.2.2.2.1,())).bind λr3=>bif !decide (r3.1=(0:Int)) then (some ((1:Int),())) else j7) else j7) else j7
theorem ab (k:Nat) (J:Arg):@Eq (Option Out) (D.W k J) (p J):=by kernel_rfl
theorem ok:Ok prog 47 D.sig:=az func47 aO (by kernel_rfl) (fc bp.ok (fc eP.ok (an _)))
end cM
namespace bV
abbrev Arg:Type:=Change×Unit
abbrev Out:Type:=Int×Unit
abbrev ps:PQ:=[(.ro,bk)]
noncomputable def D:FD:={ fn:=f42,tl:=bn,ps:=ps,rs:=[(i64,(ai i64))],gl:=[(47,cM.D.sig)] }
noncomputable def aa (a:Arg):Option Out:=@lift Out λk=>D.W k a
noncomputable def p (J:Arg):Option Out:=(cM.aa (J.1,())).bind λr2=>bif !decide (r2.1=(0:Int)) then (some (r2.1,())) else bif J.1.1 then (bif J.1.2.2.1 then (bif (Ty.eq aw J.1.2.1 J.1.2.2.2.1) then (some ((1:Int),())) else some ((0:Int),())) else some ((0:Int),())) else some ((0:Int),())
theorem ab (k:Nat) (J:Arg):@Eq (Option Out) (D.W k J) (p J):=by kernel_rfl
theorem ok:Ok prog 42 D.sig:=az func42 aO (by kernel_rfl) (fc cM.ok (an _))
end bV
namespace bl
abbrev Arg:Type:=Change×Unit
abbrev Out:Type:=Row×Unit
abbrev ps:PQ:=[(.ro,bk)]
noncomputable def D:FD:={ fn:=f76,tl:=bn,ps:=ps,rs:=[(aw,(ai aw))] }
noncomputable def aa (a:Arg):Option Out:=@lift Out λk=>D.W k a
noncomputable def p (J:Arg):Option Out:=bif J.1.2.2.1 then (some (J.1.2.2.2.1,())) else some (J.1.2.1,())
theorem ab (k:Nat) (J:Arg):@Eq (Option Out) (D.W k J) (p J):=by kernel_rfl
theorem ok:Ok prog 76 D.sig:=az func76 aO (by kernel_rfl) (an _)
end bl
namespace bW
abbrev Arg:Type:=Change×Unit
abbrev Out:Type:=Key×Unit
abbrev ps:PQ:=[(.ro,bk)]
noncomputable def D:FD:={ fn:=f43,tl:=bn,ps:=ps,rs:=[(aA,(ai aA))],gl:=[(76,bl.D.sig)],od:=[(1,[0,3,1,2,4,5,6,7])] }
noncomputable def aa (a:Arg):Option Out:=@lift Out λk=>D.W k a
noncomputable def p (J:Arg):Option Out:=(bl.aa (J.1,())).bind λr2=>(bl.aa (J.1,())).bind λr3=>some ((r2.1.1,r3.1.2.1,()),())
theorem ab (k:Nat) (J:Arg):@Eq (Option Out) (D.W k J) (p J):=by kernel_rfl
theorem ok:Ok prog 43 D.sig:=az func43 aO (by kernel_rfl) (fc bl.ok (an _))
end bW
namespace cN
abbrev Arg:Type:=(List Key)×Key×Unit
abbrev Out:Type:=Int×Unit
abbrev ps:PQ:=[(.ro,(.af aA)),(.ro,aA)]
noncomputable def D:FD:={ fn:=f91,tl:=bn,ps:=ps,rs:=[(i64,(ai i64))],lv:=[(2,[0,3,7,8])],lx:=[(0,[])],od:=[(4,[0,1,2,3,4,5])] }
noncomputable def aa (a:Arg):Option Out:=@lift Out λk=>D.W k a
noncomputable def T0 (J:Arg) (U:Int):St:={ n:=19,sl:=[(0,.val (.af aA) J.1),(3,.box aA (ai aA) [] J.2.1),(7,.val i64 (J.1.length:Int)),(8,.val i64 U)],vr:=[],ax:=[] }
noncomputable def b0 (self:Int->Option Out) (e0:(Unit)->Option Out) (J:Arg) (U:Int):Option Out:=bif decide (U < (J.1.length:Int)) then (if 0<=U then ((J.1[U.toNat]?).bind λbe=>bif (Ty.eq aA J.2.1 be) then (some (U,())) else self (ap (U+(1:Int)))) else none) else e0 ()
noncomputable abbrev B0 (_:Nat):=b0
noncomputable def q0 (J:Arg) (uh:(Unit)):Option Out:=some ((-1:Int),())
noncomputable abbrev Q0 (_:Nat):=q0
noncomputable def s0 (k:Nat) (J:Arg):(Int)->Option Out:=λU=>D.L k [1,0,1,0,0] [0,3,7,8] [] (ag 0 (aJ (D.N k [1,1]) D.K0)) (T0 J U)
noncomputable def r0 (k:Nat) (J:Arg):(Int)->Option Out:=au (λw v=>B0 k w (Q0 k J) J v) k
theorem aR (k:Nat) (J:Arg):s0 k J=r0 k J:=
 funext λU=>aN _ _ _ (T0 J) _ (λrec v=>by kernel_rfl) k U
noncomputable def p (l0:(Int)->Option Out) (J:Arg):Option Out:=l0 (0:Int)
theorem ab (k:Nat) (J:Arg):@Eq (Option Out) (D.W k J) (p (r0 k J) J):=
 Eq.trans (b:=p (s0 k J) J) (by kernel_rfl) (by rw[aR])
theorem ok:Ok prog 91 D.sig:=az func91 aO (by kernel_rfl) (an _)
end cN
namespace bz
abbrev Arg:Type:=(List Key)×Key×Unit
abbrev Out:Type:=Bool×Unit
abbrev ps:PQ:=[(.ro,(.af aA)),(.ro,aA)]
noncomputable def D:FD:={ fn:=f74,tl:=bn,ps:=ps,rs:=[(.bool,(ai .bool))],gl:=[(91,cN.D.sig)] }
noncomputable def aa (a:Arg):Option Out:=@lift Out λk=>D.W k a
noncomputable def p (J:Arg):Option Out:=(cN.aa (J.1,J.2.1,())).bind λr2=>some (decide ((0:Int)<=r2.1),())
theorem ab (k:Nat) (J:Arg):@Eq (Option Out) (D.W k J) (p J):=by kernel_rfl
theorem ok:Ok prog 74 D.sig:=az func74 aO (by kernel_rfl) (fc cN.ok (an _))
end bz
namespace bf
abbrev Arg:Type:=Tx×Unit
abbrev Out:Type:=Int×Unit
abbrev ps:PQ:=[(.ro,bg)]
noncomputable def D:FD:={ fn:=f52,tl:=bn,ps:=ps,rs:=[(i64,(ai i64))],gl:=[(34,fP.D.sig),(38,cB.D.sig),(42,bV.D.sig),(43,bW.D.sig),(74,bz.D.sig)],lv:=[(2,[1,12,13,14]),(14,[1,6,41,42,43]),(21,[1,57,58,59])],lx:=[(0,[1]),(2,[1]),(4,[])],od:=[(7,[0,1,2,3,4,5]),(25,[0,1,2,3,4,5])] }
noncomputable def aa (a:Arg):Option Out:=@lift Out λk=>D.W k a
noncomputable def T0 (J:Arg) (U:Int):St:={ n:=77,sl:=[(1,.box bg (ai bg) [] J.1),(12,.val (.af bk) J.1.2.1),(13,.val i64 (J.1.2.1.length:Int)),(14,.val i64 U)],vr:=[],ax:=[] }
noncomputable def S0 (rec:RT Out) (J:Arg):(Int)->Option Out:=λU=>rec (T0 J U)
noncomputable def cT (K:KT Out) (J:Arg):(Unit)->Option Out:=λz=>K (.exit 0) ({ n:=77,sl:=[(1,.box bg (ai bg) [] J.1)],vr:=[],ax:=[] })
noncomputable def b0 (self:Int->Option Out) (e0:(Unit)->Option Out) (J:Arg) (U:Int):Option Out:=bif decide (U < (J.1.2.1.length:Int)) then (if 0<=U then ((J.1.2.1[U.toNat]?).bind λbe=>(bV.aa (be,())).bind λco=>bif !decide (co.1=(0:Int)) then (some (co.1,())) else (bW.aa (be,())).bind λi7=>(bz.aa (J.1.2.2.2.1,i7.1,())).bind λiJ=>bif !iJ.1 then (some ((8:Int),())) else self (ap (U+(1:Int)))) else none) else e0 ()
noncomputable abbrev B0 (_:Nat):=b0
theorem iY (k:Nat) (rec:RT Out) (K:KT Out) (J:Arg) (U:Int):D.N k [1,0,1,0,0] (T0 J U) (fd rec (dg [1,12,13,14] []) K)=b0 (S0 rec J) (cT K J) J U:=by kernel_rfl
noncomputable def T1 (J:Arg) (cz:Int×Int):St:={ n:=77,sl:=[(1,.box bg (ai bg) [] J.1),(6,.val i64 cz.1),(41,.val (.af i64) J.1.2.2.1),(42,.val i64 (J.1.2.2.1.length:Int)),(43,.val i64 cz.2)],vr:=[],ax:=[] }
noncomputable def S1 (rec:RT Out) (J:Arg):(Int×Int)->Option Out:=λcz=>rec (T1 J cz)
noncomputable def fh (K:KT Out) (J:Arg):(Unit)->Option Out:=λz=>K (.exit 2) ({ n:=77,sl:=[(1,.box bg (ai bg) [] J.1)],vr:=[],ax:=[] })
noncomputable def b1 (self:(Int×Int)->Option Out) (e2:(Unit)->Option Out) (J:Arg) (cz:Int×Int):Option Out:=bif decide (cz.2 < (J.1.2.2.1.length:Int)) then (if 0<=cz.2 then ((J.1.2.2.1[cz.2.toNat]?).bind λmC=>(cB.aa (mC,cz.1,(J.1.2.1.length:Int),())).bind λvv=>bif !vv.1 then (some ((3:Int),())) else self (mC,ap (cz.2+(1:Int)))) else none) else e2 ()
noncomputable abbrev B1 (_:Nat):=b1
theorem nD (k:Nat) (rec:RT Out) (K:KT Out) (J:Arg) (cz:Int×Int):D.N k [1,1,1,1,0,1,0,0] (T1 J cz) (fd rec (dg [1,6,41,42,43] []) K)=b1 (S1 rec J) (fh K J) J cz:=by kernel_rfl
noncomputable def T2 (J:Arg) (eg:Int):St:={ n:=77,sl:=[(1,.box bg (ai bg) [] J.1),(57,.val (.af aA) J.1.2.2.2.1),(58,.val i64 (J.1.2.2.2.1.length:Int)),(59,.val i64 eg)],vr:=[],ax:=[] }
noncomputable def b2 (self:Int->Option Out) (e4:(Unit)->Option Out) (J:Arg) (eg:Int):Option Out:=bif decide (eg < (J.1.2.2.2.1.length:Int)) then (if 0<=eg then ((J.1.2.2.2.1[eg.toNat]?).bind λCF=>(fP.aa (CF.1,CF.2.1,())).bind λKA=>bif !KA.1 then (some ((3:Int),())) else if 0<=eg/\eg<=(J.1.2.2.2.1.length:Int) then ((bz.aa ((J.1.2.2.2.1.take eg.toNat).drop 0,CF,())).bind λKB=>bif KB.1 then (some ((6:Int),())) else self (ap (eg+(1:Int)))) else none) else none) else e4 ()
noncomputable abbrev B2 (_:Nat):=b2
noncomputable def q2 (J:Arg) (sW:(Unit)):Option Out:=some ((0:Int),())
noncomputable abbrev Q2 (_:Nat):=q2
noncomputable def s2 (k:Nat) (J:Arg):(Int)->Option Out:=λeg=>D.L k [1,1,1,1,1,0,1,0,0] [1,57,58,59] [] (ag 4 (aJ (D.N k [1,1,1,1,1,1]) D.K0)) (T2 J eg)
noncomputable def r2 (k:Nat) (J:Arg):(Int)->Option Out:=au (λw v=>B2 k w (Q2 k J) J v) k
theorem nE (k:Nat) (J:Arg):s2 k J=r2 k J:=
 funext λeg=>aN _ _ _ (T2 J) _ (λrec v=>by kernel_rfl) k eg
noncomputable def q1 (l2:(Int)->Option Out) (J:Arg) (qT:(Unit)):Option Out:=l2 (0:Int)
noncomputable def Q1 (k:Nat) (J:Arg) (qT:(Unit)):Option Out:=q1 (r2 k J) J qT
theorem nC (k:Nat) (J:Arg) (qT:(Unit)):fh (ag 2 (aJ (D.N k [1,1,1,1,1]) D.K0)) J qT=Q1 k J qT:=
 Eq.trans (b:=q1 (s2 k J) J qT) (by kernel_rfl) (by rw[nE];rfl)
noncomputable def s1 (k:Nat) (J:Arg):(Int×Int)->Option Out:=λcz=>D.L k [1,1,1,1,0,1,0,0] [1,6,41,42,43] [] (ag 2 (aJ (D.N k [1,1,1,1,1]) D.K0)) (T1 J cz)
noncomputable def r1 (k:Nat) (J:Arg):(Int×Int)->Option Out:=au (λw v=>B1 k w (Q1 k J) J v) k
theorem iX (k:Nat) (J:Arg):s1 k J=r1 k J:=by
 funext cz;
 have Y:fh (ag 2 (aJ (D.N k [1,1,1,1,1]) D.K0)) J=Q1 k J:=funext λz=>nC k J z
 refine (aN _ _ _ (T1 J) (λself v=>B1 k self (fh (ag 2 (aJ (D.N k [1,1,1,1,1]) D.K0)) J) J v) (λrec v=>nD k rec (ag 2 (aJ (D.N k [1,1,1,1,1]) D.K0)) J v) k cz).trans ?_
 rw[Y]
 rfl
noncomputable def q0 (l1:(Int×Int)->Option Out) (J:Arg) (jK:(Unit)):Option Out:=bif decide ((8:Int) < (J.1.2.2.1.length:Int)) then (some ((2:Int),())) else bif decide ((12:Int) < (J.1.2.2.2.1.length:Int)) then (some ((2:Int),())) else l1 ((0:Int),(0:Int))
noncomputable def Q0 (k:Nat) (J:Arg) (jK:(Unit)):Option Out:=q0 (r1 k J) J jK
theorem nF (k:Nat) (J:Arg) (jK:(Unit)):cT (ag 0 (aJ (D.N k [1,1]) D.K0)) J jK=Q0 k J jK:=
 Eq.trans (b:=q0 (s1 k J) J jK) (by kernel_rfl) (by rw[iX];rfl)
noncomputable def s0 (k:Nat) (J:Arg):(Int)->Option Out:=λU=>D.L k [1,0,1,0,0] [1,12,13,14] [] (ag 0 (aJ (D.N k [1,1]) D.K0)) (T0 J U)
noncomputable def r0 (k:Nat) (J:Arg):(Int)->Option Out:=au (λw v=>B0 k w (Q0 k J) J v) k
theorem aR (k:Nat) (J:Arg):s0 k J=r0 k J:=by
 funext U;
 have h0:cT (ag 0 (aJ (D.N k [1,1]) D.K0)) J=Q0 k J:=funext λz=>nF k J z
 refine (aN _ _ _ (T0 J) (λself v=>B0 k self (cT (ag 0 (aJ (D.N k [1,1]) D.K0)) J) J v) (λrec v=>iY k rec (ag 0 (aJ (D.N k [1,1]) D.K0)) J v) k U).trans ?_
 rw[h0]
 rfl
noncomputable def p (l0:(Int)->Option Out) (J:Arg):Option Out:=l0 (0:Int)
theorem ab (k:Nat) (J:Arg):@Eq (Option Out) (D.W k J) (p (r0 k J) J):=
 Eq.trans (b:=p (s0 k J) J) (by kernel_rfl) (by rw[aR])
theorem ok:Ok prog 52 D.sig:=az func52 aO (by kernel_rfl) (fc fP.ok (fc cB.ok (fc bV.ok (fc bW.ok (fc bz.ok (an _))))))
end bf
namespace av
abbrev Arg:Type:=(List Tx)×Unit
abbrev Out:Type:=Int×Unit
abbrev ps:PQ:=[(.ro,(.af bg))]
noncomputable def D:FD:={ fn:=f17,tl:=bn,ps:=ps,rs:=[(i64,(ai i64))],gl:=[(40,fZ.D.sig),(44,cj.D.sig),(52,bf.D.sig)],lv:=[(4,[0,14,15,16]),(16,[0,6,45,46,47]),(19,[0,6,45,46,47,52,53,54])],lx:=[(0,[0]),(2,[0]),(4,[0,6,45,46,47])],od:=[(8,[0,1,2,3,4,5,6,7,8,9,10,11,12])] }
noncomputable def aa (a:Arg):Option Out:=@lift Out λk=>D.W k a
noncomputable def T0 (J:Arg) (U:Int):St:={ n:=68,sl:=[(0,.val (.af bg) J.1),(14,.val (.af bg) J.1),(15,.val i64 (J.1.length:Int)),(16,.val i64 U)],vr:=[],ax:=[] }
noncomputable def S0 (rec:RT Out) (J:Arg):(Int)->Option Out:=λU=>rec (T0 J U)
noncomputable def cT (K:KT Out) (J:Arg):(Unit)->Option Out:=λz=>K (.exit 0) ({ n:=68,sl:=[(0,.val (.af bg) J.1)],vr:=[],ax:=[] })
noncomputable def b0 (self:Int->Option Out) (e0:(Unit)->Option Out) (J:Arg) (U:Int):Option Out:=bif decide (U < (J.1.length:Int)) then (if 0<=U then ((J.1[U.toNat]?).bind λbe=>(fZ.aa (be.1,())).bind λco=>bif !co.1 then (some ((3:Int),())) else bif decide ((0:Int) < U) then (if 0<=ap (U - (1:Int)) then ((J.1[(ap (U - (1:Int))).toNat]?).bind λjL=>bif decide (be.1<=jL.1) then (some ((1:Int),())) else (bf.aa (be,())).bind λni=>bif !decide (ni.1=(0:Int)) then (some (ni.1,())) else self (ap (U+(1:Int)))) else none) else (bf.aa (be,())).bind λwy=>bif !decide (wy.1=(0:Int)) then (some (wy.1,())) else self (ap (U+(1:Int)))) else none) else e0 ()
noncomputable abbrev B0 (_:Nat):=b0
theorem iY (k:Nat) (rec:RT Out) (K:KT Out) (J:Arg) (U:Int):D.N k [1,1,0,1,0,0] (T0 J U) (fd rec (dg [0,14,15,16] []) K)=b0 (S0 rec J) (cT K J) J U:=by kernel_rfl
noncomputable def T1 (J:Arg) (bU:(List Tx)×(List (Key×Bool))×(List Tx)×Int×Int):St:={ n:=68,sl:=[(0,.val (.af bg) bU.1),(6,.own (.map aA .bool) (aF (.map aA .bool)) [] bU.2.1),(45,.val (.af bg) bU.2.2.1),(46,.val i64 bU.2.2.2.1),(47,.val i64 bU.2.2.2.2)],vr:=[],ax:=[] }
noncomputable def S1 (rec:RT Out) (J:Arg):((List Tx)×(List (Key×Bool))×(List Tx)×Int×Int)->Option Out:=λbU=>rec (T1 J bU)
noncomputable def fh (K:KT Out) (J:Arg):(List Tx)->Option Out:=λz=>K (.exit 2) ({ n:=68,sl:=[(0,.val (.af bg) z)],vr:=[],ax:=[] })
noncomputable def T2 (J:Arg) (cK:List Tx) (lL:List Tx) (lM:Int) (lN:Int) (lO:List Key) (lP:Int) (eg:(List (Key×Bool))×Int):St:={ n:=68,sl:=[(0,.val (.af bg) cK),(6,.own (.map aA .bool) (aF (.map aA .bool)) [] eg.1),(45,.val (.af bg) lL),(46,.val i64 lM),(47,.val i64 lN),(52,.val (.af aA) lO),(53,.val i64 lP),(54,.val i64 eg.2)],vr:=[],ax:=[] }
noncomputable def b2 (self:((List (Key×Bool))×Int)->Option Out) (e4:(List (Key×Bool))->Option Out) (J:Arg) (cK:List Tx) (lL:List Tx) (lM:Int) (lN:Int) (lO:List Key) (lP:Int) (eg:(List (Key×Bool))×Int):Option Out:=bif decide (eg.2 < lP) then (if 0<=eg.2 then ((lO[eg.2.toNat]?).bind λHg=>bif yB (fH aA eg.1 Hg) false then (some ((7:Int),())) else self (fI aA eg.1 Hg true,ap (eg.2+(1:Int)))) else none) else e4 eg.1
noncomputable abbrev B2 (_:Nat):=b2
noncomputable def q1 (self:((List Tx)×(List (Key×Bool))×(List Tx)×Int×Int)->Option Out) (e2:(List Tx)->Option Out) (J:Arg) (cK:List Tx) (lL:List Tx) (lM:Int) (lN:Int) (lO:List Key) (lP:Int) (KC:(List (Key×Bool))):Option Out:=self (cK,KC,lL,lM,ap (lN+(1:Int)))
noncomputable abbrev Q1 (_:Nat):=q1
noncomputable def s2 (k:Nat) (rec:RT Out) (K:KT Out) (J:Arg):(List Tx)->(List Tx)->Int->Int->(List Key)->Int->((List (Key×Bool))×Int)->Option Out:=λcK lL lM lN lO lP=>λeg=>D.L k [1,1,1,1,0,1,0,0,1,1,0,0,1,1,0,0] [0,6,45,46,47,52,53,54] [] (ag 4 (ag 3 (aJ (D.N k [1,1,1,1,0,1,0,0,1,1,1]) (fd rec (dg [0,6,45,46,47] []) K)))) (T2 J cK lL lM lN lO lP eg)
noncomputable def r2 (k:Nat) (self:((List Tx)×(List (Key×Bool))×(List Tx)×Int×Int)->Option Out) (e2:(List Tx)->Option Out) (J:Arg):(List Tx)->(List Tx)->Int->Int->(List Key)->Int->((List (Key×Bool))×Int)->Option Out:=λcK lL lM lN lO lP=>au (λw v=>B2 k w (Q1 k self e2 J cK lL lM lN lO lP) J cK lL lM lN lO lP v) k
theorem nE (k:Nat) (rec:RT Out) (K:KT Out) (J:Arg):s2 k rec K J=r2 k (S1 rec J) (fh K J) J:=
 funext λcK=>funext λlL=>funext λlM=>funext λlN=>funext λlO=>funext λlP=>funext λeg=>aN _ _ _ (T2 J cK lL lM lN lO lP) _ (λrec v=>by kernel_rfl) k eg
noncomputable def b1 (self:((List Tx)×(List (Key×Bool))×(List Tx)×Int×Int)->Option Out) (e2:(List Tx)->Option Out) (l2:(List Tx)->(List Tx)->Int->Int->(List Key)->Int->((List (Key×Bool))×Int)->Option Out) (J:Arg) (bU:(List Tx)×(List (Key×Bool))×(List Tx)×Int×Int):Option Out:=bif decide (bU.2.2.2.2 < bU.2.2.2.1) then (if 0<=bU.2.2.2.2 then ((bU.2.2.1[bU.2.2.2.2.toNat]?).bind λmD=>l2 bU.1 bU.2.2.1 bU.2.2.2.1 bU.2.2.2.2 mD.2.2.2.1 (mD.2.2.2.1.length:Int) (bU.2.1,(0:Int))) else none) else e2 bU.1
noncomputable def B1 (k:Nat) (self:((List Tx)×(List (Key×Bool))×(List Tx)×Int×Int)->Option Out) (e2:(List Tx)->Option Out) (J:Arg) (bU:(List Tx)×(List (Key×Bool))×(List Tx)×Int×Int):Option Out:=b1 self e2 (r2 k self e2 J) J bU
theorem nD (k:Nat) (rec:RT Out) (K:KT Out) (J:Arg) (bU:(List Tx)×(List (Key×Bool))×(List Tx)×Int×Int):D.N k [1,1,1,1,0,1,0,0] (T1 J bU) (fd rec (dg [0,6,45,46,47] []) K)=B1 k (S1 rec J) (fh K J) J bU:=
 Eq.trans (b:=b1 (S1 rec J) (fh K J) (s2 k rec K J) J bU) (by kernel_rfl) (by rw[nE];rfl)
noncomputable def q2 (J:Arg) (yi:(List Tx)):Option Out:=(cj.aa (yi,())).bind λKD=>bif decide ((12:Int) < KD.1) then (some ((2:Int),())) else some ((0:Int),())
noncomputable abbrev Q2 (_:Nat):=q2
theorem vw (k:Nat) (J:Arg) (yi:(List Tx)):fh (ag 2 (aJ (D.N k [1,1,1,1,1]) D.K0)) J yi=q2 J yi:=by kernel_rfl
noncomputable def s1 (k:Nat) (J:Arg):((List Tx)×(List (Key×Bool))×(List Tx)×Int×Int)->Option Out:=λbU=>D.L k [1,1,1,1,0,1,0,0] [0,6,45,46,47] [] (ag 2 (aJ (D.N k [1,1,1,1,1]) D.K0)) (T1 J bU)
noncomputable def r1 (k:Nat) (J:Arg):((List Tx)×(List (Key×Bool))×(List Tx)×Int×Int)->Option Out:=au (λw v=>B1 k w (Q2 k J) J v) k
theorem iX (k:Nat) (J:Arg):s1 k J=r1 k J:=by
 funext bU;
 have Y:fh (ag 2 (aJ (D.N k [1,1,1,1,1]) D.K0)) J=Q2 k J:=funext λz=>vw k J z
 refine (aN _ _ _ (T1 J) (λself v=>B1 k self (fh (ag 2 (aJ (D.N k [1,1,1,1,1]) D.K0)) J) J v) (λrec v=>nD k rec (ag 2 (aJ (D.N k [1,1,1,1,1]) D.K0)) J v) k bU).trans ?_
 rw[Y]
 rfl
noncomputable def q0 (l1:((List Tx)×(List (Key×Bool))×(List Tx)×Int×Int)->Option Out) (J:Arg) (pM:(Unit)):Option Out:=l1 (J.1,([]:List (Key×Bool)),J.1,(J.1.length:Int),(0:Int))
noncomputable def Q0 (k:Nat) (J:Arg) (pM:(Unit)):Option Out:=q0 (r1 k J) J pM
theorem nF (k:Nat) (J:Arg) (pM:(Unit)):cT (ag 0 (aJ (D.N k [1,1,1]) D.K0)) J pM=Q0 k J pM:=
 Eq.trans (b:=q0 (s1 k J) J pM) (by kernel_rfl) (by rw[iX];rfl)
noncomputable def s0 (k:Nat) (J:Arg):(Int)->Option Out:=λU=>D.L k [1,1,0,1,0,0] [0,14,15,16] [] (ag 0 (aJ (D.N k [1,1,1]) D.K0)) (T0 J U)
noncomputable def r0 (k:Nat) (J:Arg):(Int)->Option Out:=au (λw v=>B0 k w (Q0 k J) J v) k
theorem aR (k:Nat) (J:Arg):s0 k J=r0 k J:=by
 funext U;
 have h0:cT (ag 0 (aJ (D.N k [1,1,1]) D.K0)) J=Q0 k J:=funext λz=>nF k J z
 refine (aN _ _ _ (T0 J) (λself v=>B0 k self (cT (ag 0 (aJ (D.N k [1,1,1]) D.K0)) J) J v) (λrec v=>iY k rec (ag 0 (aJ (D.N k [1,1,1]) D.K0)) J v) k U).trans ?_
 rw[h0]
 rfl
noncomputable def p (l0:(Int)->Option Out) (J:Arg):Option Out:=bif decide ((4:Int) < (J.1.length:Int)) then (some ((2:Int),())) else l0 (0:Int)
theorem ab (k:Nat) (J:Arg):@Eq (Option Out) (D.W k J) (p (r0 k J) J):=
 Eq.trans (b:=p (s0 k J) J) (by kernel_rfl) (by rw[aR])
theorem ok:Ok prog 17 D.sig:=az func17 aO (by kernel_rfl) (fc fZ.ok (fc cj.ok (fc bf.ok (an _))))
end av
namespace br
abbrev Arg:Type:=(List Row)×Unit
abbrev Out:Type:=Int×Unit
abbrev ps:PQ:=[(.ro,(.af aw))]
noncomputable def D:FD:={ fn:=f24,tl:=bn,ps:=ps,rs:=[(i64,(ai i64))],gl:=[(41,bp.D.sig),(57,dZ.D.sig)],lv:=[(4,[0,9,10,11])],lx:=[(0,[])],od:=[(9,[0,1,2,3,4,5,6,7,8,9,10,11])] }
noncomputable def aa (a:Arg):Option Out:=@lift Out λk=>D.W k a
noncomputable def T0 (J:Arg) (U:Int):St:={ n:=34,sl:=[(0,.val (.af aw) J.1),(9,.val (.af aw) J.1),(10,.val i64 (J.1.length:Int)),(11,.val i64 U)],vr:=[],ax:=[] }
noncomputable def b0 (self:Int->Option Out) (e0:(Unit)->Option Out) (J:Arg) (U:Int):Option Out:=bif decide (U < (J.1.length:Int)) then (if 0<=U then ((J.1[U.toNat]?).bind λbe=>(bp.aa (be,())).bind λco=>bif !decide (co.1=(0:Int)) then (some (co.1,())) else bif decide ((0:Int) < U) then (if 0<=ap (U - (1:Int)) then ((J.1[(ap (U - (1:Int))).toNat]?).bind λjL=>(dZ.aa (jL,be,())).bind λiJ=>bif !iJ.1 then (some ((1:Int),())) else self (ap (U+(1:Int)))) else none) else self (ap (U+(1:Int)))) else none) else e0 ()
noncomputable abbrev B0 (_:Nat):=b0
noncomputable def q0 (J:Arg) (jK:(Unit)):Option Out:=some ((0:Int),())
noncomputable abbrev Q0 (_:Nat):=q0
noncomputable def s0 (k:Nat) (J:Arg):(Int)->Option Out:=λU=>D.L k [1,1,0,1,0,0] [0,9,10,11] [] (ag 0 (aJ (D.N k [1,1,1]) D.K0)) (T0 J U)
noncomputable def r0 (k:Nat) (J:Arg):(Int)->Option Out:=au (λw v=>B0 k w (Q0 k J) J v) k
theorem aR (k:Nat) (J:Arg):s0 k J=r0 k J:=
 funext λU=>aN _ _ _ (T0 J) _ (λrec v=>by kernel_rfl) k U
noncomputable def p (l0:(Int)->Option Out) (J:Arg):Option Out:=bif decide ((60:Int) < (J.1.length:Int)) then (some ((2:Int),())) else l0 (0:Int)
theorem ab (k:Nat) (J:Arg):@Eq (Option Out) (D.W k J) (p (r0 k J) J):=
 Eq.trans (b:=p (s0 k J) J) (by kernel_rfl) (by rw[aR])
theorem ok:Ok prog 24 D.sig:=az func24 aO (by kernel_rfl) (fc bp.ok (fc dZ.ok (an _)))
end br
namespace jt
abbrev Arg:Type:=Tx×Int×Unit
abbrev Out:Type:=Bool×Unit
abbrev ps:PQ:=[(.ro,bg),(.ro,(.ptr i64))]
noncomputable def D:FD:={ fn:=f59,tl:=bn,ps:=ps,rs:=[(.bool,(ai .bool))],cap:=true }
noncomputable def aa (a:Arg):Option Out:=@lift Out λk=>D.W k a
noncomputable def p (J:Arg):Option Out:=some (decide (J.1.1=J.2.1),())
theorem ab (k:Nat) (J:Arg):@Eq (Option Out) (D.W k J) (p J):=by kernel_rfl
theorem ok:Ok prog 59 D.sig:=az func59 aO (by kernel_rfl) (an _)
end jt
namespace bL
abbrev Arg:Type:=(List Tx)×(Nat×Int)×Unit
abbrev Out:Type:=Int×Unit
abbrev ps:PQ:=[(.ro,(.af bg)),(.fix 59,.fn)]
noncomputable def D:FD:={ fn:=f58,tl:=bn,ps:=ps,rs:=[(i64,(ai i64))],gl:=[(59,jt.D.sig)],lv:=[(2,[0,1,7,8])],lx:=[(0,[])] }
noncomputable def aa (a:Arg):Option Out:=@lift Out λk=>D.W k a
noncomputable def T0 (J:Arg) (U:Int):St:={ n:=19,sl:=[(0,.val (.af bg) J.1),(1,.val .fn ((59,J.2.1.2):Nat×Int)),(7,.val i64 (J.1.length:Int)),(8,.val i64 U)],vr:=[],ax:=[] }
noncomputable def b0 (self:Int->Option Out) (e0:(Unit)->Option Out) (J:Arg) (U:Int):Option Out:=bif decide (U < (J.1.length:Int)) then (if 0<=U then ((J.1[U.toNat]?).bind λbe=>(jt.aa (be,J.2.1.2,())).bind λco=>bif co.1 then (some (U,())) else self (ap (U+(1:Int)))) else none) else e0 ()
noncomputable abbrev B0 (_:Nat):=b0
noncomputable def q0 (J:Arg) (dL:(Unit)):Option Out:=some ((-1:Int),())
noncomputable abbrev Q0 (_:Nat):=q0
noncomputable def s0 (k:Nat) (J:Arg):(Int)->Option Out:=λU=>D.L k [1,0,1,0,0] [0,1,7,8] [] (ag 0 (aJ (D.N k [1,1]) D.K0)) (T0 J U)
noncomputable def r0 (k:Nat) (J:Arg):(Int)->Option Out:=au (λw v=>B0 k w (Q0 k J) J v) k
theorem aR (k:Nat) (J:Arg):s0 k J=r0 k J:=
 funext λU=>aN _ _ _ (T0 J) _ (λrec v=>by kernel_rfl) k U
noncomputable def p (l0:(Int)->Option Out) (J:Arg):Option Out:=l0 (0:Int)
theorem ab (k:Nat) (J:Arg):@Eq (Option Out) (D.W k J) (p (r0 k J) J):=
 Eq.trans (b:=p (s0 k J) J) (by kernel_rfl) (by rw[aR])
theorem ok:Ok prog 58 D.sig:=az func58 aO (by kernel_rfl) (fc jt.ok (an _))
end bL
namespace f0
abbrev Arg:Type:=(List Tx)×Int×Unit
abbrev Out:Type:=Int×Unit
abbrev ps:PQ:=[(.ro,(.af bg)),(.ro,i64)]
noncomputable def D:FD:={ fn:=f25,tl:=bn,ps:=ps,rs:=[(i64,(ai i64))],gl:=[(58,bL.D.sig)] }
noncomputable def aa (a:Arg):Option Out:=@lift Out λk=>D.W k a
noncomputable def p (J:Arg):Option Out:=(bL.aa (J.1,((59,J.2.1):Nat×Int),())).bind λr2=>some (r2.1,())
theorem ab (k:Nat) (J:Arg):@Eq (Option Out) (D.W k J) (p J):=by kernel_rfl
theorem ok:Ok prog 25 D.sig:=az func25 aO (by kernel_rfl) (fc bL.ok (an _))
end f0
namespace aV
abbrev Arg:Type:=(List Row)×(List Tx)×Unit
abbrev Out:Type:=(List (Key×Bool))×Unit
abbrev ps:PQ:=[(.ro,(.af aw)),(.ro,(.af bg))]
noncomputable def D:FD:={ fn:=f51,tl:=bn,ps:=ps,rs:=[((.map aA .bool),(aF (.map aA .bool)))],lv:=[(3,[1,5,13,14,15]),(8,[5,26,27,28]),(11,[5,26,27,28,33,34,35])],lx:=[(0,[1,5]),(2,[5]),(4,[5,26,27,28])] }
noncomputable def aa (a:Arg):Option Out:=@lift Out λk=>D.W k a
noncomputable def T0 (J:Arg) (U:(List (Key×Bool))×Int):St:={ n:=44,sl:=[(1,.val (.af bg) J.2.1),(5,.own (.map aA .bool) (aF (.map aA .bool)) [] U.1),(13,.val (.af aw) J.1),(14,.val i64 (J.1.length:Int)),(15,.val i64 U.2)],vr:=[],ax:=[] }
noncomputable def S0 (rec:RT Out) (J:Arg):((List (Key×Bool))×Int)->Option Out:=λU=>rec (T0 J U)
noncomputable def cT (K:KT Out) (J:Arg):(List (Key×Bool))->Option Out:=λz=>K (.exit 0) ({ n:=44,sl:=[(1,.val (.af bg) J.2.1),(5,.own (.map aA .bool) (aF (.map aA .bool)) [] z)],vr:=[],ax:=[] })
noncomputable def b0 (self:((List (Key×Bool))×Int)->Option Out) (e0:(List (Key×Bool))->Option Out) (J:Arg) (U:(List (Key×Bool))×Int):Option Out:=bif decide (U.2 < (J.1.length:Int)) then (if 0<=U.2 then ((J.1[U.2.toNat]?).bind λbe=>let FI:=fI aA U.1 (be.1,be.2.1,()) true;self (FI,ap (U.2+(1:Int)))) else none) else e0 U.1
noncomputable abbrev B0 (_:Nat):=b0
theorem iY (k:Nat) (rec:RT Out) (K:KT Out) (J:Arg) (U:(List (Key×Bool))×Int):D.N k [1,1,0,1,0,0] (T0 J U) (fd rec (dg [1,5,13,14,15] []) K)=b0 (S0 rec J) (cT K J) J U:=by kernel_rfl
noncomputable def T1 (J:Arg) (bT:(List (Key×Bool))×(List Tx)×Int×Int):St:={ n:=44,sl:=[(5,.own (.map aA .bool) (aF (.map aA .bool)) [] bT.1),(26,.val (.af bg) bT.2.1),(27,.val i64 bT.2.2.1),(28,.val i64 bT.2.2.2)],vr:=[],ax:=[] }
noncomputable def S1 (rec:RT Out) (J:Arg):((List (Key×Bool))×(List Tx)×Int×Int)->Option Out:=λbT=>rec (T1 J bT)
noncomputable def fh (K:KT Out) (J:Arg):(List (Key×Bool))->Option Out:=λz=>K (.exit 2) ({ n:=44,sl:=[(5,.own (.map aA .bool) (aF (.map aA .bool)) [] z)],vr:=[],ax:=[] })
noncomputable def T2 (J:Arg) (lQ:List Tx) (lR:Int) (lS:Int) (eQ:List Key) (cK:Int) (jZ:(List (Key×Bool))×Int):St:={ n:=44,sl:=[(5,.own (.map aA .bool) (aF (.map aA .bool)) [] jZ.1),(26,.val (.af bg) lQ),(27,.val i64 lR),(28,.val i64 lS),(33,.val (.af aA) eQ),(34,.val i64 cK),(35,.val i64 jZ.2)],vr:=[],ax:=[] }
noncomputable def b2 (self:((List (Key×Bool))×Int)->Option Out) (e4:(List (Key×Bool))->Option Out) (J:Arg) (lQ:List Tx) (lR:Int) (lS:Int) (eQ:List Key) (cK:Int) (jZ:(List (Key×Bool))×Int):Option Out:=bif decide (jZ.2 < cK) then (if 0<=jZ.2 then ((eQ[jZ.2.toNat]?).bind λCG=>self (fI aA jZ.1 CG true,ap (jZ.2+(1:Int)))) else none) else e4 jZ.1
noncomputable abbrev B2 (_:Nat):=b2
noncomputable def q1 (self:((List (Key×Bool))×(List Tx)×Int×Int)->Option Out) (e2:(List (Key×Bool))->Option Out) (J:Arg) (lQ:List Tx) (lR:Int) (lS:Int) (eQ:List Key) (cK:Int) (KE:(List (Key×Bool))):Option Out:=self (KE,lQ,lR,ap (lS+(1:Int)))
noncomputable abbrev Q1 (_:Nat):=q1
noncomputable def s2 (k:Nat) (rec:RT Out) (K:KT Out) (J:Arg):(List Tx)->Int->Int->(List Key)->Int->((List (Key×Bool))×Int)->Option Out:=λlQ lR lS eQ cK=>λjZ=>D.L k [1,1,1,0,1,0,0,1,1,0,0,1,1,0,0] [5,26,27,28,33,34,35] [] (ag 4 (ag 3 (aJ (D.N k [1,1,1,0,1,0,0,1,1,1]) (fd rec (dg [5,26,27,28] []) K)))) (T2 J lQ lR lS eQ cK jZ)
noncomputable def r2 (k:Nat) (self:((List (Key×Bool))×(List Tx)×Int×Int)->Option Out) (e2:(List (Key×Bool))->Option Out) (J:Arg):(List Tx)->Int->Int->(List Key)->Int->((List (Key×Bool))×Int)->Option Out:=λlQ lR lS eQ cK=>au (λw v=>B2 k w (Q1 k self e2 J lQ lR lS eQ cK) J lQ lR lS eQ cK v) k
theorem nE (k:Nat) (rec:RT Out) (K:KT Out) (J:Arg):s2 k rec K J=r2 k (S1 rec J) (fh K J) J:=
 funext λlQ=>funext λlR=>funext λlS=>funext λeQ=>funext λcK=>funext λjZ=>aN _ _ _ (T2 J lQ lR lS eQ cK) _ (λrec v=>by kernel_rfl) k jZ
noncomputable def b1 (self:((List (Key×Bool))×(List Tx)×Int×Int)->Option Out) (e2:(List (Key×Bool))->Option Out) (l2:(List Tx)->Int->Int->(List Key)->Int->((List (Key×Bool))×Int)->Option Out) (J:Arg) (bT:(List (Key×Bool))×(List Tx)×Int×Int):Option Out:=bif decide (bT.2.2.2 < bT.2.2.1) then (if 0<=bT.2.2.2 then ((bT.2.1[bT.2.2.2.toNat]?).bind λqS=>l2 bT.2.1 bT.2.2.1 bT.2.2.2 qS.2.2.2.1 (qS.2.2.2.1.length:Int) (bT.1,(0:Int))) else none) else e2 bT.1
noncomputable def B1 (k:Nat) (self:((List (Key×Bool))×(List Tx)×Int×Int)->Option Out) (e2:(List (Key×Bool))->Option Out) (J:Arg) (bT:(List (Key×Bool))×(List Tx)×Int×Int):Option Out:=b1 self e2 (r2 k self e2 J) J bT
theorem nD (k:Nat) (rec:RT Out) (K:KT Out) (J:Arg) (bT:(List (Key×Bool))×(List Tx)×Int×Int):D.N k [1,1,1,0,1,0,0] (T1 J bT) (fd rec (dg [5,26,27,28] []) K)=B1 k (S1 rec J) (fh K J) J bT:=
 Eq.trans (b:=b1 (S1 rec J) (fh K J) (s2 k rec K J) J bT) (by kernel_rfl) (by rw[nE];rfl)
noncomputable def q2 (J:Arg) (sW:(List (Key×Bool))):Option Out:=some (sW,())
noncomputable abbrev Q2 (_:Nat):=q2
theorem vw (k:Nat) (J:Arg) (sW:(List (Key×Bool))):fh (ag 2 (aJ (D.N k [1,1,1,1]) D.K0)) J sW=q2 J sW:=by kernel_rfl
noncomputable def s1 (k:Nat) (J:Arg):((List (Key×Bool))×(List Tx)×Int×Int)->Option Out:=λbT=>D.L k [1,1,1,0,1,0,0] [5,26,27,28] [] (ag 2 (aJ (D.N k [1,1,1,1]) D.K0)) (T1 J bT)
noncomputable def r1 (k:Nat) (J:Arg):((List (Key×Bool))×(List Tx)×Int×Int)->Option Out:=au (λw v=>B1 k w (Q2 k J) J v) k
theorem iX (k:Nat) (J:Arg):s1 k J=r1 k J:=by
 funext bT;
 have Y:fh (ag 2 (aJ (D.N k [1,1,1,1]) D.K0)) J=Q2 k J:=funext λz=>vw k J z
 refine (aN _ _ _ (T1 J) (λself v=>B1 k self (fh (ag 2 (aJ (D.N k [1,1,1,1]) D.K0)) J) J v) (λrec v=>nD k rec (ag 2 (aJ (D.N k [1,1,1,1]) D.K0)) J v) k bT).trans ?_
 rw[Y]
 rfl
noncomputable def q0 (l1:((List (Key×Bool))×(List Tx)×Int×Int)->Option Out) (J:Arg) (dL:(List (Key×Bool))):Option Out:=l1 (dL,J.2.1,(J.2.1.length:Int),(0:Int))
noncomputable def Q0 (k:Nat) (J:Arg) (dL:(List (Key×Bool))):Option Out:=q0 (r1 k J) J dL
theorem nF (k:Nat) (J:Arg) (dL:(List (Key×Bool))):cT (ag 0 (aJ (D.N k [1,1,1]) D.K0)) J dL=Q0 k J dL:=
 Eq.trans (b:=q0 (s1 k J) J dL) (by kernel_rfl) (by rw[iX];rfl)
noncomputable def s0 (k:Nat) (J:Arg):((List (Key×Bool))×Int)->Option Out:=λU=>D.L k [1,1,0,1,0,0] [1,5,13,14,15] [] (ag 0 (aJ (D.N k [1,1,1]) D.K0)) (T0 J U)
noncomputable def r0 (k:Nat) (J:Arg):((List (Key×Bool))×Int)->Option Out:=au (λw v=>B0 k w (Q0 k J) J v) k
theorem aR (k:Nat) (J:Arg):s0 k J=r0 k J:=by
 funext U;
 have h0:cT (ag 0 (aJ (D.N k [1,1,1]) D.K0)) J=Q0 k J:=funext λz=>nF k J z
 refine (aN _ _ _ (T0 J) (λself v=>B0 k self (cT (ag 0 (aJ (D.N k [1,1,1]) D.K0)) J) J v) (λrec v=>iY k rec (ag 0 (aJ (D.N k [1,1,1]) D.K0)) J v) k U).trans ?_
 rw[h0]
 rfl
noncomputable def p (l0:((List (Key×Bool))×Int)->Option Out) (J:Arg):Option Out:=l0 (([]:List (Key×Bool)),(0:Int))
theorem ab (k:Nat) (J:Arg):@Eq (Option Out) (D.W k J) (p (r0 k J) J):=
 Eq.trans (b:=p (s0 k J) J) (by kernel_rfl) (by rw[aR])
theorem ok:Ok prog 51 D.sig:=az func51 aO (by kernel_rfl) (an _)
end aV
namespace aq
abbrev Arg:Type:=(List Row)×Row×(Nat×Int)×Unit
abbrev Out:Type:=Int×Bool×Unit
abbrev ps:PQ:=[(.ro,(.af aw)),(.ro,aw),(.fix 61,.fn)]
noncomputable def D:FD:={ fn:=f60,tl:=bn,ps:=ps,rs:=[(i64,(ai i64)),(.bool,(ai .bool))],gl:=[(61,eP.D.sig)],lv:=[(3,[0,2,4,8,9,10])],lx:=[(0,[0,2,4,8,9])],od:=[(5,[0,1,2,3,4,5,6,7]),(8,[0,1,2,3,4,5,6,7,8,9,10,11,12,13,14,15])] }
noncomputable def aa (a:Arg):Option Out:=@lift Out λk=>D.W k a
noncomputable def T0 (J:Arg) (U:Int×Int):St:={ n:=49,sl:=[(0,.val (.af aw) J.1),(2,.val .fn ((61,J.2.2.1.2):Nat×Int)),(4,.box aw (ai aw) [] J.2.1),(8,.val i64 (J.1.length:Int)),(9,.val i64 U.1),(10,.val i64 U.2)],vr:=[],ax:=[] }
noncomputable def b0 (self:(Int×Int)->Option Out) (e0:Int->Option Out) (J:Arg) (U:Int×Int):Option Out:=bif decide (U.1 < U.2) then (if 0<=ap ((IntKind.wrap .u64 (ap (U.1+U.2))).fdiv (2 ^ 1)) then ((J.1[(ap ((IntKind.wrap .u64 (ap (U.1+U.2))).fdiv (2 ^ 1))).toNat]?).bind λbe=>(eP.aa (be,J.2.1,())).bind λco=>bif decide (co.1 < (0:Int)) then (self (ap ((ap ((IntKind.wrap .u64 (ap (U.1+U.2))).fdiv (2 ^ 1)))+(1:Int)),U.2)) else self (U.1,ap ((IntKind.wrap .u64 (ap (U.1+U.2))).fdiv (2 ^ 1)))) else none) else e0 U.1
noncomputable abbrev B0 (_:Nat):=b0
noncomputable def q0 (J:Arg) (dL:Int):Option Out:=bif decide (dL < (J.1.length:Int)) then (if 0<=dL then ((J.1[dL.toNat]?).bind λuj=>(eP.aa (uj,J.2.1,())).bind λni=>some (dL,decide (ni.1=(0:Int)),())) else none) else some (dL,false,())
noncomputable abbrev Q0 (_:Nat):=q0
noncomputable def s0 (k:Nat) (J:Arg):(Int×Int)->Option Out:=λU=>D.L k [1,1,1,0,0,0] [0,2,4,8,9,10] [] (ag 0 (aJ (D.N k [1,1,1,1]) D.K0)) (T0 J U)
noncomputable def r0 (k:Nat) (J:Arg):(Int×Int)->Option Out:=au (λw v=>B0 k w (Q0 k J) J v) k
theorem aR (k:Nat) (J:Arg):s0 k J=r0 k J:=
 funext λU=>aN _ _ _ (T0 J) _ (λrec v=>by kernel_rfl) k U
noncomputable def p (l0:(Int×Int)->Option Out) (J:Arg):Option Out:=l0 ((0:Int),(J.1.length:Int))
theorem ab (k:Nat) (J:Arg):@Eq (Option Out) (D.W k J) (p (r0 k J) J):=
 Eq.trans (b:=p (s0 k J) J) (by kernel_rfl) (by rw[aR])
theorem ok:Ok prog 60 D.sig:=az func60 aO (by kernel_rfl) (fc eP.ok (an _))
end aq
namespace cv
abbrev Arg:Type:=(List Row)×Change×Unit
abbrev Out:Type:=Int×Unit
abbrev ps:PQ:=[(.ro,(.af aw)),(.ro,bk)]
noncomputable def D:FD:={ fn:=f82,tl:=bn,ps:=ps,rs:=[(i64,(ai i64))],gl:=[(38,cB.D.sig),(76,bl.D.sig)],lv:=[(4,[3,28,29,30])],lx:=[(0,[])],od:=[(6,[0,1,2,3,4,5,6,7,8,9,10,11,12,13,14,15,16,17,18,19,20,21,22,23,24])],ar:=[(6,[1,2,8,13,17,21])],bx:=[(3,[3]),(6,[6])] }
noncomputable def aa (a:Arg):Option Out:=@lift Out λk=>D.W k a
noncomputable def T0 (J:Arg) (kE:Int):St:={ n:=60,sl:=[(3,.cp bk J.2.1),(28,.val (.af aw) J.1),(29,.val i64 (J.1.length:Int)),(30,.val i64 kE)],vr:=[],ax:=[] }
noncomputable def b0 (self:Int->Option Out) (e0:(Unit)->Option Out) (J:Arg) (kE:Int):Option Out:=bif decide (kE < (J.1.length:Int)) then (if 0<=kE then ((J.1[kE.toNat]?).bind λvx=>(bl.aa (J.2.1,())).bind λKF=>bif decide (vx.1=KF.1.2.1) then (bif !decide (vx.1=(0:Int)) then (bif !J.2.1.2.2.1 then (some ((8:Int),())) else bif decide (J.2.1.2.2.2.1.2.2.1 < (vx.2.2.2.1.length:Int)) then (some ((8:Int),())) else self (ap (kE+(1:Int)))) else self (ap (kE+(1:Int)))) else self (ap (kE+(1:Int)))) else none) else e0 ()
noncomputable abbrev B0 (_:Nat):=b0
noncomputable def q0 (J:Arg) (mE:(Unit)):Option Out:=some ((0:Int),())
noncomputable abbrev Q0 (_:Nat):=q0
noncomputable def s0 (k:Nat) (J:Arg):(Int)->Option Out:=λkE=>D.L k [1,1,0,1,0,0] [3,28,29,30] [] (ag 0 (aJ (D.N k [1,1,1]) D.K0)) (T0 J kE)
noncomputable def r0 (k:Nat) (J:Arg):(Int)->Option Out:=au (λw v=>B0 k w (Q0 k J) J v) k
theorem aR (k:Nat) (J:Arg):s0 k J=r0 k J:=
 funext λkE=>aN _ _ _ (T0 J) _ (λrec v=>by kernel_rfl) k kE
noncomputable def p (l0:(Int)->Option Out) (J:Arg):Option Out:=let JT:Option Out:=l0 (0:Int);bif J.2.1.2.2.1 then ((cB.aa (J.2.1.2.2.2.1.2.1,(1:Int),(3:Int),())).bind λr2=>bif !r2.1 then (some ((10:Int),())) else bif decide ((8:Int) < J.2.1.2.2.2.1.2.2.1) then (some ((10:Int),())) else bif !decide (J.2.1.2.2.2.1.2.2.2.1=([]:List UInt8)) then (some ((10:Int),())) else JT) else JT
theorem ab (k:Nat) (J:Arg):@Eq (Option Out) (D.W k J) (p (r0 k J) J):=
 Eq.trans (b:=p (s0 k J) J) (by kernel_rfl) (by rw[aR])
theorem ok:Ok prog 82 D.sig:=az func82 aO (by kernel_rfl) (fc cB.ok (fc bl.ok (an _)))
end cv
namespace ep
abbrev Arg:Type:=(List Row)×Int×Unit
abbrev Out:Type:=Int×Bool×Unit
abbrev ps:PQ:=[(.ro,(.af aw)),(.ro,i64)]
noncomputable def D:FD:={ fn:=f83,tl:=bn,ps:=ps,rs:=[(i64,(ai i64)),(.bool,(ai .bool))],lv:=[(2,[1,8,9,10])],lx:=[(0,[])] }
noncomputable def aa (a:Arg):Option Out:=@lift Out λk=>D.W k a
noncomputable def T0 (J:Arg) (U:Int):St:={ n:=26,sl:=[(1,.val i64 J.2.1),(8,.val (.af aw) J.1),(9,.val i64 (J.1.length:Int)),(10,.val i64 U)],vr:=[],ax:=[] }
noncomputable def b0 (self:Int->Option Out) (e0:(Unit)->Option Out) (J:Arg) (U:Int):Option Out:=bif decide (U < (J.1.length:Int)) then (if 0<=U then ((J.1[U.toNat]?).bind λbe=>bif decide (be.1=(0:Int)) then (bif decide (be.2.1=J.2.1) then (some (be.2.2.1,true,())) else self (ap (U+(1:Int)))) else self (ap (U+(1:Int)))) else none) else e0 ()
noncomputable abbrev B0 (_:Nat):=b0
noncomputable def q0 (J:Arg) (uh:(Unit)):Option Out:=some ((0:Int),false,())
noncomputable abbrev Q0 (_:Nat):=q0
noncomputable def s0 (k:Nat) (J:Arg):(Int)->Option Out:=λU=>D.L k [1,0,1,0,0] [1,8,9,10] [] (ag 0 (aJ (D.N k [1,1]) D.K0)) (T0 J U)
noncomputable def r0 (k:Nat) (J:Arg):(Int)->Option Out:=au (λw v=>B0 k w (Q0 k J) J v) k
theorem aR (k:Nat) (J:Arg):s0 k J=r0 k J:=
 funext λU=>aN _ _ _ (T0 J) _ (λrec v=>by kernel_rfl) k U
noncomputable def p (l0:(Int)->Option Out) (J:Arg):Option Out:=l0 (0:Int)
theorem ab (k:Nat) (J:Arg):@Eq (Option Out) (D.W k J) (p (r0 k J) J):=
 Eq.trans (b:=p (s0 k J) J) (by kernel_rfl) (by rw[aR])
theorem ok:Ok prog 83 D.sig:=az func83 aO (by kernel_rfl) (an _)
end ep
namespace hJ
abbrev Arg:Type:=(List Row)×Change×Unit
abbrev Out:Type:=Int×Unit
abbrev ps:PQ:=[(.ro,(.af aw)),(.ro,bk)]
noncomputable def D:FD:={ fn:=f62,tl:=bn,ps:=ps,rs:=[(i64,(ai i64))],gl:=[(76,bl.D.sig),(82,cv.D.sig),(83,ep.D.sig)] }
noncomputable def aa (a:Arg):Option Out:=@lift Out λk=>D.W k a
noncomputable def p (J:Arg):Option Out:=(bl.aa (J.2.1,())).bind λr2=>bif decide (r2.1.1=(0:Int)) then ((cv.aa (J.1,J.2.1,())).bind λr3=>some (r3.1,())) else bif !J.2.1.2.2.1 then (some ((0:Int),())) else (ep.aa (J.1,J.2.1.2.2.2.1.1,())).bind λr4=>bif !r4.2.1 then (some ((4:Int),())) else bif decide (r4.1 < (J.2.1.2.2.2.1.2.2.2.1.length:Int)) then (some ((10:Int),())) else some ((0:Int),())
theorem ab (k:Nat) (J:Arg):@Eq (Option Out) (D.W k J) (p J):=by kernel_rfl
theorem ok:Ok prog 62 D.sig:=az func62 aO (by kernel_rfl) (fc bl.ok (fc cv.ok (fc ep.ok (an _))))
end hJ
namespace aL
abbrev Arg:Type:=(List Row)×(List Tx)×Op×Unit
abbrev Out:Type:=aE×Unit
abbrev ps:PQ:=[(.ro,(.af aw)),(.ro,(.af bg)),(.ro,jm)]
noncomputable def D:FD:={ fn:=f26,tl:=bn,ps:=ps,rs:=[(bu,(ai bu))],gl:=[(44,cj.D.sig),(51,aV.D.sig),(60,aq.D.sig),(62,hJ.D.sig)],lv:=[(3,[0,1,5,6,7,24,25,26]),(7,[0,1,5,6,7,24,25,26,36,37,38])],lx:=[(0,[0,1,5,6,7]),(1,[0,1,5,6,7,24,25,26]),(2,[0,1,5,6,7,24,25,26])],od:=[(20,[0,1,2,3,4,5,6,7]),(22,[0,1,2,3,4,5])],ar:=[(20,[3]),(22,[1])],bx:=[(22,[5])] }
noncomputable def aa (a:Arg):Option Out:=@lift Out λk=>D.W k a
noncomputable def T0 (J:Arg) (U:(List Row)×(List Tx)×Op×aE×Key×(List Tx)×Int×Int):St:={ n:=145,sl:=[(0,.val (.af aw) U.1),(1,.val (.af bg) U.2.1),(5,.box jm (ai jm) [] U.2.2.1),(6,.box bu (ai bu) [] U.2.2.2.1),(7,.box aA (ai aA) [] U.2.2.2.2.1),(24,.val (.af bg) U.2.2.2.2.2.1),(25,.val i64 U.2.2.2.2.2.2.1),(26,.val i64 U.2.2.2.2.2.2.2)],vr:=[],ax:=[] }
noncomputable def S0 (rec:RT Out) (J:Arg):((List Row)×(List Tx)×Op×aE×Key×(List Tx)×Int×Int)->Option Out:=λU=>rec (T0 J U)
noncomputable def cT (K:KT Out) (J:Arg):((List Row)×(List Tx)×Op×aE×Key)->Option Out:=λz=>K (.exit 0) ({ n:=145,sl:=[(0,.val (.af aw) z.1),(1,.val (.af bg) z.2.1),(5,.box jm (ai jm) [] z.2.2.1),(6,.box bu (ai bu) [] z.2.2.2.1),(7,.box aA (ai aA) [] z.2.2.2.2)],vr:=[],ax:=[] })
noncomputable def T1 (J:Arg) (cg:List Row) (ft:List Tx) (ec:Op) (cD:aE) (gM:Key) (lT:List Tx) (fu:Int) (lU:Int) (lV:List Key) (lW:Int) (eC:Int):St:={ n:=145,sl:=[(0,.val (.af aw) cg),(1,.val (.af bg) ft),(5,.box jm (ai jm) [] ec),(6,.box bu (ai bu) [] cD),(7,.box aA (ai aA) [] gM),(24,.val (.af bg) lT),(25,.val i64 fu),(26,.val i64 lU),(36,.val (.af aA) lV),(37,.val i64 lW),(38,.val i64 eC)],vr:=[],ax:=[] }
noncomputable def b1 (self:Int->Option Out) (e2:(Unit)->Option Out) (J:Arg) (cg:List Row) (ft:List Tx) (ec:Op) (cD:aE) (gM:Key) (lT:List Tx) (fu:Int) (lU:Int) (lV:List Key) (lW:Int) (eC:Int):Option Out:=bif decide (eC < lW) then (if 0<=eC then ((lV[eC.toNat]?).bind λyj=>bif (Ty.eq aA yj gM) then (some (((7:Int),false,(false,((0:Int),(0:Int),(0:Int),([]:List UInt8),()),false,((0:Int),(0:Int),(0:Int),([]:List UInt8),()),()),()),())) else bif !decide (gM.1=(0:Int)) then (bif (Ty.eq aA yj ((0:Int),gM.1,())) then (some (((7:Int),false,(false,((0:Int),(0:Int),(0:Int),([]:List UInt8),()),false,((0:Int),(0:Int),(0:Int),([]:List UInt8),()),()),()),())) else bif decide (gM.1=(0:Int)) then (bif decide (yj.1=gM.2.1) then (some (((7:Int),false,(false,((0:Int),(0:Int),(0:Int),([]:List UInt8),()),false,((0:Int),(0:Int),(0:Int),([]:List UInt8),()),()),()),())) else self (ap (eC+(1:Int)))) else self (ap (eC+(1:Int)))) else bif decide (gM.1=(0:Int)) then (bif decide (yj.1=gM.2.1) then (some (((7:Int),false,(false,((0:Int),(0:Int),(0:Int),([]:List UInt8),()),false,((0:Int),(0:Int),(0:Int),([]:List UInt8),()),()),()),())) else self (ap (eC+(1:Int)))) else self (ap (eC+(1:Int)))) else none) else e2 ()
noncomputable abbrev B1 (_:Nat):=b1
noncomputable def q0 (self:((List Row)×(List Tx)×Op×aE×Key×(List Tx)×Int×Int)->Option Out) (e0:((List Row)×(List Tx)×Op×aE×Key)->Option Out) (J:Arg) (cg:List Row) (ft:List Tx) (ec:Op) (cD:aE) (gM:Key) (lT:List Tx) (fu:Int) (lU:Int) (lV:List Key) (lW:Int) (Og:(Unit)):Option Out:=self (cg,ft,ec,cD,gM,lT,fu,ap (lU+(1:Int)))
noncomputable abbrev Q0 (_:Nat):=q0
noncomputable def s1 (k:Nat) (rec:RT Out) (K:KT Out) (J:Arg):(List Row)->(List Tx)->Op->aE->Key->(List Tx)->Int->Int->(List Key)->Int->(Int)->Option Out:=λcg ft ec cD gM lT fu lU lV lW=>λeC=>D.L k [1,1,0,1,0,0,1,1,0,0,1,1,1,0,0] [0,1,5,6,7,24,25,26,36,37,38] [] (ag 2 (ag 1 (aJ (D.N k [1,1,0,1,0,0,1,1,1]) (fd rec (dg [0,1,5,6,7,24,25,26] []) K)))) (T1 J cg ft ec cD gM lT fu lU lV lW eC)
noncomputable def r1 (k:Nat) (self:((List Row)×(List Tx)×Op×aE×Key×(List Tx)×Int×Int)->Option Out) (e0:((List Row)×(List Tx)×Op×aE×Key)->Option Out) (J:Arg):(List Row)->(List Tx)->Op->aE->Key->(List Tx)->Int->Int->(List Key)->Int->(Int)->Option Out:=λcg ft ec cD gM lT fu lU lV lW=>au (λw v=>B1 k w (Q0 k self e0 J cg ft ec cD gM lT fu lU lV lW) J cg ft ec cD gM lT fu lU lV lW v) k
theorem iX (k:Nat) (rec:RT Out) (K:KT Out) (J:Arg):s1 k rec K J=r1 k (S0 rec J) (cT K J) J:=
 funext λcg=>funext λft=>funext λec=>funext λcD=>funext λgM=>funext λlT=>funext λfu=>funext λlU=>funext λlV=>funext λlW=>funext λeC=>aN _ _ _ (T1 J cg ft ec cD gM lT fu lU lV lW) _ (λrec v=>by kernel_rfl) k eC
noncomputable def b0 (self:((List Row)×(List Tx)×Op×aE×Key×(List Tx)×Int×Int)->Option Out) (e0:((List Row)×(List Tx)×Op×aE×Key)->Option Out) (l1:(List Row)->(List Tx)->Op->aE->Key->(List Tx)->Int->Int->(List Key)->Int->(Int)->Option Out) (J:Arg) (U:(List Row)×(List Tx)×Op×aE×Key×(List Tx)×Int×Int):Option Out:=bif decide (U.2.2.2.2.2.2.2 < U.2.2.2.2.2.2.1) then (if 0<=U.2.2.2.2.2.2.2 then ((U.2.2.2.2.2.1[U.2.2.2.2.2.2.2.toNat]?).bind λbe=>bif decide (be.1=U.2.2.1.2.1) then (self (U.1,U.2.1,U.2.2.1,U.2.2.2.1,U.2.2.2.2.1,U.2.2.2.2.2.1,U.2.2.2.2.2.2.1,ap (U.2.2.2.2.2.2.2+(1:Int)))) else l1 U.1 U.2.1 U.2.2.1 U.2.2.2.1 U.2.2.2.2.1 U.2.2.2.2.2.1 U.2.2.2.2.2.2.1 U.2.2.2.2.2.2.2 be.2.2.2.1 (be.2.2.2.1.length:Int) (0:Int)) else none) else e0 (U.1,U.2.1,U.2.2.1,U.2.2.2.1,U.2.2.2.2.1)
noncomputable def B0 (k:Nat) (self:((List Row)×(List Tx)×Op×aE×Key×(List Tx)×Int×Int)->Option Out) (e0:((List Row)×(List Tx)×Op×aE×Key)->Option Out) (J:Arg) (U:(List Row)×(List Tx)×Op×aE×Key×(List Tx)×Int×Int):Option Out:=b0 self e0 (r1 k self e0 J) J U
theorem iY (k:Nat) (rec:RT Out) (K:KT Out) (J:Arg) (U:(List Row)×(List Tx)×Op×aE×Key×(List Tx)×Int×Int):D.N k [1,1,0,1,0,0] (T0 J U) (fd rec (dg [0,1,5,6,7,24,25,26] []) K)=B0 k (S0 rec J) (cT K J) J U:=
 Eq.trans (b:=b0 (S0 rec J) (cT K J) (s1 k rec K J) J U) (by kernel_rfl) (by rw[iX];rfl)
noncomputable def q1 (J:Arg) (i9:((List Row)×(List Tx)×Op×aE×Key)):Option Out:=(aq.aa (i9.1,i9.2.2.1.2.2.1,((61,0):Nat×Int),())).bind λvy=>let Hh:Option Out:=let Hj:Option Out:=let Hk:=λ(yk:Change)=>(let Hl:=λ(pt:Change)=>((hJ.aa (i9.1,pt,())).bind λvz=>bif !decide (vz.1=(0:Int)) then (some ((vz.1,false,(false,((0:Int),(0:Int),(0:Int),([]:List UInt8),()),false,((0:Int),(0:Int),(0:Int),([]:List UInt8),()),()),()),())) else (aV.aa (i9.1,i9.2.1,())).bind λCH=>bif decide ((12:Int) < ((fI aA CH.1 i9.2.2.2.2 true).length:Int)) then (some (((9:Int),false,(false,((0:Int),(0:Int),(0:Int),([]:List UInt8),()),false,((0:Int),(0:Int),(0:Int),([]:List UInt8),()),()),()),())) else (cj.aa (i9.2.1,())).bind λCI=>bif decide ((12:Int)<=CI.1) then (some (((9:Int),false,(false,((0:Int),(0:Int),(0:Int),([]:List UInt8),()),false,((0:Int),(0:Int),(0:Int),([]:List UInt8),()),()),()),())) else bif pt.1 then (bif pt.2.2.1 then (bif (Ty.eq aw pt.2.1 pt.2.2.2.1) then (some (((0:Int),false,(false,((0:Int),(0:Int),(0:Int),([]:List UInt8),()),false,((0:Int),(0:Int),(0:Int),([]:List UInt8),()),()),()),())) else some (((0:Int),true,pt,()),())) else some (((0:Int),true,pt,()),())) else some (((0:Int),true,pt,()),()):Option Out);bif !decide (i9.2.2.1.1=(4:Int)) then (Hl (yk.1,yk.2.1,true,i9.2.2.1.2.2.1,yk.2.2.2.2)) else Hl yk:Option Out);bif vy.2.1 then (if 0<=vy.1 then ((i9.1[vy.1.toNat]?).bind λKG=>Hk (true,KG,false,((0:Int),(0:Int),(0:Int),([]:List UInt8),()),())) else none) else Hk (false,((0:Int),(0:Int),(0:Int),([]:List UInt8),()),false,((0:Int),(0:Int),(0:Int),([]:List UInt8),()),());bif !decide (i9.2.2.1.1=(2:Int)) then (bif !vy.2.1 then (some (((4:Int),false,(false,((0:Int),(0:Int),(0:Int),([]:List UInt8),()),false,((0:Int),(0:Int),(0:Int),([]:List UInt8),()),()),()),())) else Hj) else Hj;bif decide (i9.2.2.1.1=(2:Int)) then (bif vy.2.1 then (some (((6:Int),false,(false,((0:Int),(0:Int),(0:Int),([]:List UInt8),()),false,((0:Int),(0:Int),(0:Int),([]:List UInt8),()),()),()),())) else Hh) else Hh
noncomputable abbrev Q1 (_:Nat):=q1
theorem nC (k:Nat) (J:Arg) (i9:((List Row)×(List Tx)×Op×aE×Key)):cT (ag 0 (aJ (D.N k [1,1,1]) D.K0)) J i9=q1 J i9:=by kernel_rfl
noncomputable def s0 (k:Nat) (J:Arg):((List Row)×(List Tx)×Op×aE×Key×(List Tx)×Int×Int)->Option Out:=λU=>D.L k [1,1,0,1,0,0] [0,1,5,6,7,24,25,26] [] (ag 0 (aJ (D.N k [1,1,1]) D.K0)) (T0 J U)
noncomputable def r0 (k:Nat) (J:Arg):((List Row)×(List Tx)×Op×aE×Key×(List Tx)×Int×Int)->Option Out:=au (λw v=>B0 k w (Q1 k J) J v) k
theorem aR (k:Nat) (J:Arg):s0 k J=r0 k J:=by
 funext U;
 have h0:cT (ag 0 (aJ (D.N k [1,1,1]) D.K0)) J=Q1 k J:=funext λz=>nC k J z
 refine (aN _ _ _ (T0 J) (λself v=>B0 k self (cT (ag 0 (aJ (D.N k [1,1,1]) D.K0)) J) J v) (λrec v=>iY k rec (ag 0 (aJ (D.N k [1,1,1]) D.K0)) J v) k U).trans ?_
 rw[h0]
 rfl
noncomputable def p (l0:((List Row)×(List Tx)×Op×aE×Key×(List Tx)×Int×Int)->Option Out) (J:Arg):Option Out:=l0 (J.1,J.2.1,J.2.2.1,((0:Int),false,(false,((0:Int),(0:Int),(0:Int),([]:List UInt8),()),false,((0:Int),(0:Int),(0:Int),([]:List UInt8),()),()),()),(J.2.2.1.2.2.1.1,J.2.2.1.2.2.1.2.1,()),J.2.1,(J.2.1.length:Int),(0:Int))
theorem ab (k:Nat) (J:Arg):@Eq (Option Out) (D.W k J) (p (r0 k J) J):=
 Eq.trans (b:=p (s0 k J) J) (by kernel_rfl) (by rw[aR])
theorem ok:Ok prog 26 D.sig:=az func26 aO (by kernel_rfl) (fc cj.ok (fc aV.ok (fc aq.ok (fc hJ.ok (an _)))))
end aL
namespace cq
abbrev Arg:Type:=(List Row)×(List Tx)×Op×Unit
abbrev Out:Type:=aE×Unit
abbrev ps:PQ:=[(.ro,(.af aw)),(.ro,(.af bg)),(.ro,jm)]
noncomputable def D:FD:={ fn:=f6,tl:=bn,ps:=ps,rs:=[(bu,(ai bu))],gl:=[(11,eo.D.sig),(17,av.D.sig),(24,br.D.sig),(25,f0.D.sig),(26,aL.D.sig)],lv:=[(2,[0,1,5,6,16,17,18])],lx:=[(0,[0,1,5,6])],od:=[(1,[0,2,4,8,1,3,5,6,7]),(22,[0,1,2,3,4,5,6,7,8])] }
noncomputable def aa (a:Arg):Option Out:=@lift Out λk=>D.W k a
noncomputable def T0 (J:Arg) (nj:List Int) (oL:Int) (gt:Int):St:={ n:=79,sl:=[(0,.val (.af aw) J.1),(1,.val (.af bg) J.2.1),(5,.box jm (ai jm) [] J.2.2.1),(6,.box bu (ai bu) [] ((0:Int),false,(false,((0:Int),(0:Int),(0:Int),([]:List UInt8),()),false,((0:Int),(0:Int),(0:Int),([]:List UInt8),()),()),())),(16,.own (.af i64) (aF (.af i64)) [] nj),(17,.val i64 oL),(18,.val i64 gt)],vr:=[],ax:=[] }
noncomputable def b0 (self:Int->Option Out) (e0:(Unit)->Option Out) (J:Arg) (nj:List Int) (oL:Int) (gt:Int):Option Out:=bif decide (gt < oL) then (if 0<=gt/\gt < (nj.length:Int) then ((nj[gt.toNat]?).bind λJU=>bif !decide (JU=(0:Int)) then (some ((JU,false,(false,((0:Int),(0:Int),(0:Int),([]:List UInt8),()),false,((0:Int),(0:Int),(0:Int),([]:List UInt8),()),()),()),())) else self (ap (gt+(1:Int)))) else none) else e0 ()
noncomputable abbrev B0 (_:Nat):=b0
noncomputable def q0 (J:Arg) (nj:List Int) (oL:Int) (pM:(Unit)):Option Out:=bif decide (J.2.2.1.1=(1:Int)) then (bif decide ((4:Int)<=(J.2.1.length:Int)) then (some (((2:Int),false,(false,((0:Int),(0:Int),(0:Int),([]:List UInt8),()),false,((0:Int),(0:Int),(0:Int),([]:List UInt8),()),()),()),())) else some (((0:Int),false,(false,((0:Int),(0:Int),(0:Int),([]:List UInt8),()),false,((0:Int),(0:Int),(0:Int),([]:List UInt8),()),()),()),())) else bif decide (J.2.2.1.1=(9:Int)) then (some (((0:Int),false,(false,((0:Int),(0:Int),(0:Int),([]:List UInt8),()),false,((0:Int),(0:Int),(0:Int),([]:List UInt8),()),()),()),())) else (f0.aa (J.2.1,J.2.2.1.2.1,())).bind λnh=>bif decide (nh.1 < (0:Int)) then (some (((4:Int),false,(false,((0:Int),(0:Int),(0:Int),([]:List UInt8),()),false,((0:Int),(0:Int),(0:Int),([]:List UInt8),()),()),()),())) else let zG:Option Out:=some (((0:Int),false,(false,((0:Int),(0:Int),(0:Int),([]:List UInt8),()),false,((0:Int),(0:Int),(0:Int),([]:List UInt8),()),()),()),());bif decide (J.2.2.1.1=(5:Int)) then (if 0<=nh.1 then ((J.2.1[nh.1.toNat]?).bind λMm=>bif decide ((8:Int)<=(Mm.2.2.1.length:Int)) then (some (((2:Int),false,(false,((0:Int),(0:Int),(0:Int),([]:List UInt8),()),false,((0:Int),(0:Int),(0:Int),([]:List UInt8),()),()),()),())) else zG) else none) else bif decide (J.2.2.1.1=(6:Int)) then (if 0<=nh.1 then ((J.2.1[nh.1.toNat]?).bind λJP=>bif decide ((JP.2.2.1.length:Int)<=J.2.2.1.2.2.2.1) then (some (((3:Int),false,(false,((0:Int),(0:Int),(0:Int),([]:List UInt8),()),false,((0:Int),(0:Int),(0:Int),([]:List UInt8),()),()),()),())) else zG) else none) else bif decide (J.2.2.1.1=(2:Int)) then (bif decide (J.2.2.1.1=(2:Int)) then ((aL.aa (J.1,J.2.1,J.2.2.1,())).bind λFJ=>some (FJ.1,())) else zG) else bif decide (J.2.2.1.1=(3:Int)) then (bif decide (J.2.2.1.1=(3:Int)) then ((aL.aa (J.1,J.2.1,J.2.2.1,())).bind λMn=>some (Mn.1,())) else zG) else bif decide (J.2.2.1.1=(4:Int)) then ((aL.aa (J.1,J.2.1,J.2.2.1,())).bind λMo=>some (Mo.1,())) else zG
noncomputable abbrev Q0 (_:Nat):=q0
noncomputable def s0 (k:Nat) (J:Arg):(List Int)->Int->(Int)->Option Out:=λnj oL=>λgt=>D.L k [1,0,1,0,0] [0,1,5,6,16,17,18] [] (ag 0 (aJ (D.N k [1,1]) D.K0)) (T0 J nj oL gt)
noncomputable def r0 (k:Nat) (J:Arg):(List Int)->Int->(Int)->Option Out:=λnj oL=>au (λw v=>B0 k w (Q0 k J nj oL) J nj oL v) k
theorem aR (k:Nat) (J:Arg):s0 k J=r0 k J:=
 funext λnj=>funext λoL=>funext λgt=>aN _ _ _ (T0 J nj oL) _ (λrec v=>by kernel_rfl) k gt
noncomputable def p (l0:(List Int)->Int->(Int)->Option Out) (J:Arg):Option Out:=(br.aa (J.1,())).bind λr2=>(av.aa (J.2.1,())).bind λr3=>(eo.aa (J.2.2.1,())).bind λr4=>l0 [r2.1,r3.1,r4.1] ([r2.1,r3.1,r4.1].length:Int) (0:Int)
theorem ab (k:Nat) (J:Arg):@Eq (Option Out) (D.W k J) (p (r0 k J) J):=
 Eq.trans (b:=p (s0 k J) J) (by kernel_rfl) (by rw[aR])
theorem ok:Ok prog 6 D.sig:=az func6 aO (by kernel_rfl) (fc eo.ok (fc av.ok (fc br.ok (fc f0.ok (fc aL.ok (an _))))))
end cq
namespace eO
abbrev Arg:Type:=(List UInt8)×Unit
abbrev Out:Type:=Bool×Unit
abbrev ps:PQ:=[(.ro,.str)]
noncomputable def D:FD:={ fn:=f84,tl:=bn,ps:=ps,rs:=[(.bool,(ai .bool))],lv:=[(2,[0,3])],lx:=[(0,[0])] }
noncomputable def aa (a:Arg):Option Out:=@lift Out λk=>D.W k a
noncomputable def T0 (J:Arg) (U:Int):St:={ n:=23,sl:=[(0,.val .str J.1),(3,.val i64 U)],vr:=[],ax:=[] }
noncomputable def b0 (self:Int->Option Out) (e0:(Unit)->Option Out) (J:Arg) (U:Int):Option Out:=bif decide (U < (J.1.length:Int)) then (if 0<=U then ((J.1[U.toNat]?).bind λbe=>bif decide ((be.toNat:Int) < (97:Int)) then (some (false,())) else if 0<=U then ((J.1[U.toNat]?).bind λsg=>bif decide ((122:Int) < (sg.toNat:Int)) then (some (false,())) else self (ap (U+(1:Int)))) else none) else none) else e0 ()
noncomputable abbrev B0 (_:Nat):=b0
noncomputable def q0 (J:Arg) (dL:(Unit)):Option Out:=some (decide ((J.1.length:Int)<=(8:Int)),())
noncomputable abbrev Q0 (_:Nat):=q0
noncomputable def s0 (k:Nat) (J:Arg):(Int)->Option Out:=λU=>D.L k [1,0,1,0,0] [0,3] [] (ag 0 (aJ (D.N k [1,1]) D.K0)) (T0 J U)
noncomputable def r0 (k:Nat) (J:Arg):(Int)->Option Out:=au (λw v=>B0 k w (Q0 k J) J v) k
theorem aR (k:Nat) (J:Arg):s0 k J=r0 k J:=
 funext λU=>aN _ _ _ (T0 J) _ (λrec v=>by kernel_rfl) k U
noncomputable def p (l0:(Int)->Option Out) (J:Arg):Option Out:=l0 (0:Int)
theorem ab (k:Nat) (J:Arg):@Eq (Option Out) (D.W k J) (p (r0 k J) J):=
 Eq.trans (b:=p (s0 k J) J) (by kernel_rfl) (by rw[aR])
theorem ok:Ok prog 84 D.sig:=az func84 aO (by kernel_rfl) (an _)
end eO
namespace ca
abbrev Arg:Type:=Row×Unit
abbrev Out:Type:=Int×Unit
abbrev ps:PQ:=[(.ro,(.ptr aw))]
noncomputable def D:FD:={ fn:=f63,tl:=bn,ps:=ps,rs:=[(i64,(ai i64))],gl:=[(65,bi.D.sig),(84,eO.D.sig)] }
noncomputable def aa (a:Arg):Option Out:=@lift Out λk=>D.W k a
noncomputable def p (J:Arg):Option Out:=(bi.aa (J.1.1,(0:Int),(3:Int),())).bind λr2=>bif !r2.1 then (some ((3:Int),())) else (bi.aa (J.1.2.1,(1:Int),(99:Int),())).bind λr3=>bif !r3.1 then (some ((3:Int),())) else (bi.aa (J.1.2.2.1,(0:Int),(999:Int),())).bind λr4=>bif !r4.1 then (some ((3:Int),())) else (eO.aa (J.1.2.2.2.1,())).bind λr5=>bif !r5.1 then (some ((5:Int),())) else some ((0:Int),())
theorem ab (k:Nat) (J:Arg):@Eq (Option Out) (D.W k J) (p J):=by kernel_rfl
theorem ok:Ok prog 63 D.sig:=az func63 aO (by kernel_rfl) (fc bi.ok (fc eO.ok (an _)))
end ca
namespace dF
abbrev Arg:Type:=(List Row)×Unit
abbrev Out:Type:=Int×Unit
abbrev ps:PQ:=[(.ro,(.af aw))]
noncomputable def D:FD:={ fn:=f27,tl:=bn,ps:=ps,rs:=[(i64,(ai i64))],gl:=[(63,ca.D.sig),(64,ez.D.sig)],lv:=[(4,[0,3])],lx:=[(0,[])],od:=[(9,[0,1,2,3,4,5,6,7,8,9,10,11,12])] }
noncomputable def aa (a:Arg):Option Out:=@lift Out λk=>D.W k a
noncomputable def T0 (J:Arg) (U:Int):St:={ n:=34,sl:=[(0,.val (.af aw) J.1),(3,.val i64 U)],vr:=[],ax:=[] }
noncomputable def b0 (self:Int->Option Out) (e0:(Unit)->Option Out) (J:Arg) (U:Int):Option Out:=bif decide (U < (J.1.length:Int)) then (if 0<=U then ((J.1[U.toNat]?).bind λbe=>(ca.aa (be,())).bind λco=>bif !decide (co.1=(0:Int)) then (some (co.1,())) else bif decide ((0:Int) < U) then (if 0<=ap (U - (1:Int)) then ((J.1[(ap (U - (1:Int))).toNat]?).bind λjL=>if 0<=U then ((J.1[U.toNat]?).bind λuj=>(ez.aa (jL,uj,())).bind λni=>bif !ni.1 then (some ((1:Int),())) else self (ap (U+(1:Int)))) else none) else none) else self (ap (U+(1:Int)))) else none) else e0 ()
noncomputable abbrev B0 (_:Nat):=b0
noncomputable def q0 (J:Arg) (CE:(Unit)):Option Out:=some ((0:Int),())
noncomputable abbrev Q0 (_:Nat):=q0
noncomputable def s0 (k:Nat) (J:Arg):(Int)->Option Out:=λU=>D.L k [1,1,0,1,0,0] [0,3] [] (ag 0 (aJ (D.N k [1,1,1]) D.K0)) (T0 J U)
noncomputable def r0 (k:Nat) (J:Arg):(Int)->Option Out:=au (λw v=>B0 k w (Q0 k J) J v) k
theorem aR (k:Nat) (J:Arg):s0 k J=r0 k J:=
 funext λU=>aN _ _ _ (T0 J) _ (λrec v=>by kernel_rfl) k U
noncomputable def p (l0:(Int)->Option Out) (J:Arg):Option Out:=bif decide ((60:Int) < (J.1.length:Int)) then (some ((2:Int),())) else l0 (0:Int)
theorem ab (k:Nat) (J:Arg):@Eq (Option Out) (D.W k J) (p (r0 k J) J):=
 Eq.trans (b:=p (s0 k J) J) (by kernel_rfl) (by rw[aR])
theorem ok:Ok prog 27 D.sig:=az func27 aO (by kernel_rfl) (fc ca.ok (fc ez.ok (an _)))
end dF
namespace fC
abbrev Arg:Type:=Change×Unit
abbrev Out:Type:=Int×Unit
abbrev ps:PQ:=[(.ro,(.ptr bk))]
noncomputable def D:FD:={ fn:=f99,tl:=bn,ps:=ps,rs:=[(i64,(ai i64))],gl:=[(63,ca.D.sig)],od:=[(1,[0,1,2,3,4,5,6,7,8,9,10,11,12,13,14,15,16,17,18,19,20,21,22,23,24,25,26,27,28,29,30,31,32,33,34,35,36,37,38,39,40,41,42,43,44,45,46,47,48,49])] }
noncomputable def aa (a:Arg):Option Out:=@lift Out λk=>D.W k a
noncomputable def p (J:Arg):Option Out:=let j5:Option Out:=bif J.1.1 then ((ca.aa (J.1.2.1,())).bind λr6=>bif !decide (r6.1=(0:Int)) then (some (r6.1,())) else bif J.1.2.2.1 then ((ca.aa (J.1.2.2.2.1,())).bind λr8=>some (r8.1,())) else some ((0:Int),())) else bif J.1.2.2.1 then ((ca.aa (J.1.2.2.2.1,())).bind λr9=>some (r9.1,())) else some ((0:Int),());bif !J.1.1 then (bif !J.1.2.2.1 then (some ((1:Int),())) else bif J.1.1 then (bif J.1.2.2.1 then (bif !decide (J.1.2.1.1=J.1.2.2.2.1.1) then (some ((1:Int),())) else bif !decide (J.1.2.1.2.1=J.1.2.2.2.1.2.1) then (some ((1:Int),())) else j5) else j5) else j5) else bif J.1.1 then (bif J.1.2.2.1 then (bif !decide (J.1.2.1.1=J.1.2.2.2.1.1) then (some ((1:Int),())) else bif !decide (J.1.2.1.2.1=J.1.2.2.2.1.2.1) then (some ((1:Int),())) else j5) else j5) else j5
theorem ab (k:Nat) (J:Arg):@Eq (Option Out) (D.W k J) (p J):=by kernel_rfl
theorem ok:Ok prog 99 D.sig:=az func99 aO (by kernel_rfl) (fc ca.ok (an _))
end fC
namespace gk
abbrev Arg:Type:=Change×Unit
abbrev Out:Type:=Int×Unit
abbrev ps:PQ:=[(.ro,(.ptr bk))]
noncomputable def D:FD:={ fn:=f85,tl:=bn,ps:=ps,rs:=[(i64,(ai i64))],gl:=[(99,fC.D.sig)],od:=[(4,[0,1,2,3,4,5,6,7,8,9,10,11,12,13,14,15,16,17,18,19,20])] }
noncomputable def aa (a:Arg):Option Out:=@lift Out λk=>D.W k a
noncomputable def p (J:Arg):Option Out:=(fC.aa (J.1,())).bind λr2=>bif !decide (r2.1=(0:Int)) then (some (r2.1,())) else bif J.1.1 then (bif J.1.2.2.1 then (bif (Ty.eq aw J.1.2.1 J.1.2.2.2.1) then (some ((1:Int),())) else some ((0:Int),())) else some ((0:Int),())) else some ((0:Int),())
theorem ab (k:Nat) (J:Arg):@Eq (Option Out) (D.W k J) (p J):=by kernel_rfl
theorem ok:Ok prog 85 D.sig:=az func85 aO (by kernel_rfl) (fc fC.ok (an _))
end gk
namespace d6
abbrev Arg:Type:=Tx×Unit
abbrev Out:Type:=Int×Unit
abbrev ps:PQ:=[(.ro,(.ptr bg))]
noncomputable def D:FD:={ fn:=f66,tl:=bn,ps:=ps,rs:=[(i64,(ai i64))],gl:=[(75,bY.D.sig),(85,gk.D.sig),(86,dX.D.sig)],lv:=[(2,[0,3])],lx:=[(0,[])] }
noncomputable def aa (a:Arg):Option Out:=@lift Out λk=>D.W k a
noncomputable def T0 (J:Arg) (U:Int):St:={ n:=34,sl:=[(0,.cp bg J.1),(3,.val i64 U)],vr:=[],ax:=[] }
noncomputable def b0 (self:Int->Option Out) (e0:(Unit)->Option Out) (J:Arg) (U:Int):Option Out:=bif decide (U < (J.1.2.1.length:Int)) then (if 0<=U then ((J.1.2.1[U.toNat]?).bind λbe=>(gk.aa (be,())).bind λco=>bif !decide (co.1=(0:Int)) then (some (co.1,())) else if 0<=U then ((J.1.2.1[U.toNat]?).bind λjL=>(dX.aa (jL,())).bind λiJ=>(bY.aa (J.1,iJ.1,())).bind λni=>bif !ni.1 then (some ((8:Int),())) else self (ap (U+(1:Int)))) else none) else none) else e0 ()
noncomputable abbrev B0 (_:Nat):=b0
noncomputable def q0 (J:Arg) (CE:(Unit)):Option Out:=some ((0:Int),())
noncomputable abbrev Q0 (_:Nat):=q0
noncomputable def s0 (k:Nat) (J:Arg):(Int)->Option Out:=λU=>D.L k [1,0,1,0,0] [0,3] [] (ag 0 (aJ (D.N k [1,1]) D.K0)) (T0 J U)
noncomputable def r0 (k:Nat) (J:Arg):(Int)->Option Out:=au (λw v=>B0 k w (Q0 k J) J v) k
theorem aR (k:Nat) (J:Arg):s0 k J=r0 k J:=
 funext λU=>aN _ _ _ (T0 J) _ (λrec v=>by kernel_rfl) k U
noncomputable def p (l0:(Int)->Option Out) (J:Arg):Option Out:=l0 (0:Int)
theorem ab (k:Nat) (J:Arg):@Eq (Option Out) (D.W k J) (p (r0 k J) J):=
 Eq.trans (b:=p (s0 k J) J) (by kernel_rfl) (by rw[aR])
theorem ok:Ok prog 66 D.sig:=az func66 aO (by kernel_rfl) (fc bY.ok (fc gk.ok (fc dX.ok (an _))))
end d6
namespace fj
abbrev Arg:Type:=Key×Unit
abbrev Out:Type:=Bool×Unit
abbrev ps:PQ:=[(.ro,(.ptr aA))]
noncomputable def D:FD:={ fn:=f36,tl:=bn,ps:=ps,rs:=[(.bool,(ai .bool))],gl:=[(65,bi.D.sig)] }
noncomputable def aa (a:Arg):Option Out:=@lift Out λk=>D.W k a
noncomputable def p (J:Arg):Option Out:=(bi.aa (J.1.1,(0:Int),(3:Int),())).bind λr2=>bif r2.1 then ((bi.aa (J.1.2.1,(1:Int),(99:Int),())).bind λr3=>some (r3.1,())) else some (false,())
theorem ab (k:Nat) (J:Arg):@Eq (Option Out) (D.W k J) (p J):=by kernel_rfl
theorem ok:Ok prog 36 D.sig:=az func36 aO (by kernel_rfl) (fc bi.ok (an _))
end fj
namespace aT
abbrev Arg:Type:=Tx×Unit
abbrev Out:Type:=Int×Unit
abbrev ps:PQ:=[(.ro,(.ptr bg))]
noncomputable def D:FD:={ fn:=f67,tl:=bn,ps:=ps,rs:=[(i64,(ai i64))],gl:=[(36,fj.D.sig),(65,bi.D.sig)],lv:=[(4,[0,3]),(9,[0,4]),(14,[0,4,5])],lx:=[(0,[0]),(2,[]),(4,[0,4])],od:=[(6,[0,1,2,3,4,5,6,7,8,9,10,11,12,13,14,15,16,17,18,19,20,21,22,23,24,25,26,27,28,29,30,31,32,33,34,35]),(16,[0,1,2,3,4,5,6,7,8,9,10,11,12,13,14])],ar:=[(6,[3,6,10,21,24,28,32])] }
noncomputable def aa (a:Arg):Option Out:=@lift Out λk=>D.W k a
noncomputable def T0 (J:Arg) (U:Int):St:={ n:=102,sl:=[(0,.cp bg J.1),(3,.val i64 U)],vr:=[],ax:=[] }
noncomputable def S0 (rec:RT Out) (J:Arg):(Int)->Option Out:=λU=>rec (T0 J U)
noncomputable def cT (K:KT Out) (J:Arg):(Unit)->Option Out:=λz=>K (.exit 0) ({ n:=102,sl:=[(0,.cp bg J.1)],vr:=[],ax:=[] })
noncomputable def b0 (self:Int->Option Out) (e0:(Unit)->Option Out) (J:Arg) (U:Int):Option Out:=bif decide (U < (J.1.2.2.1.length:Int)) then (if 0<=U then ((J.1.2.2.1[U.toNat]?).bind λbe=>(bi.aa (be,(0:Int),(J.1.2.1.length:Int),())).bind λco=>bif !co.1 then (some ((3:Int),())) else bif decide ((0:Int) < U) then (if 0<=U then ((J.1.2.2.1[U.toNat]?).bind λjL=>if 0<=ap (U - (1:Int)) then ((J.1.2.2.1[(ap (U - (1:Int))).toNat]?).bind λuj=>bif decide (jL < uj) then (some ((3:Int),())) else self (ap (U+(1:Int)))) else none) else none) else self (ap (U+(1:Int)))) else none) else e0 ()
noncomputable abbrev B0 (_:Nat):=b0
theorem iY (k:Nat) (rec:RT Out) (K:KT Out) (J:Arg) (U:Int):D.N k [1,1,0,1,0,0] (T0 J U) (fd rec (dg [0,3] []) K)=b0 (S0 rec J) (cT K J) J U:=by kernel_rfl
noncomputable def T1 (J:Arg) (cz:Tx×Int):St:={ n:=102,sl:=[(0,.cp bg cz.1),(4,.val i64 cz.2)],vr:=[],ax:=[] }
noncomputable def S1 (rec:RT Out) (J:Arg):(Tx×Int)->Option Out:=λcz=>rec (T1 J cz)
noncomputable def fh (K:KT Out) (J:Arg):(Unit)->Option Out:=λz=>K (.exit 2) ({ n:=102,sl:=[],vr:=[],ax:=[] })
noncomputable def T2 (J:Arg) (eQ:Tx) (cK:Int) (mF:Int):St:={ n:=102,sl:=[(0,.cp bg eQ),(4,.val i64 cK),(5,.val i64 mF)],vr:=[],ax:=[] }
noncomputable def b2 (self:Int->Option Out) (e4:(Unit)->Option Out) (J:Arg) (eQ:Tx) (cK:Int) (mF:Int):Option Out:=bif decide (mF < cK) then (if 0<=mF then ((eQ.2.2.2.1[mF.toNat]?).bind λCG=>if 0<=cK then ((eQ.2.2.2.1[cK.toNat]?).bind λKH=>bif (Ty.eq aA CG KH) then (some ((6:Int),())) else self (ap (mF+(1:Int)))) else none) else none) else e4 ()
noncomputable abbrev B2 (_:Nat):=b2
noncomputable def q1 (self:(Tx×Int)->Option Out) (e2:(Unit)->Option Out) (J:Arg) (eQ:Tx) (cK:Int) (sW:(Unit)):Option Out:=self (eQ,ap (cK+(1:Int)))
noncomputable abbrev Q1 (_:Nat):=q1
noncomputable def s2 (k:Nat) (rec:RT Out) (K:KT Out) (J:Arg):Tx->Int->(Int)->Option Out:=λeQ cK=>λmF=>D.L k [1,1,1,0,1,0,0,1,0,0,1,1,0,0] [0,4,5] [] (ag 4 (ag 3 (aJ (D.N k [1,1,1,0,1,0,0,1,1]) (fd rec (dg [0,4] []) K)))) (T2 J eQ cK mF)
noncomputable def r2 (k:Nat) (self:(Tx×Int)->Option Out) (e2:(Unit)->Option Out) (J:Arg):Tx->Int->(Int)->Option Out:=λeQ cK=>au (λw v=>B2 k w (Q1 k self e2 J eQ cK) J eQ cK v) k
theorem nE (k:Nat) (rec:RT Out) (K:KT Out) (J:Arg):s2 k rec K J=r2 k (S1 rec J) (fh K J) J:=
 funext λeQ=>funext λcK=>funext λmF=>aN _ _ _ (T2 J eQ cK) _ (λrec v=>by kernel_rfl) k mF
noncomputable def b1 (self:(Tx×Int)->Option Out) (e2:(Unit)->Option Out) (l2:Tx->Int->(Int)->Option Out) (J:Arg) (cz:Tx×Int):Option Out:=bif decide (cz.2 < (cz.1.2.2.2.1.length:Int)) then (if 0<=cz.2 then ((cz.1.2.2.2.1[cz.2.toNat]?).bind λmC=>(fj.aa (mC,())).bind λvv=>bif !vv.1 then (some ((3:Int),())) else l2 cz.1 cz.2 (0:Int)) else none) else e2 ()
noncomputable def B1 (k:Nat) (self:(Tx×Int)->Option Out) (e2:(Unit)->Option Out) (J:Arg) (cz:Tx×Int):Option Out:=b1 self e2 (r2 k self e2 J) J cz
theorem nD (k:Nat) (rec:RT Out) (K:KT Out) (J:Arg) (cz:Tx×Int):D.N k [1,1,1,0,1,0,0] (T1 J cz) (fd rec (dg [0,4] []) K)=B1 k (S1 rec J) (fh K J) J cz:=
 Eq.trans (b:=b1 (S1 rec J) (fh K J) (s2 k rec K J) J cz) (by kernel_rfl) (by rw[nE];rfl)
noncomputable def q2 (J:Arg) (CJ:(Unit)):Option Out:=some ((0:Int),())
noncomputable abbrev Q2 (_:Nat):=q2
theorem vw (k:Nat) (J:Arg) (CJ:(Unit)):fh (ag 2 (aJ (D.N k [1,1,1,1]) D.K0)) J CJ=q2 J CJ:=by kernel_rfl
noncomputable def s1 (k:Nat) (J:Arg):(Tx×Int)->Option Out:=λcz=>D.L k [1,1,1,0,1,0,0] [0,4] [] (ag 2 (aJ (D.N k [1,1,1,1]) D.K0)) (T1 J cz)
noncomputable def r1 (k:Nat) (J:Arg):(Tx×Int)->Option Out:=au (λw v=>B1 k w (Q2 k J) J v) k
theorem iX (k:Nat) (J:Arg):s1 k J=r1 k J:=by
 funext cz;
 have Y:fh (ag 2 (aJ (D.N k [1,1,1,1]) D.K0)) J=Q2 k J:=funext λz=>vw k J z
 refine (aN _ _ _ (T1 J) (λself v=>B1 k self (fh (ag 2 (aJ (D.N k [1,1,1,1]) D.K0)) J) J v) (λrec v=>nD k rec (ag 2 (aJ (D.N k [1,1,1,1]) D.K0)) J v) k cz).trans ?_
 rw[Y]
 rfl
noncomputable def q0 (l1:(Tx×Int)->Option Out) (J:Arg) (jK:(Unit)):Option Out:=l1 (J.1,(0:Int))
noncomputable def Q0 (k:Nat) (J:Arg) (jK:(Unit)):Option Out:=q0 (r1 k J) J jK
theorem nF (k:Nat) (J:Arg) (jK:(Unit)):cT (ag 0 (aJ (D.N k [1,1,1]) D.K0)) J jK=Q0 k J jK:=
 Eq.trans (b:=q0 (s1 k J) J jK) (by kernel_rfl) (by rw[iX];rfl)
noncomputable def s0 (k:Nat) (J:Arg):(Int)->Option Out:=λU=>D.L k [1,1,0,1,0,0] [0,3] [] (ag 0 (aJ (D.N k [1,1,1]) D.K0)) (T0 J U)
noncomputable def r0 (k:Nat) (J:Arg):(Int)->Option Out:=au (λw v=>B0 k w (Q0 k J) J v) k
theorem aR (k:Nat) (J:Arg):s0 k J=r0 k J:=by
 funext U;
 have h0:cT (ag 0 (aJ (D.N k [1,1,1]) D.K0)) J=Q0 k J:=funext λz=>nF k J z
 refine (aN _ _ _ (T0 J) (λself v=>B0 k self (cT (ag 0 (aJ (D.N k [1,1,1]) D.K0)) J) J v) (λrec v=>iY k rec (ag 0 (aJ (D.N k [1,1,1]) D.K0)) J v) k U).trans ?_
 rw[h0]
 rfl
noncomputable def p (l0:(Int)->Option Out) (J:Arg):Option Out:=bif decide ((8:Int) < (J.1.2.2.1.length:Int)) then (some ((2:Int),())) else bif decide ((12:Int) < (J.1.2.2.2.1.length:Int)) then (some ((2:Int),())) else l0 (0:Int)
theorem ab (k:Nat) (J:Arg):@Eq (Option Out) (D.W k J) (p (r0 k J) J):=
 Eq.trans (b:=p (s0 k J) J) (by kernel_rfl) (by rw[aR])
theorem ok:Ok prog 67 D.sig:=az func67 aO (by kernel_rfl) (fc fj.ok (fc bi.ok (an _)))
end aT
namespace c6
abbrev Arg:Type:=(List Tx)×Key×Unit
abbrev Out:Type:=Int×Unit
abbrev ps:PQ:=[(.ro,(.af bg)),(.ro,aA)]
noncomputable def D:FD:={ fn:=f37,tl:=bn,ps:=ps,rs:=[(i64,(ai i64))],gl:=[(75,bY.D.sig)],lv:=[(2,[0,3,5])],lx:=[(0,[])],od:=[(4,[0,1,2,3,4])] }
noncomputable def aa (a:Arg):Option Out:=@lift Out λk=>D.W k a
noncomputable def T0 (J:Arg) (U:Int):St:={ n:=22,sl:=[(0,.val (.af bg) J.1),(3,.box aA (ai aA) [] J.2.1),(5,.val i64 U)],vr:=[],ax:=[] }
noncomputable def b0 (self:Int->Option Out) (e0:(Unit)->Option Out) (J:Arg) (U:Int):Option Out:=bif decide (U < (J.1.length:Int)) then (if 0<=U then ((J.1[U.toNat]?).bind λbe=>(bY.aa (be,J.2.1,())).bind λco=>bif co.1 then (if 0<=U then ((J.1[U.toNat]?).bind λjL=>some (jL.1,())) else none) else self (ap (U+(1:Int)))) else none) else e0 ()
noncomputable abbrev B0 (_:Nat):=b0
noncomputable def q0 (J:Arg) (Ow:(Unit)):Option Out:=some ((0:Int),())
noncomputable abbrev Q0 (_:Nat):=q0
noncomputable def s0 (k:Nat) (J:Arg):(Int)->Option Out:=λU=>D.L k [1,0,1,0,0] [0,3,5] [] (ag 0 (aJ (D.N k [1,1]) D.K0)) (T0 J U)
noncomputable def r0 (k:Nat) (J:Arg):(Int)->Option Out:=au (λw v=>B0 k w (Q0 k J) J v) k
theorem aR (k:Nat) (J:Arg):s0 k J=r0 k J:=
 funext λU=>aN _ _ _ (T0 J) _ (λrec v=>by kernel_rfl) k U
noncomputable def p (l0:(Int)->Option Out) (J:Arg):Option Out:=l0 (0:Int)
theorem ab (k:Nat) (J:Arg):@Eq (Option Out) (D.W k J) (p (r0 k J) J):=
 Eq.trans (b:=p (s0 k J) J) (by kernel_rfl) (by rw[aR])
theorem ok:Ok prog 37 D.sig:=az func37 aO (by kernel_rfl) (fc bY.ok (an _))
end c6
namespace bv
abbrev Arg:Type:=(List Tx)×Unit
abbrev Out:Type:=Bool×Unit
abbrev ps:PQ:=[(.ro,(.af bg))]
noncomputable def D:FD:={ fn:=f68,tl:=bn,ps:=ps,rs:=[(.bool,(ai .bool))],gl:=[(37,c6.D.sig)],lv:=[(2,[0,3]),(5,[0,3,4])],lx:=[(0,[]),(2,[0,3])],od:=[(7,[0,1,2,3,4,5,6,7,8,10,11,12,13,14,9,15])] }
noncomputable def aa (a:Arg):Option Out:=@lift Out λk=>D.W k a
noncomputable def T0 (J:Arg) (U:(List Tx)×Int):St:={ n:=37,sl:=[(0,.val (.af bg) U.1),(3,.val i64 U.2)],vr:=[],ax:=[] }
noncomputable def S0 (rec:RT Out) (J:Arg):((List Tx)×Int)->Option Out:=λU=>rec (T0 J U)
noncomputable def cT (K:KT Out) (J:Arg):(Unit)->Option Out:=λz=>K (.exit 0) ({ n:=37,sl:=[],vr:=[],ax:=[] })
noncomputable def T1 (J:Arg) (i_:List Tx) (cg:Int) (mG:Int):St:={ n:=37,sl:=[(0,.val (.af bg) i_),(3,.val i64 cg),(4,.val i64 mG)],vr:=[],ax:=[] }
noncomputable def b1 (self:Int->Option Out) (e2:(Unit)->Option Out) (J:Arg) (i_:List Tx) (cg:Int) (mG:Int):Option Out:=if 0<=cg then ((i_[cg.toNat]?).bind λvx=>bif decide (mG < (vx.2.2.2.1.length:Int)) then (if 0<=cg then ((i_[cg.toNat]?).bind λqS=>if 0<=mG then ((qS.2.2.2.1[mG.toNat]?).bind λKI=>if 0<=cg then ((i_[cg.toNat]?).bind λmC=>(c6.aa (i_,KI,())).bind λvv=>bif !decide (vv.1=mC.1) then (some (false,())) else self (ap (mG+(1:Int)))) else none) else none) else none) else e2 ()) else none
noncomputable abbrev B1 (_:Nat):=b1
noncomputable def q0 (self:((List Tx)×Int)->Option Out) (e0:(Unit)->Option Out) (J:Arg) (i_:List Tx) (cg:Int) (qT:(Unit)):Option Out:=self (i_,ap (cg+(1:Int)))
noncomputable abbrev Q0 (_:Nat):=q0
noncomputable def s1 (k:Nat) (rec:RT Out) (K:KT Out) (J:Arg):(List Tx)->Int->(Int)->Option Out:=λi_ cg=>λmG=>D.L k [1,0,1,0,0,1,0,0,1,0,0] [0,3,4] [] (ag 2 (ag 1 (aJ (D.N k [1,0,1,0,0,1,1]) (fd rec (dg [0,3] []) K)))) (T1 J i_ cg mG)
noncomputable def r1 (k:Nat) (self:((List Tx)×Int)->Option Out) (e0:(Unit)->Option Out) (J:Arg):(List Tx)->Int->(Int)->Option Out:=λi_ cg=>au (λw v=>B1 k w (Q0 k self e0 J i_ cg) J i_ cg v) k
theorem iX (k:Nat) (rec:RT Out) (K:KT Out) (J:Arg):s1 k rec K J=r1 k (S0 rec J) (cT K J) J:=
 funext λi_=>funext λcg=>funext λmG=>aN _ _ _ (T1 J i_ cg) _ (λrec v=>by kernel_rfl) k mG
noncomputable def b0 (self:((List Tx)×Int)->Option Out) (e0:(Unit)->Option Out) (l1:(List Tx)->Int->(Int)->Option Out) (J:Arg) (U:(List Tx)×Int):Option Out:=bif decide (U.2 < (U.1.length:Int)) then (l1 U.1 U.2 (0:Int)) else e0 ()
noncomputable def B0 (k:Nat) (self:((List Tx)×Int)->Option Out) (e0:(Unit)->Option Out) (J:Arg) (U:(List Tx)×Int):Option Out:=b0 self e0 (r1 k self e0 J) J U
theorem iY (k:Nat) (rec:RT Out) (K:KT Out) (J:Arg) (U:(List Tx)×Int):D.N k [1,0,1,0,0] (T0 J U) (fd rec (dg [0,3] []) K)=B0 k (S0 rec J) (cT K J) J U:=
 Eq.trans (b:=b0 (S0 rec J) (cT K J) (s1 k rec K J) J U) (by kernel_rfl) (by rw[iX];rfl)
noncomputable def q1 (J:Arg) (vt:(Unit)):Option Out:=some (true,())
noncomputable abbrev Q1 (_:Nat):=q1
theorem nC (k:Nat) (J:Arg) (vt:(Unit)):cT (ag 0 (aJ (D.N k [1,1]) D.K0)) J vt=q1 J vt:=by kernel_rfl
noncomputable def s0 (k:Nat) (J:Arg):((List Tx)×Int)->Option Out:=λU=>D.L k [1,0,1,0,0] [0,3] [] (ag 0 (aJ (D.N k [1,1]) D.K0)) (T0 J U)
noncomputable def r0 (k:Nat) (J:Arg):((List Tx)×Int)->Option Out:=au (λw v=>B0 k w (Q1 k J) J v) k
theorem aR (k:Nat) (J:Arg):s0 k J=r0 k J:=by
 funext U;
 have h0:cT (ag 0 (aJ (D.N k [1,1]) D.K0)) J=Q1 k J:=funext λz=>nC k J z
 refine (aN _ _ _ (T0 J) (λself v=>B0 k self (cT (ag 0 (aJ (D.N k [1,1]) D.K0)) J) J v) (λrec v=>iY k rec (ag 0 (aJ (D.N k [1,1]) D.K0)) J v) k U).trans ?_
 rw[h0]
 rfl
noncomputable def p (l0:((List Tx)×Int)->Option Out) (J:Arg):Option Out:=l0 (J.1,(0:Int))
theorem ab (k:Nat) (J:Arg):@Eq (Option Out) (D.W k J) (p (r0 k J) J):=
 Eq.trans (b:=p (s0 k J) J) (by kernel_rfl) (by rw[aR])
theorem ok:Ok prog 68 D.sig:=az func68 aO (by kernel_rfl) (fc c6.ok (an _))
end bv
namespace bZ
abbrev Arg:Type:=(List Tx)×Unit
abbrev Out:Type:=Int×Unit
abbrev ps:PQ:=[(.ro,(.af bg))]
noncomputable def D:FD:={ fn:=f29,tl:=bn,ps:=ps,rs:=[(i64,(ai i64))],gl:=[(65,bi.D.sig),(66,d6.D.sig),(67,aT.D.sig),(68,bv.D.sig),(69,cw.D.sig)],lv:=[(4,[0,3])],lx:=[(0,[0])],od:=[(9,[0,1,2,3,4,5,6,7,8,9,10,11,12,13,14])] }
noncomputable def aa (a:Arg):Option Out:=@lift Out λk=>D.W k a
noncomputable def T0 (J:Arg) (U:Int):St:={ n:=56,sl:=[(0,.val (.af bg) J.1),(3,.val i64 U)],vr:=[],ax:=[] }
noncomputable def b0 (self:Int->Option Out) (e0:(Unit)->Option Out) (J:Arg) (U:Int):Option Out:=bif decide (U < (J.1.length:Int)) then (if 0<=U then ((J.1[U.toNat]?).bind λbe=>(bi.aa (be.1,(1:Int),(99:Int),())).bind λco=>bif !co.1 then (some ((3:Int),())) else let JV:Option Out:=(d6.aa (be,())).bind λCD=>bif !decide (CD.1=(0:Int)) then (some (CD.1,())) else (aT.aa (be,())).bind λnh=>bif !decide (nh.1=(0:Int)) then (some (nh.1,())) else self (ap (U+(1:Int)));bif decide ((0:Int) < U) then (if 0<=ap (U - (1:Int)) then ((J.1[(ap (U - (1:Int))).toNat]?).bind λjL=>bif decide (be.1<=jL.1) then (some ((1:Int),())) else JV) else none) else JV) else none) else e0 ()
noncomputable abbrev B0 (_:Nat):=b0
noncomputable def q0 (J:Arg) (Ox:(Unit)):Option Out:=(bv.aa (J.1,())).bind λMp=>bif !Mp.1 then (some ((7:Int),())) else (cw.aa (J.1,())).bind λFJ=>bif decide ((12:Int) < FJ.1) then (some ((2:Int),())) else some ((0:Int),())
noncomputable abbrev Q0 (_:Nat):=q0
noncomputable def s0 (k:Nat) (J:Arg):(Int)->Option Out:=λU=>D.L k [1,1,0,1,0,0] [0,3] [] (ag 0 (aJ (D.N k [1,1,1]) D.K0)) (T0 J U)
noncomputable def r0 (k:Nat) (J:Arg):(Int)->Option Out:=au (λw v=>B0 k w (Q0 k J) J v) k
theorem aR (k:Nat) (J:Arg):s0 k J=r0 k J:=
 funext λU=>aN _ _ _ (T0 J) _ (λrec v=>by kernel_rfl) k U
noncomputable def p (l0:(Int)->Option Out) (J:Arg):Option Out:=bif decide ((4:Int) < (J.1.length:Int)) then (some ((2:Int),())) else l0 (0:Int)
theorem ab (k:Nat) (J:Arg):@Eq (Option Out) (D.W k J) (p (r0 k J) J):=
 Eq.trans (b:=p (s0 k J) J) (by kernel_rfl) (by rw[aR])
theorem ok:Ok prog 29 D.sig:=az func29 aO (by kernel_rfl) (fc bi.ok (fc d6.ok (fc aT.ok (fc bv.ok (fc cw.ok (an _))))))
end bZ
namespace d7
abbrev Arg:Type:=Int×Unit
abbrev Out:Type:=Bool×Unit
abbrev ps:PQ:=[(.ro,i64)]
noncomputable def D:FD:={ fn:=f71,tl:=bn,ps:=ps,rs:=[(.bool,(ai .bool))],gl:=[(65,bi.D.sig)] }
noncomputable def aa (a:Arg):Option Out:=@lift Out λk=>D.W k a
noncomputable def p (J:Arg):Option Out:=(bi.aa (J.1,(2:Int),(4:Int),())).bind λr2=>some (r2.1,())
theorem ab (k:Nat) (J:Arg):@Eq (Option Out) (D.W k J) (p J):=by kernel_rfl
theorem ok:Ok prog 71 D.sig:=az func71 aO (by kernel_rfl) (fc bi.ok (an _))
end d7
namespace f_
abbrev Arg:Type:=Op×Unit
abbrev Out:Type:=Bool×Unit
abbrev ps:PQ:=[(.ro,(.ptr jm))]
noncomputable def D:FD:={ fn:=f70,tl:=bn,ps:=ps,rs:=[(.bool,(ai .bool))],gl:=[(65,bi.D.sig),(71,d7.D.sig)] }
noncomputable def aa (a:Arg):Option Out:=@lift Out λk=>D.W k a
noncomputable def p (J:Arg):Option Out:=let j6:Option Out:=let j8:Option Out:=bif decide (J.1.1=(4:Int)) then (bif decide (J.1.2.2.1.2.2.1=(0:Int)) then (some (decide (J.1.2.2.1.2.2.2.1=([]:List UInt8)),())) else some (false,())) else (d7.aa (J.1.1,())).bind λr9=>bif r9.1 then (some (true,())) else some ((Ty.eq aw J.1.2.2.1 ((0:Int),(0:Int),(0:Int),([]:List UInt8),())),());bif decide (J.1.1=(1:Int)) then (bif !decide (J.1.2.1=(0:Int)) then (some (false,())) else j8) else bif decide (J.1.1=(9:Int)) then (bif !decide (J.1.2.1=(0:Int)) then (some (false,())) else j8) else j8;(bi.aa (J.1.1,(1:Int),(9:Int),())).bind λr2=>bif !r2.1 then (some (false,())) else bif !decide (J.1.1=(6:Int)) then (bif !decide (J.1.2.2.2.1=(0:Int)) then (some (false,())) else j6) else j6
theorem ab (k:Nat) (J:Arg):@Eq (Option Out) (D.W k J) (p J):=by kernel_rfl
theorem ok:Ok prog 70 D.sig:=az func70 aO (by kernel_rfl) (fc bi.ok (fc d7.ok (an _)))
end f_
namespace fw
abbrev Arg:Type:=Op×Unit
abbrev Out:Type:=Int×Unit
abbrev ps:PQ:=[(.ro,(.ptr jm))]
noncomputable def D:FD:={ fn:=f30,tl:=bn,ps:=ps,rs:=[(i64,(ai i64))],gl:=[(63,ca.D.sig),(65,bi.D.sig),(70,f_.D.sig),(71,d7.D.sig)] }
noncomputable def aa (a:Arg):Option Out:=@lift Out λk=>D.W k a
noncomputable def p (J:Arg):Option Out:=(f_.aa (J.1,())).bind λr2=>bif !r2.1 then (some ((1:Int),())) else bif !decide (J.1.1=(1:Int)) then (bif !decide (J.1.1=(9:Int)) then ((bi.aa (J.1.2.1,(1:Int),(99:Int),())).bind λr3=>bif !r3.1 then (some ((3:Int),())) else (bi.aa (J.1.2.2.2.1,(0:Int),(7:Int),())).bind λr4=>bif !r4.1 then (some ((3:Int),())) else (d7.aa (J.1.1,())).bind λr9=>bif r9.1 then ((ca.aa (J.1.2.2.1,())).bind λsh=>some (sh.1,())) else some ((0:Int),())) else (bi.aa (J.1.2.2.2.1,(0:Int),(7:Int),())).bind λr5=>bif !r5.1 then (some ((3:Int),())) else (d7.aa (J.1.1,())).bind λpr=>bif pr.1 then ((ca.aa (J.1.2.2.1,())).bind λxo=>some (xo.1,())) else some ((0:Int),())) else (bi.aa (J.1.2.2.2.1,(0:Int),(7:Int),())).bind λr6=>bif !r6.1 then (some ((3:Int),())) else (d7.aa (J.1.1,())).bind λBw=>bif Bw.1 then ((ca.aa (J.1.2.2.1,())).bind λtz=>some (tz.1,())) else some ((0:Int),())
theorem ab (k:Nat) (J:Arg):@Eq (Option Out) (D.W k J) (p J):=by kernel_rfl
theorem ok:Ok prog 30 D.sig:=az func30 aO (by kernel_rfl) (fc ca.ok (fc bi.ok (fc f_.ok (fc d7.ok (an _)))))
end fw
namespace ga
abbrev Arg:Type:=(List Row)×(List Tx)×Op×Unit
abbrev Out:Type:=aE×Unit
abbrev ps:PQ:=[(.ro,(.af aw)),(.ro,(.af bg)),(.ro,jm)]
noncomputable def D:FD:={ fn:=f7,tl:=bn,ps:=ps,rs:=[(bu,(ai bu))],gl:=[(27,dF.D.sig),(28,bQ.D.sig),(29,bZ.D.sig),(30,fw.D.sig),(31,dW.D.sig)] }
noncomputable def aa (a:Arg):Option Out:=@lift Out λk=>D.W k a
noncomputable def p (J:Arg):Option Out:=(dF.aa (J.1,())).bind λr2=>bif !decide (r2.1=(0:Int)) then ((bQ.aa (r2.1,())).bind λr3=>some (r3.1,())) else (bZ.aa (J.2.1,())).bind λr4=>bif !decide (r4.1=(0:Int)) then ((bQ.aa (r4.1,())).bind λr5=>some (r5.1,())) else (fw.aa (J.2.2.1,())).bind λr6=>bif !decide (r6.1=(0:Int)) then ((bQ.aa (r6.1,())).bind λr7=>some (r7.1,())) else (dW.aa (J.1,J.2.1,J.2.2.1,())).bind λr8=>some (r8.1,())
theorem ab (k:Nat) (J:Arg):@Eq (Option Out) (D.W k J) (p J):=by kernel_rfl
theorem ok:Ok prog 7 D.sig:=az func7 aO (by kernel_rfl) (fc dF.ok (fc bQ.ok (fc bZ.ok (fc fw.ok (fc dW.ok (an _))))))
end ga
namespace eK
abbrev Arg:Type:=(List UInt8)×Unit
abbrev Out:Type:=(List Tx)×Key×Unit
abbrev ps:PQ:=[(.ro,(.af u8))]
noncomputable def D:FD:={ fn:=f8,tl:=bn,ps:=ps,rs:=[((.af bg),(aF (.af bg))),(aA,(ai aA))],gl:=[(19,dV.D.sig),(20,dY.D.sig),(21,bK.D.sig),(32,aM.D.sig),(33,aj.D.sig)],od:=[(6,[0,1,2,3])] }
noncomputable def aa (a:Arg):Option Out:=@lift Out λk=>D.W k a
noncomputable def p (J:Arg):Option Out:=(dV.aa (J.1,())).bind λr2=>(dY.aa (r2.1,())).bind λr3=>(aM.aa (r3.2.2.1,[(0:Int),(1:Int),(2:Int),(4:Int)],())).bind λr4=>(aj.aa (r4.2.1,(7:Int),())).bind λr5=>if 0<=(0:Int)/\(0:Int) < (r3.2.1.length:Int) then ((r3.2.1[0]?).bind λx6=>(r3.2.1[0]?).bind λx7=>bif decide ((0:Int) < (x7.2.2.2.1.length:Int)) then ((bK.aa (r5.2.1,(2:Int),())).bind λr8=>bif r8.1 then (if 0<=(0:Int)/\(0:Int) < (r3.2.1.length:Int) then ((r3.2.1[0]?).bind λx9=>(r3.2.1[0]?).bind λtw=>if 0<=(0:Int)/\(0:Int) < (tw.2.2.2.1.length:Int) then ((r3.2.1[0]?).bind λvu=>(vu.2.2.2.1[0]?).bind λBv=>some (r3.2.1,Bv,())) else none) else none) else some (r3.2.1,(r4.1,r5.1,()),())) else some (r3.2.1,(r4.1,r5.1,()),())) else none
theorem ab (k:Nat) (J:Arg):@Eq (Option Out) (D.W k J) (p J):=by kernel_rfl
theorem ok:Ok prog 8 D.sig:=az func8 aO (by kernel_rfl) (fc dV.ok (fc dY.ok (fc bK.ok (fc aM.ok (fc aj.ok (an _))))))
end eK
namespace dG
abbrev Arg:Type:=(List Tx)×Key×Unit
abbrev Out:Type:=Int×Unit
abbrev ps:PQ:=[(.ro,(.af bg)),(.ro,aA)]
noncomputable def D:FD:={ fn:=f35,tl:=bn,ps:=ps,rs:=[(i64,(ai i64))],gl:=[(74,bz.D.sig)],lv:=[(2,[3,7,8,9])],lx:=[(0,[])] }
noncomputable def aa (a:Arg):Option Out:=@lift Out λk=>D.W k a
noncomputable def T0 (J:Arg) (U:Int):St:={ n:=20,sl:=[(3,.box aA (ai aA) [] J.2.1),(7,.val (.af bg) J.1),(8,.val i64 (J.1.length:Int)),(9,.val i64 U)],vr:=[],ax:=[] }
noncomputable def b0 (self:Int->Option Out) (e0:(Unit)->Option Out) (J:Arg) (U:Int):Option Out:=bif decide (U < (J.1.length:Int)) then (if 0<=U then ((J.1[U.toNat]?).bind λbe=>(bz.aa (be.2.2.2.1,J.2.1,())).bind λco=>bif co.1 then (some (be.1,())) else self (ap (U+(1:Int)))) else none) else e0 ()
noncomputable abbrev B0 (_:Nat):=b0
noncomputable def q0 (J:Arg) (dL:(Unit)):Option Out:=some ((0:Int),())
noncomputable abbrev Q0 (_:Nat):=q0
noncomputable def s0 (k:Nat) (J:Arg):(Int)->Option Out:=λU=>D.L k [1,0,1,0,0] [3,7,8,9] [] (ag 0 (aJ (D.N k [1,1]) D.K0)) (T0 J U)
noncomputable def r0 (k:Nat) (J:Arg):(Int)->Option Out:=au (λw v=>B0 k w (Q0 k J) J v) k
theorem aR (k:Nat) (J:Arg):s0 k J=r0 k J:=
 funext λU=>aN _ _ _ (T0 J) _ (λrec v=>by kernel_rfl) k U
noncomputable def p (l0:(Int)->Option Out) (J:Arg):Option Out:=l0 (0:Int)
theorem ab (k:Nat) (J:Arg):@Eq (Option Out) (D.W k J) (p (r0 k J) J):=
 Eq.trans (b:=p (s0 k J) J) (by kernel_rfl) (by rw[aR])
theorem ok:Ok prog 35 D.sig:=az func35 aO (by kernel_rfl) (fc bz.ok (an _))
end dG
namespace fQ
abbrev Arg:Type:=(List Tx)×Key×Unit
abbrev Out:Type:=Key×Unit
abbrev ps:PQ:=[(.ro,(.af bg)),(.ro,aA)]
noncomputable def D:FD:={ fn:=f9,tl:=bn,ps:=ps,rs:=[(aA,(ai aA))],gl:=[(17,av.D.sig),(34,fP.D.sig),(35,dG.D.sig)] }
noncomputable def aa (a:Arg):Option Out:=@lift Out λk=>D.W k a
noncomputable def p (J:Arg):Option Out:=(av.aa (J.1,())).bind λr2=>bif !decide (r2.1=(0:Int)) then (some ((r2.1,(0:Int),()),())) else (fP.aa (J.2.1.1,J.2.1.2.1,())).bind λr3=>bif !r3.1 then (some (((3:Int),(0:Int),()),())) else (dG.aa (J.1,J.2.1,())).bind λr4=>some (((0:Int),r4.1,()),())
theorem ab (k:Nat) (J:Arg):@Eq (Option Out) (D.W k J) (p J):=by kernel_rfl
theorem ok:Ok prog 9 D.sig:=az func9 aO (by kernel_rfl) (fc av.ok (fc fP.ok (fc dG.ok (an _))))
end fQ
namespace h_
abbrev Arg:Type:=(List Tx)×Key×Unit
abbrev Out:Type:=Key×Unit
abbrev ps:PQ:=[(.ro,(.af bg)),(.ro,aA)]
noncomputable def D:FD:={ fn:=f10,tl:=bn,ps:=ps,rs:=[(aA,(ai aA))],gl:=[(29,bZ.D.sig),(36,fj.D.sig),(37,c6.D.sig)] }
noncomputable def aa (a:Arg):Option Out:=@lift Out λk=>D.W k a
noncomputable def p (J:Arg):Option Out:=(bZ.aa (J.1,())).bind λr2=>bif !decide (r2.1=(0:Int)) then (some ((r2.1,(0:Int),()),())) else (fj.aa (J.2.1,())).bind λr3=>bif !r3.1 then (some (((3:Int),(0:Int),()),())) else (c6.aa (J.1,J.2.1,())).bind λr4=>some (((0:Int),r4.1,()),())
theorem ab (k:Nat) (J:Arg):@Eq (Option Out) (D.W k J) (p J):=by kernel_rfl
theorem ok:Ok prog 10 D.sig:=az func10 aO (by kernel_rfl) (fc bZ.ok (fc fj.ok (fc c6.ok (an _))))
end h_
namespace gJ
abbrev Arg:Type:=Op×Unit
abbrev Out:Type:=Int×Unit
abbrev ps:PQ:=[(.ro,jm)]
noncomputable def D:FD:={ fn:=f12,tl:=bn,ps:=ps,rs:=[(i64,(ai i64))],gl:=[(30,fw.D.sig)] }
noncomputable def aa (a:Arg):Option Out:=@lift Out λk=>D.W k a
noncomputable def p (J:Arg):Option Out:=(fw.aa (J.1,())).bind λr2=>some (r2.1,())
theorem ab (k:Nat) (J:Arg):@Eq (Option Out) (D.W k J) (p J):=by kernel_rfl
theorem ok:Ok prog 12 D.sig:=az func12 aO (by kernel_rfl) (fc fw.ok (an _))
end gJ
namespace dt
abbrev Arg:Type:=(List Change)×Unit
abbrev Out:Type:=(List Change)×Unit
abbrev ps:PQ:=[(.ro,(.af bk))]
noncomputable def D:FD:={ fn:=f92,tl:=bn,ps:=ps,rs:=[((.af bk),(aF (.af bk)))] }
noncomputable def aa (a:Arg):Option Out:=@lift Out λk=>D.W k a
noncomputable def p (J:Arg):Option Out:=pB J.1 (some (([]:List Change),())) (if ([]:List Change).length+J.1.length<=cU then (some (([]:List Change)++J.1,())) else none)
theorem ab (k:Nat) (J:Arg):@Eq (Option Out) (D.W k J) (p J):=by kernel_rfl
theorem ok:Ok prog 92 D.sig:=az func92 aO (by kernel_rfl) (an _)
end dt
namespace dM
abbrev Arg:Type:=(List Int)×Unit
abbrev Out:Type:=(List Int)×Unit
abbrev ps:PQ:=[(.ro,(.af i64))]
noncomputable def D:FD:={ fn:=f93,tl:=bn,ps:=ps,rs:=[((.af i64),(aF (.af i64)))] }
noncomputable def aa (a:Arg):Option Out:=@lift Out λk=>D.W k a
noncomputable def p (J:Arg):Option Out:=pB J.1 (some (([]:List Int),())) (if ([]:List Int).length+J.1.length<=cU then (some (([]:List Int)++J.1,())) else none)
theorem ab (k:Nat) (J:Arg):@Eq (Option Out) (D.W k J) (p J):=by kernel_rfl
theorem ok:Ok prog 93 D.sig:=az func93 aO (by kernel_rfl) (an _)
end dM
namespace et
abbrev Arg:Type:=(List Key)×Unit
abbrev Out:Type:=(List Key)×Unit
abbrev ps:PQ:=[(.ro,(.af aA))]
noncomputable def D:FD:={ fn:=f94,tl:=bn,ps:=ps,rs:=[((.af aA),(aF (.af aA)))] }
noncomputable def aa (a:Arg):Option Out:=@lift Out λk=>D.W k a
noncomputable def p (J:Arg):Option Out:=pB J.1 (some (([]:List Key),())) (if ([]:List Key).length+J.1.length<=cU then (some (([]:List Key)++J.1,())) else none)
theorem ab (k:Nat) (J:Arg):@Eq (Option Out) (D.W k J) (p J):=by kernel_rfl
theorem ok:Ok prog 94 D.sig:=az func94 aO (by kernel_rfl) (an _)
end et
namespace eA
abbrev Arg:Type:=(List Tx)×Unit
abbrev Out:Type:=(List Tx)×Unit
abbrev ps:PQ:=[(.ro,(.af bg))]
noncomputable def D:FD:={ fn:=f77,tl:=bn,ps:=ps,rs:=[((.af bg),(aF (.af bg)))],gl:=[(92,dt.D.sig),(93,dM.D.sig),(94,et.D.sig)],lv:=[(3,[3,6,7,8])],lx:=[(0,[3])],od:=[(5,[0,1,2,3,4,6,7,9,10,5,8,11,12,13,14,15])] }
noncomputable def aa (a:Arg):Option Out:=@lift Out λk=>D.W k a
noncomputable def T0 (J:Arg) (U:(List Tx)×Int):St:={ n:=29,sl:=[(3,.own (.af bg) (aF (.af bg)) [] U.1),(6,.val (.af bg) J.1),(7,.val i64 (J.1.length:Int)),(8,.val i64 U.2)],vr:=[],ax:=[] }
noncomputable def b0 (self:((List Tx)×Int)->Option Out) (e0:(List Tx)->Option Out) (J:Arg) (U:(List Tx)×Int):Option Out:=bif decide (U.2 < (J.1.length:Int)) then (if 0<=U.2 then ((J.1[U.2.toNat]?).bind λbe=>(dt.aa (be.2.1,())).bind λco=>(dM.aa (be.2.2.1,())).bind λi7=>(et.aa (be.2.2.2.1,())).bind λiJ=>if U.1.length+[(be.1,co.1,i7.1,iJ.1,())].length<=cU then (let FF:=U.1++[(be.1,co.1,i7.1,iJ.1,())];self (FF,ap (U.2+(1:Int)))) else none) else none) else e0 U.1
noncomputable abbrev B0 (_:Nat):=b0
noncomputable def q0 (J:Arg) (CE:(List Tx)):Option Out:=some (CE,())
noncomputable abbrev Q0 (_:Nat):=q0
noncomputable def s0 (k:Nat) (J:Arg):((List Tx)×Int)->Option Out:=λU=>D.L k [1,1,0,1,0,0] [3,6,7,8] [] (ag 0 (aJ (D.N k [1,1,1]) D.K0)) (T0 J U)
noncomputable def r0 (k:Nat) (J:Arg):((List Tx)×Int)->Option Out:=au (λw v=>B0 k w (Q0 k J) J v) k
theorem aR (k:Nat) (J:Arg):s0 k J=r0 k J:=
 funext λU=>aN _ _ _ (T0 J) _ (λrec v=>by kernel_rfl) k U
noncomputable def p (l0:((List Tx)×Int)->Option Out) (J:Arg):Option Out:=l0 (([]:List Tx),(0:Int))
theorem ab (k:Nat) (J:Arg):@Eq (Option Out) (D.W k J) (p (r0 k J) J):=
 Eq.trans (b:=p (s0 k J) J) (by kernel_rfl) (by rw[aR])
theorem ok:Ok prog 77 D.sig:=az func77 aO (by kernel_rfl) (fc dt.ok (fc dM.ok (fc et.ok (an _))))
end eA
namespace gu
abbrev Arg:Type:=(List Tx)×Int×Change×Unit
abbrev Out:Type:=(List Tx)×Unit
abbrev ps:PQ:=[(.ro,(.af bg)),(.ro,i64),(.ro,bk)]
noncomputable def D:FD:={ fn:=f45,tl:=bn,ps:=ps,rs:=[((.af bg),(aF (.af bg)))],gl:=[(43,bW.D.sig),(74,bz.D.sig),(77,eA.D.sig)],od:=[(3,[0,1,2,3,4,5,6,7,8,9,10]),(4,[0,1,2,3,4,5,6,7]),(5,[0,1,2,3,4,5,6,7,8,9,10,11])] }
noncomputable def aa (a:Arg):Option Out:=@lift Out λk=>D.W k a
noncomputable def p (J:Arg):Option Out:=(eA.aa (J.1,())).bind λr2=>if 0<=J.2.1/\J.2.1 < (r2.1.length:Int) then ((r2.1[J.2.1.toNat]?).bind λx3=>(r2.1[J.2.1.toNat]?).bind λx4=>(r2.1[J.2.1.toNat]?).bind λx5=>if x4.2.1.length+[J.2.2.1].length<=cU then (if J.2.1.toNat=J.2.1.toNat then ((r2.1.set J.2.1.toNat x5)[J.2.1.toNat]?).bind λx6=>let y7:=(r2.1.set J.2.1.toNat x5).set J.2.1.toNat (x6.1,x4.2.1++[J.2.2.1],x6.2.2);(y7[J.2.1.toNat]?).bind λx8=>(bW.aa (J.2.2.1,())).bind λr9=>(y7[J.2.1.toNat]?).bind λtw=>(bz.aa (tw.2.2.2.1,r9.1,())).bind λpr=>bif !pr.1 then ((y7[J.2.1.toNat]?).bind λBv=>(bW.aa (J.2.2.1,())).bind λBw=>(y7[J.2.1.toNat]?).bind λzF=>(y7[J.2.1.toNat]?).bind λEi=>if zF.2.2.2.1.length+[Bw.1].length<=cU then (if J.2.1.toNat=J.2.1.toNat then ((y7.set J.2.1.toNat Ei)[J.2.1.toNat]?).bind λxm=>let JR:=(y7.set J.2.1.toNat Ei).set J.2.1.toNat (xm.1,xm.2.1,xm.2.2.1,zF.2.2.2.1++[Bw.1],xm.2.2.2.2);some (JR,()) else none) else none) else some (y7,()) else none) else none) else none
theorem ab (k:Nat) (J:Arg):@Eq (Option Out) (D.W k J) (p J):=by kernel_rfl
theorem ok:Ok prog 45 D.sig:=az func45 aO (by kernel_rfl) (fc bW.ok (fc bz.ok (fc eA.ok (an _))))
end gu
namespace eL
abbrev Arg:Type:=(List Tx)×Int×Change×Unit
abbrev Out:Type:=sf×Unit
abbrev ps:PQ:=[(.ro,(.af bg)),(.ro,i64),(.ro,bk)]
noncomputable def D:FD:={ fn:=f13,tl:=bn,ps:=ps,rs:=[(qR,(aF qR))],gl:=[(17,av.D.sig),(25,f0.D.sig),(35,dG.D.sig),(42,bV.D.sig),(43,bW.D.sig),(44,cj.D.sig),(45,gu.D.sig)] }
noncomputable def aa (a:Arg):Option Out:=@lift Out λk=>D.W k a
noncomputable def p (J:Arg):Option Out:=(av.aa (J.1,())).bind λr2=>bif !decide (r2.1=(0:Int)) then (some ((r2.1,([]:List Tx),()),())) else (f0.aa (J.1,J.2.1,())).bind λr3=>bif decide (r3.1 < (0:Int)) then (some (((4:Int),([]:List Tx),()),())) else (bV.aa (J.2.2.1,())).bind λr4=>bif !decide (r4.1=(0:Int)) then (some ((r4.1,([]:List Tx),()),())) else (bW.aa (J.2.2.1,())).bind λr5=>(dG.aa (J.1,r5.1,())).bind λr6=>let Ej:Option Out:=(cj.aa (J.1,())).bind λxo=>bif decide ((12:Int)<=xo.1) then (some (((2:Int),([]:List Tx),()),())) else bif decide (r6.1=(0:Int)) then (if 0<=r3.1 then ((J.1[r3.1.toNat]?).bind λEh=>bif decide ((12:Int)<=(Eh.2.2.2.1.length:Int)) then (some (((2:Int),([]:List Tx),()),())) else (gu.aa (J.1,r3.1,J.2.2.1,())).bind λHm=>some (((0:Int),Hm.1,()),())) else none) else (gu.aa (J.1,r3.1,J.2.2.1,())).bind λBx=>some (((0:Int),Bx.1,()),());bif !decide (r6.1=(0:Int)) then (bif !decide (r6.1=J.2.1) then (some (((7:Int),([]:List Tx),()),())) else Ej) else Ej
theorem ab (k:Nat) (J:Arg):@Eq (Option Out) (D.W k J) (p J):=by kernel_rfl
theorem ok:Ok prog 13 D.sig:=az func13 aO (by kernel_rfl) (fc av.ok (fc f0.ok (fc dG.ok (fc bV.ok (fc bW.ok (fc cj.ok (fc gu.ok (an _))))))))
end eL
namespace eu
abbrev Arg:Type:=(List Row)×Unit
abbrev Out:Type:=(List Row)×Unit
abbrev ps:PQ:=[(.ro,(.af aw))]
noncomputable def D:FD:={ fn:=f46,tl:=bn,ps:=ps,rs:=[((.af aw),(aF (.af aw)))] }
noncomputable def aa (a:Arg):Option Out:=@lift Out λk=>D.W k a
noncomputable def p (J:Arg):Option Out:=pB J.1 (some (([]:List Row),())) (if ([]:List Row).length+J.1.length<=cU then (some (([]:List Row)++J.1,())) else none)
theorem ab (k:Nat) (J:Arg):@Eq (Option Out) (D.W k J) (p J):=by kernel_rfl
theorem ok:Ok prog 46 D.sig:=az func46 aO (by kernel_rfl) (an _)
end eu
namespace ew
abbrev Arg:Type:=Change×(List Row)×Unit
abbrev Out:Type:=Bool×Unit
abbrev ps:PQ:=[(.ro,bk),(.ro,(.af aw))]
noncomputable def D:FD:={ fn:=f48,tl:=bn,ps:=ps,rs:=[(.bool,(ai .bool))],gl:=[(60,aq.D.sig),(76,bl.D.sig)],od:=[(2,[0,1,2,3,4,5,6,7,8,9,10,11,12,13,14,15,16,17])] }
noncomputable def aa (a:Arg):Option Out:=@lift Out λk=>D.W k a
noncomputable def p (J:Arg):Option Out:=(bl.aa (J.1,())).bind λr2=>(aq.aa (J.2.1,r2.1,((61,0):Nat×Int),())).bind λr3=>bif (r3.2.1 == J.1.1) then (bif !r3.2.1 then (some (true,())) else if 0<=r3.1 then ((J.2.1[r3.1.toNat]?).bind λx4=>some ((Ty.eq aw x4 J.1.2.1),())) else none) else some (false,())
theorem ab (k:Nat) (J:Arg):@Eq (Option Out) (D.W k J) (p J):=by kernel_rfl
theorem ok:Ok prog 48 D.sig:=az func48 aO (by kernel_rfl) (fc aq.ok (fc bl.ok (an _)))
end ew
namespace gb
abbrev Arg:Type:=(List Row)×Change×Unit
abbrev Out:Type:=(List Row)×Unit
abbrev ps:PQ:=[(.ro,(.af aw)),(.ro,bk)]
noncomputable def D:FD:={ fn:=f49,tl:=bn,ps:=ps,rs:=[((.af aw),(aF (.af aw)))],gl:=[(60,aq.D.sig),(76,bl.D.sig)] }
noncomputable def aa (a:Arg):Option Out:=@lift Out λk=>D.W k a
noncomputable def p (J:Arg):Option Out:=(bl.aa (J.2.1,())).bind λr2=>(aq.aa (J.1,r2.1,((61,0):Nat×Int),())).bind λr3=>if 0<=r3.1/\r3.1<=(J.1.length:Int) then (if ([]:List Row).length+((J.1.take r3.1.toNat).drop 0).length<=cU then (let y4:=([]:List Row)++((J.1.take r3.1.toNat).drop 0);let j8:=λ(p7:List Row)=>(let Ej:=λ(Hn:Int)=>(if 0<=Hn/\Hn<=(J.1.length:Int) then (if p7.length+((J.1.take J.1.length).drop Hn.toNat).length<=cU then (let JQ:=p7++((J.1.take J.1.length).drop Hn.toNat);some (JQ,())) else none) else none:Option Out);bif r3.2.1 then (Ej (ap (r3.1+(1:Int)))) else Ej r3.1:Option Out);bif J.2.1.2.2.1 then (if y4.length+[J.2.1.2.2.2.1].length<=cU then (j8 (y4++[J.2.1.2.2.2.1])) else none) else j8 y4) else none) else none
theorem ab (k:Nat) (J:Arg):@Eq (Option Out) (D.W k J) (p J):=by kernel_rfl
theorem ok:Ok prog 49 D.sig:=az func49 aO (by kernel_rfl) (fc aq.ok (fc bl.ok (an _)))
end gb
namespace bs
abbrev Arg:Type:=(List Row)×(List Change)×Unit
abbrev Out:Type:=nB×Unit
abbrev ps:PQ:=[(.ro,(.af aw)),(.ro,(.af bk))]
noncomputable def D:FD:={ fn:=f14,tl:=bn,ps:=ps,rs:=[(kA,(aF kA))],gl:=[(24,br.D.sig),(46,eu.D.sig),(47,cM.D.sig),(48,ew.D.sig),(49,gb.D.sig)],lv:=[(6,[4,6,18,19,20])],lx:=[(0,[4,6])] }
noncomputable def aa (a:Arg):Option Out:=@lift Out λk=>D.W k a
noncomputable def T0 (J:Arg) (df:(List Row)×Int):St:={ n:=45,sl:=[(4,.box kA (aF kA) [] ((0:Int),([]:List Row),())),(6,.own (.af aw) (aF (.af aw)) [] df.1),(18,.val (.af bk) J.2.1),(19,.val i64 (J.2.1.length:Int)),(20,.val i64 df.2)],vr:=[],ax:=[] }
noncomputable def b0 (self:((List Row)×Int)->Option Out) (e0:(List Row)->Option Out) (J:Arg) (df:(List Row)×Int):Option Out:=bif decide (df.2 < (J.2.1.length:Int)) then (if 0<=df.2 then ((J.2.1[df.2.toNat]?).bind λjL=>(cM.aa (jL,())).bind λiJ=>bif !decide (iJ.1=(0:Int)) then (some ((iJ.1,([]:List Row),()),())) else (ew.aa (jL,df.1,())).bind λni=>bif !ni.1 then (some (((8:Int),([]:List Row),()),())) else (gb.aa (df.1,jL,())).bind λwy=>self (wy.1,ap (df.2+(1:Int)))) else none) else e0 df.1
noncomputable abbrev B0 (_:Nat):=b0
noncomputable def q0 (J:Arg) (pM:(List Row)):Option Out:=bif decide ((60:Int) < (pM.length:Int)) then (some (((2:Int),([]:List Row),()),())) else some (((0:Int),pM,()),())
noncomputable abbrev Q0 (_:Nat):=q0
noncomputable def s0 (k:Nat) (J:Arg):((List Row)×Int)->Option Out:=λdf=>D.L k [1,1,1,0,1,0,0] [4,6,18,19,20] [] (ag 0 (aJ (D.N k [1,1,1,1]) D.K0)) (T0 J df)
noncomputable def r0 (k:Nat) (J:Arg):((List Row)×Int)->Option Out:=au (λw v=>B0 k w (Q0 k J) J v) k
theorem aR (k:Nat) (J:Arg):s0 k J=r0 k J:=
 funext λdf=>aN _ _ _ (T0 J) _ (λrec v=>by kernel_rfl) k df
noncomputable def p (l0:((List Row)×Int)->Option Out) (J:Arg):Option Out:=(br.aa (J.1,())).bind λr2=>bif !decide (r2.1=(0:Int)) then (some ((r2.1,([]:List Row),()),())) else (eu.aa (J.1,())).bind λr3=>l0 (r3.1,(0:Int))
theorem ab (k:Nat) (J:Arg):@Eq (Option Out) (D.W k J) (p (r0 k J) J):=
 Eq.trans (b:=p (s0 k J) J) (by kernel_rfl) (by rw[aR])
theorem ok:Ok prog 14 D.sig:=az func14 aO (by kernel_rfl) (fc br.ok (fc eu.ok (fc cM.ok (fc ew.ok (fc gb.ok (an _))))))
end bs
namespace ey
abbrev Arg:Type:=(List Change)×Unit
abbrev Out:Type:=(List Change)×Unit
abbrev ps:PQ:=[(.ro,(.af bk))]
noncomputable def D:FD:={ fn:=f50,tl:=bn,ps:=ps,rs:=[((.af bk),(aF (.af bk)))],lv:=[(3,[0,3,4])],lx:=[(0,[3])] }
noncomputable def aa (a:Arg):Option Out:=@lift Out λk=>D.W k a
noncomputable def T0 (J:Arg) (U:(List Change)×Int):St:={ n:=30,sl:=[(0,.val (.af bk) J.1),(3,.own (.af bk) (aF (.af bk)) [] U.1),(4,.val i64 U.2)],vr:=[],ax:=[] }
noncomputable def b0 (self:((List Change)×Int)->Option Out) (e0:(List Change)->Option Out) (J:Arg) (U:(List Change)×Int):Option Out:=bif decide ((0:Int)<=U.2) then (if 0<=U.2 then ((J.1[U.2.toNat]?).bind λbe=>if U.1.length+[(be.2.2.1,be.2.2.2.1,be.1,be.2.1,())].length<=cU then (let FI:=U.1++[(be.2.2.1,be.2.2.2.1,be.1,be.2.1,())];self (FI,ap (U.2 - (1:Int)))) else none) else none) else e0 U.1
noncomputable abbrev B0 (_:Nat):=b0
noncomputable def q0 (J:Arg) (dL:(List Change)):Option Out:=some (dL,())
noncomputable abbrev Q0 (_:Nat):=q0
noncomputable def s0 (k:Nat) (J:Arg):((List Change)×Int)->Option Out:=λU=>D.L k [1,1,0,1,0,0] [0,3,4] [] (ag 0 (aJ (D.N k [1,1,1]) D.K0)) (T0 J U)
noncomputable def r0 (k:Nat) (J:Arg):((List Change)×Int)->Option Out:=au (λw v=>B0 k w (Q0 k J) J v) k
theorem aR (k:Nat) (J:Arg):s0 k J=r0 k J:=
 funext λU=>aN _ _ _ (T0 J) _ (λrec v=>by kernel_rfl) k U
noncomputable def p (l0:((List Change)×Int)->Option Out) (J:Arg):Option Out:=l0 (([]:List Change),ap ((J.1.length:Int) - (1:Int)))
theorem ab (k:Nat) (J:Arg):@Eq (Option Out) (D.W k J) (p (r0 k J) J):=
 Eq.trans (b:=p (s0 k J) J) (by kernel_rfl) (by rw[aR])
theorem ok:Ok prog 50 D.sig:=az func50 aO (by kernel_rfl) (an _)
end ey
namespace cd
abbrev Arg:Type:=(List Change)×Unit
abbrev Out:Type:=xS×Unit
abbrev ps:PQ:=[(.ro,(.af bk))]
noncomputable def D:FD:={ fn:=f15,tl:=bn,ps:=ps,rs:=[(iI,(aF iI))],gl:=[(42,bV.D.sig),(50,ey.D.sig)],lv:=[(4,[0,2,10,11,12])],lx:=[(0,[0,2])] }
noncomputable def aa (a:Arg):Option Out:=@lift Out λk=>D.W k a
noncomputable def T0 (J:Arg) (U:Int):St:={ n:=26,sl:=[(0,.val (.af bk) J.1),(2,.box iI (aF iI) [] ((0:Int),([]:List Change),())),(10,.val (.af bk) J.1),(11,.val i64 (J.1.length:Int)),(12,.val i64 U)],vr:=[],ax:=[] }
noncomputable def b0 (self:Int->Option Out) (e0:(Unit)->Option Out) (J:Arg) (U:Int):Option Out:=bif decide (U < (J.1.length:Int)) then (if 0<=U then ((J.1[U.toNat]?).bind λbe=>(bV.aa (be,())).bind λco=>bif !decide (co.1=(0:Int)) then (some ((co.1,([]:List Change),()),())) else self (ap (U+(1:Int)))) else none) else e0 ()
noncomputable abbrev B0 (_:Nat):=b0
noncomputable def q0 (J:Arg) (dL:(Unit)):Option Out:=(ey.aa (J.1,())).bind λiJ=>some (((0:Int),iJ.1,()),())
noncomputable abbrev Q0 (_:Nat):=q0
noncomputable def s0 (k:Nat) (J:Arg):(Int)->Option Out:=λU=>D.L k [1,1,0,1,0,0] [0,2,10,11,12] [] (ag 0 (aJ (D.N k [1,1,1]) D.K0)) (T0 J U)
noncomputable def r0 (k:Nat) (J:Arg):(Int)->Option Out:=au (λw v=>B0 k w (Q0 k J) J v) k
theorem aR (k:Nat) (J:Arg):s0 k J=r0 k J:=
 funext λU=>aN _ _ _ (T0 J) _ (λrec v=>by kernel_rfl) k U
noncomputable def p (l0:(Int)->Option Out) (J:Arg):Option Out:=bif decide ((60:Int) < (J.1.length:Int)) then (some (((2:Int),([]:List Change),()),())) else l0 (0:Int)
theorem ab (k:Nat) (J:Arg):@Eq (Option Out) (D.W k J) (p (r0 k J) J):=
 Eq.trans (b:=p (s0 k J) J) (by kernel_rfl) (by rw[aR])
theorem ok:Ok prog 15 D.sig:=az func15 aO (by kernel_rfl) (fc bV.ok (fc ey.ok (an _)))
end cd
namespace ic
abbrev Arg:Type:=(List Row)×(List Tx)×Unit
abbrev Out:Type:=Key×Unit
abbrev ps:PQ:=[(.ro,(.af aw)),(.ro,(.af bg))]
noncomputable def D:FD:={ fn:=f16,tl:=bn,ps:=ps,rs:=[(aA,(ai aA))],gl:=[(17,av.D.sig),(24,br.D.sig),(51,aV.D.sig)] }
noncomputable def aa (a:Arg):Option Out:=@lift Out λk=>D.W k a
noncomputable def p (J:Arg):Option Out:=(br.aa (J.1,())).bind λr2=>bif !decide (r2.1=(0:Int)) then (some ((r2.1,(0:Int),()),())) else (av.aa (J.2.1,())).bind λr3=>bif !decide (r3.1=(0:Int)) then (some ((r3.1,(0:Int),()),())) else (aV.aa (J.1,J.2.1,())).bind λr4=>some (((0:Int),(r4.1.length:Int),()),())
theorem ab (k:Nat) (J:Arg):@Eq (Option Out) (D.W k J) (p J):=by kernel_rfl
theorem ok:Ok prog 16 D.sig:=az func16 aO (by kernel_rfl) (fc av.ok (fc br.ok (fc aV.ok (an _))))
end ic
namespace dH
abbrev Arg:Type:=(List Row)×(List Row)×Unit
abbrev Out:Type:=Bool×Unit
abbrev ps:PQ:=[(.ro,(.af aw)),(.ro,(.af aw))]
noncomputable def D:FD:={ fn:=f18,tl:=bn,ps:=ps,rs:=[(.bool,(ai .bool))],lv:=[(4,[0,1,5])],lx:=[(0,[])],od:=[(6,[0,1,2,3,4,5,6,7,8])] }
noncomputable def aa (a:Arg):Option Out:=@lift Out λk=>D.W k a
noncomputable def T0 (J:Arg) (U:Int):St:={ n:=26,sl:=[(0,.val (.af aw) J.1),(1,.val (.af aw) J.2.1),(5,.val i64 U)],vr:=[],ax:=[] }
noncomputable def b0 (self:Int->Option Out) (e0:(Unit)->Option Out) (J:Arg) (U:Int):Option Out:=bif decide (U < (J.1.length:Int)) then (if 0<=U then ((J.1[U.toNat]?).bind λbe=>if 0<=U then ((J.2.1[U.toNat]?).bind λsg=>bif !(Ty.eq aw be sg) then (some (false,())) else self (ap (U+(1:Int)))) else none) else none) else e0 ()
noncomputable abbrev B0 (_:Nat):=b0
noncomputable def q0 (J:Arg) (dL:(Unit)):Option Out:=some (true,())
noncomputable abbrev Q0 (_:Nat):=q0
noncomputable def s0 (k:Nat) (J:Arg):(Int)->Option Out:=λU=>D.L k [1,1,0,1,0,0] [0,1,5] [] (ag 0 (aJ (D.N k [1,1,1]) D.K0)) (T0 J U)
noncomputable def r0 (k:Nat) (J:Arg):(Int)->Option Out:=au (λw v=>B0 k w (Q0 k J) J v) k
theorem aR (k:Nat) (J:Arg):s0 k J=r0 k J:=
 funext λU=>aN _ _ _ (T0 J) _ (λrec v=>by kernel_rfl) k U
noncomputable def p (l0:(Int)->Option Out) (J:Arg):Option Out:=bif !decide ((J.1.length:Int)=(J.2.1.length:Int)) then (some (false,())) else l0 (0:Int)
theorem ab (k:Nat) (J:Arg):@Eq (Option Out) (D.W k J) (p (r0 k J) J):=
 Eq.trans (b:=p (s0 k J) J) (by kernel_rfl) (by rw[aR])
theorem ok:Ok prog 18 D.sig:=az func18 aO (by kernel_rfl) (an _)
end dH
namespace dB
abbrev Arg:Type:=(List UInt8)×Unit
abbrev Out:Type:=Bool×Unit
abbrev ps:PQ:=[(.ro,(.af u8))]
noncomputable def D:FD:={ fn:=f3,tl:=bn,ps:=ps,rs:=[(.bool,(ai .bool))],gl:=[(4,jY.D.sig),(5,en.D.sig),(6,cq.D.sig),(7,ga.D.sig),(8,eK.D.sig),(9,fQ.D.sig),(10,h_.D.sig),(11,eo.D.sig),(12,gJ.D.sig),(13,eL.D.sig),(14,bs.D.sig),(15,cd.D.sig),(16,ic.D.sig),(17,av.D.sig),(18,dH.D.sig)],od:=[(9,[0,1,3,4,2,5,6,7,8,10,9,11,12,13]),(20,[0,1,2,3,4,5,6,7,8,9,10,11,12,15,16,13,14,17,18,19,20,21,22,23,24,25,26,27,28,29,30,31,32,33,34,35,36,37,38,39,40,41,42,43,44,45,46,47,48,49,50,51,52,53,54,55,56,57])],ar:=[(9,[1,4,8,10]),(20,[1,5,11,12,16,21,25,27,33,38,43,49,54])],bx:=[(9,[5,9]),(20,[10,11,12,14,15,16])] }
noncomputable def aa (a:Arg):Option Out:=@lift Out λk=>D.W k a
noncomputable def p (J:Arg):Option Out:=(jY.aa (J.1,())).bind λr2=>bif r2.1 then (some (true,())) else (en.aa (J.1,())).bind λr3=>(cq.aa (r3.1,r3.2.1,r3.2.2.1,())).bind λr4=>(ga.aa (r3.1,r3.2.1,r3.2.2.1,())).bind λr5=>bif !decide (r4.1.1=r5.1.1) then (some (false,())) else bif !(r4.1.2.1 == r5.1.2.1) then (some (false,())) else bif !(Ty.eq bk r4.1.2.2.1 r5.1.2.2.1) then (some (false,())) else (eK.aa (J.1,())).bind λr6=>(fQ.aa (r6.1,r6.2.1,())).bind λr7=>(h_.aa (r6.1,r6.2.1,())).bind λr8=>bif !(Ty.eq aA r7.1 r8.1) then (some (false,())) else (eo.aa (r3.2.2.1,())).bind λr9=>(gJ.aa (r3.2.2.1,())).bind λsh=>bif !decide (r9.1=sh.1) then (some (false,())) else bif !decide (r4.1.1=(0:Int)) then (some (true,())) else bif !r4.1.2.1 then (some (true,())) else (eL.aa (r3.2.1,r3.2.2.1.2.1,r4.1.2.2.1,())).bind λpr=>(bs.aa (r3.1,[r4.1.2.2.1],())).bind λxo=>(cd.aa ([r4.1.2.2.1],())).bind λBw=>(bs.aa (xo.1.2.1,Bw.1.2.1,())).bind λtz=>(fQ.aa (r3.2.1,(r3.2.2.1.2.2.1.1,r3.2.2.1.2.2.1.2.1,()),())).bind λHm=>(ic.aa (xo.1.2.1,pr.1.2.1,())).bind λBx=>bif decide (pr.1.1=(0:Int)) then ((av.aa (pr.1.2.1,())).bind λNQ=>bif decide (NQ.1=(0:Int)) then ((fQ.aa (pr.1.2.1,(r3.2.2.1.2.2.1.1,r3.2.2.1.2.2.1.2.1,()),())).bind λNR=>bif decide (NR.1.2.1=r3.2.2.1.2.1) then (bif decide (Hm.1.2.1=(0:Int)) then (bif decide (xo.1.1=(0:Int)) then (bif decide (tz.1.1=(0:Int)) then ((dH.aa (tz.1.2.1,r3.1,())).bind λNS=>bif NS.1 then (bif decide (Bx.1.1=(0:Int)) then (some (decide (Bx.1.2.1<=(12:Int)),())) else some (false,())) else some (false,())) else some (false,())) else some (false,())) else bif decide (Hm.1.2.1=r3.2.2.1.2.1) then (bif decide (xo.1.1=(0:Int)) then (bif decide (tz.1.1=(0:Int)) then ((dH.aa (tz.1.2.1,r3.1,())).bind λHe=>bif He.1 then (bif decide (Bx.1.1=(0:Int)) then (some (decide (Bx.1.2.1<=(12:Int)),())) else some (false,())) else some (false,())) else some (false,())) else some (false,())) else some (false,())) else some (false,())) else some (false,())) else some (false,())
theorem ab (k:Nat) (J:Arg):@Eq (Option Out) (D.W k J) (p J):=by kernel_rfl
theorem ok:Ok prog 3 D.sig:=az func3 aO (by kernel_rfl) (fc jY.ok (fc en.ok (fc cq.ok (fc ga.ok (fc eK.ok (fc fQ.ok (fc h_.ok (fc eo.ok (fc gJ.ok (fc eL.ok (fc bs.ok (fc cd.ok (fc ic.ok (fc av.ok (fc dH.ok (an _))))))))))))))))
end dB
end OT
set_option linter.unusedVariables false
set_option linter.unusedSimpArgs false
namespace OT
open Go
abbrev Plain:Type:=((List Row)×(List Tx)×Int×Unit)
end OT
set_option linter.unusedVariables false
set_option linter.unusedSimpArgs false
namespace OT
open Go
theorem iQ (a b c:Int):bi.aa (a,b,c,())=some (decide (b<=a)&&decide (a<=c),()):=by
 refine ah (k:=0) λk _=>(bi.ab k _).trans ?_
 show bi.p _=_
 unfold bi.p
 by_cases h:b<=a <;> simp[h]
theorem k8 (a b c:Int):cB.aa (a,b,c,())=some (decide (b<=a)&&decide (a<=c),()):=by
 refine ah (k:=0) λk _=>(cB.ab k _).trans ?_
 show cB.p _=_
 unfold cB.p
 by_cases h:b<=a <;> simp[h]
theorem By (a:Int):fZ.aa (a,())=some (decide (1<=a)&&decide (a<=99),()):=by
 refine ah (k:=0) λk _=>(fZ.ab k _).trans ?_
 show fZ.p _=_
 unfold fZ.p
 simp[k8]
def cr (a b c:Int):Bool:=decide (b<=a)&&decide (a<=c)
theorem gz {S O α:Type} {g:S->α->S} {fin:S->O}:∀ (xs:List α) (i:Nat) (s:S),aX (λ_ s x=>.inr (g s x)) fin i xs s=fin (xs.foldl g s)
 | [],_,_=>rfl
 | x::xs,i,s=>by simp only[aX,List.foldl_cons];exact gz xs _ _
theorem si {α:Type}:∀ (xs s:List α),xs.foldl (λs x=>s++[x]) s=s++xs
 | [],s=>by simp
 | x::xs,s=>by rw[List.foldl_cons,si];simp
abbrev Oh:Type:=List (List UInt8)
end OT
set_option linter.unusedVariables false
set_option linter.unusedSimpArgs false
namespace OT
open Go
def mV (c:UInt8):Bool:=!decide ((c.toNat:Int) < 97)&&!decide ((122:Int) < (c.toNat:Int))
def mH (s:List UInt8):Bool:=s.all mV&&decide (s.length<=8)
def cQ (x:Row):Int:=if cr x.1 0 3&&(cr x.2.1 1 99&&cr x.2.2.1 0 999) then (if mH x.2.2.2.1 then 0 else 5) else 3
theorem len8 (s:List UInt8):decide ((s.length:Int)<=8)=decide (s.length<=8):=by
 grind
theorem Ay (s:List UInt8) (h:s.length<=maxLen):eO.aa (s,())=some (mH s,()):=by
 refine ah (k:=s.length+1) λk hk=>(eO.ab k _).trans ?_
 have:=b_ (B:=λself v=>eO.B0 0 self (λz=>eO.Q0 0 (s,()) z) (s,()) v) s (λ(_:Unit) (i:Int)=>i) (λ_ _ x=>if mV x then .inr () else .inl (false,())) (λ_=>(decide (s.length<=8),())) (λ_ _=>True) h
  (λi hi _ self _=>by
   grind [eO.b0,mV]) (λ_ _ _ _ _ _=>trivial) (λ_ self _=>by
   grind [eO.b0,eO.q0,len8]) () trivial k (by omega)
 refine this.trans ?_
 rw[nA mV (false,()) (λ_=>(decide (s.length<=8),()))]
 grind [mH]
theorem nG (x:Row) (h:List.length x.2.2.2.1<=maxLen):ca.aa (x,())=some (cQ x,()):=by
 refine ah (k:=0) λk _=>(ca.ab k _).trans ?_
 show ca.p _=_
 unfold ca.p cQ cr
 simp only[iQ,Ay _ h,Option.bind_some]
 grind
theorem nH (x:Row) (h:List.length x.2.2.2.1<=maxLen):bp.aa (x,())=some (cQ x,()):=by
 refine ah (k:=List.length x.2.2.2.1+1) λk hk=>(bp.ab k _).trans ?_
 have:=b_ (B:=λself v=>bp.B0 0 self (λz=>bp.Q0 0 (x,()) z) (x,()) v) x.2.2.2.1 (λ(_:Unit) (i:Int)=>i) (λ_ _ c=>if mV c then .inr () else .inl (5,())) (λ_=>(0,())) (λ_ _=>True) h
  (λi hi _ self _=>by
   grind [bp.b0,mV]) (λ_ _ _ _ _ _=>trivial) (λ_ self _=>by
   grind [bp.b0,bp.q0]) () trivial k (by omega)
 rw[nA mV (5,()) (λ_=>(0,()))] at this
 have this:bp.r0 k (x,()) 0=_:=this
 unfold bp.p cQ cr mH
 simp only[k8,this,Option.bind_some]
 have h8:decide ((8:Int) < (List.length x.2.2.2.1:Int))=!decide (List.length x.2.2.2.1<=8):=by
  grind
 rw[h8]
 cases decide ((0:Int)<=x.1) <;> cases decide (x.1<=3) <;> cases decide ((1:Int)<=x.2.1) <;> cases decide (x.2.1<=99) <;> cases decide ((0:Int)<=x.2.2.1) <;> cases decide (x.2.2.1<=999) <;> cases decide (List.length x.2.2.2.1<=8) <;> cases (x.2.2.2.1).all mV <;> rfl
def rl (x:Row):Prop:=List.length x.2.2.2.1<=maxLen
def cl (c:Change):Prop:=rl c.2.1/\rl c.2.2.2.1
def sameKey (a b:Row):Bool:=decide (a.1=b.1)&&decide (a.2.1=b.2.1)
def ct (a b:Int×Int):Bool:=decide (a.1 < b.1)||(decide (a.1=b.1)&&decide (a.2 < b.2))
def eM (c:Change):Int:=if (!c.1&&!c.2.2.1)||(c.1&&c.2.2.1&&!sameKey c.2.1 c.2.2.2.1) then 1 else if c.1&&!decide (cQ c.2.1=0) then cQ c.2.1 else if c.2.2.1 then cQ c.2.2.2.1 else 0
def k9 (c:Change):Int:=if eM c=0 then (if c.1&&c.2.2.1&&Ty.eq aw c.2.1 c.2.2.2.1 then 1 else 0) else eM c
def ck (c:Change):Int×Int:=if c.2.2.1 then (c.2.2.2.1.1,c.2.2.2.1.2.1) else (c.2.1.1,c.2.1.2.1)
theorem xT (c:Change) (h:cl c):fC.aa (c,())=some (eM c,()):=by
 refine ah (k:=0) λk _=>(fC.ab k _).trans ?_
 show fC.p _=_
 unfold fC.p eM sameKey
 simp only[nG _ h.1,nG _ h.2,Option.bind_some]
 grind
theorem tA (a b:Row):dZ.aa (a,b,())=some (ct (a.1,a.2.1) (b.1,b.2.1),()):=by
 refine ah (k:=0) λk _=>(dZ.ab k _).trans ?_
 grind [dZ.p,ct]
theorem uk (a b:Row):eP.aa (a,b,())=some (if ct (a.1,a.2.1) (b.1,b.2.1) then -1 else if ct (b.1,b.2.1) (a.1,a.2.1) then 1 else 0,()):=by
 refine ah (k:=0) λk _=>(eP.ab k _).trans ?_
 grind [eP.p,tA]
theorem vA (a b:Row):decide ((if ct (a.1,a.2.1) (b.1,b.2.1) then (-1:Int) else if ct (b.1,b.2.1) (a.1,a.2.1) then 1 else 0)=0)=sameKey a b:=by
 grind [ct,sameKey]
theorem ry (c:Change) (h:cl c):cM.aa (c,())=some (eM c,()):=by
 refine ah (k:=0) λk _=>(cM.ab k _).trans ?_
 show cM.p _=_
 unfold cM.p eM
 simp only[nH _ h.1,nH _ h.2,uk,Option.bind_some,vA]
 grind
theorem wz (c:Change) (h:cl c):gk.aa (c,())=some (k9 c,()):=by
 refine ah (k:=0) λk _=>(gk.ab k _).trans ?_
 grind [gk.p,k9,xT]
theorem sj (c:Change) (h:cl c):bV.aa (c,())=some (k9 c,()):=by
 refine ah (k:=0) λk _=>(bV.ab k _).trans ?_
 grind [bV.p,k9,ry]
theorem nI (c:Change):dv.aa (c,())=some ((ck c).1,(ck c).2,()):=by
 refine ah (k:=0) λk _=>(dv.ab k _).trans ?_
 grind [dv.p,ck]
def p8 (c:Change):Row:=if c.2.2.1 then c.2.2.2.1 else c.2.1
theorem pu (c:Change):((p8 c).1,(p8 c).2.1)=ck c:=by grind [p8,ck]
theorem lX (c:Change):bl.aa (c,())=some (p8 c,()):=by
 refine ah (k:=0) λk _=>(bl.ab k _).trans ?_
 grind [bl.p,p8]
theorem vB {i:Nat} (hi:0 < i) (h:i<=maxLen):ap ((i:Int) - 1)=((i - 1:Nat):Int):=by
 grind [ak,dz]
end OT
set_option linter.unusedVariables false
set_option linter.unusedSimpArgs false
namespace OT
open Go
def rk (x:Row):Int×Int:=(x.1,x.2.1)
theorem qU (a b:Int×Int):ct a b=true↔a.1 < b.1\/(a.1=b.1/\a.2 < b.2):=by grind [ct]
theorem nJ {a b c:Int×Int} (h1:ct a b=true) (Y:ct b c=true):ct a c=true:=by
 grind [qU]
theorem kN (a:Int×Int):ct a a=false:=by
 grind [qU]
theorem Ek {a b:Int×Int} (h:ct a b=true):ct b a=false:=by
 grind [qU]
theorem qV {a b:Int×Int} (h1:ct a b=false) (Y:ct b a=false):a=b:=by
 grind [qU]
def up (xs:List Row):Prop:=xs.Pairwise (λa b=>ct (rk a) (rk b)=true)
theorem mr {x:Row} {xs:List Row}:up (x::xs)↔(∀ y ∈ xs,ct (rk x) (rk y)=true)/\up xs:=List.pairwise_cons
def pos:List Row->Int×Int->Nat
 | [],_=>0
 | x::xs,k=>if ct (rk x) k then pos xs k+1 else 0
theorem sk:∀ (xs:List Row) (k:Int×Int),pos xs k<=xs.length
 | [],_=>Nat.le_refl _
 | x::xs,k=>by simp only[pos];split <;> simp[sk xs k]
theorem p_:∀ (xs:List Row) (k:Int×Int) (i:Nat) (h:i < xs.length),i < pos xs k->ct (rk xs[i]) k=true
 | x::xs,k,i,h,hp=>by
  simp only[pos] at hp
  split at hp
  ·rename_i hx
   cases i with
   | zero=>exact hx
   | succ i=>exact p_ xs k i (by simpa using h) (by omega)
  ·omega
theorem mW:∀ (xs:List Row) (k:Int×Int) (i:Nat) (h:i < xs.length),up xs->pos xs k<=i->ct (rk xs[i]) k=false
 | x::xs,k,i,h,hu,hp=>by
  simp only[pos] at hp
  split at hp
  ·cases i with
   | zero=>omega
   | succ i=>exact mW xs k i (by simpa using h) (mr.1 hu).2 (by omega)
  ·rename_i hx
   have hx:ct (rk x) k=false:=by simpa using hx
   cases i with
   | zero=>exact hx
   | succ i=>
    have jj:i < xs.length:=by simpa using h
    have hm:ct (rk x) (rk xs[i])=true:=(mr.1 hu).1 _ (List.getElem_mem _)
    grind [nJ]
def eR (xs:List Row) (k:Int×Int):Bool:=match xs[pos xs k]? with
 | some x=>decide (rk x=k)
 | none=>false
theorem jM {xs:List Row} {k:Int×Int} (h:eR xs k=true):∃ hp:pos xs k < xs.length,rk xs[pos xs k]=k:=by
 grind [eR]
theorem JW (a b:Row):decide ((if ct (a.1,a.2.1) (b.1,b.2.1) then (-1:Int) else if ct (b.1,b.2.1) (a.1,a.2.1) then 1 else 0) < 0)=ct (rk a) (rk b):=by
 grind [rk]
theorem qW (a b:Row):sameKey a b=decide (rk a=rk b):=by
 grind [sameKey,rk]
theorem half (lo hi:Nat) (h:lo+hi<=4611686018427387904):ap ((IntKind.wrap .u64 (ap ((lo:Int)+(hi:Int)))).fdiv (2 ^ 1))=(((lo+hi) / 2:Nat):Int):=by
 grind [dz,IntKind.wrap,IntKind.bits]
theorem sn (xs:List Row) (key:Row) (f:Nat×Int) (hu:up xs) (hl:xs.length<=2000000):aq.aa (xs,key,f,())=some ((pos xs (rk key):Int),eR xs (rk key),()):=by
 have hp:=sk xs (rk key)
 have hq:aq.Q0 0 (xs,key,f,()) (pos xs (rk key):Int)=some ((pos xs (rk key):Int),eR xs (rk key),()):=by
  grind [aq.q0,eR,uk,vA,qW]
 refine ah (k:=xs.length+1) λk hk=>(aq.ab k _).trans ?_
 refine vp (B:=λself v=>aq.B0 0 self (λz=>aq.Q0 0 (xs,key,f,()) z) (xs,key,f,()) v) (λ_=>((pos xs (rk key):Int),eR xs (rk key),()))
  (λv=>∃ lo hi:Nat,v=((lo:Int),(hi:Int))/\lo<=pos xs (rk key)/\pos xs (rk key)<=hi/\hi<=xs.length) (λv=>(v.2 - v.1).toNat) (λv hv self=>?_) k (0,(xs.length:Int)) ⟨0,xs.length,rfl,by omega,hp,by omega⟩ (by simp;omega)
 obtain ⟨lo,hi,rfl,h1,Y,h3⟩:=hv
 by_cases aH:lo < hi
 ·right
  have qu:(lo:Int) < (hi:Int):=by omega
  have hm:(lo+hi) / 2 < xs.length:=by omega
  have hb:∀ self,aq.B0 0 self (λz=>aq.Q0 0 (xs,key,f,()) z) (xs,key,f,()) ((lo:Int),(hi:Int))=if ct (rk xs[(lo+hi) / 2]) (rk key) then self (ap ((((lo+hi) / 2:Nat):Int)+1),(hi:Int)) else self ((lo:Int),(((lo+hi) / 2:Nat):Int)):=λself=>by
   grind [aq.b0,half,Int.toNat_natCast,uk,JW]
  cases hc:ct (rk xs[(lo+hi) / 2]) (rk key) with
  | true=>
   refine ⟨((((lo+hi) / 2+1:Nat):Int),(hi:Int)),?_,rfl,⟨_,_,rfl,?_,Y,h3⟩,by grind⟩
   all_goals grind [dz,mW]
  | false=>
   refine ⟨((lo:Int),(((lo+hi) / 2:Nat):Int)),?_,rfl,⟨_,_,rfl,h1,?_,by omega⟩,by grind⟩
   all_goals grind [p_]
 grind [aq.b0]
def ja (xs:List Row) (c:Change):Bool:=(eR xs (ck c) == c.1)&&(!eR xs (ck c)||(match xs[pos xs (ck c)]? with | some x=>Ty.eq aw x c.2.1 | none=>true))
def dI (xs:List Row) (c:Change):List Row:=xs.take (pos xs (ck c))++(if c.2.2.1 then [c.2.2.2.1] else [])++xs.drop (pos xs (ck c)+if eR xs (ck c) then 1 else 0)
theorem El (c:Change):rk (p8 c)=ck c:=pu c
theorem Em (c:Change) (xs:List Row) (hu:up xs) (hl:xs.length<=2000000):ew.aa (c,xs,())=some (ja xs c,()):=by
 refine ah (k:=0) λk _=>(ew.ab k _).trans ?_
 grind [ew.p,ja,lX,sn,El,jM]
theorem CK (xs:List Row) (c:Change) (hu:up xs) (hl:xs.length<=2000000):gb.aa (xs,c,())=some (dI xs c,()):=by
 refine ah (k:=0) λk _=>(gb.ab k _).trans ?_
 show gb.p _=_
 unfold gb.p dI
 have hp:=sk xs (ck c)
 have xj:0<=((pos xs (ck c):Nat):Int)/\((pos xs (ck c):Nat):Int)<=(xs.length:Int):=by omega
 have c1:([]:List Row).length+(List.take (pos xs (ck c)) xs).length<=cU:=dA (by simp;omega)
 simp only[lX,sn xs _ _ hu hl,El,Option.bind_some,xj,and_self,if_true,Int.toNat_natCast,c1,List.drop_zero,List.nil_append,List.take_length]
 have c2:(List.take (pos xs (ck c)) xs).length+[c.2.2.2.1].length<=cU:=dA (by simp;omega)
 have hd:∀ (p7:List Row) (n:Nat),p7.length<=2000001->p7.length+(List.drop n xs).length<=cU:=λp7 n h=>dA (by grind)
 have hw:ap (((pos xs (ck c):Nat):Int)+1)=((pos xs (ck c)+1:Nat):Int):=by grind [dz]
 have c3:=hd (List.take (pos xs (ck c)) xs++[c.2.2.2.1])
 have c4:=hd (List.take (pos xs (ck c)) xs)
 have l3:(List.take (pos xs (ck c)) xs++[c.2.2.2.1]).length<=2000001:=by simp;omega
 have l4:(List.take (pos xs (ck c)) xs).length<=2000001:=by simp;omega
 cases hf:eR xs (ck c) with
 | false=>
  grind
 | true=>
  obtain ⟨cI,_⟩:=jM hf
  grind
theorem rz (a b:Row):ez.aa (a,b,())=some (ct (rk a) (rk b),()):=by
 refine ah (k:=0) λk _=>(ez.ab k _).trans ?_
 grind [ez.p,ct,rk]
theorem Ib {xs:List Row} {k:Int×Int} (h:eR xs k=true):∃ y ∈ xs,rk y=k:=by
 obtain ⟨hp,hk⟩:=jM h
 grind
theorem Bz (k:Int×Int):∀ (xs:List Row) (j:Nat),up xs->aX (λi (_:Unit) x=>if rk x=k then .inl ((i:Int),()) else .inr ()) (λ_=>((-1:Int),())) j xs ()=if eR xs k then (((j+pos xs k:Nat):Int),()) else (-1,())
 | [],j,_=>by simp[aX,eR]
 | x::xs,j,hu=>by
  have hu:=mr.1 hu
  simp only[aX]
  by_cases hx:rk x=k
  ·grind [kN,eR,pos]
  ·simp only[hx,if_false]
   rw[Bz k xs (j+1) hu.2]
   grind [pos,eR]
def kg (xs:List Row) (k:Int×Int):Int:=if eR xs k then (pos xs k:Int) else -1
theorem mX (xs:List Row) (t k:Int) (hu:up xs) (hl:xs.length<=2000000):bP.aa (xs,t,k,())=some (kg xs (t,k),()):=by
 refine ah (k:=xs.length+1) λf hf=>(bP.ab f _).trans ?_
 have:=b_ (B:=λself v=>bP.B0 0 self (λz=>bP.Q0 0 (xs,t,k,()) z) (xs,t,k,()) v) xs (λ(_:Unit) (i:Int)=>i) (λi _ x=>if rk x=(t,k) then .inl ((i:Int),()) else .inr ()) (λ_=>((-1:Int),())) (λ_ _=>True) (by rw[ak];omega)
  (λi hi _ self _=>by
   grind [bP.b0,rk]) (λ_ _ _ _ _ _=>trivial) (λ_ self _=>by
   grind [bP.b0,bP.q0]) () trivial f (by omega)
 rw[Bz (t,k) xs 0 hu] at this
 have this:bP.r0 f (xs,t,k,()) 0=_:=this
 grind [bP.p,kg]
theorem zH {O:Type} (k:Int×Int) (g:Nat->O) (n:Nat):∀ (xs:List Row) (j:Nat),j+xs.length=n->aX (λi (_:Unit) x=>if ct (rk x) k then .inr () else .inl (g i)) (λ_=>g n) j xs ()=g (j+pos xs k)
 | [],j,h=>by grind [aX,pos]
 | x::xs,j,h=>by
  simp only[aX,pos]
  cases hb:ct (rk x) k with
  | true=>
   simp only[if_true]
   rw[zH k g n xs (j+1) (by grind)]
   congr 1;omega
  | false=>simp
def jN (xs:List Row) (r:Row):List Row:=xs.take (pos xs (rk r))++[r]++xs.drop (pos xs (rk r))
theorem qX (xs:List Row) (r:Row) (hl:xs.length<=2000000):ci.aa (xs,r,())=some (jN xs r,()):=by
 refine ah (k:=xs.length+1) λf hf=>(ci.ab f _).trans ?_
 have hq:∀ i:Nat,i<=xs.length->ci.Q0 0 (xs,r,()) (i:Int)=some (xs.take i++[r]++xs.drop i,()):=λi hi=>by
  show ci.q0 _ _=_
  unfold ci.q0
  have xj:0<=(i:Int)/\(i:Int)<=(xs.length:Int):=by omega
  have c1:([]:List Row).length+(List.take i xs).length<=cU:=dA (by simp;omega)
  have c2:(List.take i xs).length+[r].length<=cU:=dA (by simp;omega)
  have c3:(List.take i xs++[r]).length+(List.drop i xs).length<=cU:=dA (by simp;omega)
  grind
 have:=b_ (B:=λself v=>ci.B0 0 self (λz=>ci.Q0 0 (xs,r,()) z) (xs,r,()) v) xs (λ(_:Unit) (i:Int)=>i) (λi _ x=>if ct (rk x) (rk r) then .inr () else .inl (xs.take i++[r]++xs.drop i,())) (λ_=>(xs.take xs.length++[r]++xs.drop xs.length,())) (λ_ _=>True) (by rw[ak];omega)
  (λi hi _ self _=>by
   show ci.b0 _ _ _ _=_
   unfold ci.b0
   have aH:(i:Int) < (xs.length:Int):=by omega
   simp only[aH,decide_true,cond_true,Int.natCast_nonneg,if_true,Int.toNat_natCast,List.getElem?_eq_getElem hi,Option.bind_some,rz]
   cases ct (rk xs[i]) (rk r) <;> grind) (λ_ _ _ _ _ _=>trivial) (λ_ self _=>by
   grind [ci.b0]) () trivial f (by omega)
 rw[zH (rk r) (λi=>(xs.take i++[r]++xs.drop i,())) xs.length xs 0 (by omega)] at this
 refine this.trans ?_
 simp[jN]
theorem ul (t:Int):∀ (xs:List Row) (j:Nat) (s:List Row),aX (O:=List Row×Unit) (λi s x=>if (i:Int)=t then .inr s else .inr (s++[x])) (λs=>(s,())) j xs s=(s++(if (j:Int)<=t/\t < j+xs.length then xs.take (t - j).toNat++xs.drop ((t - j).toNat+1) else xs),())
 | [],j,s=>by
  grind [aX]
 | x::xs,j,s=>by
  simp only[aX]
  by_cases h:(j:Int)=t
  ·have h1:¬ (((j+1:Nat):Int)<=t/\t < ((j+1:Nat):Int)+(xs.length:Int)):=by omega
   have Y:(j:Int)<=t/\t < (j:Int)+((x::xs).length:Int):=by simp;omega
   have h3:(t - j).toNat=0:=by omega
   simp only[h,if_true]
   rw[ul t xs (j+1) s,if_neg h1]
   grind
  ·simp only[h,if_false]
   rw[ul t xs (j+1) (s++[x])]
   grind
def um (xs:List Row) (k:Int×Int):List Row:=if eR xs k then xs.take (pos xs k)++xs.drop (pos xs k+1) else xs
theorem vC (k:Int×Int):∀ (l1 l2:List Row),(∀ x ∈ l1,ct (rk x) k=true)->pos (l1++l2) k=l1.length+pos l2 k
 | [],l2,_=>by simp
 | x::l1,l2,h=>by
  simp only[List.cons_append,pos,h x List.mem_cons_self,if_true,List.length_cons]
  rw[vC k l1 l2 λy hy=>h y (List.mem_cons_of_mem _ hy)]
  omega
theorem oM {xs:List Row} {k:Int×Int} {x:Row} (h:x ∈ xs.take (pos xs k)):ct (rk x) k=true:=by
 obtain ⟨i,hi,e⟩:=List.mem_iff_getElem.1 h
 grind [p_]
theorem FK {xs:List Row} {k:Int×Int} (hu:up xs) {n:Nat} (hn:pos xs k<=n):pos (xs.drop n) k=0:=by
 grind [List.drop_eq_nil_of_le,List.drop_eq_getElem_cons,pos,mW]
theorem Ic {xs:List Row} {k:Int×Int} {r:Row} (hu:up xs) (hk:rk r=k):jN (um xs k) r=xs.take (pos xs k)++[r]++xs.drop (pos xs k+if eR xs k then 1 else 0):=by
 have hp:=sk xs k
 have key:∀ n,pos xs k<=n->pos (xs.take (pos xs k)++xs.drop n) k=pos xs k:=λn hn=>by
  grind [vC,oM,FK]
 have hl:(xs.take (pos xs k)).length=pos xs k:=by grind
 unfold jN um
 grind
theorem En (xs:List Row) (c:Change) (hu:up xs) (hl:xs.length<=2000000) (hc:c.2.2.1=true->rk c.2.2.2.1=ck c):fb.aa (xs,c,())=some (if ja xs c then (dI xs c,true,()) else ([],false,())):=by
 refine ah (k:=xs.length+1) λf hf=>(fb.ab f _).trans ?_
 have hp:=sk xs (ck c)
 have Eo:=b_ (B:=λself v=>fb.B0 0 self (λz=>fb.Q0 0 (xs,c,()) (kg xs (ck c)) z) (xs,c,()) (kg xs (ck c)) v) (O:=List Row×Bool×Unit) xs (λ(s:List Row) (i:Int)=>(s,i)) (λi s x=>if (i:Int)=kg xs (ck c) then .inr s else .inr (s++[x]))
  (λs=>(if c.2.2.1 then jN s c.2.2.2.1 else s,true,())) (λi s=>s.length<=i) (by rw[ak];omega)
  (λi hi s self hI=>by
   grind [fb.b0,dA]) (λi hi s s' hI hf=>by
   grind) (λs self hI=>by
   grind [fb.b0,fb.q0,qX]) [] (Nat.le_refl _) f (by omega)
 have Mq:∀ (Ho:List Row) (j:Nat) (s:List Row),aX (O:=List Row×Bool×Unit) (λi s x=>if (i:Int)=kg xs (ck c) then .inr s else .inr (s++[x])) (λs=>(if c.2.2.1 then jN s c.2.2.2.1 else s,true,())) j Ho s
   = (λs=>(if c.2.2.1 then jN s c.2.2.2.1 else s,true,())) (aX (O:=List Row×Unit) (λi s x=>if (i:Int)=kg xs (ck c) then .inr s else .inr (s++[x])) (λs=>(s,())) j Ho s).1:=by
  intro Ho
  induction Ho <;> grind [aX]
 rw[Mq,ul (kg xs (ck c)) xs 0 []] at Eo
 have Mr:([]++(if ((0:Nat):Int)<=kg xs (ck c)/\kg xs (ck c) < ((0:Nat):Int)+(xs.length:Int) then xs.take (kg xs (ck c) - ((0:Nat):Int)).toNat++xs.drop ((kg xs (ck c) - ((0:Nat):Int)).toNat+1) else xs))=um xs (ck c):=by
  grind [kg,um,eR]
 simp only[Mr] at Eo
 have Eo:fb.r0 f (xs,c,()) (kg xs (ck c)) (([]:List Row),(0:Int))=_:=Eo
 unfold fb.p ja
 simp only[nI,mX xs _ _ hu hl,Option.bind_some,Eo]
 have Oi:(if c.2.2.1 then jN (um xs (ck c)) c.2.2.2.1 else um xs (ck c))=dI xs c:=by
  unfold dI
  cases hi:c.2.2.1 with
  | true=>grind [Ic]
  | false=>
   simp only[Bool.false_eq_true,if_false,List.append_nil]
   unfold um
   cases eR xs (ck c) <;> simp_all
 grind [eR,kg,Int.toNat_natCast]
end OT
