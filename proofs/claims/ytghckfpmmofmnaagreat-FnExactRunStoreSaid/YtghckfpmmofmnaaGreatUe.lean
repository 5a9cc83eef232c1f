/- The proof's parts, merged: Printed by gen.py, a program of this claim  what each Go function computes.. No conditions but those that each states. -/
import Derived.Test.YtghckfpmmofmnaaGreatUd
set_option maxRecDepth 100000
set_option linter.unusedVariables false
namespace OT
open Go Go.Proofs.Tryz
noncomputable section
variable (k:Nat)
namespace jU
abbrev A:=az×Unit
abbrev O:=Int×az×Unit
abbrev P:=Option O
noncomputable def D:FD:={ fn:=f164,tl:=a_,ps:=[(.jp Byy Byy,dc)],rs:=[(i64,(ai i64))],gl:=[(78,pB.D.sig),(129,lI.D.sig),(139,cu.D.sig)],es:=[0],lv:=[(2,[0,3])],lx:=[(0,[0])] }
def ab (a:A):P:=@lift O λk=>D.W k a
variable (a1:A)
def T0 (a1:A) (U:az×Int):St:={ n:=40,sl:=[(0,.box dc Byy [] U.1),(3,.val i64 U.2)],vr:=[],ay:=[(0,0,false)] }
def b0 (self:(az×Int)->P) (e0:az->P) (a1:A) (U:az×Int):P:=cond (decide (U.2 < (U.1.2.1.length:Int))) (if 0<=U.2/\U.2 < (U.1.2.1.length:Int) then ((U.1.2.1[U.2.toNat]?).bind λaT=>(U.1.2.1[U.2.toNat]?).bind λjJ=>(cu.ab (jJ,())).bind λlV=>(lI.ab (U.1,(4,0,U.2,[((0:Int),lV.1,())],()),())).bind λkV=>cond (!decide (kV.1=0)) (some (kV.1,kV.2.1,()))<|self (kV.2.1,af (U.2+1))) else none)<|e0 U.1
def q0 (a1:A) (nt:az):P:=(pB.ab (nt.2.2.1,())).bind λri=>some (0,(nt.1,nt.2.1,ri.1,nt.2.2.2),())
def r0:(az×Int)->P:=al (λw v=>b0 w (q0 a1) a1 v) k
theorem aq:@Eq ((az×Int)->P) (λU=>D.L k [1,0,1,0,0] [0,3] [] (ak 0 (av (D.N k [1,1]) D.K0)) (T0 a1 U)) (r0 k a1):=
 funext λU=>ap _ _ _ (T0 a1) _ (λrec v=>Bye) k U
def p (l0:(az×Int)->P) (a1:A):P:=l0 (a1.1,0)
theorem ae:@Eq P (D.W k a1) (p (r0 k a1) a1):=By8 (aq k a1) Bye
theorem ok:Ok prog 164 D.sig:=am func164 au Bye (fc pB.ok (fc lI.ok (fc cu.ok (aj _))))
end jU
namespace pS
abbrev A:=(List Tx)×Int×Change×Unit
abbrev O:=(List Tx)×Unit
noncomputable def D:FD:={ fn:=f166,tl:=a_,ps:=[(.ro,(.aa bp)),(.ro,i64),(.ro,aw)],rs:=[((.aa bp),(ah (.aa bp)))],gl:=[(127,lr.D.sig),(250,m9.D.sig),(251,ja.D.sig)],od:=[(3,[0,1,2,3,4,5,6,7,8,9,10]),(6,[0,1,2,3,4,5,6,7,8,9,10])] }
def ab (a:A):Option O:=@lift O λk=>D.W k a
def p (a1:A):Option O:=(lr.ab (a1.1,())).bind λr2=>if 0<=a1.2.1/\a1.2.1 < (r2.1.length:Int) then ((r2.1[a1.2.1.toNat]?).bind λx3=>(r2.1[a1.2.1.toNat]?).bind λx4=>(r2.1[a1.2.1.toNat]?).bind λx5=>if x4.2.1.length+[a1.2.2.1].length<=cg then (if a1.2.1.toNat=a1.2.1.toNat then ((r2.1.set a1.2.1.toNat x5)[a1.2.1.toNat]?).bind λx6=>let y7:=(r2.1.set a1.2.1.toNat x5).set a1.2.1.toNat (x6.1,x4.2.1++[a1.2.2.1],x6.2.2);(m9.ab (a1.2.2.1,())).bind λr8=>(y7[a1.2.1.toNat]?).bind λx9=>(ja.ab (x9,r8.1,())).bind λsX=>cond (!sX.1) ((y7[a1.2.1.toNat]?).bind λXS=>(y7[a1.2.1.toNat]?).bind λTF=>(y7[a1.2.1.toNat]?).bind λK7=>if TF.2.2.2.1.length+[r8.1].length<=cg then (if a1.2.1.toNat=a1.2.1.toNat then ((y7.set a1.2.1.toNat K7)[a1.2.1.toNat]?).bind λG5=>let y15:=(y7.set a1.2.1.toNat K7).set a1.2.1.toNat (G5.1,G5.2.1,G5.2.2.1,TF.2.2.2.1++[r8.1],G5.2.2.2.2);some (y15,()) else none) else none)<|some (y7,()) else none) else none) else none
theorem ae (a1:A):@Eq (Option O) (D.W k a1) (p a1):=Bye
theorem ok:Ok prog 166 D.sig:=am func166 au Bye (fc lr.ok (fc m9.ok (fc ja.ok (aj _))))
end pS
namespace jq
abbrev A:=az×Op×br×Unit
abbrev O:=Int×Int×az×Unit
noncomputable def D:FD:={ fn:=f94,tl:=a_,ps:=[(.jp Byy (ai dc),dc),(.ro,(.ptr il)),(.ro,(.ptr et))],rs:=[(i64,(ai i64)),(i64,(ai i64))],gl:=[(78,pB.D.sig),(128,jL.D.sig),(160,mR.D.sig),(161,ol.D.sig),(162,rI.D.sig),(163,sg.D.sig),(164,jU.D.sig),(165,jn.D.sig),(166,pS.D.sig)],es:=[0],od:=[(1,[0,1,2,3,4,5,6,7,8,9]),(8,[0,1,2,3,4,5,6,7,8,9,10,11,12,13,14,15,16,17,18,19,20,21,22,23,24,25,26]),(11,[0,1,2,3,4,5,6,7,8,9,10,12,13,14,15,11,16,17,18]),(17,[0,1,2,3,4,5,6,7,8,9,10,11,12,13,14]),(25,[0,1,2,3,4,5,6,7,8,9]),(28,[0,1,2,3,4,5,6,7,8,9,10,11,12,13])],ar:=[(11,[10,15])],er:=[(8,[(3,27)]),(11,[(4,16)])] }
def ab (a:A):Option O:=@lift O λk=>D.W k a
def p (a1:A):Option O:=(mR.ab (a1.1.2.2.2.1,a1.2.1.2.1,())).bind λr2=>cond (decide (a1.2.1.1=1)) ((ol.ab (a1.1,())).bind λr3=>some (a1.1.2.2.2.2.1,r3.1,r3.2.1,()))<|cond (decide (a1.2.1.1=5)) (if 0<=r2.1/\r2.1 < (a1.1.2.2.2.1.length:Int) then ((a1.1.2.2.2.1[r2.1.toNat]?).bind λx4=>(a1.1.2.2.2.1[r2.1.toNat]?).bind λx5=>if 0<=r2.1/\r2.1 < (a1.1.2.2.2.1.length:Int) then ((a1.1.2.2.2.1[r2.1.toNat]?).bind λx6=>if 0<=r2.1/\r2.1 < (a1.1.2.2.2.1.length:Int) then ((a1.1.2.2.2.1[r2.1.toNat]?).bind λx7=>(a1.1.2.2.2.1[r2.1.toNat]?).bind λx8=>(a1.1.2.2.2.1[r2.1.toNat]?).bind λx9=>if x8.2.2.1.length+[(x7.2.1.length:Int)].length<=cg then (if 0<=r2.1/\r2.1 < ((a1.1.2.2.2.1.set r2.1.toNat x9).length:Int) then (if r2.1.toNat=r2.1.toNat then ((a1.1.2.2.2.1.set r2.1.toNat x9)[r2.1.toNat]?).bind λGg=>let y11:=(a1.1.2.2.2.1.set r2.1.toNat x9).set r2.1.toNat (Gg.1,Gg.2.1,x8.2.2.1++[(x7.2.1.length:Int)],Gg.2.2.2);some ((x5.2.2.1.length:Int),0,(a1.1.1,a1.1.2.1,a1.1.2.2.1,y11,a1.1.2.2.2.2),()) else none) else none) else none) else none) else none) else none)<|cond (decide (a1.2.1.1=6)) (if 0<=r2.1/\r2.1 < (a1.1.2.2.2.1.length:Int) then ((a1.1.2.2.2.1[r2.1.toNat]?).bind λK7=>(a1.1.2.2.2.1[r2.1.toNat]?).bind λG5=>(rI.ab (G5,a1.2.1.2.2.2.1,())).bind λBf=>(a1.1.2.2.2.1[r2.1.toNat]?).bind λNs=>(jL.ab ((a1.1.1,a1.1.2.1,a1.1.2.2.1,a1.1.2.2.2.1.set r2.1.toNat Bf.2.1,a1.1.2.2.2.2),Bf.1,a1.2.1.2.1,())).bind λAv=>some (0,Av.1,Av.2.1,())) else none)<|cond (decide (a1.2.1.1=7)) ((sg.ab (a1.1,r2.1,5,())).bind λG3=>(pB.ab (G3.2.1.2.2.1,())).bind λr19=>some (0,G3.1,(G3.2.1.1,G3.2.1.2.1,r19.1,G3.2.1.2.2.2),()))<|cond (decide (a1.2.1.1=8)) (if 0<=r2.1/\r2.1 < (a1.1.2.2.2.1.length:Int) then ((a1.1.2.2.2.1[r2.1.toNat]?).bind λTD=>(jL.ab (a1.1,TD.2.1,a1.2.1.2.1,())).bind λI0=>cond (!decide (I0.1=0)) (some (0,I0.1,I0.2.1,()))<|(sg.ab (I0.2.1,r2.1,6,())).bind λr22=>some (0,r22.1,r22.2.1,())) else none)<|cond (decide (a1.2.1.1=9)) ((jU.ab (a1.1,())).bind λXT=>some (0,XT.1,XT.2.1,()))<|cond (!a1.2.2.1.2.1) (some (0,0,a1.1,()))<|(jn.ab (a1.1,a1.2.2.1.2.2.1,2,a1.2.1.2.1,())).bind λDl=>cond (!decide (Dl.1=0)) (some (0,Dl.1,Dl.2.1,()))<|(pS.ab (Dl.2.1.2.2.2.1,r2.1,a1.2.2.1.2.2.1,())).bind λXU=>some (0,0,(Dl.2.1.1,Dl.2.1.2.1,Dl.2.1.2.2.1,XU.1,Dl.2.1.2.2.2.2),())
theorem ae (a1:A):@Eq (Option O) (D.W k a1) (p a1):=Bye
theorem ok:Ok prog 94 D.sig:=am func94 au Bye (fc pB.ok (fc jL.ok (fc mR.ok (fc ol.ok (fc rI.ok (fc sg.ok (fc jU.ok (fc jn.ok (fc pS.ok (aj _))))))))))
end jq
namespace oV
abbrev A:=az×Op×Unit
abbrev O:=se×Unit
noncomputable def D:FD:={ fn:=f41,tl:=a_,ps:=[(.ro,dc),(.ro,(.ptr il))],rs:=[(nR,(ai nR))],gl:=[(40,qS.D.sig),(67,sC.D.sig),(89,lh.D.sig),(93,rh.D.sig),(94,jq.D.sig)],fz:=[(3,1,7),(3,4,7)],od:=[(3,[0,1,3,4,5,6,7,2,8,9,10])],ar:=[(3,[7])],pd:=[(3,[9])],er:=[(3,[(1,11),(4,11)])] }
def ab (a:A):Option O:=@lift O λk=>D.W k a
def p (a1:A):Option O:=cond (!a1.1.1) ((qS.ab (8,())).bind λr2=>some (r2.1,()))<|(lh.ab (a1.1.2.1,())).bind λr3=>(rh.ab (r3.1,a1.1.2.2.2.1,a1.2.1,())).bind λr4=>cond (!decide (r4.1.1=0)) ((qS.ab (r4.1.1,())).bind λr5=>some (r5.1,()))<|let Gf:Option O:=(sC.ab (a1.1,())).bind λnC=>(jq.ab (nC.1,a1.2.1,r4.1,())).bind λqD=>cond (!decide (qD.2.1=0)) ((qS.ab (qD.2.1,())).bind λyR=>some (yR.1,()))<|some ((0,qD.1,qD.2.2.1,()),());cond (!decide (a1.2.1.1=6)) (cond (!decide (a1.2.1.1=8)) (cond (decide (4000 < af ((a1.1.2.2.1.1.length:Int)+(a1.1.2.2.1.2.1.length:Int)))) ((qS.ab (9,())).bind λr6=>some (r6.1,()))<|Gf)<|Gf)<|Gf
theorem ae (a1:A):@Eq (Option O) (D.W k a1) (p a1):=Bye
theorem ok:Ok prog 41 D.sig:=am func41 au Bye (fc qS.ok (fc sC.ok (fc lh.ok (fc rh.ok (fc jq.ok (aj _))))))
end oV
namespace uY
abbrev A:=Row×Unit
abbrev O:=Row×Unit
noncomputable def D:FD:={ fn:=f45,tl:=a_,ps:=[(.ro,a8)],rs:=[(a8,(ai a8))] }
def ab (a:A):Option O:=@lift O λk=>D.W k a
def p (a1:A):Option O:=some ((a1.1.1,a1.1.2.1,a1.1.2.2.1,a1.1.2.2.2.1,()),())
theorem ae (a1:A):@Eq (Option O) (D.W k a1) (p a1):=Bye
theorem ok:Ok prog 45 D.sig:=am func45 au Bye (aj _)
end uY
namespace uI
abbrev A:=Op×Unit
abbrev O:=Op×Unit
noncomputable def D:FD:={ fn:=f11,tl:=a_,ps:=[(.ro,il)],rs:=[(il,(ai il))],gl:=[(45,uY.D.sig)] }
def ab (a:A):Option O:=@lift O λk=>D.W k a
def p (a1:A):Option O:=(uY.ab (a1.1.2.2.1,())).bind λr2=>some ((a1.1.1,a1.1.2.1,r2.1,a1.1.2.2.2.1,()),())
theorem ae (a1:A):@Eq (Option O) (D.W k a1) (p a1):=Bye
theorem ok:Ok prog 11 D.sig:=am func11 au Bye (fc uY.ok (aj _))
end uI
namespace b_
abbrev A:=Byt×Unit
abbrev O:=Byt×Unit
noncomputable def D:FD:={ fn:=f114,tl:=a_,ps:=[(.ro,(.aa u8))],rs:=[((.aa u8),(ah (.aa u8)))] }
def ab (a:A):Option O:=@lift O λk=>D.W k a
def p (a1:A):Option O:=if ([]:Byt).length+a1.1.length<=cg then (some (([]:Byt)++a1.1,())) else none
theorem ae (a1:A):@Eq (Option O) (D.W k a1) (p a1):=Bye
theorem ok:Ok prog 114 D.sig:=am func114 au Bye (aj _)
end b_
namespace e8
abbrev A:=Int×Int×Int×Unit
abbrev O:=Bool×Unit
noncomputable def D:FD:={ fn:=f98,tl:=a_,ps:=[(.ro,i64),(.ro,i64),(.ro,i64)],rs:=[(.bool,(ai .bool))] }
def ab (a:A):Option O:=@lift O λk=>D.W k a
def p (a1:A):Option O:=cond (decide (a1.2.1<=a1.1)) (some (decide (a1.1<=a1.2.2.1),()))<|some (false,())
theorem ae (a1:A):@Eq (Option O) (D.W k a1) (p a1):=Bye
theorem ok:Ok prog 98 D.sig:=am func98 au Bye (aj _)
end e8
namespace oI
abbrev A:=Int×Unit
abbrev O:=Bool×Unit
noncomputable def D:FD:={ fn:=f70,tl:=a_,ps:=[(.ro,i64)],rs:=[(.bool,(ai .bool))],gl:=[(98,e8.D.sig)] }
def ab (a:A):Option O:=@lift O λk=>D.W k a
def p (a1:A):Option O:=(e8.ab (a1.1,1,99,())).bind λr2=>some (r2.1,())
theorem ae (a1:A):@Eq (Option O) (D.W k a1) (p a1):=Bye
theorem ok:Ok prog 70 D.sig:=am func70 au Bye (fc e8.ok (aj _))
end oI
namespace pT
abbrev A:=Int×Unit
abbrev O:=Bool×Unit
noncomputable def D:FD:={ fn:=f223,tl:=a_,ps:=[(.ro,i64)],rs:=[(.bool,(ai .bool))] }
def ab (a:A):Option O:=@lift O λk=>D.W k a
def p (a1:A):Option O:=cond (decide (a1.1=2)) (some (true,()))<|cond (decide (a1.1=3)) (some (true,()))<|some (decide (a1.1=4),())
theorem ae (a1:A):@Eq (Option O) (D.W k a1) (p a1):=Bye
theorem ok:Ok prog 223 D.sig:=am func223 au Bye (aj _)
end pT
namespace kw
abbrev A:=(List ci)×Unit
abbrev O:=Int×Unit
abbrev P:=Option O
noncomputable def D:FD:={ fn:=f224,tl:=a_,ps:=[(.ro,(.aa pN))],rs:=[(i64,(ai i64))],gl:=[(98,e8.D.sig)],lv:=[(5,[3,10,11,12])],lx:=[(0,[])] }
def ab (a:A):P:=@lift O λk=>D.W k a
variable (a1:A)
def T0 (U:Int×Int):St:={ n:=45,sl:=[(3,.val i64 U.1),(10,.val (.aa pN) a1.1),(11,.val i64 (a1.1.length:Int)),(12,.val i64 U.2)],vr:=[],ay:=[] }
def b0 (self:(Int×Int)->P) (e0:(Unit)->P) (a1:A) (U:Int×Int):P:=cond (decide (U.2 < (a1.1.length:Int))) (if 0<=U.2 then ((a1.1[U.2.toNat]?).bind λaT=>(e8.ab (aT.1,0,63,())).bind λdq=>cond (!dq.1) (some (3,()))<|(e8.ab ((aT.2.1.length:Int),1,64,())).bind λlV=>cond (!lV.1) (some (3,()))<|cond (decide (64 < af (aT.1+(aT.2.1.length:Int)))) (some (3,()))<|cond (decide (aT.1 < U.1)) (some (1,()))<|self (af ((af (aT.1+(aT.2.1.length:Int)))+1),af (U.2+1))) else none)<|e0 ()
def q0 (a1:A) (vW:(Unit)):P:=some (0,())
def r0:(Int×Int)->P:=al (λw v=>b0 w (q0 a1) a1 v) k
theorem aq:@Eq ((Int×Int)->P) (λU=>D.L k [1,1,1,0,1,0,0] [3,10,11,12] [] (ak 0 (av (D.N k [1,1,1,1]) D.K0)) (T0 a1 U)) (r0 k a1):=
 funext λU=>ap _ _ _ (T0 a1) _ (λrec v=>Bye) k U
def p (l0:(Int×Int)->P) (a1:A):P:=cond (decide (64 < (a1.1.length:Int))) (some (2,()))<|l0 (0,0)
theorem ae:@Eq P (D.W k a1) (p (r0 k a1) a1):=By8 (aq k a1) Bye
theorem ok:Ok prog 224 D.sig:=am func224 au Bye (fc e8.ok (aj _))
end kw
namespace kM
abbrev A:=bq×Unit
abbrev O:=Int×Unit
abbrev P:=Option O
noncomputable def D:FD:={ fn:=f142,tl:=a_,ps:=[(.ro,jv)],rs:=[(i64,(ai i64))],gl:=[(70,oI.D.sig),(98,e8.D.sig),(223,pT.D.sig),(224,kw.D.sig)] }
def ab (a:A):P:=@lift O λk=>D.W k a
def p (a1:A):P:=let j15:P:=let j23:P:=(kw.ab (a1.1.2.2.2.1,())).bind λDl=>cond (!decide (Dl.1=0)) (some (Dl.1,()))<|(pT.ab (a1.1.1,())).bind λXU=>cond XU.1 (cond (decide ((a1.1.2.2.2.1.length:Int)=0)) (some (1,()))<|cond (decide (a1.1.1=4)) (cond (!decide ((a1.1.2.2.2.1.length:Int)=1)) (some (1,()))<|(a1.1.2.2.2.1[0]?).bind λx26=>cond (!decide ((x26.2.1.length:Int)=64)) (some (1,()))<|some (0,()))<|some (0,()))<|cond (decide (a1.1.1=4)) (cond (!decide ((a1.1.2.2.2.1.length:Int)=1)) (some (1,()))<|(a1.1.2.2.2.1[0]?).bind λx27=>cond (!decide ((x27.2.1.length:Int)=64)) (some (1,()))<|some (0,()))<|some (0,());cond (!decide (a1.1.1=4)) ((oI.ab (a1.1.2.1,())).bind λCv=>cond (!Cv.1) (some (3,()))<|(e8.ab (a1.1.2.2.1,0,11,())).bind λAv=>cond (!Av.1) (some (3,()))<|j23)<|(e8.ab (a1.1.2.2.1,0,11,())).bind λG3=>cond (!G3.1) (some (3,()))<|j23;(e8.ab (a1.1.1,1,6,())).bind λr2=>cond (!r2.1) (some (1,()))<|(pT.ab (a1.1.1,())).bind λr3=>cond (!r3.1) (cond (!decide (a1.1.2.2.1=0)) (some (1,()))<|cond (decide (0 < (a1.1.2.2.2.1.length:Int))) (some (1,()))<|cond (decide (a1.1.1=4)) (cond (!decide (a1.1.2.1=0)) (some (1,()))<|j15)<|j15)<|cond (decide (a1.1.1=4)) (cond (!decide (a1.1.2.1=0)) (some (1,()))<|j15)<|j15
theorem ae (a1:A):@Eq P (D.W k a1) (p a1):=Bye
theorem ok:Ok prog 142 D.sig:=am func142 au Bye (fc oI.ok (fc e8.ok (fc pT.ok (fc kw.ok (aj _)))))
end kM
namespace e_
abbrev A:=Byt×Byt×Unit
abbrev O:=Bool×Unit
abbrev P:=Option O
noncomputable def D:FD:={ fn:=f178,tl:=a_,ps:=[(.ro,(.aa u8)),(.ro,(.aa u8))],rs:=[(.bool,(ai .bool))],lv:=[(4,[0,1,12,13])],lx:=[(0,[])],od:=[(6,[0,1,2,3,4,5,6,7,8])] }
def ab (a:A):P:=@lift O λk=>D.W k a
variable (a1:A)
def T0 (U:Int):St:={ n:=26,sl:=[(0,.val (.aa u8) a1.1),(1,.val (.aa u8) a1.2.1),(12,.val i64 (a1.1.length:Int)),(13,.val i64 U)],vr:=[],ay:=[] }
def b0 (self:Int->P) (e0:(Unit)->P) (a1:A) (U:Int):P:=cond (decide (U < (a1.1.length:Int))) (if 0<=U then ((a1.1[U.toNat]?).bind λaT=>if 0<=U then ((a1.2.1[U.toNat]?).bind λjJ=>cond (!decide ((aT.toNat:Int)=(jJ.toNat:Int))) (some (false,()))<|self (af (U+1))) else none) else none)<|e0 ()
abbrev B0 (_:Nat):=b0
def q0 (a1:A) (fj:(Unit)):P:=some (true,())
abbrev Q0 (_:Nat):=q0
def r0:(Int)->P:=al (λw v=>B0 k w (Q0 k a1) a1 v) k
theorem aq:@Eq ((Int)->P) (λU=>D.L k [1,1,0,1,0,0] [0,1,12,13] [] (ak 0 (av (D.N k [1,1,1]) D.K0)) (T0 a1 U)) (r0 k a1):=
 funext λU=>ap _ _ _ (T0 a1) _ (λrec v=>Bye) k U
def p (l0:(Int)->P) (a1:A):P:=cond (!decide ((a1.1.length:Int)=(a1.2.1.length:Int))) (some (false,()))<|l0 0
theorem ae:@Eq P (D.W k a1) (p (r0 k a1) a1):=By8 (aq k a1) Bye
theorem ok:Ok prog 178 D.sig:=am func178 au Bye (aj _)
end e_
namespace gm
abbrev A:=bq×Unit
abbrev O:=Byt×Unit
abbrev P:=Option O
noncomputable def D:FD:={ fn:=f262,tl:=a_,ps:=[(.ro,jv)],rs:=[((.aa u8),(ah (.aa u8)))],lv:=[(3,[3,24,25,26]),(11,[3,6,51,52,53])],lx:=[(0,[3]),(2,[3,6])] }
def ab (a:A):P:=@lift O λk=>D.W k a
def T0 (a1:A) (U:Byt×Int):St:={ n:=72,sl:=[(3,.own (.aa u8) (ah (.aa u8)) [] U.1),(24,.val (.aa pN) a1.1.2.2.2.1),(25,.val i64 (a1.1.2.2.2.1.length:Int)),(26,.val i64 U.2)],vr:=[],ay:=[] }
def S0 (rec:RT O) (a1:A):(Byt×Int)->P:=λU=>rec (T0 a1 U)
def dn (K:KT O) (a1:A):Byt->P:=λz=>K (.exit 0) ({ n:=72,sl:=[(3,.own (.aa u8) (ah (.aa u8)) [] z)],vr:=[],ay:=[] })
def b0 (self:(Byt×Int)->P) (e0:Byt->P) (a1:A) (U:Byt×Int):P:=cond (decide (U.2 < (a1.1.2.2.2.1.length:Int))) (if 0<=U.2 then ((a1.1.2.2.2.1[U.2.toNat]?).bind λaT=>if U.1.length+[UInt8.ofInt aT.1,UInt8.ofInt (aT.2.1.length:Int)].length<=cg then (let pQ:=U.1++[UInt8.ofInt aT.1,UInt8.ofInt (aT.2.1.length:Int)];if pQ.length+aT.2.1.length<=cg then (self (pQ++aT.2.1,af (U.2+1))) else none) else none) else none)<|e0 U.1
theorem nA (rec:RT O) (K:KT O) (a1:A) (U:Byt×Int):D.N k [1,1,0,1,0,0] (T0 a1 U) (jY rec (gv [3,24,25,26] []) K)=b0 (S0 rec a1) (dn K a1) a1 U:=Bye
def T1 (a1:A) (ct:Byt) (fd:Int) (f7:Int×Int):St:={ n:=72,sl:=[(3,.own (.aa u8) (ah (.aa u8)) [] ct),(6,.val i64 f7.1),(51,.ref 3 [] [0,0]),(52,.val i64 fd),(53,.val i64 f7.2)],vr:=[],ay:=[] }
def b1 (self:(Int×Int)->P) (e2:Int->P) (a1:A) (ct:Byt) (fd:Int) (f7:Int×Int):P:=cond (decide (f7.2 < fd)) (if 0<=f7.2/\f7.2 < (ct.length:Int) then ((ct[f7.2.toNat]?).bind λwa=>self ((af ((af (f7.1*31))+(af (wa.toNat:Int)))).tmod 65521,af (f7.2+1))) else none)<|e2 f7.1
def q1 (a1:A) (ct:Byt) (fd:Int) (uU:Int):P:=if ct.length+[UInt8.ofInt (uU.fdiv (2 ^ 8)),UInt8.ofInt uU].length<=cg then (let Ve:=ct++[UInt8.ofInt (uU.fdiv (2 ^ 8)),UInt8.ofInt uU];some (Ve,())) else none
def s1 (a1:A):Byt->Int->(Int×Int)->P:=λct fd=>λf7=>D.L k [1,1,1,1,1,0,1,0,0] [3,6,51,52,53] [] (ak 2 (av (D.N k [1,1,1,1,1,1]) D.K0)) (T1 a1 ct fd f7)
def r1 (a1:A):Byt->Int->(Int×Int)->P:=λct fd=>al (λw v=>b1 w (q1 a1 ct fd) a1 ct fd v) k
theorem nz (a1:A):s1 k a1=r1 k a1:=
 funext λct=>funext λfd=>funext λf7=>ap _ _ _ (T1 a1 ct fd) _ (λrec v=>Bye) k f7
def q0 (l1:Byt->Int->(Int×Int)->P) (a1:A) (fj:Byt):P:=if 0<=(0:Int)/\0 < (fj.length:Int) then ((fj[0]?).bind λuT=>let DP:=fj.set 0 (UInt8.ofInt (af ((fj.length:Int)+2)));l1 DP (DP.length:Int) (1,0)) else none
def Q0 (a1:A) (fj:Byt):P:=q0 (r1 k a1) a1 fj
theorem wY (a1:A) (fj:Byt):dn (ak 0 (av (D.N k [1,1,1]) D.K0)) a1 fj=Q0 k a1 fj:=
 aQ (b:=q0 (s1 k a1) a1 fj) Bye (by rw[nz];rfl)
def s0 (a1:A):(Byt×Int)->P:=λU=>D.L k [1,1,0,1,0,0] [3,24,25,26] [] (ak 0 (av (D.N k [1,1,1]) D.K0)) (T0 a1 U)
def r0 (a1:A):(Byt×Int)->P:=al (λw v=>b0 w (Q0 k a1) a1 v) k
theorem aq (a1:A):s0 k a1=r0 k a1:=by
 funext U;have h0:dn (ak 0 (av (D.N k [1,1,1]) D.K0)) a1=Q0 k a1:=funext λz=>wY k a1 z;refine (ap _ _ _ (T0 a1) (λself v=>b0 self (dn (ak 0 (av (D.N k [1,1,1]) D.K0)) a1) a1 v) (λrec v=>nA k rec (ak 0 (av (D.N k [1,1,1]) D.K0)) a1 v) k U).trans ?_;rw[h0];rfl
def p (l0:(Byt×Int)->P) (a1:A):P:=l0 ([(0:UInt8),UInt8.ofInt a1.1.1,UInt8.ofInt a1.1.2.1,UInt8.ofInt a1.1.2.2.1,UInt8.ofInt (a1.1.2.2.2.1.length:Int)],0)
theorem ae (a1:A):@Eq P (D.W k a1) (p (r0 k a1) a1):=
 aQ (b:=p (s0 k a1) a1) Bye (by rw[aq])
theorem ok:Ok prog 262 D.sig:=am func262 au Bye (aj _)
end gm
namespace mK
abbrev A:=Byt×Unit
abbrev O:=bq×Int×Unit
abbrev P:=Option O
noncomputable def D:FD:={ fn:=f217,tl:=a_,ps:=[(.ro,(.aa u8))],rs:=[(jv,(ah jv)),(i64,(ai i64))],gl:=[(114,b_.D.sig),(142,kM.D.sig),(178,e_.D.sig),(262,gm.D.sig)],lv:=[(7,[2,4,5,6,7,52,53])],lx:=[(0,[2,4,5,6,7])],od:=[(4,[0,1,2,3,4,5,6,7,8,9,10,11,12,13,14]),(11,[0,1,2,3,4,5,6,7,8,9,10,11,12,13,14,15,16,17,18,19,20])] }
def ab (a:A):P:=@lift O λk=>D.W k a
variable (a1:A)
def T0 (a1:A) (wF:Byt) (zE:Int) (Cx:Int) (jz:bq×Int×Int):St:={ n:=123,sl:=[(2,.box jv (ah jv) [] ((0:Int),(0:Int),(0:Int),([]:List ci),())),(4,.val (.aa u8) wF),(5,.box jv (ah jv) [] jz.1),(6,.val i64 jz.2.1),(7,.val i64 zE),(52,.val i64 Cx),(53,.val i64 jz.2.2)],vr:=[],ay:=[] }
def b0 (self:(bq×Int×Int)->P) (e0:(bq×Int)->P) (a1:A) (wF:Byt) (zE:Int) (Cx:Int) (jz:bq×Int×Int):P:=cond (decide (jz.2.2 < Cx)) (cond (decide (zE < af (jz.2.1+2))) (some ((0,0,0,([]:List ci),()),0,()))<|if 0<=af (jz.2.1+1) then ((wF[(af (jz.2.1+(1:Int))).toNat]?).bind λG6=>cond (decide (zE < af ((af (jz.2.1+2))+(af (G6.toNat:Int))))) (some ((0,0,0,([]:List ci),()),0,()))<|if 0<=af (jz.2.1+1) then ((wF[(af (jz.2.1+(1:Int))).toNat]?).bind λuX=>if 0<=jz.2.1 then ((wF[jz.2.1.toNat]?).bind λFc=>if 0<=af (jz.2.1+2)/\af (jz.2.1+2)<=af ((af (jz.2.1+2))+(af (uX.toNat:Int)))/\af ((af (jz.2.1+2))+(af (uX.toNat:Int)))<=(wF.length:Int) then ((b_.ab ((wF.take (af ((af (jz.2.1+2))+(af (uX.toNat:Int)))).toNat).drop (af (jz.2.1+2)).toNat,())).bind λVm=>if jz.1.2.2.2.1.length+[(af (Fc.toNat:Int),Vm.1,())].length<=cg then (let JM:=jz.1.2.2.2.1++[(af (Fc.toNat:Int),Vm.1,())];self ((jz.1.1,jz.1.2.1,jz.1.2.2.1,JM,jz.1.2.2.2.2),af (jz.2.1+(af (2+(af (uX.toNat:Int))))),af (jz.2.2+1))) else none) else none) else none) else none) else none)<|e0 (jz.1,jz.2.1)
abbrev B0 (_:Nat):=b0
def q0 (a1:A) (wF:Byt) (zE:Int) (Cx:Int) (JN:(bq×Int)):P:=cond (!decide (JN.2=zE)) (some ((0,0,0,([]:List ci),()),0,()))<|(kM.ab (JN.1,())).bind λyS=>cond (!decide (yS.1=0)) (some ((0,0,0,([]:List ci),()),0,()))<|(gm.ab (JN.1,())).bind λVn=>(e_.ab (Vn.1,wF,())).bind λZI=>cond (!ZI.1) (some ((0,0,0,([]:List ci),()),0,()))<|some (JN.1,(wF.length:Int),())
abbrev Q0 (_:Nat):=q0
def r0:Byt->Int->Int->(bq×Int×Int)->P:=λwF zE Cx=>al (λw v=>B0 k w (Q0 k a1 wF zE Cx) a1 wF zE Cx v) k
theorem aq:@Eq (Byt->Int->Int->(bq×Int×Int)->P) (λwF zE Cx=>λjz=>D.L k [1,1,1,1,1,0,1,0,0] [2,4,5,6,7,52,53] [] (ak 0 (av (D.N k [1,1,1,1,1,1]) D.K0)) (T0 a1 wF zE Cx jz)) (r0 k a1):=
 funext λwF=>funext λzE=>funext λCx=>funext λjz=>ap _ _ _ (T0 a1 wF zE Cx) _ (λrec v=>Bye) k jz
def p (l0:Byt->Int->Int->(bq×Int×Int)->P) (a1:A):P:=cond (decide ((a1.1.length:Int) < 7)) (some ((0,0,0,([]:List ci),()),0,()))<|(a1.1[0]?).bind λx2=>cond (decide ((a1.1.length:Int) < af (x2.toNat:Int))) (some ((0,0,0,([]:List ci),()),0,()))<|(a1.1[0]?).bind λx3=>cond (decide ((x3.toNat:Int) < 7)) (some ((0,0,0,([]:List ci),()),0,()))<|(a1.1[0]?).bind λx4=>if 0<=(x4.toNat:Int)/\(x4.toNat:Int)<=(a1.1.length:Int) then ((((a1.1.take (x4.toNat:Int).toNat).drop 0)[1]?).bind λx5=>(((a1.1.take (x4.toNat:Int).toNat).drop 0)[2]?).bind λx6=>(((a1.1.take (x4.toNat:Int).toNat).drop 0)[3]?).bind λx7=>(((a1.1.take (x4.toNat:Int).toNat).drop 0)[4]?).bind λx8=>l0 ((a1.1.take (x4.toNat:Int).toNat).drop 0) (af ((((a1.1.take (x4.toNat:Int).toNat).drop 0).length:Int) - 2)) (af (x8.toNat:Int)) ((af (x5.toNat:Int),af (x6.toNat:Int),af (x7.toNat:Int),([]:List ci),()),5,0)) else none
theorem ae:@Eq P (D.W k a1) (p (r0 k a1) a1):=By8 (aq k a1) Bye
theorem ok:Ok prog 217 D.sig:=am func217 au Bye (fc b_.ok (fc kM.ok (fc e_.ok (fc gm.ok (aj _)))))
end mK
namespace mh
abbrev A:=Byt×Unit
abbrev O:=(List bq)×Int×Unit
abbrev P:=Option O
noncomputable def D:FD:={ fn:=f140,tl:=a_,ps:=[(.ro,(.aa u8))],rs:=[((.aa jv),(ah (.aa jv))),(i64,(ai i64))],gl:=[(217,mK.D.sig)],lv:=[(3,[0,4,5])] }
def ab (a:A):P:=@lift O λk=>D.W k a
variable (a1:A)
def T0 (U:(List bq)×Int):St:={ n:=26,sl:=[(0,.val (.aa u8) a1.1),(4,.own (.aa jv) (ah (.aa jv)) [] U.1),(5,.val i64 U.2)],vr:=[],ay:=[] }
def b0 (self:((List bq)×Int)->P) (a1:A) (U:(List bq)×Int):P:=if 0<=U.2/\U.2<=(a1.1.length:Int) then ((mK.ab ((a1.1.take a1.1.length).drop U.2.toNat,())).bind λCu=>cond (decide (Cu.2.1=0)) (some (U.1,U.2,()))<|if U.1.length+[Cu.1].length<=cg then (self (U.1++[Cu.1],af (U.2+Cu.2.1))) else none) else none
abbrev B0 (_:Nat):=b0
def r0:((List bq)×Int)->P:=al (λw v=>B0 k w a1 v) k
theorem aq:@Eq (((List bq)×Int)->P) (λU=>D.L k [1,1,1,0,0] [0,4,5] [] (ak 0 D.K0) (T0 a1 U)) (r0 k a1):=
 funext λU=>ap _ _ _ (T0 a1) _ (λrec v=>Bye) k U
def p (l0:((List bq)×Int)->P) (a1:A):P:=l0 (([]:List bq),0)
theorem ae:@Eq P (D.W k a1) (p (r0 k a1) a1):=By8 (aq k a1) Bye
theorem ok:Ok prog 140 D.sig:=am func140 au Bye (fc mK.ok (aj _))
end mh
namespace o5
abbrev A:=Log×Unit
abbrev O:=(List bq)×Unit
noncomputable def D:FD:={ fn:=f79,tl:=a_,ps:=[(.ro,jc)],rs:=[((.aa jv),(ah (.aa jv)))],gl:=[(140,mh.D.sig)] }
def ab (a:A):Option O:=@lift O λk=>D.W k a
def p (a1:A):Option O:=(mh.ab (a1.1.1,())).bind λr2=>(mh.ab (a1.1.2.1,())).bind λr3=>if r2.1.length+r3.1.length<=cg then (some (r2.1++r3.1,())) else none
theorem ae (a1:A):@Eq (Option O) (D.W k a1) (p a1):=Bye
theorem ok:Ok prog 79 D.sig:=am func79 au Bye (fc mh.ok (aj _))
end o5
namespace iy
abbrev A:=UInt8×Unit
abbrev O:=Byt×Unit
abbrev P:=Option O
noncomputable def D:FD:={ fn:=f193,tl:=a_,ps:=[(.ro,u8)],rs:=[((.aa u8),(ah (.aa u8)))],lv:=[(3,[0,3,7,8])],lx:=[(0,[3])] }
def ab (a:A):P:=@lift O λk=>D.W k a
variable (a1:A)
def T0 (U:Byt×Int):St:={ n:=21,sl:=[(0,.val u8 a1.1),(3,.own (.aa u8) (ah (.aa u8)) [] U.1),(7,.val i64 ((List.replicate 64 (0:UInt8)).length:Int)),(8,.val i64 U.2)],vr:=[],ay:=[] }
def b0 (self:(Byt×Int)->P) (e0:Byt->P) (a1:A) (U:Byt×Int):P:=cond (decide (U.2 < ((List.replicate 64 (0:UInt8)).length:Int))) (if 0<=U.2/\U.2 < (U.1.length:Int) then ((U.1[U.2.toNat]?).bind λaT=>self (U.1.set U.2.toNat a1.1,af (U.2+1))) else none)<|e0 U.1
def q0 (a1:A) (mZ:Byt):P:=if 0<=(0:Int)/\0 < (mZ.length:Int) then ((mZ[0]?).bind λey=>if 0<=(1:Int)/\1 < ((mZ.set 0 (0:UInt8)).length:Int) then (((mZ.set 0 (0:UInt8))[1]?).bind λuT=>let DP:=(mZ.set 0 (0:UInt8)).set 1 (64:UInt8);some (DP,())) else none) else none
def r0:(Byt×Int)->P:=al (λw v=>b0 w (q0 a1) a1 v) k
theorem aq:@Eq ((Byt×Int)->P) (λU=>D.L k [1,1,0,1,0,0] [0,3,7,8] [] (ak 0 (av (D.N k [1,1,1]) D.K0)) (T0 a1 U)) (r0 k a1):=
 funext λU=>ap _ _ _ (T0 a1) _ (λrec v=>Bye) k U
def p (l0:(Byt×Int)->P) (a1:A):P:=if 0<=(64:Int)/\(64:Int)<=64/\64<=(cg:Int) then (l0 (List.replicate 64 (0:UInt8),0)) else none
theorem ae:@Eq P (D.W k a1) (p (r0 k a1) a1):=By8 (aq k a1) Bye
theorem ok:Ok prog 193 D.sig:=am func193 au Bye (aj _)
end iy
namespace mL
abbrev A:=(List Byt)×Unit
abbrev O:=(List Byt)×Unit
noncomputable def D:FD:={ fn:=f225,tl:=a_,ps:=[(.ro,(.aa (.aa u8)))],rs:=[((.aa (.aa u8)),(.aa true (ai (.aa u8))))] }
def ab (a:A):Option O:=@lift O λk=>D.W k a
def p (a1:A):Option O:=BL a1.1 (some (([]:List Byt),())) (if ([]:List Byt).length+a1.1.length<=cg then (some (([]:List Byt)++a1.1,())) else none)
theorem ae (a1:A):@Eq (Option O) (D.W k a1) (p a1):=Bye
theorem ok:Ok prog 225 D.sig:=am func225 au Bye (aj _)
end mL
namespace lw
abbrev A:=Byt×(List ci)×Unit
abbrev O:=Byt×Unit
abbrev P:=Option O
noncomputable def D:FD:={ fn:=f226,tl:=a_,ps:=[(.ro,(.aa u8)),(.ro,(.aa pN))],rs:=[((.aa u8),(ah (.aa u8)))],gl:=[(114,b_.D.sig)],lv:=[(3,[5,10,11,12])],lx:=[(0,[5])],od:=[(5,[0,1,2,3,4,5,6])] }
def ab (a:A):P:=@lift O λk=>D.W k a
variable (a1:A)
def T0 (bz:Byt×Int):St:={ n:=25,sl:=[(5,.own (.aa u8) (ah (.aa u8)) [] bz.1),(10,.val (.aa pN) a1.2.1),(11,.val i64 (a1.2.1.length:Int)),(12,.val i64 bz.2)],vr:=[],ay:=[] }
def b0 (self:(Byt×Int)->P) (e0:Byt->P) (a1:A) (bz:Byt×Int):P:=cond (decide (bz.2 < (a1.2.1.length:Int))) (if 0<=bz.2 then ((a1.2.1[bz.2.toNat]?).bind λjJ=>if 0<=jJ.1/\jJ.1<=(bz.1.length:Int) then (let ZF:=oM bz.1 jJ.1.toNat (min jJ.2.1.length (bz.1.length - jJ.1.toNat)) jJ.2.1;self (ZF,af (bz.2+1))) else none) else none)<|e0 bz.1
def q0 (a1:A) (vW:Byt):P:=some (vW,())
def r0:(Byt×Int)->P:=al (λw v=>b0 w (q0 a1) a1 v) k
theorem aq:@Eq ((Byt×Int)->P) (λbz=>D.L k [1,1,0,1,0,0] [5,10,11,12] [] (ak 0 (av (D.N k [1,1,1]) D.K0)) (T0 a1 bz)) (r0 k a1):=
 funext λbz=>ap _ _ _ (T0 a1) _ (λrec v=>Bye) k bz
def p (l0:(Byt×Int)->P) (a1:A):P:=(b_.ab (a1.1,())).bind λr2=>l0 (r2.1,0)
theorem ae:@Eq P (D.W k a1) (p (r0 k a1) a1):=By8 (aq k a1) Bye
theorem ok:Ok prog 226 D.sig:=am func226 au Bye (fc b_.ok (aj _))
end lw
namespace oW
abbrev A:=(List Byt)×bq×Unit
abbrev O:=(List Byt)×Int×Unit
noncomputable def D:FD:={ fn:=f143,tl:=a_,ps:=[(.ro,(.aa (.aa u8))),(.ro,jv)],rs:=[((.aa (.aa u8)),(ai (.aa (.aa u8)))),(i64,(ai i64))],gl:=[(193,iy.D.sig),(223,pT.D.sig),(225,mL.D.sig),(226,lw.D.sig)],od:=[(10,[0,1,2,3,4,5,6,7,8,9,10,11,12])] }
def ab (a:A):Option O:=@lift O λk=>D.W k a
def p (a1:A):Option O:=(pT.ab (a1.2.1.1,())).bind λr2=>cond (!r2.1) (some (a1.1,0,()))<|cond (decide ((a1.1.length:Int) < a1.2.1.2.2.1)) (some (([]:List Byt),1,()))<|cond (decide (a1.2.1.2.2.1=12)) (some (([]:List Byt),2,()))<|(mL.ab (a1.1,())).bind λr3=>let Gf:=λ(p9:List Byt)=>(if 0<=a1.2.1.2.2.1/\a1.2.1.2.2.1 < (p9.length:Int) then ((p9[a1.2.1.2.2.1.toNat]?).bind λXS=>(lw.ab (XS,a1.2.1.2.2.2.1,())).bind λqD=>if 0<=a1.2.1.2.2.1/\a1.2.1.2.2.1 < (p9.length:Int) then ((p9[a1.2.1.2.2.1.toNat]?).bind λK7=>some (p9.set a1.2.1.2.2.1.toNat qD.1,0,())) else none) else none:Option O);cond (decide (a1.2.1.2.2.1=(a1.1.length:Int))) ((iy.ab ((0:UInt8),())).bind λr4=>if r3.1.length+[r4.1].length<=cg then (Gf (r3.1++[r4.1])) else none)<|Gf r3.1
theorem ae (a1:A):@Eq (Option O) (D.W k a1) (p a1):=Bye
theorem ok:Ok prog 143 D.sig:=am func143 au Bye (fc iy.ok (fc pT.ok (fc mL.ok (fc lw.ok (aj _)))))
end oW
namespace rm
abbrev A:=(List bq)×Unit
abbrev O:=(List Byt)×Int×Unit
abbrev P:=Option O
noncomputable def D:FD:={ fn:=f81,tl:=a_,ps:=[(.ro,(.aa jv))],rs:=[((.aa (.aa u8)),(ai (.aa (.aa u8)))),(i64,(ai i64))],gl:=[(142,kM.D.sig),(143,oW.D.sig)],lv:=[(3,[4,10,11,12])],lx:=[(0,[4])],lf:=[(3,[(4,(.aa false (.aa false .leaf)))])] }
def ab (a:A):P:=@lift O λk=>D.W k a
variable (a1:A)
def T0 (U:(List Byt)×Int):St:={ n:=33,sl:=[(4,.val (.aa (.aa u8)) U.1),(10,.val (.aa jv) a1.1),(11,.val i64 (a1.1.length:Int)),(12,.val i64 U.2)],vr:=[],ay:=[] }
def b0 (self:((List Byt)×Int)->P) (e0:(List Byt)->P) (a1:A) (U:(List Byt)×Int):P:=cond (decide (U.2 < (a1.1.length:Int))) (if 0<=U.2 then ((a1.1[U.2.toNat]?).bind λaT=>(kM.ab (aT,())).bind λdq=>cond (!decide (dq.1=0)) (some (([]:List Byt),dq.1,()))<|(oW.ab (U.1,aT,())).bind λlV=>cond (!decide (lV.2.1=0)) (some (([]:List Byt),lV.2.1,()))<|self (lV.1,af (U.2+1))) else none)<|e0 U.1
def q0 (a1:A) (vW:(List Byt)):P:=some (vW,0,())
def r0:((List Byt)×Int)->P:=al (λw v=>b0 w (q0 a1) a1 v) k
theorem aq:@Eq (((List Byt)×Int)->P) (λU=>D.L k [1,1,0,1,0,0] [4,10,11,12] [(4,(.aa false (.aa false .leaf)))] (ak 0 (av (D.N k [1,1,1]) D.K0)) (T0 a1 U)) (r0 k a1):=
 funext λU=>ap _ _ _ (T0 a1) _ (λrec v=>Bye) k U
def p (l0:((List Byt)×Int)->P) (a1:A):P:=l0 (([]:List Byt),0)
theorem ae:@Eq P (D.W k a1) (p (r0 k a1) a1):=By8 (aq k a1) Bye
theorem ok:Ok prog 81 D.sig:=am func81 au Bye (fc kM.ok (fc oW.ok (aj _)))
end rm
namespace jV
abbrev A:=Log×Unit
abbrev O:=Int×Unit
noncomputable def D:FD:={ fn:=f49,tl:=a_,ps:=[(.ro,jc)],rs:=[(i64,(ai i64))] }
def ab (a:A):Option O:=@lift O λk=>D.W k a
def p (a1:A):Option O:=some (af ((a1.1.1.length:Int)+(a1.1.2.1.length:Int)),())
theorem ae (a1:A):@Eq (Option O) (D.W k a1) (p a1):=Bye
theorem ok:Ok prog 49 D.sig:=am func49 au Bye (aj _)
end jV
namespace li
abbrev A:=Log×Unit
abbrev O:=Int×Unit
abbrev P:=Option O
noncomputable def D:FD:={ fn:=f97,tl:=a_,ps:=[(.ro,jc)],rs:=[(i64,(ai i64))],gl:=[(49,jV.D.sig),(140,mh.D.sig)],lv:=[(4,[14,15,16])],lx:=[(0,[])] }
def ab (a:A):P:=@lift O λk=>D.W k a
variable (a1:A)
def T0 (bz:Int):St:={ n:=30,sl:=[(14,.own (.aa (.aa u8)) (.aa true (ai (.aa u8))) [] [a1.1.1,a1.1.2.1]),(15,.val i64 ([a1.1.1,a1.1.2.1].length:Int)),(16,.val i64 bz)],vr:=[],ay:=[] }
def b0 (self:Int->P) (e0:(Unit)->P) (a1:A) (bz:Int):P:=cond (decide (bz < ([a1.1.1,a1.1.2.1].length:Int))) (if 0<=bz/\bz < ([a1.1.1,a1.1.2.1].length:Int) then (([a1.1.1,a1.1.2.1][bz.toNat]?).bind λjJ=>(mh.ab (jJ,())).bind λlV=>cond (!decide (lV.2.1=(jJ.length:Int))) (some (5,()))<|self (af (bz+1))) else none)<|e0 ()
def q0 (a1:A) (vW:(Unit)):P:=some (0,())
def r0:(Int)->P:=al (λw v=>b0 w (q0 a1) a1 v) k
theorem aq:@Eq ((Int)->P) (λbz=>D.L k [1,1,0,1,0,0] [14,15,16] [] (ak 0 (av (D.N k [1,1,1]) D.K0)) (T0 a1 bz)) (r0 k a1):=
 funext λbz=>ap _ _ _ (T0 a1) _ (λrec v=>Bye) k bz
def p (l0:(Int)->P) (a1:A):P:=(jV.ab (a1.1,())).bind λr2=>cond (decide (16000 < r2.1)) (some (2,()))<|l0 0
theorem ae:@Eq P (D.W k a1) (p (r0 k a1) a1):=By8 (aq k a1) Bye
theorem ok:Ok prog 97 D.sig:=am func97 au Bye (fc jV.ok (fc mh.ok (aj _)))
end li
namespace ez
abbrev A:=Byt×Unit
abbrev O:=Int×Unit
noncomputable def D:FD:={ fn:=f170,tl:=a_,ps:=[(.ro,(.aa u8))],rs:=[(i64,(ai i64))] }
def ab (a:A):Option O:=@lift O λk=>D.W k a
def p (a1:A):Option O:=(a1.1[0]?).bind λx2=>some (af (x2.toNat:Int),())
theorem ae (a1:A):@Eq (Option O) (D.W k a1) (p a1):=Bye
theorem ok:Ok prog 170 D.sig:=am func170 au Bye (aj _)
end ez
namespace lZ
abbrev A:=Byt×Int×Unit
abbrev O:=Int×Int×Unit
noncomputable def D:FD:={ fn:=f253,tl:=a_,ps:=[(.ro,(.aa u8)),(.ro,i64)],rs:=[(i64,(ai i64)),(i64,(ai i64))],od:=[(1,[0,1,2,3,4,5,6,7,8,9,10,11,12,13,14,15])] }
def ab (a:A):Option O:=@lift O λk=>D.W k a
def p (a1:A):Option O:=if 0<=af (2+(af (2*a1.2.1))) then ((a1.1[(af ((2:Int)+(af ((2:Int)*a1.2.1)))).toNat]?).bind λx2=>if 0<=af (3+(af (2*a1.2.1))) then ((a1.1[(af ((3:Int)+(af ((2:Int)*a1.2.1)))).toNat]?).bind λx3=>some (af (x2.toNat:Int),af (x3.toNat:Int),())) else none) else none
theorem ae (a1:A):@Eq (Option O) (D.W k a1) (p a1):=Bye
theorem ok:Ok prog 253 D.sig:=am func253 au Bye (aj _)
end lZ
namespace bg
abbrev A:=Byt×Unit
abbrev O:=Int×Unit
abbrev P:=Option O
noncomputable def D:FD:={ fn:=f169,tl:=a_,ps:=[(.ro,(.aa u8))],rs:=[(i64,(ai i64))],gl:=[(170,ez.D.sig),(253,lZ.D.sig)],lv:=[(7,[0,3,4,35,36]),(15,[0,3,8,66,67]),(19,[0,3,8,10,11,12,66,67])],lx:=[(0,[0,3]),(2,[0,3]),(4,[0,3,8,66,67])],od:=[(3,[0,2,3,4,5,1,6,7])] }
def ab (a:A):P:=@lift O λk=>D.W k a
def T0 (a1:A) (ei:Int) (gt:Int) (cr:Int):St:={ n:=101,sl:=[(0,.val (.aa u8) a1.1),(3,.val i64 ei),(4,.val i64 gt),(35,.val i64 ei),(36,.val i64 cr)],vr:=[],ay:=[] }
def S0 (rec:RT O) (a1:A) (ei:Int) (gt:Int):(Int)->P:=λcr=>rec (T0 a1 ei gt cr)
def dn (K:KT O) (a1:A) (ei:Int) (gt:Int):(Unit)->P:=λz=>K (.exit 0) ({ n:=101,sl:=[(0,.val (.aa u8) a1.1),(3,.val i64 ei)],vr:=[],ay:=[] })
def b0 (self:Int->P) (e0:(Unit)->P) (a1:A) (ei:Int) (gt:Int) (cr:Int):P:=cond (decide (cr < ei)) ((lZ.ab (a1.1,cr,())).bind λlU=>cond (!((decide (lU.1=0)) == (decide (lU.2.1=0)))) (some (3,()))<|cond (!decide (lU.1=0)) (cond (decide (lU.1 < gt)) (some (3,()))<|cond (decide (64 < af (lU.1+lU.2.1))) (some (3,()))<|self (af (cr+1)))<|cond (decide (64 < af (lU.1+lU.2.1))) (some (3,()))<|self (af (cr+1)))<|e0 ()
theorem nA (rec:RT O) (K:KT O) (a1:A) (ei:Int) (gt:Int) (cr:Int):D.N k [1,1,1,1,0,1,0,0] (T0 a1 ei gt cr) (jY rec (gv [0,3,4,35,36] []) K)=b0 (S0 rec a1 ei gt) (dn K a1 ei gt) a1 ei gt cr:=Bye
def T1 (a1:A) (nD:Byt×Int×(List Bool)×Int×Int):St:={ n:=101,sl:=[(0,.val (.aa u8) nD.1),(3,.val i64 nD.2.1),(8,.box (.arr 64 .bool) (ai (.arr 64 .bool)) [] nD.2.2.1),(66,.val i64 nD.2.2.2.1),(67,.val i64 nD.2.2.2.2)],vr:=[],ay:=[] }
def S1 (rec:RT O) (a1:A):(Byt×Int×(List Bool)×Int×Int)->P:=λnD=>rec (T1 a1 nD)
def nu (K:KT O) (a1:A):(Byt×Int)->P:=λz=>K (.exit 2) ({ n:=101,sl:=[(0,.val (.aa u8) z.1),(3,.val i64 z.2)],vr:=[],ay:=[] })
def T2 (a1:A) (kS:Byt) (gw:Int) (pU:Int) (pV:Int) (pW:Int) (pX:Int) (l8:(List Bool)×Int):St:={ n:=101,sl:=[(0,.val (.aa u8) kS),(3,.val i64 gw),(8,.box (.arr 64 .bool) (ai (.arr 64 .bool)) [] l8.1),(10,.val i64 pU),(11,.val i64 pV),(12,.val i64 l8.2),(66,.val i64 pW),(67,.val i64 pX)],vr:=[],ay:=[] }
def b2 (self:((List Bool)×Int)->P) (e4:(List Bool)->P) (a1:A) (kS:Byt) (gw:Int) (pU:Int) (pV:Int) (pW:Int) (pX:Int) (l8:(List Bool)×Int):P:=cond (decide (l8.2 < af (pU+pV))) (if 0<=l8.2/\l8.2 < (l8.1.length:Int) then ((l8.1[l8.2.toNat]?).bind λadF=>cond adF (some (8,()))<|if 0<=l8.2/\l8.2 < (l8.1.length:Int) then ((l8.1[l8.2.toNat]?).bind λVo=>self (l8.1.set l8.2.toNat true,af (l8.2+1))) else none) else none)<|e4 l8.1
def q1 (self:(Byt×Int×(List Bool)×Int×Int)->P) (e2:(Byt×Int)->P) (a1:A) (kS:Byt) (gw:Int) (pU:Int) (pV:Int) (pW:Int) (pX:Int) (Vp:(List Bool)):P:=self (kS,gw,Vp,pW,af (pX+1))
def s2 (rec:RT O) (K:KT O) (a1:A):Byt->Int->Int->Int->Int->Int->((List Bool)×Int)->P:=λkS gw pU pV pW pX=>λl8=>D.L k [1,1,1,1,1,1,0,1,0,0,1,1,0,0,1,1,1,0,0] [0,3,8,10,11,12,66,67] [] (ak 4 (ak 3 (av (D.N k [1,1,1,1,1,1,0,1,0,0,1,1,1]) (jY rec (gv [0,3,8,66,67] []) K)))) (T2 a1 kS gw pU pV pW pX l8)
def r2 (self:(Byt×Int×(List Bool)×Int×Int)->P) (e2:(Byt×Int)->P) (a1:A):Byt->Int->Int->Int->Int->Int->((List Bool)×Int)->P:=λkS gw pU pV pW pX=>al (λw v=>b2 w (q1 self e2 a1 kS gw pU pV pW pX) a1 kS gw pU pV pW pX v) k
theorem wX (rec:RT O) (K:KT O) (a1:A):s2 k rec K a1=r2 k (S1 rec a1) (nu K a1) a1:=
 funext λkS=>funext λgw=>funext λpU=>funext λpV=>funext λpW=>funext λpX=>funext λl8=>ap _ _ _ (T2 a1 kS gw pU pV pW pX) _ (λrec v=>Bye) k l8
def b1 (self:(Byt×Int×(List Bool)×Int×Int)->P) (e2:(Byt×Int)->P) (l2:Byt->Int->Int->Int->Int->Int->((List Bool)×Int)->P) (a1:A) (nD:Byt×Int×(List Bool)×Int×Int):P:=cond (decide (nD.2.2.2.2 < nD.2.2.2.1)) ((lZ.ab (nD.1,nD.2.2.2.2,())).bind λBo=>l2 nD.1 nD.2.1 Bo.1 Bo.2.1 nD.2.2.2.1 nD.2.2.2.2 (nD.2.2.1,Bo.1))<|e2 (nD.1,nD.2.1)
def B1 (self:(Byt×Int×(List Bool)×Int×Int)->P) (e2:(Byt×Int)->P) (a1:A) (nD:Byt×Int×(List Bool)×Int×Int):P:=b1 self e2 (r2 k self e2 a1) a1 nD
theorem yQ (rec:RT O) (K:KT O) (a1:A) (nD:Byt×Int×(List Bool)×Int×Int):D.N k [1,1,1,1,1,1,0,1,0,0] (T1 a1 nD) (jY rec (gv [0,3,8,66,67] []) K)=B1 k (S1 rec a1) (nu K a1) a1 nD:=
 aQ (b:=b1 (S1 rec a1) (nu K a1) (s2 k rec K a1) a1 nD) Bye (by rw[wX];rfl)
def q2 (a1:A) (xJ:(Byt×Int)):P:=cond (decide (0 < xJ.2)) (if 0<=af ((af (2*xJ.2))+1) then ((xJ.1[(af ((af ((2:Int)*xJ.2))+(1:Int))).toNat]?).bind λadG=>cond (decide ((adG.toNat:Int)=0)) (some (8,()))<|some (0,())) else none)<|some (0,())
theorem Bp (a1:A) (xJ:(Byt×Int)):nu (ak 2 (av (D.N k [1,1,1,1,1,1,1]) D.K0)) a1 xJ=q2 a1 xJ:=Bye
def s1 (a1:A) (ei:Int) (gt:Int):(Byt×Int×(List Bool)×Int×Int)->P:=λnD=>D.L k [1,1,1,1,1,1,0,1,0,0] [0,3,8,66,67] [] (ak 2 (av (D.N k [1,1,1,1,1,1,1]) D.K0)) (T1 a1 nD)
def r1 (a1:A) (ei:Int) (gt:Int):(Byt×Int×(List Bool)×Int×Int)->P:=al (λw v=>B1 k w (q2 a1) a1 v) k
theorem nz (a1:A) (ei:Int) (gt:Int):s1 k a1 ei gt=r1 k a1 ei gt:=by
 funext nD;have h2:nu (ak 2 (av (D.N k [1,1,1,1,1,1,1]) D.K0)) a1=q2 a1:=funext λz=>Bp k a1 z;refine (ap _ _ _ (T1 a1) (λself v=>B1 k self (nu (ak 2 (av (D.N k [1,1,1,1,1,1,1]) D.K0)) a1) a1 v) (λrec v=>yQ k rec (ak 2 (av (D.N k [1,1,1,1,1,1,1]) D.K0)) a1 v) k nD).trans ?_;rw[h2];rfl
def q0 (l1:(Byt×Int×(List Bool)×Int×Int)->P) (a1:A) (ei:Int) (gt:Int) (xR:(Unit)):P:=l1 (a1.1,ei,List.replicate 64 false,ei,0)
def Q0 (a1:A) (ei:Int) (gt:Int) (xR:(Unit)):P:=q0 (r1 k a1 ei gt) a1 ei gt xR
theorem wY (a1:A) (ei:Int) (gt:Int) (xR:(Unit)):dn (ak 0 (av (D.N k [1,1,1,1,1]) D.K0)) a1 ei gt xR=Q0 k a1 ei gt xR:=
 aQ (b:=q0 (s1 k a1 ei gt) a1 ei gt xR) Bye (by rw[nz];rfl)
def s0 (a1:A):Int->Int->(Int)->P:=λei gt=>λcr=>D.L k [1,1,1,1,0,1,0,0] [0,3,4,35,36] [] (ak 0 (av (D.N k [1,1,1,1,1]) D.K0)) (T0 a1 ei gt cr)
def r0 (a1:A):Int->Int->(Int)->P:=λei gt=>al (λw v=>b0 w (Q0 k a1 ei gt) a1 ei gt v) k
theorem aq (a1:A):s0 k a1=r0 k a1:=by
 funext ei;funext gt;funext cr;have h0:dn (ak 0 (av (D.N k [1,1,1,1,1]) D.K0)) a1 ei gt=Q0 k a1 ei gt:=funext λz=>wY k a1 ei gt z;refine (ap _ _ _ (T0 a1 ei gt) (λself v=>b0 self (dn (ak 0 (av (D.N k [1,1,1,1,1]) D.K0)) a1 ei gt) a1 ei gt v) (λrec v=>nA k rec (ak 0 (av (D.N k [1,1,1,1,1]) D.K0)) a1 ei gt v) k cr).trans ?_;rw[h0];rfl
def p (l0:Int->Int->(Int)->P) (a1:A):P:=cond (!decide ((a1.1.length:Int)=64)) (some (1,()))<|(a1.1[1]?).bind λx2=>(ez.ab (a1.1,())).bind λr3=>cond (decide (16 < r3.1)) (some (3,()))<|cond (decide (af (x2.toNat:Int) < af (2+(af (2*r3.1))))) (some (3,()))<|cond (decide (64 < af (x2.toNat:Int))) (some (3,()))<|l0 r3.1 (af (x2.toNat:Int)) 0
theorem ae (a1:A):@Eq P (D.W k a1) (p (r0 k a1) a1):=
 aQ (b:=p (s0 k a1) a1) Bye (by rw[aq])
theorem ok:Ok prog 169 D.sig:=am func169 au Bye (fc ez.ok (fc lZ.ok (aj _)))
end bg
namespace g_
abbrev A:=Byt×Int×Unit
abbrev O:=Bool×Unit
noncomputable def D:FD:={ fn:=f171,tl:=a_,ps:=[(.ro,(.aa u8)),(.ro,i64)],rs:=[(.bool,(ai .bool))],gl:=[(170,ez.D.sig)] }
def ab (a:A):Option O:=@lift O λk=>D.W k a
def p (a1:A):Option O:=cond (decide (0<=a1.2.1)) ((ez.ab (a1.1,())).bind λr2=>cond (decide (a1.2.1 < r2.1)) (if 0<=af (3+(af (2*a1.2.1))) then ((a1.1[(af ((3:Int)+(af ((2:Int)*a1.2.1)))).toNat]?).bind λx3=>some (!decide ((x3.toNat:Int)=0),())) else none)<|some (false,()))<|some (false,())
theorem ae (a1:A):@Eq (Option O) (D.W k a1) (p a1):=Bye
theorem ok:Ok prog 171 D.sig:=am func171 au Bye (fc ez.ok (aj _))
end g_
namespace dw
abbrev A:=Row×Unit
abbrev O:=Int×Unit
abbrev P:=Option O
noncomputable def D:FD:={ fn:=f179,tl:=a_,ps:=[(.ro,a8)],rs:=[(i64,(ai i64))],gl:=[(98,e8.D.sig)],lv:=[(6,[1,26,27])],lx:=[(0,[])] }
def ab (a:A):P:=@lift O λk=>D.W k a
variable (a1:A)
def T0 (jo:Int):St:={ n:=43,sl:=[(1,.box a8 (ai a8) [] a1.1),(26,.val i64 (a1.1.2.2.2.1.length:Int)),(27,.val i64 jo)],vr:=[],ay:=[] }
def b0 (self:Int->P) (e0:(Unit)->P) (a1:A) (jo:Int):P:=cond (decide (jo < (a1.1.2.2.2.1.length:Int))) (if 0<=jo then ((a1.1.2.2.2.1[jo.toNat]?).bind λuT=>cond (decide ((uT.toNat:Int) < 97)) (some (5,()))<|if 0<=jo then ((a1.1.2.2.2.1[jo.toNat]?).bind λuW=>cond (decide (122 < (uW.toNat:Int))) (some (5,()))<|self (af (jo+1))) else none) else none)<|e0 ()
def q0 (a1:A) (xR:(Unit)):P:=some (0,())
def r0:(Int)->P:=al (λw v=>b0 w (q0 a1) a1 v) k
theorem aq:@Eq ((Int)->P) (λjo=>D.L k [1,1,1,0,1,0,0] [1,26,27] [] (ak 0 (av (D.N k [1,1,1,1]) D.K0)) (T0 a1 jo)) (r0 k a1):=
 funext λjo=>ap _ _ _ (T0 a1) _ (λrec v=>Bye) k jo
def p (l0:(Int)->P) (a1:A):P:=(e8.ab (a1.1.1,0,3,())).bind λr2=>cond (!r2.1) (some (3,()))<|(e8.ab (a1.1.2.1,1,99,())).bind λr3=>cond (!r3.1) (some (3,()))<|(e8.ab (a1.1.2.2.1,0,999,())).bind λr4=>cond (!r4.1) (some (3,()))<|cond (decide (8 < (a1.1.2.2.2.1.length:Int))) (some (5,()))<|l0 0
theorem ae:@Eq P (D.W k a1) (p (r0 k a1) a1):=By8 (aq k a1) Bye
theorem ok:Ok prog 179 D.sig:=am func179 au Bye (fc e8.ok (aj _))
end dw
namespace kC
abbrev A:=Byt×Unit
abbrev O:=tn×Unit
abbrev P:=Option O
noncomputable def D:FD:={ fn:=f172,tl:=a_,ps:=[(.ro,(.aa u8))],rs:=[(sd,(ai sd))],gl:=[(179,dw.D.sig)],od:=[(2,[0,1,2,3,4,5,6,7,8,9]),(5,[0,1,2,3,4,5,6,7,8,9,10,11,12,13,14,15,16,17,18,19,20,21,22,23]),(8,[0,1,2,3,4,5,6])] }
def ab (a:A):P:=@lift O λk=>D.W k a
def p (a1:A):P:=let j25:P:=let j37:P:=(a1.1[1]?).bind λx38=>(a1.1[2]?).bind λx39=>(a1.1[3]?).bind λx40=>(a1.1[4]?).bind λx41=>if 0<=(6:Int)/\6<=(a1.1.length:Int) then (let y42:=af ((BitVec.ofInt 64 (af ((af (x40.toNat:Int))*2 ^ 8)) ||| BitVec.ofInt 64 (af (x41.toNat:Int))).toNat:Int);(dw.ab ((af (x38.toNat:Int),af (x39.toNat:Int),y42,(a1.1.take a1.1.length).drop 6,()),())).bind λr43=>cond (!decide (r43.1=0)) (some ((5,0,0,0,(0,0,0,([]:Byt),()),()),()))<|(a1.1[0]?).bind λx44=>some ((0,af (x44.toNat:Int),0,0,(af (x38.toNat:Int),af (x39.toNat:Int),y42,(a1.1.take a1.1.length).drop 6,()),()),())) else none;cond (decide ((a1.1.length:Int) < 6)) (some ((5,0,0,0,(0,0,0,([]:Byt),()),()),()))<|(a1.1[0]?).bind λx26=>cond (!decide ((x26.toNat:Int)=0)) ((a1.1[0]?).bind λx27=>cond (!decide ((x27.toNat:Int)=2)) (some ((5,0,0,0,(0,0,0,([]:Byt),()),()),()))<|(a1.1[5]?).bind λx28=>cond (!decide ((a1.1.length:Int)=af (6+(af (x28.toNat:Int))))) (some ((5,0,0,0,(0,0,0,([]:Byt),()),()),()))<|j37)<|(a1.1[5]?).bind λx29=>cond (!decide ((a1.1.length:Int)=af (6+(af (x29.toNat:Int))))) (some ((5,0,0,0,(0,0,0,([]:Byt),()),()),()))<|j37;cond (decide ((a1.1.length:Int)=3)) ((a1.1[0]?).bind λx2=>cond (decide ((x2.toNat:Int)=1)) ((a1.1[1]?).bind λx3=>cond (decide ((x3.toNat:Int) < 12)) ((a1.1[2]?).bind λx4=>cond (decide ((x4.toNat:Int) < 16)) ((a1.1[1]?).bind λx5=>(a1.1[2]?).bind λx6=>some ((0,1,af (x5.toNat:Int),af (x6.toNat:Int),(0,0,0,([]:Byt),()),()),()))<|j25)<|j25)<|j25)<|j25
theorem ae (a1:A):@Eq P (D.W k a1) (p a1):=Bye
theorem ok:Ok prog 172 D.sig:=am func172 au Bye (fc dw.ok (aj _))
end kC
namespace mD
abbrev A:=Byt×Int×Unit
abbrev O:=Byt×Unit
noncomputable def D:FD:={ fn:=f173,tl:=a_,ps:=[(.ro,(.aa u8)),(.ro,i64)],rs:=[((.aa u8),(ai (.aa u8)))],gl:=[(253,lZ.D.sig)] }
def ab (a:A):Option O:=@lift O λk=>D.W k a
def p (a1:A):Option O:=(lZ.ab (a1.1,a1.2.1,())).bind λr2=>if 0<=r2.1/\r2.1<=af (r2.1+r2.2.1)/\af (r2.1+r2.2.1)<=(a1.1.length:Int) then (some ((a1.1.take (af (r2.1+r2.2.1)).toNat).drop r2.1.toNat,())) else none
theorem ae (a1:A):@Eq (Option O) (D.W k a1) (p a1):=Bye
theorem ok:Ok prog 173 D.sig:=am func173 au Bye (fc lZ.ok (aj _))
end mD
namespace kD
abbrev A:=Row×Row×Unit
abbrev O:=Bool×Unit
noncomputable def D:FD:={ fn:=f132,tl:=a_,ps:=[(.ro,a8),(.ro,a8)],rs:=[(.bool,(ai .bool))] }
def ab (a:A):Option O:=@lift O λk=>D.W k a
def p (a1:A):Option O:=cond (decide (a1.1.1 < a1.2.1.1)) (some (true,()))<|cond (decide (a1.1.1=a1.2.1.1)) (some (decide (a1.1.2.1 < a1.2.1.2.1),()))<|some (false,())
theorem ae (a1:A):@Eq (Option O) (D.W k a1) (p a1):=Bye
theorem ok:Ok prog 132 D.sig:=am func132 au Bye (aj _)
end kD
namespace mT
abbrev A:=Row×Row×Unit
abbrev O:=Int×Unit
noncomputable def D:FD:={ fn:=f186,tl:=a_,ps:=[(.ro,a8),(.ro,a8)],rs:=[(i64,(ai i64))],gl:=[(132,kD.D.sig)] }
def ab (a:A):Option O:=@lift O λk=>D.W k a
def p (a1:A):Option O:=(kD.ab (a1.1,a1.2.1,())).bind λr2=>cond r2.1 (some ((-1),()))<|(kD.ab (a1.2.1,a1.1,())).bind λr3=>cond r3.1 (some (1,()))<|some (0,())
theorem ae (a1:A):@Eq (Option O) (D.W k a1) (p a1):=Bye
theorem ok:Ok prog 186 D.sig:=am func186 au Bye (fc kD.ok (aj _))
end mT
namespace pF
abbrev A:=Seen×Seen×Unit
abbrev O:=Int×Unit
noncomputable def D:FD:={ fn:=f255,tl:=a_,ps:=[(.ro,ge),(.ro,ge)],rs:=[(i64,(ai i64))],gl:=[(186,mT.D.sig)] }
def ab (a:A):Option O:=@lift O λk=>D.W k a
def p (a1:A):Option O:=(mT.ab (a1.1.1,a1.2.1.1,())).bind λr2=>some (r2.1,())
theorem ae (a1:A):@Eq (Option O) (D.W k a1) (p a1):=Bye
theorem ok:Ok prog 255 D.sig:=am func255 au Bye (fc mT.ok (aj _))
end pF
namespace pY
open Go.Proofs
abbrev A:=(List Seen)×(Nat×Int)×Unit
abbrev O:=(List Seen)×Unit
def ab (a:A):Option O:=(Bm ge pF.ab a.1).map λr=>(r,())
def sig:v6:={ ps:=[(.lD (ah (.aa ge)),.aa ge),(.fix 255,.fn)],rs:=[],F:=ab }
def Sa:Go.Shelf.Ren:=⟨λ| 6=>254 | 15=>303 | 14=>302 | 28=>334 | 29=>335 | 20=>326 | 21=>327 | 22=>328 | 23=>329 | 24=>330 | 25=>331 | 26=>332 | 27=>333 | 46=>348 | 47=>349 | 48=>350 | 49=>351 | 50=>352 | 57=>361 | n=>n,λ| 22=>160 | 24=>249 | 25=>323 | 3=>3 | 39=>317 | 0=>0 | 53=>405 | 55=>407 | 4=>4 | 46=>399 | 45=>398 | 50=>256 | 5=>5 | 9=>9 | 66=>423 | 70=>427 | 76=>434 | 77=>314 | n=>n,λ| n=>n⟩
theorem abF:Go.Proofs.SlLaysF0.n6 Tryz.prog Sa:={
 mixed:=Bye
 f6:=⟨Tryz.f254.name,by decide,Tryz.func254.trans (cP some Bye)⟩
 f14:=⟨Tryz.f302.name,by decide,Tryz.func302.trans (cP some Bye)⟩
 f15:=Tryz.func303.trans (cP some Bye)
 f20:=⟨Tryz.f326.name,by decide,Tryz.func326.trans (cP some Bye)⟩
 f21:=⟨Tryz.f327.name,by decide,Tryz.func327.trans (cP some Bye)⟩
 f22:=⟨Tryz.f328.name,by decide,Tryz.func328.trans (cP some Bye)⟩
 f23:=⟨Tryz.f329.name,by decide,Tryz.func329.trans (cP some Bye)⟩
 f24:=⟨Tryz.f330.name,by decide,Tryz.func330.trans (cP some Bye)⟩
 f25:=⟨Tryz.f331.name,by decide,Tryz.func331.trans (cP some Bye)⟩
 f26:=⟨Tryz.f332.name,by decide,Tryz.func332.trans (cP some Bye)⟩
 f27:=⟨Tryz.f333.name,by decide,Tryz.func333.trans (cP some Bye)⟩
 f28:=Tryz.func334.trans (cP some Bye)
 f29:=Tryz.func335.trans (cP some Bye)
 f46:=⟨Tryz.f348.name,by decide,Tryz.func348.trans (cP some Bye)⟩
 f47:=Tryz.func349.trans (cP some Bye)
 f48:=Tryz.func350.trans (cP some Bye)
 f49:=⟨Tryz.f351.name,by decide,Tryz.func351.trans (cP some Bye)⟩
 f50:=⟨Tryz.f352.name,by decide,Tryz.func352.trans (cP some Bye)⟩
 f57:=⟨Tryz.f361.name,by decide,Tryz.func361.trans (cP some Bye)⟩
 t0:=Tryz.underlying0
 a0:=Tryz.isAgg0
 z0:=Tryz.sizeOf0
 v0:=Tryz.zeroValue0
 t3:=Tryz.underlying3
 a3:=Tryz.isAgg3
 z3:=Tryz.sizeOf3
 v3:=Tryz.zeroValue3
 t4:=Tryz.underlying4
 a4:=Tryz.isAgg4
 z4:=Tryz.sizeOf4
 v4:=Tryz.zeroValue4
 t5:=Tryz.underlying5
 a5:=Tryz.isAgg5
 z5:=Tryz.sizeOf5
 v5:=Tryz.zeroValue5
 t9:=Tryz.underlying9
 a9:=Tryz.isAgg9
 z9:=Tryz.sizeOf9
 v9:=Tryz.zeroValue9
 t22:=Tryz.underlying160
 a22:=Tryz.isAgg160
 z22:=Tryz.sizeOf160
 v22:=Tryz.zeroValue160
 t25:=Tryz.underlying323
 a25:=Tryz.isAgg323
 z25:=Tryz.sizeOf323
 v25:=Tryz.zeroValue323
 t39:=Tryz.underlying317
 a39:=Tryz.isAgg317
 z39:=Tryz.sizeOf317
 v39:=Tryz.zeroValue317
 t45:=Tryz.underlying398
 a45:=Tryz.isAgg398
 z45:=Tryz.sizeOf398
 v45:=Tryz.zeroValue398
 t46:=Tryz.underlying399
 a46:=Tryz.isAgg399
 z46:=Tryz.sizeOf399
 v46:=Tryz.zeroValue399
 t50:=Tryz.underlying256
 a50:=Tryz.isAgg256
 z50:=Tryz.sizeOf256
 v50:=Tryz.zeroValue256
 t53:=Tryz.underlying405
 a53:=Tryz.isAgg405
 z53:=Tryz.sizeOf405
 v53:=Tryz.zeroValue405
 t55:=Tryz.underlying407
 a55:=Tryz.isAgg407
 z55:=Tryz.sizeOf407
 v55:=Tryz.zeroValue407
 t66:=Tryz.underlying423
 a66:=Tryz.isAgg423
 z66:=Tryz.sizeOf423
 v66:=Tryz.zeroValue423
 t70:=Tryz.underlying427
 a70:=Tryz.isAgg427
 z70:=Tryz.sizeOf427
 v70:=Tryz.zeroValue427
 t76:=Tryz.underlying434
 a76:=Tryz.isAgg434
 z76:=Tryz.sizeOf434
 v76:=Tryz.zeroValue434
 t77:=Tryz.underlying314
 a77:=Tryz.isAgg314
 z77:=Tryz.sizeOf314
 v77:=Tryz.zeroValue314 }
theorem ok:Ok prog 254 sig:=abE (e:=ge) abF rfl rfl Bye (by decide) (g:=255) (cF:=pF.ab) pF.ok ⟨f254,func254,by kernel_rfl,by kernel_rfl,by kernel_rfl⟩
end pY
namespace bY
abbrev A:=(List Byt)×Unit
abbrev O:=(List Seen)×Int×Unit
abbrev P:=Option O
noncomputable def D:FD:={ fn:=f174,tl:=a_,ps:=[(.ro,(.aa (.aa u8)))],rs:=[((.aa ge),(ah (.aa ge))),(i64,(ai i64))],gl:=[(132,kD.D.sig),(170,ez.D.sig),(171,g_.D.sig),(172,kC.D.sig),(173,mD.D.sig),(254,pY.sig)],lv:=[(4,[4,5,6,21,22,23]),(7,[4,5,6,7,8,21,22,23,29,30]),(21,[4,5,6,81,82,83]),(29,[4,5,6,15,101,102,103]),(40,[4,19])],lx:=[(0,[4,5,6]),(2,[4,5,6,21,22,23]),(3,[4,5,6,7,8,21,22,23,29,30]),(5,[4,5,6]),(7,[4]),(9,[4])],od:=[(42,[0,1,2,3,4,5,6,7,8,9,10,11,12])] }
def ab (a:A):P:=@lift O λk=>D.W k a
def T0 (a1:A) (U:(List Seen)×(List Seen)×(List ((List Int)×Row))×(List Byt)×Int×Int):St:={ n:=148,sl:=[(4,.own (.aa ge) (ah (.aa ge)) [] U.1),(5,.own (.aa ge) (ah (.aa ge)) [] U.2.1),(6,.own (.map (.arr 2 i64) a8) (ah (.map (.arr 2 i64) a8)) [] U.2.2.1),(21,.val (.aa (.aa u8)) U.2.2.2.1),(22,.val i64 U.2.2.2.2.1),(23,.val i64 U.2.2.2.2.2)],vr:=[],ay:=[] }
def S0 (rec:RT O) (a1:A):((List Seen)×(List Seen)×(List ((List Int)×Row))×(List Byt)×Int×Int)->P:=λU=>rec (T0 a1 U)
def dn (K:KT O) (a1:A):((List Seen)×(List Seen)×(List ((List Int)×Row)))->P:=λz=>K (.exit 0) ({ n:=148,sl:=[(4,.own (.aa ge) (ah (.aa ge)) [] z.1),(5,.own (.aa ge) (ah (.aa ge)) [] z.2.1),(6,.own (.map (.arr 2 i64) a8) (ah (.map (.arr 2 i64) a8)) [] z.2.2)],vr:=[],ay:=[] })
def T1 (a1:A) (dr:Int) (cw:Byt) (cj:List Byt) (ct:Int) (fd:Int) (cq:(List Seen)×(List Seen)×(List ((List Int)×Row))×Int):St:={ n:=148,sl:=[(4,.own (.aa ge) (ah (.aa ge)) [] cq.1),(5,.own (.aa ge) (ah (.aa ge)) [] cq.2.1),(6,.own (.map (.arr 2 i64) a8) (ah (.map (.arr 2 i64) a8)) [] cq.2.2.1),(7,.val i64 dr),(8,.val (.aa u8) cw),(21,.val (.aa (.aa u8)) cj),(22,.val i64 ct),(23,.val i64 dr),(29,.val i64 fd),(30,.val i64 cq.2.2.2)],vr:=[],ay:=[] }
def b1 (self:((List Seen)×(List Seen)×(List ((List Int)×Row))×Int)->P) (e2:((List Seen)×(List Seen)×(List ((List Int)×Row)))->P) (a1:A) (dr:Int) (cw:Byt) (cj:List Byt) (ct:Int) (fd:Int) (cq:(List Seen)×(List Seen)×(List ((List Int)×Row))×Int):P:=cond (decide (cq.2.2.2 < fd)) ((g_.ab (cw,cq.2.2.2,())).bind λVd=>cond (!Vd.1) (self (cq.1,cq.2.1,cq.2.2.1,af (cq.2.2.2+1)))<|(mD.ab (cw,cq.2.2.2,())).bind λOG=>(kC.ab (OG.1,())).bind λuZ=>cond (!decide (uZ.1.1=0)) (some (([]:List Seen),5,()))<|cond (decide (uZ.1.2.1=0)) (if cq.1.length+[(uZ.1.2.2.2.2.1,dr,cq.2.2.2,false,dr,cq.2.2.2,())].length<=cg then (let adH:=cq.1++[(uZ.1.2.2.2.2.1,dr,cq.2.2.2,false,dr,cq.2.2.2,())];self (adH,cq.2.1,cq.2.2.1,af (cq.2.2.2+1))) else none)<|cond (decide (uZ.1.2.1=2)) (if 0 < (List.replicate 2 0).length then (if 1 < ((List.replicate 2 0).set 0 dr).length then (let adI:=nP (.arr 2 i64) cq.2.2.1 (((List.replicate 2 0).set 0 dr).set 1 cq.2.2.2) uZ.1.2.2.2.2.1;self (cq.1,cq.2.1,adI,af (cq.2.2.2+1))) else none) else none)<|if cq.2.1.length+[(((0:Int),(0:Int),(0:Int),([]:Byt),()),dr,cq.2.2.2,true,uZ.1.2.2.1,uZ.1.2.2.2.1,())].length<=cg then (let adJ:=cq.2.1++[(((0:Int),(0:Int),(0:Int),([]:Byt),()),dr,cq.2.2.2,true,uZ.1.2.2.1,uZ.1.2.2.2.1,())];self (cq.1,adJ,cq.2.2.1,af (cq.2.2.2+1))) else none)<|e2 (cq.1,cq.2.1,cq.2.2.1)
abbrev B1 (_:Nat):=b1
def q0 (self:((List Seen)×(List Seen)×(List ((List Int)×Row))×(List Byt)×Int×Int)->P) (e0:((List Seen)×(List Seen)×(List ((List Int)×Row)))->P) (a1:A) (dr:Int) (cw:Byt) (cj:List Byt) (ct:Int) (fd:Int) (pw:((List Seen)×(List Seen)×(List ((List Int)×Row)))):P:=self (pw.1,pw.2.1,pw.2.2,cj,ct,af (dr+1))
abbrev Q0 (_:Nat):=q0
def s1 (rec:RT O) (K:KT O) (a1:A):Int->Byt->(List Byt)->Int->Int->((List Seen)×(List Seen)×(List ((List Int)×Row))×Int)->P:=λdr cw cj ct fd=>λcq=>D.L k [1,1,1,0,1,0,0,1,1,0,0,1,1,0,0] [4,5,6,7,8,21,22,23,29,30] [] (ak 2 (ak 1 (av (D.N k [1,1,1,0,1,0,0,1,1,1]) (jY rec (gv [4,5,6,21,22,23] []) K)))) (T1 a1 dr cw cj ct fd cq)
def r1 (self:((List Seen)×(List Seen)×(List ((List Int)×Row))×(List Byt)×Int×Int)->P) (e0:((List Seen)×(List Seen)×(List ((List Int)×Row)))->P) (a1:A):Int->Byt->(List Byt)->Int->Int->((List Seen)×(List Seen)×(List ((List Int)×Row))×Int)->P:=λdr cw cj ct fd=>al (λw v=>B1 k w (Q0 k self e0 a1 dr cw cj ct fd) a1 dr cw cj ct fd v) k
theorem nz (rec:RT O) (K:KT O) (a1:A):s1 k rec K a1=r1 k (S0 rec a1) (dn K a1) a1:=
 funext λdr=>funext λcw=>funext λcj=>funext λct=>funext λfd=>funext λcq=>ap _ _ _ (T1 a1 dr cw cj ct fd) _ (λrec v=>Bye) k cq
def b0 (self:((List Seen)×(List Seen)×(List ((List Int)×Row))×(List Byt)×Int×Int)->P) (e0:((List Seen)×(List Seen)×(List ((List Int)×Row)))->P) (l1:Int->Byt->(List Byt)->Int->Int->((List Seen)×(List Seen)×(List ((List Int)×Row))×Int)->P) (a1:A) (U:(List Seen)×(List Seen)×(List ((List Int)×Row))×(List Byt)×Int×Int):P:=cond (decide (U.2.2.2.2.2 < U.2.2.2.2.1)) (if 0<=U.2.2.2.2.2 then ((U.2.2.2.1[U.2.2.2.2.2.toNat]?).bind λaT=>(ez.ab (aT,())).bind λdq=>l1 U.2.2.2.2.2 aT U.2.2.2.1 U.2.2.2.2.1 dq.1 (U.1,U.2.1,U.2.2.1,0)) else none)<|e0 (U.1,U.2.1,U.2.2.1)
def B0 (self:((List Seen)×(List Seen)×(List ((List Int)×Row))×(List Byt)×Int×Int)->P) (e0:((List Seen)×(List Seen)×(List ((List Int)×Row)))->P) (a1:A) (U:(List Seen)×(List Seen)×(List ((List Int)×Row))×(List Byt)×Int×Int):P:=b0 self e0 (r1 k self e0 a1) a1 U
theorem nA (rec:RT O) (K:KT O) (a1:A) (U:(List Seen)×(List Seen)×(List ((List Int)×Row))×(List Byt)×Int×Int):D.N k [1,1,1,0,1,0,0] (T0 a1 U) (jY rec (gv [4,5,6,21,22,23] []) K)=B0 k (S0 rec a1) (dn K a1) a1 U:=
 aQ (b:=b0 (S0 rec a1) (dn K a1) (s1 k rec K a1) a1 U) Bye (by rw[nz];rfl)
def T2 (a1:A) (kj:List Seen) (jH:List Seen) (jM:List ((List Int)×Row)) (kE:Int) (ug:Int):St:={ n:=148,sl:=[(4,.own (.aa ge) (ah (.aa ge)) [] kj),(5,.own (.aa ge) (ah (.aa ge)) [] jH),(6,.own (.map (.arr 2 i64) a8) (ah (.map (.arr 2 i64) a8)) [] jM),(81,.ref 5 [] [0,0]),(82,.val i64 kE),(83,.val i64 ug)],vr:=[],ay:=[] }
def S2 (rec:RT O) (a1:A) (kj:List Seen) (jH:List Seen) (jM:List ((List Int)×Row)) (kE:Int):(Int)->P:=λug=>rec (T2 a1 kj jH jM kE ug)
def Vq (K:KT O) (a1:A) (kj:List Seen) (jH:List Seen) (jM:List ((List Int)×Row)) (kE:Int):(Unit)->P:=λz=>K (.exit 5) ({ n:=148,sl:=[(4,.own (.aa ge) (ah (.aa ge)) [] kj),(5,.own (.aa ge) (ah (.aa ge)) [] jH),(6,.own (.map (.arr 2 i64) a8) (ah (.map (.arr 2 i64) a8)) [] jM)],vr:=[],ay:=[] })
def b2 (self:Int->P) (e5:(Unit)->P) (a1:A) (kj:List Seen) (jH:List Seen) (jM:List ((List Int)×Row)) (kE:Int) (ug:Int):P:=cond (decide (ug < kE)) (if 0<=ug/\ug < (jH.length:Int) then ((jH[ug.toNat]?).bind λK8=>if 0 < (List.replicate 2 0).length then (if 1 < ((List.replicate 2 0).set 0 K8.2.2.2.2.1).length then (let ae6:=C3 (ko (.arr 2 i64) jM (((List.replicate 2 0).set 0 K8.2.2.2.2.1).set 1 K8.2.2.2.2.2.1)) (0,0,0,([]:Byt),());cond (!(ko (.arr 2 i64) jM (((List.replicate 2 0).set 0 K8.2.2.2.2.1).set 1 K8.2.2.2.2.2.1)).isSome) (some (([]:List Seen),4,()))<|self (af (ug+1))) else none) else none) else none)<|e5 ()
abbrev B2 (_:Nat):=b2
theorem Vi (rec:RT O) (K:KT O) (a1:A) (kj:List Seen) (jH:List Seen) (jM:List ((List Int)×Row)) (kE:Int) (ug:Int):D.N k [1,1,1,1,0,1,0,0] (T2 a1 kj jH jM kE ug) (jY rec (gv [4,5,6,81,82,83] []) K)=b2 (S2 rec a1 kj jH jM kE) (Vq K a1 kj jH jM kE) a1 kj jH jM kE ug:=Bye
def T3 (a1:A) (km:List Seen) (kF:List ((List Int)×Row)) (kG:Int) (pZ:(List Seen)×(List ((List Int)×Bool))×Int):St:={ n:=148,sl:=[(4,.own (.aa ge) (ah (.aa ge)) [] pZ.1),(5,.own (.aa ge) (ah (.aa ge)) [] km),(6,.own (.map (.arr 2 i64) a8) (ah (.map (.arr 2 i64) a8)) [] kF),(15,.own (.map (.arr 2 i64) .bool) (ah (.map (.arr 2 i64) .bool)) [] pZ.2.1),(101,.ref 5 [] [0,0]),(102,.val i64 kG),(103,.val i64 pZ.2.2)],vr:=[],ay:=[] }
def S3 (rec:RT O) (a1:A) (km:List Seen) (kF:List ((List Int)×Row)) (kG:Int):((List Seen)×(List ((List Int)×Bool))×Int)->P:=λpZ=>rec (T3 a1 km kF kG pZ)
def Vr (K:KT O) (a1:A) (km:List Seen) (kF:List ((List Int)×Row)) (kG:Int):(List Seen)->P:=λz=>K (.exit 7) ({ n:=148,sl:=[(4,.own (.aa ge) (ah (.aa ge)) [] z)],vr:=[],ay:=[] })
def b3 (self:((List Seen)×(List ((List Int)×Bool))×Int)->P) (e7:(List Seen)->P) (a1:A) (km:List Seen) (kF:List ((List Int)×Row)) (kG:Int) (pZ:(List Seen)×(List ((List Int)×Bool))×Int):P:=cond (decide (pZ.2.2 < kG)) (if 0<=pZ.2.2/\pZ.2.2 < (km.length:Int) then ((km[pZ.2.2.toNat]?).bind λK9=>if 0 < (List.replicate 2 0).length then (if 1 < ((List.replicate 2 0).set 0 K9.2.2.2.2.1).length then (let Vs:=((List.replicate 2 0).set 0 K9.2.2.2.2.1).set 1 K9.2.2.2.2.2.1;cond (C3 (ko (.arr 2 i64) pZ.2.1 Vs) false) (some (([]:List Seen),6,()))<|let aaX:=C3 (ko (.arr 2 i64) kF Vs) (0,0,0,([]:Byt),());if pZ.1.length+[(aaX,K9.2)].length<=cg then (self (pZ.1++[(aaX,K9.2)],nP (.arr 2 i64) pZ.2.1 Vs true,af (pZ.2.2+1))) else none) else none) else none) else none)<|e7 pZ.1
abbrev B3 (_:Nat):=b3
theorem adK (rec:RT O) (K:KT O) (a1:A) (km:List Seen) (kF:List ((List Int)×Row)) (kG:Int) (pZ:(List Seen)×(List ((List Int)×Bool))×Int):D.N k [1,1,1,1,1,1,0,1,0,0] (T3 a1 km kF kG pZ) (jY rec (gv [4,5,6,15,101,102,103] []) K)=b3 (S3 rec a1 km kF kG) (Vr K a1 km kF kG) a1 km kF kG pZ:=Bye
def T4 (a1:A) (uh:List Seen) (wb:Int):St:={ n:=148,sl:=[(4,.own (.aa ge) (ah (.aa ge)) [] uh),(19,.val i64 wb)],vr:=[],ay:=[] }
def b4 (self:Int->P) (e9:(Unit)->P) (a1:A) (uh:List Seen) (wb:Int):P:=cond (decide (wb < (uh.length:Int))) (if 0<=af (wb - 1)/\af (wb - 1) < (uh.length:Int) then ((uh[(af (wb - (1:Int))).toNat]?).bind λadL=>if 0<=wb/\wb < (uh.length:Int) then ((uh[wb.toNat]?).bind λadM=>(kD.ab (adL.1,adM.1,())).bind λadN=>cond (!adN.1) (some (([]:List Seen),8,()))<|self (af (wb+1))) else none) else none)<|e9 ()
abbrev B4 (_:Nat):=b4
def q4 (a1:A) (uh:List Seen) (ae7:(Unit)):P:=some (uh,0,())
abbrev Q4 (_:Nat):=q4
def s4 (a1:A) (km:List Seen) (kF:List ((List Int)×Row)) (kG:Int):(List Seen)->(Int)->P:=λuh=>λwb=>D.L k [1,1,1,1,1,1,1,1,0,1,0,0] [4,19] [] (ak 9 (av (D.N k [1,1,1,1,1,1,1,1,1]) D.K0)) (T4 a1 uh wb)
def r4 (a1:A) (km:List Seen) (kF:List ((List Int)×Row)) (kG:Int):(List Seen)->(Int)->P:=λuh=>al (λw v=>B4 k w (Q4 k a1 uh) a1 uh v) k
theorem adO (a1:A) (km:List Seen) (kF:List ((List Int)×Row)) (kG:Int):s4 k a1 km kF kG=r4 k a1 km kF kG:=
 funext λuh=>funext λwb=>ap _ _ _ (T4 a1 uh) _ (λrec v=>Bye) k wb
def q3 (l4:(List Seen)->(Int)->P) (a1:A) (km:List Seen) (kF:List ((List Int)×Row)) (kG:Int) (Fe:(List Seen)):P:=(pY.ab (Fe,((255,0):Nat×Int),())).bind λadP=>l4 adP.1 1
def Q3 (a1:A) (km:List Seen) (kF:List ((List Int)×Row)) (kG:Int) (Fe:(List Seen)):P:=q3 (r4 k a1 km kF kG) a1 km kF kG Fe
theorem Vj (a1:A) (km:List Seen) (kF:List ((List Int)×Row)) (kG:Int) (Fe:(List Seen)):Vr (ak 7 (av (D.N k [1,1,1,1,1,1,1]) D.K0)) a1 km kF kG Fe=Q3 k a1 km kF kG Fe:=
 aQ (b:=q3 (s4 k a1 km kF kG) a1 km kF kG Fe) Bye (by rw[adO];rfl)
def s3 (a1:A) (kj:List Seen) (jH:List Seen) (jM:List ((List Int)×Row)) (kE:Int):(List Seen)->(List ((List Int)×Row))->Int->((List Seen)×(List ((List Int)×Bool))×Int)->P:=λkm kF kG=>λpZ=>D.L k [1,1,1,1,1,1,0,1,0,0] [4,5,6,15,101,102,103] [] (ak 7 (av (D.N k [1,1,1,1,1,1,1]) D.K0)) (T3 a1 km kF kG pZ)
def r3 (a1:A) (kj:List Seen) (jH:List Seen) (jM:List ((List Int)×Row)) (kE:Int):(List Seen)->(List ((List Int)×Row))->Int->((List Seen)×(List ((List Int)×Bool))×Int)->P:=λkm kF kG=>al (λw v=>B3 k w (Q3 k a1 km kF kG) a1 km kF kG v) k
theorem Vh (a1:A) (kj:List Seen) (jH:List Seen) (jM:List ((List Int)×Row)) (kE:Int):s3 k a1 kj jH jM kE=r3 k a1 kj jH jM kE:=by
 funext km;funext kF;funext kG;funext pZ;have h7:Vr (ak 7 (av (D.N k [1,1,1,1,1,1,1]) D.K0)) a1 km kF kG=Q3 k a1 km kF kG:=funext λz=>Vj k a1 km kF kG z;refine (ap _ _ _ (T3 a1 km kF kG) (λself v=>B3 k self (Vr (ak 7 (av (D.N k [1,1,1,1,1,1,1]) D.K0)) a1 km kF kG) a1 km kF kG v) (λrec v=>adK k rec (ak 7 (av (D.N k [1,1,1,1,1,1,1]) D.K0)) a1 km kF kG v) k pZ).trans ?_;rw[h7];rfl
def q2 (l3:(List Seen)->(List ((List Int)×Row))->Int->((List Seen)×(List ((List Int)×Bool))×Int)->P) (a1:A) (kj:List Seen) (jH:List Seen) (jM:List ((List Int)×Row)) (kE:Int) (Ir:(Unit)):P:=l3 jH jM (jH.length:Int) (kj,([]:List ((List Int)×Bool)),0)
def Q2 (a1:A) (kj:List Seen) (jH:List Seen) (jM:List ((List Int)×Row)) (kE:Int) (Ir:(Unit)):P:=q2 (r3 k a1 kj jH jM kE) a1 kj jH jM kE Ir
theorem Bp (a1:A) (kj:List Seen) (jH:List Seen) (jM:List ((List Int)×Row)) (kE:Int) (Ir:(Unit)):Vq (ak 5 (av (D.N k [1,1,1,1,1]) D.K0)) a1 kj jH jM kE Ir=Q2 k a1 kj jH jM kE Ir:=
 aQ (b:=q2 (s3 k a1 kj jH jM kE) a1 kj jH jM kE Ir) Bye (by rw[Vh];rfl)
def s2 (a1:A):(List Seen)->(List Seen)->(List ((List Int)×Row))->Int->(Int)->P:=λkj jH jM kE=>λug=>D.L k [1,1,1,1,0,1,0,0] [4,5,6,81,82,83] [] (ak 5 (av (D.N k [1,1,1,1,1]) D.K0)) (T2 a1 kj jH jM kE ug)
def r2 (a1:A):(List Seen)->(List Seen)->(List ((List Int)×Row))->Int->(Int)->P:=λkj jH jM kE=>al (λw v=>B2 k w (Q2 k a1 kj jH jM kE) a1 kj jH jM kE v) k
theorem wX (a1:A):s2 k a1=r2 k a1:=by
 funext kj;funext jH;funext jM;funext kE;funext ug;have h5:Vq (ak 5 (av (D.N k [1,1,1,1,1]) D.K0)) a1 kj jH jM kE=Q2 k a1 kj jH jM kE:=funext λz=>Bp k a1 kj jH jM kE z;refine (ap _ _ _ (T2 a1 kj jH jM kE) (λself v=>B2 k self (Vq (ak 5 (av (D.N k [1,1,1,1,1]) D.K0)) a1 kj jH jM kE) a1 kj jH jM kE v) (λrec v=>Vi k rec (ak 5 (av (D.N k [1,1,1,1,1]) D.K0)) a1 kj jH jM kE v) k ug).trans ?_;rw[h5];rfl
def q1 (l2:(List Seen)->(List Seen)->(List ((List Int)×Row))->Int->(Int)->P) (a1:A) (z6:((List Seen)×(List Seen)×(List ((List Int)×Row)))):P:=l2 z6.1 z6.2.1 z6.2.2 (z6.2.1.length:Int) 0
def Q1 (a1:A) (z6:((List Seen)×(List Seen)×(List ((List Int)×Row)))):P:=q1 (r2 k a1) a1 z6
theorem rV (a1:A) (z6:((List Seen)×(List Seen)×(List ((List Int)×Row)))):dn (ak 0 (av (D.N k [1,1,1,1]) D.K0)) a1 z6=Q1 k a1 z6:=
 aQ (b:=q1 (s2 k a1) a1 z6) Bye (by rw[wX];rfl)
def s0 (a1:A):((List Seen)×(List Seen)×(List ((List Int)×Row))×(List Byt)×Int×Int)->P:=λU=>D.L k [1,1,1,0,1,0,0] [4,5,6,21,22,23] [] (ak 0 (av (D.N k [1,1,1,1]) D.K0)) (T0 a1 U)
def r0 (a1:A):((List Seen)×(List Seen)×(List ((List Int)×Row))×(List Byt)×Int×Int)->P:=al (λw v=>B0 k w (Q1 k a1) a1 v) k
theorem aq (a1:A):s0 k a1=r0 k a1:=by
 funext U;have h0:dn (ak 0 (av (D.N k [1,1,1,1]) D.K0)) a1=Q1 k a1:=funext λz=>rV k a1 z;refine (ap _ _ _ (T0 a1) (λself v=>B0 k self (dn (ak 0 (av (D.N k [1,1,1,1]) D.K0)) a1) a1 v) (λrec v=>nA k rec (ak 0 (av (D.N k [1,1,1,1]) D.K0)) a1 v) k U).trans ?_;rw[h0];rfl
def p (l0:((List Seen)×(List Seen)×(List ((List Int)×Row))×(List Byt)×Int×Int)->P) (a1:A):P:=l0 (([]:List Seen),([]:List Seen),([]:List ((List Int)×Row)),a1.1,(a1.1.length:Int),0)
theorem ae (a1:A):@Eq P (D.W k a1) (p (r0 k a1) a1):=
 aQ (b:=p (s0 k a1) a1) Bye (by rw[aq])
theorem ok:Ok prog 174 D.sig:=am func174 au Bye (fc kD.ok (fc ez.ok (fc g_.ok (fc kC.ok (fc mD.ok (fc pY.ok (aj _)))))))
end bY
namespace en
abbrev A:=(List Byt)×Unit
abbrev O:=(List Seen)×Int×Unit
abbrev P:=Option O
noncomputable def D:FD:={ fn:=f99,tl:=a_,ps:=[(.ro,(.aa (.aa u8)))],rs:=[((.aa ge),(ah (.aa ge))),(i64,(ai i64))],gl:=[(169,bg.D.sig),(170,ez.D.sig),(171,g_.D.sig),(172,kC.D.sig),(173,mD.D.sig),(174,bY.D.sig)],lv:=[(4,[0,11,12,13]),(10,[0,5,11,12,13,23,24])],lx:=[(0,[0]),(2,[0,11,12,13])] }
def ab (a:A):P:=@lift O λk=>D.W k a
def T0 (a1:A) (U:(List Byt)×(List Byt)×Int×Int):St:={ n:=44,sl:=[(0,.val (.aa (.aa u8)) U.1),(11,.val (.aa (.aa u8)) U.2.1),(12,.val i64 U.2.2.1),(13,.val i64 U.2.2.2)],vr:=[],ay:=[] }
def S0 (rec:RT O) (a1:A):((List Byt)×(List Byt)×Int×Int)->P:=λU=>rec (T0 a1 U)
def dn (K:KT O) (a1:A):(List Byt)->P:=λz=>K (.exit 0) ({ n:=44,sl:=[(0,.val (.aa (.aa u8)) z)],vr:=[],ay:=[] })
def T1 (a1:A) (cw:List Byt) (cj:Byt) (ct:List Byt) (fd:Int) (ly:Int) (lz:Int) (fb:Int):St:={ n:=44,sl:=[(0,.val (.aa (.aa u8)) cw),(5,.val (.aa u8) cj),(11,.val (.aa (.aa u8)) ct),(12,.val i64 fd),(13,.val i64 ly),(23,.val i64 lz),(24,.val i64 fb)],vr:=[],ay:=[] }
def b1 (self:Int->P) (e2:(Unit)->P) (a1:A) (cw:List Byt) (cj:Byt) (ct:List Byt) (fd:Int) (ly:Int) (lz:Int) (fb:Int):P:=cond (decide (fb < lz)) ((g_.ab (cj,fb,())).bind λuZ=>cond uZ.1 ((mD.ab (cj,fb,())).bind λOJ=>(kC.ab (OJ.1,())).bind λadQ=>cond (!decide (adQ.1.1=0)) (some (([]:List Seen),5,()))<|self (af (fb+1)))<|self (af (fb+1)))<|e2 ()
def q0 (self:((List Byt)×(List Byt)×Int×Int)->P) (e0:(List Byt)->P) (a1:A) (cw:List Byt) (cj:Byt) (ct:List Byt) (fd:Int) (ly:Int) (lz:Int) (adR:(Unit)):P:=self (cw,ct,fd,af (ly+1))
def s1 (rec:RT O) (K:KT O) (a1:A):(List Byt)->Byt->(List Byt)->Int->Int->Int->(Int)->P:=λcw cj ct fd ly lz=>λfb=>D.L k [1,1,0,1,0,0,1,1,0,0,1,1,1,0,0] [0,5,11,12,13,23,24] [] (ak 2 (ak 1 (av (D.N k [1,1,0,1,0,0,1,1,1]) (jY rec (gv [0,11,12,13] []) K)))) (T1 a1 cw cj ct fd ly lz fb)
def r1 (self:((List Byt)×(List Byt)×Int×Int)->P) (e0:(List Byt)->P) (a1:A):(List Byt)->Byt->(List Byt)->Int->Int->Int->(Int)->P:=λcw cj ct fd ly lz=>al (λw v=>b1 w (q0 self e0 a1 cw cj ct fd ly lz) a1 cw cj ct fd ly lz v) k
theorem nz (rec:RT O) (K:KT O) (a1:A):s1 k rec K a1=r1 k (S0 rec a1) (dn K a1) a1:=
 funext λcw=>funext λcj=>funext λct=>funext λfd=>funext λly=>funext λlz=>funext λfb=>ap _ _ _ (T1 a1 cw cj ct fd ly lz) _ (λrec v=>Bye) k fb
def b0 (self:((List Byt)×(List Byt)×Int×Int)->P) (e0:(List Byt)->P) (l1:(List Byt)->Byt->(List Byt)->Int->Int->Int->(Int)->P) (a1:A) (U:(List Byt)×(List Byt)×Int×Int):P:=cond (decide (U.2.2.2 < U.2.2.1)) (if 0<=U.2.2.2 then ((U.2.1[U.2.2.2.toNat]?).bind λaT=>(bg.ab (aT,())).bind λdq=>cond (!decide (dq.1=0)) (some (([]:List Seen),dq.1,()))<|(ez.ab (aT,())).bind λlV=>l1 U.1 aT U.2.1 U.2.2.1 U.2.2.2 lV.1 0) else none)<|e0 U.1
def B0 (self:((List Byt)×(List Byt)×Int×Int)->P) (e0:(List Byt)->P) (a1:A) (U:(List Byt)×(List Byt)×Int×Int):P:=b0 self e0 (r1 k self e0 a1) a1 U
theorem nA (rec:RT O) (K:KT O) (a1:A) (U:(List Byt)×(List Byt)×Int×Int):D.N k [1,1,0,1,0,0] (T0 a1 U) (jY rec (gv [0,11,12,13] []) K)=B0 k (S0 rec a1) (dn K a1) a1 U:=
 aQ (b:=b0 (S0 rec a1) (dn K a1) (s1 k rec K a1) a1 U) Bye (by rw[nz];rfl)
def q1 (a1:A) (pw:(List Byt)):P:=(bY.ab (pw,())).bind λDm=>some (Dm.1,Dm.2.1,())
theorem rV (a1:A) (pw:(List Byt)):dn (ak 0 (av (D.N k [1,1,1]) D.K0)) a1 pw=q1 a1 pw:=Bye
def s0 (a1:A):((List Byt)×(List Byt)×Int×Int)->P:=λU=>D.L k [1,1,0,1,0,0] [0,11,12,13] [] (ak 0 (av (D.N k [1,1,1]) D.K0)) (T0 a1 U)
def r0 (a1:A):((List Byt)×(List Byt)×Int×Int)->P:=al (λw v=>B0 k w (q1 a1) a1 v) k
theorem aq (a1:A):s0 k a1=r0 k a1:=by
 funext U;have h0:dn (ak 0 (av (D.N k [1,1,1]) D.K0)) a1=q1 a1:=funext λz=>rV k a1 z;refine (ap _ _ _ (T0 a1) (λself v=>B0 k self (dn (ak 0 (av (D.N k [1,1,1]) D.K0)) a1) a1 v) (λrec v=>nA k rec (ak 0 (av (D.N k [1,1,1]) D.K0)) a1 v) k U).trans ?_;rw[h0];rfl
def p (l0:((List Byt)×(List Byt)×Int×Int)->P) (a1:A):P:=cond (decide (12 < (a1.1.length:Int))) (some (([]:List Seen),2,()))<|l0 (a1.1,a1.1,(a1.1.length:Int),0)
theorem ae (a1:A):@Eq P (D.W k a1) (p (r0 k a1) a1):=
 aQ (b:=p (s0 k a1) a1) Bye (by rw[aq])
theorem ok:Ok prog 99 D.sig:=am func99 au Bye (fc bg.ok (fc ez.ok (fc g_.ok (fc kC.ok (fc mD.ok (fc bY.ok (aj _)))))))
end en
namespace fi
abbrev A:=(List Row)×Unit
abbrev O:=Int×Unit
abbrev P:=Option O
noncomputable def D:FD:={ fn:=f103,tl:=a_,ps:=[(.ro,(.aa a8))],rs:=[(i64,(ai i64))],gl:=[(132,kD.D.sig),(179,dw.D.sig)],lv:=[(4,[0,9,10,11])],lx:=[(0,[])],od:=[(9,[0,1,2,3,4,5,6,7,8,9,10,11])] }
def ab (a:A):P:=@lift O λk=>D.W k a
variable (a1:A)
def T0 (U:Int):St:={ n:=34,sl:=[(0,.val (.aa a8) a1.1),(9,.val (.aa a8) a1.1),(10,.val i64 (a1.1.length:Int)),(11,.val i64 U)],vr:=[],ay:=[] }
def b0 (self:Int->P) (e0:(Unit)->P) (a1:A) (U:Int):P:=cond (decide (U < (a1.1.length:Int))) (if 0<=U then ((a1.1[U.toNat]?).bind λaT=>(dw.ab (aT,())).bind λdq=>cond (!decide (dq.1=0)) (some (dq.1,()))<|cond (decide (0 < U)) (if 0<=af (U - 1) then ((a1.1[(af (U - (1:Int))).toNat]?).bind λey=>(kD.ab (ey,aT,())).bind λkV=>cond (!kV.1) (some (1,()))<|self (af (U+1))) else none)<|self (af (U+1))) else none)<|e0 ()
def q0 (a1:A) (nt:(Unit)):P:=some (0,())
def r0:(Int)->P:=al (λw v=>b0 w (q0 a1) a1 v) k
theorem aq:@Eq ((Int)->P) (λU=>D.L k [1,1,0,1,0,0] [0,9,10,11] [] (ak 0 (av (D.N k [1,1,1]) D.K0)) (T0 a1 U)) (r0 k a1):=
 funext λU=>ap _ _ _ (T0 a1) _ (λrec v=>Bye) k U
def p (l0:(Int)->P) (a1:A):P:=cond (decide (60 < (a1.1.length:Int))) (some (2,()))<|l0 0
theorem ae:@Eq P (D.W k a1) (p (r0 k a1) a1):=By8 (aq k a1) Bye
theorem ok:Ok prog 103 D.sig:=am func103 au Bye (fc kD.ok (fc dw.ok (aj _)))
end fi
namespace iz
abbrev A:=Change×Unit
abbrev O:=Int×Unit
noncomputable def D:FD:={ fn:=f208,tl:=a_,ps:=[(.ro,aw)],rs:=[(i64,(ai i64))],gl:=[(179,dw.D.sig),(186,mT.D.sig)] }
def ab (a:A):Option O:=@lift O λk=>D.W k a
def p (a1:A):Option O:=let j7:Option O:=cond a1.1.1 ((dw.ab (a1.1.2.1,())).bind λr8=>cond (!decide (r8.1=0)) (some (r8.1,()))<|cond a1.1.2.2.1 ((dw.ab (a1.1.2.2.2.1,())).bind λsX=>some (sX.1,()))<|some (0,()))<|cond a1.1.2.2.1 ((dw.ab (a1.1.2.2.2.1,())).bind λnC=>some (nC.1,()))<|some (0,());cond (!a1.1.1) (cond (!a1.1.2.2.1) (some (1,()))<|cond a1.1.1 (cond a1.1.2.2.1 ((mT.ab (a1.1.2.1,a1.1.2.2.2.1,())).bind λr2=>cond (!decide (r2.1=0)) (some (1,()))<|j7)<|j7)<|j7)<|cond a1.1.1 (cond a1.1.2.2.1 ((mT.ab (a1.1.2.1,a1.1.2.2.2.1,())).bind λr3=>cond (!decide (r3.1=0)) (some (1,()))<|j7)<|j7)<|j7
theorem ae (a1:A):@Eq (Option O) (D.W k a1) (p a1):=Bye
theorem ok:Ok prog 208 D.sig:=am func208 au Bye (fc dw.ok (fc mT.ok (aj _)))
end iz
namespace lJ
abbrev A:=Change×Unit
abbrev O:=Int×Unit
noncomputable def D:FD:={ fn:=f131,tl:=a_,ps:=[(.ro,aw)],rs:=[(i64,(ai i64))],gl:=[(208,iz.D.sig)] }
def ab (a:A):Option O:=@lift O λk=>D.W k a
def p (a1:A):Option O:=(iz.ab (a1.1,())).bind λr2=>cond (!decide (r2.1=0)) (some (r2.1,()))<|cond a1.1.1 (cond a1.1.2.2.1 (cond (Ty.eq a8 a1.1.2.1 a1.1.2.2.2.1) (some (1,()))<|some (0,()))<|some (0,()))<|some (0,())
theorem ae (a1:A):@Eq (Option O) (D.W k a1) (p a1):=Bye
theorem ok:Ok prog 131 D.sig:=am func131 au Bye (fc iz.ok (aj _))
end lJ
namespace dh
abbrev A:=Change×Unit
abbrev O:=Row×Unit
noncomputable def D:FD:={ fn:=f133,tl:=a_,ps:=[(.ro,aw)],rs:=[(a8,(ai a8))] }
def ab (a:A):Option O:=@lift O λk=>D.W k a
def p (a1:A):Option O:=cond a1.1.2.2.1 (some (a1.1.2.2.2.1,()))<|some (a1.1.2.1,())
theorem ae (a1:A):@Eq (Option O) (D.W k a1) (p a1):=Bye
theorem ok:Ok prog 133 D.sig:=am func133 au Bye (aj _)
end dh
namespace iF
abbrev A:=Change×Unit
abbrev O:=Key×Unit
noncomputable def D:FD:={ fn:=f196,tl:=a_,ps:=[(.ro,aw)],rs:=[(be,(ai be))],gl:=[(133,dh.D.sig)],od:=[(1,[0,3,1,2,4,5,6,7])] }
def ab (a:A):Option O:=@lift O λk=>D.W k a
def p (a1:A):Option O:=(dh.ab (a1.1,())).bind λr2=>(dh.ab (a1.1,())).bind λr3=>some ((r2.1.1,r3.1.2.1,()),())
theorem ae (a1:A):@Eq (Option O) (D.W k a1) (p a1):=Bye
theorem ok:Ok prog 196 D.sig:=am func196 au Bye (fc dh.ok (aj _))
end iF
namespace kN
abbrev A:=(List Key)×Key×Unit
abbrev O:=Int×Unit
abbrev P:=Option O
noncomputable def D:FD:={ fn:=f305,tl:=a_,ps:=[(.ro,(.aa be)),(.ro,be)],rs:=[(i64,(ai i64))],lv:=[(2,[0,3,7,8])],lx:=[(0,[])],od:=[(4,[0,1,2,3,4,5])] }
def ab (a:A):P:=@lift O λk=>D.W k a
variable (a1:A)
def T0 (U:Int):St:={ n:=19,sl:=[(0,.val (.aa be) a1.1),(3,.box be (ai be) [] a1.2.1),(7,.val i64 (a1.1.length:Int)),(8,.val i64 U)],vr:=[],ay:=[] }
def b0 (self:Int->P) (e0:(Unit)->P) (a1:A) (U:Int):P:=cond (decide (U < (a1.1.length:Int))) (if 0<=U then ((a1.1[U.toNat]?).bind λaT=>cond (Ty.eq be a1.2.1 aT) (some (U,()))<|self (af (U+1))) else none)<|e0 ()
def q0 (a1:A) (mZ:(Unit)):P:=some ((-1),())
def r0:(Int)->P:=al (λw v=>b0 w (q0 a1) a1 v) k
theorem aq:@Eq ((Int)->P) (λU=>D.L k [1,0,1,0,0] [0,3,7,8] [] (ak 0 (av (D.N k [1,1]) D.K0)) (T0 a1 U)) (r0 k a1):=
 funext λU=>ap _ _ _ (T0 a1) _ (λrec v=>Bye) k U
def p (l0:(Int)->P) (a1:A):P:=l0 0
theorem ae:@Eq P (D.W k a1) (p (r0 k a1) a1):=By8 (aq k a1) Bye
theorem ok:Ok prog 305 D.sig:=am func305 au Bye (aj _)
end kN
namespace fw
abbrev A:=(List Key)×Key×Unit
abbrev O:=Bool×Unit
noncomputable def D:FD:={ fn:=f258,tl:=a_,ps:=[(.ro,(.aa be)),(.ro,be)],rs:=[(.bool,(ai .bool))],gl:=[(305,kN.D.sig)] }
def ab (a:A):Option O:=@lift O λk=>D.W k a
def p (a1:A):Option O:=(kN.ab (a1.1,a1.2.1,())).bind λr2=>some (decide (0<=r2.1),())
theorem ae (a1:A):@Eq (Option O) (D.W k a1) (p a1):=Bye
theorem ok:Ok prog 258 D.sig:=am func258 au Bye (fc kN.ok (aj _))
end fw
namespace u0
abbrev A:=Int×Int×Unit
abbrev O:=Bool×Unit
noncomputable def D:FD:={ fn:=f259,tl:=a_,ps:=[(.ro,i64),(.ro,i64)],rs:=[(.bool,(ai .bool))],gl:=[(98,e8.D.sig)] }
def ab (a:A):Option O:=@lift O λk=>D.W k a
def p (a1:A):Option O:=(e8.ab (a1.1,0,3,())).bind λr2=>cond r2.1 ((e8.ab (a1.2.1,1,99,())).bind λr3=>some (r3.1,()))<|some (false,())
theorem ae (a1:A):@Eq (Option O) (D.W k a1) (p a1):=Bye
theorem ok:Ok prog 259 D.sig:=am func259 au Bye (fc e8.ok (aj _))
end u0
namespace eh
abbrev A:=Tx×Unit
abbrev O:=Int×Unit
abbrev P:=Option O
noncomputable def D:FD:={ fn:=f180,tl:=a_,ps:=[(.ro,bp)],rs:=[(i64,(ai i64))],gl:=[(98,e8.D.sig),(131,lJ.D.sig),(196,iF.D.sig),(258,fw.D.sig),(259,u0.D.sig)],lv:=[(2,[1,12,13,14]),(14,[1,6,41,42,43]),(21,[1,57,58,59])],lx:=[(0,[1]),(2,[1]),(4,[])],od:=[(7,[0,1,2,3,4,5]),(25,[0,1,2,3,4,5])] }
def ab (a:A):P:=@lift O λk=>D.W k a
def T0 (a1:A) (U:Int):St:={ n:=77,sl:=[(1,.box bp (ai bp) [] a1.1),(12,.val (.aa aw) a1.1.2.1),(13,.val i64 (a1.1.2.1.length:Int)),(14,.val i64 U)],vr:=[],ay:=[] }
def S0 (rec:RT O) (a1:A):(Int)->P:=λU=>rec (T0 a1 U)
def dn (K:KT O) (a1:A):(Unit)->P:=λz=>K (.exit 0) ({ n:=77,sl:=[(1,.box bp (ai bp) [] a1.1)],vr:=[],ay:=[] })
def b0 (self:Int->P) (e0:(Unit)->P) (a1:A) (U:Int):P:=cond (decide (U < (a1.1.2.1.length:Int))) (if 0<=U then ((a1.1.2.1[U.toNat]?).bind λaT=>(lJ.ab (aT,())).bind λdq=>cond (!decide (dq.1=0)) (some (dq.1,()))<|(iF.ab (aT,())).bind λlV=>(fw.ab (a1.1.2.2.2.1,lV.1,())).bind λkV=>cond (!kV.1) (some (8,()))<|self (af (U+1))) else none)<|e0 ()
theorem nA (rec:RT O) (K:KT O) (a1:A) (U:Int):D.N k [1,0,1,0,0] (T0 a1 U) (jY rec (gv [1,12,13,14] []) K)=b0 (S0 rec a1) (dn K a1) a1 U:=Bye
def T1 (a1:A) (f7:Int×Int):St:={ n:=77,sl:=[(1,.box bp (ai bp) [] a1.1),(6,.val i64 f7.1),(41,.val (.aa i64) a1.1.2.2.1),(42,.val i64 (a1.1.2.2.1.length:Int)),(43,.val i64 f7.2)],vr:=[],ay:=[] }
def S1 (rec:RT O) (a1:A):(Int×Int)->P:=λf7=>rec (T1 a1 f7)
def nu (K:KT O) (a1:A):(Unit)->P:=λz=>K (.exit 2) ({ n:=77,sl:=[(1,.box bp (ai bp) [] a1.1)],vr:=[],ay:=[] })
def b1 (self:(Int×Int)->P) (e2:(Unit)->P) (a1:A) (f7:Int×Int):P:=cond (decide (f7.2 < (a1.1.2.2.1.length:Int))) (if 0<=f7.2 then ((a1.1.2.2.1[f7.2.toNat]?).bind λzY=>(e8.ab (zY,f7.1,(a1.1.2.1.length:Int),())).bind λBo=>cond (!Bo.1) (some (3,()))<|self (zY,af (f7.2+1))) else none)<|e2 ()
theorem yQ (rec:RT O) (K:KT O) (a1:A) (f7:Int×Int):D.N k [1,1,1,1,0,1,0,0] (T1 a1 f7) (jY rec (gv [1,6,41,42,43] []) K)=b1 (S1 rec a1) (nu K a1) a1 f7:=Bye
def T2 (a1:A) (nN:Int):St:={ n:=77,sl:=[(1,.box bp (ai bp) [] a1.1),(57,.val (.aa be) a1.1.2.2.2.1),(58,.val i64 (a1.1.2.2.2.1.length:Int)),(59,.val i64 nN)],vr:=[],ay:=[] }
def b2 (self:Int->P) (e4:(Unit)->P) (a1:A) (nN:Int):P:=cond (decide (nN < (a1.1.2.2.2.1.length:Int))) (if 0<=nN then ((a1.1.2.2.2.1[nN.toNat]?).bind λVt=>(u0.ab (Vt.1,Vt.2.1,())).bind λadS=>cond (!adS.1) (some (3,()))<|if 0<=nN/\nN<=(a1.1.2.2.2.1.length:Int) then ((fw.ab ((a1.1.2.2.2.1.take nN.toNat).drop 0,Vt,())).bind λadT=>cond adT.1 (some (6,()))<|self (af (nN+1))) else none) else none)<|e4 ()
def q2 (a1:A) (Iq:(Unit)):P:=some (0,())
def s2 (a1:A):(Int)->P:=λnN=>D.L k [1,1,1,1,1,0,1,0,0] [1,57,58,59] [] (ak 4 (av (D.N k [1,1,1,1,1,1]) D.K0)) (T2 a1 nN)
def r2 (a1:A):(Int)->P:=al (λw v=>b2 w (q2 a1) a1 v) k
theorem wX (a1:A):s2 k a1=r2 k a1:=
 funext λnN=>ap _ _ _ (T2 a1) _ (λrec v=>Bye) k nN
def q1 (l2:(Int)->P) (a1:A) (E9:(Unit)):P:=l2 0
def Q1 (a1:A) (E9:(Unit)):P:=q1 (r2 k a1) a1 E9
theorem rV (a1:A) (E9:(Unit)):nu (ak 2 (av (D.N k [1,1,1,1,1]) D.K0)) a1 E9=Q1 k a1 E9:=
 aQ (b:=q1 (s2 k a1) a1 E9) Bye (by rw[wX];rfl)
def s1 (a1:A):(Int×Int)->P:=λf7=>D.L k [1,1,1,1,0,1,0,0] [1,6,41,42,43] [] (ak 2 (av (D.N k [1,1,1,1,1]) D.K0)) (T1 a1 f7)
def r1 (a1:A):(Int×Int)->P:=al (λw v=>b1 w (Q1 k a1) a1 v) k
theorem nz (a1:A):s1 k a1=r1 k a1:=by
 funext f7;have h2:nu (ak 2 (av (D.N k [1,1,1,1,1]) D.K0)) a1=Q1 k a1:=funext λz=>rV k a1 z;refine (ap _ _ _ (T1 a1) (λself v=>b1 self (nu (ak 2 (av (D.N k [1,1,1,1,1]) D.K0)) a1) a1 v) (λrec v=>yQ k rec (ak 2 (av (D.N k [1,1,1,1,1]) D.K0)) a1 v) k f7).trans ?_;rw[h2];rfl
def q0 (l1:(Int×Int)->P) (a1:A) (nt:(Unit)):P:=cond (decide (8 < (a1.1.2.2.1.length:Int))) (some (2,()))<|cond (decide (12 < (a1.1.2.2.2.1.length:Int))) (some (2,()))<|l1 (0,0)
def Q0 (a1:A) (nt:(Unit)):P:=q0 (r1 k a1) a1 nt
theorem wY (a1:A) (nt:(Unit)):dn (ak 0 (av (D.N k [1,1]) D.K0)) a1 nt=Q0 k a1 nt:=
 aQ (b:=q0 (s1 k a1) a1 nt) Bye (by rw[nz];rfl)
def s0 (a1:A):(Int)->P:=λU=>D.L k [1,0,1,0,0] [1,12,13,14] [] (ak 0 (av (D.N k [1,1]) D.K0)) (T0 a1 U)
def r0 (a1:A):(Int)->P:=al (λw v=>b0 w (Q0 k a1) a1 v) k
theorem aq (a1:A):s0 k a1=r0 k a1:=by
 funext U;have h0:dn (ak 0 (av (D.N k [1,1]) D.K0)) a1=Q0 k a1:=funext λz=>wY k a1 z;refine (ap _ _ _ (T0 a1) (λself v=>b0 self (dn (ak 0 (av (D.N k [1,1]) D.K0)) a1) a1 v) (λrec v=>nA k rec (ak 0 (av (D.N k [1,1]) D.K0)) a1 v) k U).trans ?_;rw[h0];rfl
def p (l0:(Int)->P) (a1:A):P:=l0 0
theorem ae (a1:A):@Eq P (D.W k a1) (p (r0 k a1) a1):=
 aQ (b:=p (s0 k a1) a1) Bye (by rw[aq])
theorem ok:Ok prog 180 D.sig:=am func180 au Bye (fc e8.ok (fc lJ.ok (fc iF.ok (fc fw.ok (fc u0.ok (aj _))))))
end eh
namespace jr
abbrev A:=(List Tx)×Unit
abbrev O:=Int×Unit
abbrev P:=Option O
noncomputable def D:FD:={ fn:=f181,tl:=a_,ps:=[(.ro,(.aa bp))],rs:=[(i64,(ai i64))],lv:=[(3,[3,6,7,8])],lx:=[(0,[3])] }
def ab (a:A):P:=@lift O λk=>D.W k a
variable (a1:A)
def T0 (U:Int×Int):St:={ n:=19,sl:=[(3,.val i64 U.1),(6,.val (.aa bp) a1.1),(7,.val i64 (a1.1.length:Int)),(8,.val i64 U.2)],vr:=[],ay:=[] }
def b0 (self:(Int×Int)->P) (e0:Int->P) (a1:A) (U:Int×Int):P:=cond (decide (U.2 < (a1.1.length:Int))) (if 0<=U.2 then ((a1.1[U.2.toNat]?).bind λaT=>self (af (U.1+(aT.2.1.length:Int)),af (U.2+1))) else none)<|e0 U.1
def q0 (a1:A) (mZ:Int):P:=some (mZ,())
def r0:(Int×Int)->P:=al (λw v=>b0 w (q0 a1) a1 v) k
theorem aq:@Eq ((Int×Int)->P) (λU=>D.L k [1,1,0,1,0,0] [3,6,7,8] [] (ak 0 (av (D.N k [1,1,1]) D.K0)) (T0 a1 U)) (r0 k a1):=
 funext λU=>ap _ _ _ (T0 a1) _ (λrec v=>Bye) k U
def p (l0:(Int×Int)->P) (a1:A):P:=l0 (0,0)
theorem ae:@Eq P (D.W k a1) (p (r0 k a1) a1):=By8 (aq k a1) Bye
theorem ok:Ok prog 181 D.sig:=am func181 au Bye (aj _)
end jr
namespace cc
abbrev A:=(List Tx)×Unit
abbrev O:=Int×Unit
abbrev P:=Option O
noncomputable def D:FD:={ fn:=f104,tl:=a_,ps:=[(.ro,(.aa bp))],rs:=[(i64,(ai i64))],gl:=[(70,oI.D.sig),(180,eh.D.sig),(181,jr.D.sig)],lv:=[(4,[0,14,15,16]),(16,[0,6,45,46,47]),(19,[0,6,45,46,47,52,53,54])],lx:=[(0,[0]),(2,[0]),(4,[0,6,45,46,47])],od:=[(8,[0,1,2,3,4,5,6,7,8,9,10,11,12])] }
def ab (a:A):P:=@lift O λk=>D.W k a
def T0 (a1:A) (U:Int):St:={ n:=68,sl:=[(0,.val (.aa bp) a1.1),(14,.val (.aa bp) a1.1),(15,.val i64 (a1.1.length:Int)),(16,.val i64 U)],vr:=[],ay:=[] }
def S0 (rec:RT O) (a1:A):(Int)->P:=λU=>rec (T0 a1 U)
def dn (K:KT O) (a1:A):(Unit)->P:=λz=>K (.exit 0) ({ n:=68,sl:=[(0,.val (.aa bp) a1.1)],vr:=[],ay:=[] })
def b0 (self:Int->P) (e0:(Unit)->P) (a1:A) (U:Int):P:=cond (decide (U < (a1.1.length:Int))) (if 0<=U then ((a1.1[U.toNat]?).bind λaT=>(oI.ab (aT.1,())).bind λdq=>cond (!dq.1) (some (3,()))<|cond (decide (0 < U)) (if 0<=af (U - 1) then ((a1.1[(af (U - (1:Int))).toNat]?).bind λey=>cond (decide (aT.1<=ey.1)) (some (1,()))<|(eh.ab (aT,())).bind λlU=>cond (!decide (lU.1=0)) (some (lU.1,()))<|self (af (U+1))) else none)<|(eh.ab (aT,())).bind λri=>cond (!decide (ri.1=0)) (some (ri.1,()))<|self (af (U+1))) else none)<|e0 ()
theorem nA (rec:RT O) (K:KT O) (a1:A) (U:Int):D.N k [1,1,0,1,0,0] (T0 a1 U) (jY rec (gv [0,14,15,16] []) K)=b0 (S0 rec a1) (dn K a1) a1 U:=Bye
def T1 (a1:A) (nE:(List Tx)×(List (Key×Bool))×(List Tx)×Int×Int):St:={ n:=68,sl:=[(0,.val (.aa bp) nE.1),(6,.own (.map be .bool) (ah (.map be .bool)) [] nE.2.1),(45,.val (.aa bp) nE.2.2.1),(46,.val i64 nE.2.2.2.1),(47,.val i64 nE.2.2.2.2)],vr:=[],ay:=[] }
def S1 (rec:RT O) (a1:A):((List Tx)×(List (Key×Bool))×(List Tx)×Int×Int)->P:=λnE=>rec (T1 a1 nE)
def nu (K:KT O) (a1:A):(List Tx)->P:=λz=>K (.exit 2) ({ n:=68,sl:=[(0,.val (.aa bp) z)],vr:=[],ay:=[] })
def T2 (a1:A) (gw:List Tx) (pU:List Tx) (pV:Int) (pW:Int) (pX:List Key) (yT:Int) (nN:(List (Key×Bool))×Int):St:={ n:=68,sl:=[(0,.val (.aa bp) gw),(6,.own (.map be .bool) (ah (.map be .bool)) [] nN.1),(45,.val (.aa bp) pU),(46,.val i64 pV),(47,.val i64 pW),(52,.val (.aa be) pX),(53,.val i64 yT),(54,.val i64 nN.2)],vr:=[],ay:=[] }
def b2 (self:((List (Key×Bool))×Int)->P) (e4:(List (Key×Bool))->P) (a1:A) (gw:List Tx) (pU:List Tx) (pV:Int) (pW:Int) (pX:List Key) (yT:Int) (nN:(List (Key×Bool))×Int):P:=cond (decide (nN.2 < yT)) (if 0<=nN.2 then ((pX[nN.2.toNat]?).bind λVo=>cond (C3 (ko be nN.1 Vo) false) (some (7,()))<|self (nP be nN.1 Vo true,af (nN.2+1))) else none)<|e4 nN.1
def q1 (self:((List Tx)×(List (Key×Bool))×(List Tx)×Int×Int)->P) (e2:(List Tx)->P) (a1:A) (gw:List Tx) (pU:List Tx) (pV:Int) (pW:Int) (pX:List Key) (yT:Int) (Vp:(List (Key×Bool))):P:=self (gw,Vp,pU,pV,af (pW+1))
def s2 (rec:RT O) (K:KT O) (a1:A):(List Tx)->(List Tx)->Int->Int->(List Key)->Int->((List (Key×Bool))×Int)->P:=λgw pU pV pW pX yT=>λnN=>D.L k [1,1,1,1,0,1,0,0,1,1,0,0,1,1,0,0] [0,6,45,46,47,52,53,54] [] (ak 4 (ak 3 (av (D.N k [1,1,1,1,0,1,0,0,1,1,1]) (jY rec (gv [0,6,45,46,47] []) K)))) (T2 a1 gw pU pV pW pX yT nN)
def r2 (self:((List Tx)×(List (Key×Bool))×(List Tx)×Int×Int)->P) (e2:(List Tx)->P) (a1:A):(List Tx)->(List Tx)->Int->Int->(List Key)->Int->((List (Key×Bool))×Int)->P:=λgw pU pV pW pX yT=>al (λw v=>b2 w (q1 self e2 a1 gw pU pV pW pX yT) a1 gw pU pV pW pX yT v) k
theorem wX (rec:RT O) (K:KT O) (a1:A):s2 k rec K a1=r2 k (S1 rec a1) (nu K a1) a1:=
 funext λgw=>funext λpU=>funext λpV=>funext λpW=>funext λpX=>funext λyT=>funext λnN=>ap _ _ _ (T2 a1 gw pU pV pW pX yT) _ (λrec v=>Bye) k nN
def b1 (self:((List Tx)×(List (Key×Bool))×(List Tx)×Int×Int)->P) (e2:(List Tx)->P) (l2:(List Tx)->(List Tx)->Int->Int->(List Key)->Int->((List (Key×Bool))×Int)->P) (a1:A) (nE:(List Tx)×(List (Key×Bool))×(List Tx)×Int×Int):P:=cond (decide (nE.2.2.2.2 < nE.2.2.2.1)) (if 0<=nE.2.2.2.2 then ((nE.2.2.1[nE.2.2.2.2.toNat]?).bind λwa=>l2 nE.1 nE.2.2.1 nE.2.2.2.1 nE.2.2.2.2 wa.2.2.2.1 (wa.2.2.2.1.length:Int) (nE.2.1,0)) else none)<|e2 nE.1
def B1 (self:((List Tx)×(List (Key×Bool))×(List Tx)×Int×Int)->P) (e2:(List Tx)->P) (a1:A) (nE:(List Tx)×(List (Key×Bool))×(List Tx)×Int×Int):P:=b1 self e2 (r2 k self e2 a1) a1 nE
theorem yQ (rec:RT O) (K:KT O) (a1:A) (nE:(List Tx)×(List (Key×Bool))×(List Tx)×Int×Int):D.N k [1,1,1,1,0,1,0,0] (T1 a1 nE) (jY rec (gv [0,6,45,46,47] []) K)=B1 k (S1 rec a1) (nu K a1) a1 nE:=
 aQ (b:=b1 (S1 rec a1) (nu K a1) (s2 k rec K a1) a1 nE) Bye (by rw[wX];rfl)
def q2 (a1:A) (xJ:(List Tx)):P:=(jr.ab (xJ,())).bind λadU=>cond (decide (12 < adU.1)) (some (2,()))<|some (0,())
theorem Bp (a1:A) (xJ:(List Tx)):nu (ak 2 (av (D.N k [1,1,1,1,1]) D.K0)) a1 xJ=q2 a1 xJ:=Bye
def s1 (a1:A):((List Tx)×(List (Key×Bool))×(List Tx)×Int×Int)->P:=λnE=>D.L k [1,1,1,1,0,1,0,0] [0,6,45,46,47] [] (ak 2 (av (D.N k [1,1,1,1,1]) D.K0)) (T1 a1 nE)
def r1 (a1:A):((List Tx)×(List (Key×Bool))×(List Tx)×Int×Int)->P:=al (λw v=>B1 k w (q2 a1) a1 v) k
theorem nz (a1:A):s1 k a1=r1 k a1:=by
 funext nE;have h2:nu (ak 2 (av (D.N k [1,1,1,1,1]) D.K0)) a1=q2 a1:=funext λz=>Bp k a1 z;refine (ap _ _ _ (T1 a1) (λself v=>B1 k self (nu (ak 2 (av (D.N k [1,1,1,1,1]) D.K0)) a1) a1 v) (λrec v=>yQ k rec (ak 2 (av (D.N k [1,1,1,1,1]) D.K0)) a1 v) k nE).trans ?_;rw[h2];rfl
def q0 (l1:((List Tx)×(List (Key×Bool))×(List Tx)×Int×Int)->P) (a1:A) (wC:(Unit)):P:=l1 (a1.1,([]:List (Key×Bool)),a1.1,(a1.1.length:Int),0)
def Q0 (a1:A) (wC:(Unit)):P:=q0 (r1 k a1) a1 wC
theorem wY (a1:A) (wC:(Unit)):dn (ak 0 (av (D.N k [1,1,1]) D.K0)) a1 wC=Q0 k a1 wC:=
 aQ (b:=q0 (s1 k a1) a1 wC) Bye (by rw[nz];rfl)
def s0 (a1:A):(Int)->P:=λU=>D.L k [1,1,0,1,0,0] [0,14,15,16] [] (ak 0 (av (D.N k [1,1,1]) D.K0)) (T0 a1 U)
def r0 (a1:A):(Int)->P:=al (λw v=>b0 w (Q0 k a1) a1 v) k
theorem aq (a1:A):s0 k a1=r0 k a1:=by
 funext U;have h0:dn (ak 0 (av (D.N k [1,1,1]) D.K0)) a1=Q0 k a1:=funext λz=>wY k a1 z;refine (ap _ _ _ (T0 a1) (λself v=>b0 self (dn (ak 0 (av (D.N k [1,1,1]) D.K0)) a1) a1 v) (λrec v=>nA k rec (ak 0 (av (D.N k [1,1,1]) D.K0)) a1 v) k U).trans ?_;rw[h0];rfl
def p (l0:(Int)->P) (a1:A):P:=cond (decide (4 < (a1.1.length:Int))) (some (2,()))<|l0 0
theorem ae (a1:A):@Eq P (D.W k a1) (p (r0 k a1) a1):=
 aQ (b:=p (s0 k a1) a1) Bye (by rw[aq])
theorem ok:Ok prog 104 D.sig:=am func104 au Bye (fc oI.ok (fc eh.ok (fc jr.ok (aj _))))
end cc
namespace dp
abbrev A:=(List Row)×(List Tx)×Unit
abbrev O:=(List (Key×Bool))×Unit
abbrev P:=Option O
noncomputable def D:FD:={ fn:=f175,tl:=a_,ps:=[(.ro,(.aa a8)),(.ro,(.aa bp))],rs:=[((.map be .bool),(ah (.map be .bool)))],lv:=[(3,[1,5,13,14,15]),(8,[5,26,27,28]),(11,[5,26,27,28,33,34,35])],lx:=[(0,[1,5]),(2,[5]),(4,[5,26,27,28])] }
def ab (a:A):P:=@lift O λk=>D.W k a
def T0 (a1:A) (U:(List (Key×Bool))×Int):St:={ n:=44,sl:=[(1,.val (.aa bp) a1.2.1),(5,.own (.map be .bool) (ah (.map be .bool)) [] U.1),(13,.val (.aa a8) a1.1),(14,.val i64 (a1.1.length:Int)),(15,.val i64 U.2)],vr:=[],ay:=[] }
def S0 (rec:RT O) (a1:A):((List (Key×Bool))×Int)->P:=λU=>rec (T0 a1 U)
def dn (K:KT O) (a1:A):(List (Key×Bool))->P:=λz=>K (.exit 0) ({ n:=44,sl:=[(1,.val (.aa bp) a1.2.1),(5,.own (.map be .bool) (ah (.map be .bool)) [] z)],vr:=[],ay:=[] })
def b0 (self:((List (Key×Bool))×Int)->P) (e0:(List (Key×Bool))->P) (a1:A) (U:(List (Key×Bool))×Int):P:=cond (decide (U.2 < (a1.1.length:Int))) (if 0<=U.2 then ((a1.1[U.2.toNat]?).bind λaT=>let pQ:=nP be U.1 (aT.1,aT.2.1,()) true;self (pQ,af (U.2+1))) else none)<|e0 U.1
theorem nA (rec:RT O) (K:KT O) (a1:A) (U:(List (Key×Bool))×Int):D.N k [1,1,0,1,0,0] (T0 a1 U) (jY rec (gv [1,5,13,14,15] []) K)=b0 (S0 rec a1) (dn K a1) a1 U:=Bye
def T1 (a1:A) (fb:(List (Key×Bool))×(List Tx)×Int×Int):St:={ n:=44,sl:=[(5,.own (.map be .bool) (ah (.map be .bool)) [] fb.1),(26,.val (.aa bp) fb.2.1),(27,.val i64 fb.2.2.1),(28,.val i64 fb.2.2.2)],vr:=[],ay:=[] }
def S1 (rec:RT O) (a1:A):((List (Key×Bool))×(List Tx)×Int×Int)->P:=λfb=>rec (T1 a1 fb)
def nu (K:KT O) (a1:A):(List (Key×Bool))->P:=λz=>K (.exit 2) ({ n:=44,sl:=[(5,.own (.map be .bool) (ah (.map be .bool)) [] z)],vr:=[],ay:=[] })
def T2 (a1:A) (yU:List Tx) (yV:Int) (yW:Int) (kS:List Key) (gw:Int) (wZ:(List (Key×Bool))×Int):St:={ n:=44,sl:=[(5,.own (.map be .bool) (ah (.map be .bool)) [] wZ.1),(26,.val (.aa bp) yU),(27,.val i64 yV),(28,.val i64 yW),(33,.val (.aa be) kS),(34,.val i64 gw),(35,.val i64 wZ.2)],vr:=[],ay:=[] }
def b2 (self:((List (Key×Bool))×Int)->P) (e4:(List (Key×Bool))->P) (a1:A) (yU:List Tx) (yV:Int) (yW:Int) (kS:List Key) (gw:Int) (wZ:(List (Key×Bool))×Int):P:=cond (decide (wZ.2 < gw)) (if 0<=wZ.2 then ((kS[wZ.2.toNat]?).bind λVf=>self (nP be wZ.1 Vf true,af (wZ.2+1))) else none)<|e4 wZ.1
def q1 (self:((List (Key×Bool))×(List Tx)×Int×Int)->P) (e2:(List (Key×Bool))->P) (a1:A) (yU:List Tx) (yV:Int) (yW:Int) (kS:List Key) (gw:Int) (adV:(List (Key×Bool))):P:=self (adV,yU,yV,af (yW+1))
def s2 (rec:RT O) (K:KT O) (a1:A):(List Tx)->Int->Int->(List Key)->Int->((List (Key×Bool))×Int)->P:=λyU yV yW kS gw=>λwZ=>D.L k [1,1,1,0,1,0,0,1,1,0,0,1,1,0,0] [5,26,27,28,33,34,35] [] (ak 4 (ak 3 (av (D.N k [1,1,1,0,1,0,0,1,1,1]) (jY rec (gv [5,26,27,28] []) K)))) (T2 a1 yU yV yW kS gw wZ)
def r2 (self:((List (Key×Bool))×(List Tx)×Int×Int)->P) (e2:(List (Key×Bool))->P) (a1:A):(List Tx)->Int->Int->(List Key)->Int->((List (Key×Bool))×Int)->P:=λyU yV yW kS gw=>al (λw v=>b2 w (q1 self e2 a1 yU yV yW kS gw) a1 yU yV yW kS gw v) k
theorem wX (rec:RT O) (K:KT O) (a1:A):s2 k rec K a1=r2 k (S1 rec a1) (nu K a1) a1:=
 funext λyU=>funext λyV=>funext λyW=>funext λkS=>funext λgw=>funext λwZ=>ap _ _ _ (T2 a1 yU yV yW kS gw) _ (λrec v=>Bye) k wZ
def b1 (self:((List (Key×Bool))×(List Tx)×Int×Int)->P) (e2:(List (Key×Bool))->P) (l2:(List Tx)->Int->Int->(List Key)->Int->((List (Key×Bool))×Int)->P) (a1:A) (fb:(List (Key×Bool))×(List Tx)×Int×Int):P:=cond (decide (fb.2.2.2 < fb.2.2.1)) (if 0<=fb.2.2.2 then ((fb.2.1[fb.2.2.2.toNat]?).bind λE8=>l2 fb.2.1 fb.2.2.1 fb.2.2.2 E8.2.2.2.1 (E8.2.2.2.1.length:Int) (fb.1,0)) else none)<|e2 fb.1
def B1 (self:((List (Key×Bool))×(List Tx)×Int×Int)->P) (e2:(List (Key×Bool))->P) (a1:A) (fb:(List (Key×Bool))×(List Tx)×Int×Int):P:=b1 self e2 (r2 k self e2 a1) a1 fb
theorem yQ (rec:RT O) (K:KT O) (a1:A) (fb:(List (Key×Bool))×(List Tx)×Int×Int):D.N k [1,1,1,0,1,0,0] (T1 a1 fb) (jY rec (gv [5,26,27,28] []) K)=B1 k (S1 rec a1) (nu K a1) a1 fb:=
 aQ (b:=b1 (S1 rec a1) (nu K a1) (s2 k rec K a1) a1 fb) Bye (by rw[wX];rfl)
def q2 (a1:A) (Iq:(List (Key×Bool))):P:=some (Iq,())
theorem Bp (a1:A) (Iq:(List (Key×Bool))):nu (ak 2 (av (D.N k [1,1,1,1]) D.K0)) a1 Iq=q2 a1 Iq:=Bye
def s1 (a1:A):((List (Key×Bool))×(List Tx)×Int×Int)->P:=λfb=>D.L k [1,1,1,0,1,0,0] [5,26,27,28] [] (ak 2 (av (D.N k [1,1,1,1]) D.K0)) (T1 a1 fb)
def r1 (a1:A):((List (Key×Bool))×(List Tx)×Int×Int)->P:=al (λw v=>B1 k w (q2 a1) a1 v) k
theorem nz (a1:A):s1 k a1=r1 k a1:=by
 funext fb;have h2:nu (ak 2 (av (D.N k [1,1,1,1]) D.K0)) a1=q2 a1:=funext λz=>Bp k a1 z;refine (ap _ _ _ (T1 a1) (λself v=>B1 k self (nu (ak 2 (av (D.N k [1,1,1,1]) D.K0)) a1) a1 v) (λrec v=>yQ k rec (ak 2 (av (D.N k [1,1,1,1]) D.K0)) a1 v) k fb).trans ?_;rw[h2];rfl
def q0 (l1:((List (Key×Bool))×(List Tx)×Int×Int)->P) (a1:A) (fj:(List (Key×Bool))):P:=l1 (fj,a1.2.1,(a1.2.1.length:Int),0)
def Q0 (a1:A) (fj:(List (Key×Bool))):P:=q0 (r1 k a1) a1 fj
theorem wY (a1:A) (fj:(List (Key×Bool))):dn (ak 0 (av (D.N k [1,1,1]) D.K0)) a1 fj=Q0 k a1 fj:=
 aQ (b:=q0 (s1 k a1) a1 fj) Bye (by rw[nz];rfl)
def s0 (a1:A):((List (Key×Bool))×Int)->P:=λU=>D.L k [1,1,0,1,0,0] [1,5,13,14,15] [] (ak 0 (av (D.N k [1,1,1]) D.K0)) (T0 a1 U)
def r0 (a1:A):((List (Key×Bool))×Int)->P:=al (λw v=>b0 w (Q0 k a1) a1 v) k
theorem aq (a1:A):s0 k a1=r0 k a1:=by
 funext U;have h0:dn (ak 0 (av (D.N k [1,1,1]) D.K0)) a1=Q0 k a1:=funext λz=>wY k a1 z;refine (ap _ _ _ (T0 a1) (λself v=>b0 self (dn (ak 0 (av (D.N k [1,1,1]) D.K0)) a1) a1 v) (λrec v=>nA k rec (ak 0 (av (D.N k [1,1,1]) D.K0)) a1 v) k U).trans ?_;rw[h0];rfl
def p (l0:((List (Key×Bool))×Int)->P) (a1:A):P:=l0 (([]:List (Key×Bool)),0)
theorem ae (a1:A):@Eq P (D.W k a1) (p (r0 k a1) a1):=
 aQ (b:=p (s0 k a1) a1) Bye (by rw[aq])
theorem ok:Ok prog 175 D.sig:=am func175 au Bye (aj _)
end dp
namespace kO
abbrev A:=(List Change)×Unit
abbrev O:=(List Change)×Unit
abbrev P:=Option O
noncomputable def D:FD:={ fn:=f134,tl:=a_,ps:=[(.ro,(.aa aw))],rs:=[((.aa aw),(ah (.aa aw)))],lv:=[(3,[0,3,4])],lx:=[(0,[3])] }
def ab (a:A):P:=@lift O λk=>D.W k a
variable (a1:A)
def T0 (U:(List Change)×Int):St:={ n:=30,sl:=[(0,.val (.aa aw) a1.1),(3,.own (.aa aw) (ah (.aa aw)) [] U.1),(4,.val i64 U.2)],vr:=[],ay:=[] }
def b0 (self:((List Change)×Int)->P) (e0:(List Change)->P) (a1:A) (U:(List Change)×Int):P:=cond (decide (0<=U.2)) (if 0<=U.2 then ((a1.1[U.2.toNat]?).bind λaT=>if U.1.length+[(aT.2.2.1,aT.2.2.2.1,aT.1,aT.2.1,())].length<=cg then (let pQ:=U.1++[(aT.2.2.1,aT.2.2.2.1,aT.1,aT.2.1,())];self (pQ,af (U.2 - 1))) else none) else none)<|e0 U.1
def q0 (a1:A) (fj:(List Change)):P:=some (fj,())
def r0:((List Change)×Int)->P:=al (λw v=>b0 w (q0 a1) a1 v) k
theorem aq:@Eq (((List Change)×Int)->P) (λU=>D.L k [1,1,0,1,0,0] [0,3,4] [] (ak 0 (av (D.N k [1,1,1]) D.K0)) (T0 a1 U)) (r0 k a1):=
 funext λU=>ap _ _ _ (T0 a1) _ (λrec v=>Bye) k U
def p (l0:((List Change)×Int)->P) (a1:A):P:=l0 (([]:List Change),af ((a1.1.length:Int) - 1))
theorem ae:@Eq P (D.W k a1) (p (r0 k a1) a1):=By8 (aq k a1) Bye
theorem ok:Ok prog 134 D.sig:=am func134 au Bye (aj _)
end kO
namespace kP
abbrev A:=(List Row)×Unit
abbrev O:=(List Row)×Unit
noncomputable def D:FD:={ fn:=f257,tl:=a_,ps:=[(.ro,(.aa a8))],rs:=[((.aa a8),(ah (.aa a8)))] }
def ab (a:A):Option O:=@lift O λk=>D.W k a
def p (a1:A):Option O:=BL a1.1 (some (([]:List Row),())) (if ([]:List Row).length+a1.1.length<=cg then (some (([]:List Row)++a1.1,())) else none)
theorem ae (a1:A):@Eq (Option O) (D.W k a1) (p a1):=Bye
theorem ok:Ok prog 257 D.sig:=am func257 au Bye (aj _)
end kP
namespace bn
abbrev A:=(List Row)×Row×(Nat×Int)×Unit
abbrev O:=Int×Bool×Unit
abbrev P:=Option O
noncomputable def D:FD:={ fn:=f185,tl:=a_,ps:=[(.ro,(.aa a8)),(.ro,a8),(.fix 186,.fn)],rs:=[(i64,(ai i64)),(.bool,(ai .bool))],gl:=[(186,mT.D.sig)],lv:=[(3,[0,2,4,8,9,10])],lx:=[(0,[0,2,4,8,9])],od:=[(5,[0,1,2,3,4,5,6,7]),(8,[0,1,2,3,4,5,6,7,8,9,10,11,12,13,14,15])] }
def ab (a:A):P:=@lift O λk=>D.W k a
variable (a1:A)
def T0 (U:Int×Int):St:={ n:=49,sl:=[(0,.val (.aa a8) a1.1),(2,.val .fn ((186,a1.2.2.1.2):Nat×Int)),(4,.box a8 (ai a8) [] a1.2.1),(8,.val i64 (a1.1.length:Int)),(9,.val i64 U.1),(10,.val i64 U.2)],vr:=[],ay:=[] }
def b0 (self:(Int×Int)->P) (e0:Int->P) (a1:A) (U:Int×Int):P:=cond (decide (U.1 < U.2)) (if 0<=af ((IntKind.wrap .u64 (af (U.1+U.2))).fdiv (2 ^ 1)) then ((a1.1[(af ((IntKind.wrap .u64 (af (U.1+U.2))).fdiv (2 ^ 1))).toNat]?).bind λaT=>(mT.ab (aT,a1.2.1,())).bind λdq=>cond (decide (dq.1 < 0)) (self (af ((af ((IntKind.wrap .u64 (af (U.1+U.2))).fdiv (2 ^ 1)))+1),U.2))<|self (U.1,af ((IntKind.wrap .u64 (af (U.1+U.2))).fdiv (2 ^ 1)))) else none)<|e0 U.1
def q0 (fj:Int):P:=cond (decide (fj < (a1.1.length:Int))) (if 0<=fj then ((a1.1[fj.toNat]?).bind λuT=>(mT.ab (uT,a1.2.1,())).bind λlU=>some (fj,decide (lU.1=0),())) else none)<|some (fj,false,())
def r0:(Int×Int)->P:=al (λw v=>b0 w (q0 a1) a1 v) k
theorem aq:@Eq ((Int×Int)->P) (λU=>D.L k [1,1,1,0,0,0] [0,2,4,8,9,10] [] (ak 0 (av (D.N k [1,1,1,1]) D.K0)) (T0 a1 U)) (r0 k a1):=
 funext λU=>ap _ _ _ (T0 a1) _ (λrec v=>Bye) k U
def p (l0:(Int×Int)->P) (a1:A):P:=l0 (0,(a1.1.length:Int))
theorem ae:@Eq P (D.W k a1) (p (r0 k a1) a1):=By8 (aq k a1) Bye
theorem ok:Ok prog 185 D.sig:=am func185 au Bye (fc mT.ok (aj _))
end bn
namespace kq
abbrev A:=Change×(List Row)×Unit
abbrev O:=Bool×Unit
noncomputable def D:FD:={ fn:=f263,tl:=a_,ps:=[(.ro,aw),(.ro,(.aa a8))],rs:=[(.bool,(ai .bool))],gl:=[(133,dh.D.sig),(185,bn.D.sig)],od:=[(2,[0,1,2,3,4,5,6,7,8,9,10,11,12,13,14,15,16,17])] }
def ab (a:A):Option O:=@lift O λk=>D.W k a
def p (a1:A):Option O:=(dh.ab (a1.1,())).bind λr2=>(bn.ab (a1.2.1,r2.1,((186,0):Nat×Int),())).bind λr3=>cond (r3.2.1 == a1.1.1) (cond (!r3.2.1) (some (true,()))<|if 0<=r3.1 then ((a1.2.1[r3.1.toNat]?).bind λx4=>some ((Ty.eq a8 x4 a1.1.2.1),())) else none)<|some (false,())
theorem ae (a1:A):@Eq (Option O) (D.W k a1) (p a1):=Bye
theorem ok:Ok prog 263 D.sig:=am func263 au Bye (fc dh.ok (fc bn.ok (aj _)))
end kq
namespace rn
abbrev A:=(List Row)×Change×Unit
abbrev O:=(List Row)×Unit
abbrev P:=Option O
noncomputable def D:FD:={ fn:=f304,tl:=a_,ps:=[(.ro,(.aa a8)),(.ro,aw)],rs:=[((.aa a8),(ah (.aa a8)))],gl:=[(133,dh.D.sig),(185,bn.D.sig)] }
def ab (a:A):P:=@lift O λk=>D.W k a
def p (a1:A):P:=(dh.ab (a1.2.1,())).bind λr2=>(bn.ab (a1.1,r2.1,((186,0):Nat×Int),())).bind λr3=>if 0<=r3.1/\r3.1<=(a1.1.length:Int) then (if ([]:List Row).length+((a1.1.take r3.1.toNat).drop 0).length<=cg then (let y4:=([]:List Row)++((a1.1.take r3.1.toNat).drop 0);let j8:=λ(p7:List Row)=>(let XV:=λ(p10:Int)=>(if 0<=p10/\p10<=(a1.1.length:Int) then (if p7.length+((a1.1.take a1.1.length).drop p10.toNat).length<=cg then (let y12:=p7++((a1.1.take a1.1.length).drop p10.toNat);some (y12,())) else none) else none:P);cond r3.2.1 (XV (af (r3.1+1)))<|XV r3.1:P);cond a1.2.1.2.2.1 (if y4.length+[a1.2.1.2.2.2.1].length<=cg then (j8 (y4++[a1.2.1.2.2.2.1])) else none)<|j8 y4) else none) else none
theorem ae (a1:A):@Eq P (D.W k a1) (p a1):=Bye
theorem ok:Ok prog 304 D.sig:=am func304 au Bye (fc dh.ok (fc bn.ok (aj _)))
end rn
namespace iN
abbrev A:=(List Row)×(List Change)×Unit
abbrev O:=Bn×Unit
abbrev P:=Option O
noncomputable def D:FD:={ fn:=f256,tl:=a_,ps:=[(.ro,(.aa a8)),(.ro,(.aa aw))],rs:=[(xD,(ah xD))],gl:=[(103,fi.D.sig),(208,iz.D.sig),(257,kP.D.sig),(263,kq.D.sig),(304,rn.D.sig)],lv:=[(6,[4,6,18,19,20])],lx:=[(0,[4,6])] }
def ab (a:A):P:=@lift O λk=>D.W k a
variable (a1:A)
def T0 (cr:(List Row)×Int):St:={ n:=45,sl:=[(4,.box xD (ah xD) [] ((0:Int),([]:List Row),())),(6,.own (.aa a8) (ah (.aa a8)) [] cr.1),(18,.val (.aa aw) a1.2.1),(19,.val i64 (a1.2.1.length:Int)),(20,.val i64 cr.2)],vr:=[],ay:=[] }
def b0 (self:((List Row)×Int)->P) (e0:(List Row)->P) (a1:A) (cr:(List Row)×Int):P:=cond (decide (cr.2 < (a1.2.1.length:Int))) (if 0<=cr.2 then ((a1.2.1[cr.2.toNat]?).bind λey=>(iz.ab (ey,())).bind λkV=>cond (!decide (kV.1=0)) (some ((kV.1,([]:List Row),()),()))<|(kq.ab (ey,cr.1,())).bind λlU=>cond (!lU.1) (some ((8,([]:List Row),()),()))<|(rn.ab (cr.1,ey,())).bind λri=>self (ri.1,af (cr.2+1))) else none)<|e0 cr.1
def q0 (a1:A) (wC:(List Row)):P:=cond (decide (60 < (wC.length:Int))) (some ((2,([]:List Row),()),()))<|some ((0,wC,()),())
def r0:((List Row)×Int)->P:=al (λw v=>b0 w (q0 a1) a1 v) k
theorem aq:@Eq (((List Row)×Int)->P) (λcr=>D.L k [1,1,1,0,1,0,0] [4,6,18,19,20] [] (ak 0 (av (D.N k [1,1,1,1]) D.K0)) (T0 a1 cr)) (r0 k a1):=
 funext λcr=>ap _ _ _ (T0 a1) _ (λrec v=>Bye) k cr
def p (l0:((List Row)×Int)->P) (a1:A):P:=(fi.ab (a1.1,())).bind λr2=>cond (!decide (r2.1=0)) (some ((r2.1,([]:List Row),()),()))<|(kP.ab (a1.1,())).bind λr3=>l0 (r3.1,0)
theorem ae:@Eq P (D.W k a1) (p (r0 k a1) a1):=By8 (aq k a1) Bye
theorem ok:Ok prog 256 D.sig:=am func256 au Bye (fc fi.ok (fc iz.ok (fc kP.ok (fc kq.ok (fc rn.ok (aj _))))))
end iN
namespace kx
abbrev A:=(List Row)×(List Tx)×Unit
abbrev O:=(List Row)×Int×Unit
abbrev P:=Option O
noncomputable def D:FD:={ fn:=f176,tl:=a_,ps:=[(.ro,(.aa a8)),(.ro,(.aa bp))],rs:=[((.aa a8),(ah (.aa a8))),(i64,(ai i64))],gl:=[(134,kO.D.sig),(256,iN.D.sig),(257,kP.D.sig)],lv:=[(2,[0,9,10,11])],lx:=[(0,[0])],lf:=[(2,[(0,Bte)])],od:=[(6,[0,1,2,3])] }
def ab (a:A):P:=@lift O λk=>D.W k a
variable (a1:A)
def T0 (U:(List Row)×Int):St:={ n:=30,sl:=[(0,.val (.aa a8) U.1),(9,.val (.aa bp) a1.2.1),(10,.val i64 (a1.2.1.length:Int)),(11,.val i64 U.2)],vr:=[],ay:=[] }
def b0 (self:((List Row)×Int)->P) (e0:(List Row)->P) (a1:A) (U:(List Row)×Int):P:=cond (decide (U.2 < (a1.2.1.length:Int))) (if 0<=U.2 then ((a1.2.1[U.2.toNat]?).bind λaT=>(kO.ab (aT.2.1,())).bind λdq=>(iN.ab (U.1,dq.1,())).bind λlV=>cond (!decide (lV.1.1=0)) (some (([]:List Row),lV.1.1,()))<|self (lV.1.2.1,af (U.2+1))) else none)<|e0 U.1
def q0 (a1:A) (vW:(List Row)):P:=(kP.ab (vW,())).bind λlU=>some (lU.1,0,())
def r0:((List Row)×Int)->P:=al (λw v=>b0 w (q0 a1) a1 v) k
theorem aq:@Eq (((List Row)×Int)->P) (λU=>D.L k [1,0,1,0,0] [0,9,10,11] [(0,Bte)] (ak 0 (av (D.N k [1,1]) D.K0)) (T0 a1 U)) (r0 k a1):=
 funext λU=>ap _ _ _ (T0 a1) _ (λrec v=>Bye) k U
def p (l0:((List Row)×Int)->P) (a1:A):P:=l0 (a1.1,0)
theorem ae:@Eq P (D.W k a1) (p (r0 k a1) a1):=By8 (aq k a1) Bye
theorem ok:Ok prog 176 D.sig:=am func176 au Bye (fc kO.ok (fc iN.ok (fc kP.ok (aj _))))
end kx
namespace oJ
abbrev A:=Plain×Unit
abbrev O:=Int×Unit
noncomputable def D:FD:={ fn:=f100,tl:=a_,ps:=[(.ro,XL)],rs:=[(i64,(ai i64))],gl:=[(98,e8.D.sig),(103,fi.D.sig),(104,cc.D.sig),(175,dp.D.sig),(176,kx.D.sig)],od:=[(7,[0,1,2,3,4,5,6,7,8,9,10,11,12,13,14,15,16,17,18,19,20,21,22,23])],ar:=[(7,[1,6,11,13,18,20])],bx:=[(7,[1])] }
def ab (a:A):Option O:=@lift O λk=>D.W k a
def p (a1:A):Option O:=(fi.ab (a1.1.1,())).bind λr2=>cond (!decide (r2.1=0)) (some (r2.1,()))<|(cc.ab (a1.1.2.1,())).bind λr3=>cond (!decide (r3.1=0)) (some (r3.1,()))<|let j8:Option O:=(dp.ab (a1.1.1,a1.1.2.1,())).bind λr9=>cond (decide (12 < (r9.1.length:Int))) (some (2,()))<|(kx.ab (a1.1.1,a1.1.2.1,())).bind λsX=>cond (!decide (sX.2.1=0)) (some (8,()))<|some (0,());(e8.ab (a1.1.2.2.1,1,100,())).bind λr4=>cond (!r4.1) (some (3,()))<|cond (decide (0 < (a1.1.2.1.length:Int))) (if 0<=af ((a1.1.2.1.length:Int) - 1) then ((a1.1.2.1[(af ((a1.1.2.1.length:Int) - (1:Int))).toNat]?).bind λx5=>cond (decide (a1.1.2.2.1<=x5.1)) (some (3,()))<|j8) else none)<|j8
theorem ae (a1:A):@Eq (Option O) (D.W k a1) (p a1):=Bye
theorem ok:Ok prog 100 D.sig:=am func100 au Bye (fc e8.ok (fc fi.ok (fc cc.ok (fc dp.ok (fc kx.ok (aj _))))))
end oJ
namespace kT
abbrev A:=(List Seen)×Unit
abbrev O:=(List Row)×Unit
abbrev P:=Option O
noncomputable def D:FD:={ fn:=f101,tl:=a_,ps:=[(.ro,(.aa ge))],rs:=[((.aa a8),(ah (.aa a8)))],lv:=[(3,[3,6,7,8])],lx:=[(0,[3])] }
def ab (a:A):P:=@lift O λk=>D.W k a
variable (a1:A)
def T0 (U:(List Row)×Int):St:={ n:=19,sl:=[(3,.own (.aa a8) (ah (.aa a8)) [] U.1),(6,.val (.aa ge) a1.1),(7,.val i64 (a1.1.length:Int)),(8,.val i64 U.2)],vr:=[],ay:=[] }
def b0 (self:((List Row)×Int)->P) (e0:(List Row)->P) (a1:A) (U:(List Row)×Int):P:=cond (decide (U.2 < (a1.1.length:Int))) (if 0<=U.2 then ((a1.1[U.2.toNat]?).bind λaT=>if U.1.length+[aT.1].length<=cg then (self (U.1++[aT.1],af (U.2+1))) else none) else none)<|e0 U.1
def q0 (a1:A) (mZ:(List Row)):P:=some (mZ,())
def r0:((List Row)×Int)->P:=al (λw v=>b0 w (q0 a1) a1 v) k
theorem aq:@Eq (((List Row)×Int)->P) (λU=>D.L k [1,1,0,1,0,0] [3,6,7,8] [] (ak 0 (av (D.N k [1,1,1]) D.K0)) (T0 a1 U)) (r0 k a1):=
 funext λU=>ap _ _ _ (T0 a1) _ (λrec v=>Bye) k U
def p (l0:((List Row)×Int)->P) (a1:A):P:=l0 (([]:List Row),0)
theorem ae:@Eq P (D.W k a1) (p (r0 k a1) a1):=By8 (aq k a1) Bye
theorem ok:Ok prog 101 D.sig:=am func101 au Bye (aj _)
end kT
namespace fu
abbrev A:=(List Byt)×(List Byt)×(Nat×Int)×Unit
abbrev O:=Bool×Unit
abbrev P:=Option O
noncomputable def D:FD:={ fn:=f177,tl:=a_,ps:=[(.ro,(.aa (.aa u8))),(.ro,(.aa (.aa u8))),(.fix 178,.fn)],rs:=[(.bool,(ai .bool))],gl:=[(178,e_.D.sig)],lv:=[(4,[1,2,15,16,17])],lx:=[(0,[])] }
def ab (a:A):P:=@lift O λk=>D.W k a
variable (a1:A)
def T0 (U:Int):St:={ n:=32,sl:=[(1,.val (.aa (.aa u8)) a1.2.1),(2,.val .fn ((178,a1.2.2.1.2):Nat×Int)),(15,.val (.aa (.aa u8)) a1.1),(16,.val i64 (a1.1.length:Int)),(17,.val i64 U)],vr:=[],ay:=[] }
def b0 (self:Int->P) (e0:(Unit)->P) (a1:A) (U:Int):P:=cond (decide (U < (a1.1.length:Int))) (if 0<=U then ((a1.1[U.toNat]?).bind λaT=>if 0<=U then ((a1.2.1[U.toNat]?).bind λjJ=>(e_.ab (aT,jJ,())).bind λlV=>cond (!lV.1) (some (false,()))<|self (af (U+1))) else none) else none)<|e0 ()
def q0 (a1:A) (vW:(Unit)):P:=some (true,())
def r0:(Int)->P:=al (λw v=>b0 w (q0 a1) a1 v) k
theorem aq:@Eq ((Int)->P) (λU=>D.L k [1,1,0,1,0,0] [1,2,15,16,17] [] (ak 0 (av (D.N k [1,1,1]) D.K0)) (T0 a1 U)) (r0 k a1):=
 funext λU=>ap _ _ _ (T0 a1) _ (λrec v=>Bye) k U
def p (l0:(Int)->P) (a1:A):P:=cond (!decide ((a1.1.length:Int)=(a1.2.1.length:Int))) (some (false,()))<|l0 0
theorem ae:@Eq P (D.W k a1) (p (r0 k a1) a1):=By8 (aq k a1) Bye
theorem ok:Ok prog 177 D.sig:=am func177 au Bye (fc e_.ok (aj _))
end fu
namespace qG
abbrev A:=(List Byt)×(List Byt)×Unit
abbrev O:=Bool×Unit
noncomputable def D:FD:={ fn:=f102,tl:=a_,ps:=[(.ro,(.aa (.aa u8))),(.ro,(.aa (.aa u8)))],rs:=[(.bool,(ai .bool))],gl:=[(177,fu.D.sig)] }
def ab (a:A):Option O:=@lift O λk=>D.W k a
def p (a1:A):Option O:=(fu.ab (a1.1,a1.2.1,((178,0):Nat×Int),())).bind λr2=>some (r2.1,())
theorem ae (a1:A):@Eq (Option O) (D.W k a1) (p a1):=Bye
theorem ok:Ok prog 102 D.sig:=am func102 au Bye (fc fu.ok (aj _))
end qG
namespace p5
abbrev A:=az×Unit
abbrev O:=Int×Unit
noncomputable def D:FD:={ fn:=f46,tl:=a_,ps:=[(.ro,dc)],rs:=[(i64,(ai i64))],gl:=[(79,o5.D.sig),(81,rm.D.sig),(97,li.D.sig),(98,e8.D.sig),(99,en.D.sig),(100,oJ.D.sig),(101,kT.D.sig),(102,qG.D.sig)],od:=[(13,[0,2,3,4,5,1,6,7,8])] }
def ab (a:A):Option O:=@lift O λk=>D.W k a
def p (a1:A):Option O:=(li.ab (a1.1.2.2.1,())).bind λr2=>cond (!decide (r2.1=0)) (some (r2.1,()))<|cond (!a1.1.1) (cond (decide (0 < (a1.1.2.1.length:Int))) (some (1,()))<|cond (decide (0 < (a1.1.2.2.2.1.length:Int))) (some (1,()))<|cond (decide (0 < (a1.1.2.2.1.2.1.length:Int))) (some (1,()))<|(e8.ab (a1.1.2.2.2.2.1,1,100,())).bind λr3=>cond (!r3.1) (some (3,()))<|some (0,()))<|(en.ab (a1.1.2.1,())).bind λr4=>cond (!decide (r4.2.1=0)) (some (r4.2.1,()))<|(kT.ab (r4.1,())).bind λr5=>(oJ.ab ((r5.1,a1.1.2.2.2.1,a1.1.2.2.2.2.1,()),())).bind λr6=>cond (!decide (r6.1=0)) (some (r6.1,()))<|(o5.ab (a1.1.2.2.1,())).bind λr7=>(rm.ab (r7.1,())).bind λr8=>cond (!decide (r8.2.1=0)) (some (8,()))<|(qG.ab (r8.1,a1.1.2.1,())).bind λr9=>cond (!r9.1) (some (8,()))<|some (0,())
theorem ae (a1:A):@Eq (Option O) (D.W k a1) (p a1):=Bye
theorem ok:Ok prog 46 D.sig:=am func46 au Bye (fc o5.ok (fc rm.ok (fc li.ok (fc e8.ok (fc en.ok (fc oJ.ok (fc kT.ok (fc qG.ok (aj _)))))))))
end p5
namespace qT
abbrev A:=Int×Unit
abbrev O:=Bool×Unit
noncomputable def D:FD:={ fn:=f182,tl:=a_,ps:=[(.ro,i64)],rs:=[(.bool,(ai .bool))] }
def ab (a:A):Option O:=@lift O λk=>D.W k a
def p (a1:A):Option O:=cond (decide (a1.1=2)) (some (true,()))<|cond (decide (a1.1=3)) (some (true,()))<|some (decide (a1.1=4),())
theorem ae (a1:A):@Eq (Option O) (D.W k a1) (p a1):=Bye
theorem ok:Ok prog 182 D.sig:=am func182 au Bye (aj _)
end qT
namespace rp
abbrev A:=Op×Unit
abbrev O:=Int×Unit
abbrev P:=Option O
noncomputable def D:FD:={ fn:=f105,tl:=a_,ps:=[(.ro,il)],rs:=[(i64,(ai i64))],gl:=[(70,oI.D.sig),(98,e8.D.sig),(179,dw.D.sig),(182,qT.D.sig)] }
def ab (a:A):P:=@lift O λk=>D.W k a
def p (a1:A):P:=let j29:=λ(p28:Bool)=>(let Nt:P:=let j55:P:=cond (!p28) ((oI.ab (a1.1.2.1,())).bind λr56=>cond (!r56.1) (some (3,()))<|(e8.ab (a1.1.2.2.2.1,0,7,())).bind λr57=>cond (!r57.1) (some (3,()))<|(qT.ab (a1.1.1,())).bind λr61=>cond r61.1 ((dw.ab (a1.1.2.2.1,())).bind λr62=>some (r62.1,()))<|some (0,()))<|(e8.ab (a1.1.2.2.2.1,0,7,())).bind λr58=>cond (!r58.1) (some (3,()))<|(qT.ab (a1.1.1,())).bind λr63=>cond r63.1 ((dw.ab (a1.1.2.2.1,())).bind λr64=>some (r64.1,()))<|some (0,());cond (decide (a1.1.1=4)) (cond (!decide (a1.1.2.2.1.2.2.1=0)) (some (1,()))<|cond (!decide (a1.1.2.2.1.2.2.2.1=([]:Byt))) (some (1,()))<|j55)<|j55;(e8.ab (a1.1.1,1,9,())).bind λr30=>cond (!r30.1) (some (1,()))<|cond p28 (cond (!decide (a1.1.2.1=0)) (some (1,()))<|(qT.ab (a1.1.1,())).bind λr31=>cond (!r31.1) (cond (!(Ty.eq a8 a1.1.2.2.1 (0,0,0,([]:Byt),()))) (some (1,()))<|cond (!decide (a1.1.1=6)) (cond (!decide (a1.1.2.2.2.1=0)) (some (1,()))<|Nt)<|Nt)<|cond (!decide (a1.1.1=6)) (cond (!decide (a1.1.2.2.2.1=0)) (some (1,()))<|Nt)<|Nt)<|(qT.ab (a1.1.1,())).bind λr32=>cond (!r32.1) (cond (!(Ty.eq a8 a1.1.2.2.1 (0,0,0,([]:Byt),()))) (some (1,()))<|cond (!decide (a1.1.1=6)) (cond (!decide (a1.1.2.2.2.1=0)) (some (1,()))<|Nt)<|Nt)<|cond (!decide (a1.1.1=6)) (cond (!decide (a1.1.2.2.2.1=0)) (some (1,()))<|Nt)<|Nt:P);cond (decide (a1.1.1=1)) (j29 true)<|j29 (decide (a1.1.1=9))
theorem ae (a1:A):@Eq P (D.W k a1) (p a1):=Bye
theorem ok:Ok prog 105 D.sig:=am func105 au Bye (fc oI.ok (fc e8.ok (fc dw.ok (fc qT.ok (aj _)))))
end rp
namespace vP
abbrev A:=Tx×Int×Unit
abbrev O:=Bool×Unit
noncomputable def D:FD:={ fn:=f184,tl:=a_,ps:=[(.ro,bp),(.ro,(.ptr i64))],rs:=[(.bool,(ai .bool))],cap:=true }
def ab (a:A):Option O:=@lift O λk=>D.W k a
def p (a1:A):Option O:=some (decide (a1.1.1=a1.2.1),())
theorem ae (a1:A):@Eq (Option O) (D.W k a1) (p a1):=Bye
theorem ok:Ok prog 184 D.sig:=am func184 au Bye (aj _)
end vP
namespace ij
abbrev A:=(List Tx)×(Nat×Int)×Unit
abbrev O:=Int×Unit
abbrev P:=Option O
noncomputable def D:FD:={ fn:=f183,tl:=a_,ps:=[(.ro,(.aa bp)),(.fix 184,.fn)],rs:=[(i64,(ai i64))],gl:=[(184,vP.D.sig)],lv:=[(2,[0,1,7,8])],lx:=[(0,[])] }
def ab (a:A):P:=@lift O λk=>D.W k a
variable (a1:A)
def T0 (U:Int):St:={ n:=19,sl:=[(0,.val (.aa bp) a1.1),(1,.val .fn ((184,a1.2.1.2):Nat×Int)),(7,.val i64 (a1.1.length:Int)),(8,.val i64 U)],vr:=[],ay:=[] }
def b0 (self:Int->P) (e0:(Unit)->P) (a1:A) (U:Int):P:=cond (decide (U < (a1.1.length:Int))) (if 0<=U then ((a1.1[U.toNat]?).bind λaT=>(vP.ab (aT,a1.2.1.2,())).bind λdq=>cond dq.1 (some (U,()))<|self (af (U+1))) else none)<|e0 ()
def q0 (a1:A) (fj:(Unit)):P:=some ((-1),())
def r0:(Int)->P:=al (λw v=>b0 w (q0 a1) a1 v) k
theorem aq:@Eq ((Int)->P) (λU=>D.L k [1,0,1,0,0] [0,1,7,8] [] (ak 0 (av (D.N k [1,1]) D.K0)) (T0 a1 U)) (r0 k a1):=
 funext λU=>ap _ _ _ (T0 a1) _ (λrec v=>Bye) k U
def p (l0:(Int)->P) (a1:A):P:=l0 0
theorem ae:@Eq P (D.W k a1) (p (r0 k a1) a1):=By8 (aq k a1) Bye
theorem ok:Ok prog 183 D.sig:=am func183 au Bye (fc vP.ok (aj _))
end ij
namespace mM
abbrev A:=(List Tx)×Int×Unit
abbrev O:=Int×Unit
noncomputable def D:FD:={ fn:=f106,tl:=a_,ps:=[(.ro,(.aa bp)),(.ro,i64)],rs:=[(i64,(ai i64))],gl:=[(183,ij.D.sig)] }
def ab (a:A):Option O:=@lift O λk=>D.W k a
def p (a1:A):Option O:=(ij.ab (a1.1,((184,a1.2.1):Nat×Int),())).bind λr2=>some (r2.1,())
theorem ae (a1:A):@Eq (Option O) (D.W k a1) (p a1):=Bye
theorem ok:Ok prog 106 D.sig:=am func106 au Bye (fc ij.ok (aj _))
end mM
namespace jN
abbrev A:=(List Row)×Change×Unit
abbrev O:=Int×Unit
abbrev P:=Option O
noncomputable def D:FD:={ fn:=f260,tl:=a_,ps:=[(.ro,(.aa a8)),(.ro,aw)],rs:=[(i64,(ai i64))],gl:=[(98,e8.D.sig),(133,dh.D.sig)],lv:=[(4,[3,28,29,30])],lx:=[(0,[])],od:=[(6,[0,1,2,3,4,5,6,7,8,9,10,11,12,13,14,15,16,17,18,19,20,21,22,23,24])],ar:=[(6,[1,2,8,13,17,21])],bx:=[(3,[3]),(6,[6])] }
def ab (a:A):P:=@lift O λk=>D.W k a
variable (a1:A)
def T0 (cq:Int):St:={ n:=60,sl:=[(3,.cp aw a1.2.1),(28,.val (.aa a8) a1.1),(29,.val i64 (a1.1.length:Int)),(30,.val i64 cq)],vr:=[],ay:=[] }
def b0 (self:Int->P) (e0:(Unit)->P) (a1:A) (cq:Int):P:=cond (decide (cq < (a1.1.length:Int))) (if 0<=cq then ((a1.1[cq.toNat]?).bind λE6=>(dh.ab (a1.2.1,())).bind λVb=>cond (decide (E6.1=Vb.1.2.1)) (cond (!decide (E6.1=0)) (cond (!a1.2.1.2.2.1) (some (8,()))<|cond (decide (a1.2.1.2.2.2.1.2.2.1 < (E6.2.2.2.1.length:Int))) (some (8,()))<|self (af (cq+1)))<|self (af (cq+1)))<|self (af (cq+1))) else none)<|e0 ()
def q0 (a1:A) (zZ:(Unit)):P:=some (0,())
def r0:(Int)->P:=al (λw v=>b0 w (q0 a1) a1 v) k
theorem aq:@Eq ((Int)->P) (λcq=>D.L k [1,1,0,1,0,0] [3,28,29,30] [] (ak 0 (av (D.N k [1,1,1]) D.K0)) (T0 a1 cq)) (r0 k a1):=
 funext λcq=>ap _ _ _ (T0 a1) _ (λrec v=>Bye) k cq
def p (l0:(Int)->P) (a1:A):P:=let acS:P:=l0 0;cond a1.2.1.2.2.1 ((e8.ab (a1.2.1.2.2.2.1.2.1,1,3,())).bind λr2=>cond (!r2.1) (some (10,()))<|cond (decide (8 < a1.2.1.2.2.2.1.2.2.1)) (some (10,()))<|cond (!decide (a1.2.1.2.2.2.1.2.2.2.1=([]:Byt))) (some (10,()))<|acS)<|acS
theorem ae:@Eq P (D.W k a1) (p (r0 k a1) a1):=By8 (aq k a1) Bye
theorem ok:Ok prog 260 D.sig:=am func260 au Bye (fc e8.ok (fc dh.ok (aj _)))
end jN
namespace nU
abbrev A:=(List Row)×Int×Unit
abbrev O:=Int×Bool×Unit
abbrev P:=Option O
noncomputable def D:FD:={ fn:=f261,tl:=a_,ps:=[(.ro,(.aa a8)),(.ro,i64)],rs:=[(i64,(ai i64)),(.bool,(ai .bool))],lv:=[(2,[1,8,9,10])],lx:=[(0,[])] }
def ab (a:A):P:=@lift O λk=>D.W k a
variable (a1:A)
def T0 (U:Int):St:={ n:=26,sl:=[(1,.val i64 a1.2.1),(8,.val (.aa a8) a1.1),(9,.val i64 (a1.1.length:Int)),(10,.val i64 U)],vr:=[],ay:=[] }
def b0 (self:Int->P) (e0:(Unit)->P) (a1:A) (U:Int):P:=cond (decide (U < (a1.1.length:Int))) (if 0<=U then ((a1.1[U.toNat]?).bind λaT=>cond (decide (aT.1=0)) (cond (decide (aT.2.1=a1.2.1)) (some (aT.2.2.1,true,()))<|self (af (U+1)))<|self (af (U+1))) else none)<|e0 ()
def q0 (a1:A) (mZ:(Unit)):P:=some (0,false,())
def r0:(Int)->P:=al (λw v=>b0 w (q0 a1) a1 v) k
theorem aq:@Eq ((Int)->P) (λU=>D.L k [1,0,1,0,0] [1,8,9,10] [] (ak 0 (av (D.N k [1,1]) D.K0)) (T0 a1 U)) (r0 k a1):=
 funext λU=>ap _ _ _ (T0 a1) _ (λrec v=>Bye) k U
def p (l0:(Int)->P) (a1:A):P:=l0 0
theorem ae:@Eq P (D.W k a1) (p (r0 k a1) a1):=By8 (aq k a1) Bye
theorem ok:Ok prog 261 D.sig:=am func261 au Bye (aj _)
end nU
namespace tw
abbrev A:=(List Row)×Change×Unit
abbrev O:=Int×Unit
noncomputable def D:FD:={ fn:=f187,tl:=a_,ps:=[(.ro,(.aa a8)),(.ro,aw)],rs:=[(i64,(ai i64))],gl:=[(133,dh.D.sig),(260,jN.D.sig),(261,nU.D.sig)] }
def ab (a:A):Option O:=@lift O λk=>D.W k a
def p (a1:A):Option O:=(dh.ab (a1.2.1,())).bind λr2=>cond (decide (r2.1.1=0)) ((jN.ab (a1.1,a1.2.1,())).bind λr3=>some (r3.1,()))<|cond (!a1.2.1.2.2.1) (some (0,()))<|(nU.ab (a1.1,a1.2.1.2.2.2.1.1,())).bind λr4=>cond (!r4.2.1) (some (4,()))<|cond (decide (r4.1 < (a1.2.1.2.2.2.1.2.2.2.1.length:Int))) (some (10,()))<|some (0,())
theorem ae (a1:A):@Eq (Option O) (D.W k a1) (p a1):=Bye
theorem ok:Ok prog 187 D.sig:=am func187 au Bye (fc dh.ok (fc jN.ok (fc nU.ok (aj _))))
end tw
end
end OT
