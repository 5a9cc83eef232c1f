/- The proof's parts, merged: Printed by gen.py, a program of this claim  what each Go function computes.. No conditions but those that each states. -/
import Derived.Test.YtghckfpmmofmnaaGreatTe
set_option maxRecDepth 100000
set_option linter.unusedVariables false
namespace OT
open Go Go.Proofs.Tryz
namespace ct
abbrev Arg:Type:=(List Tx)×Unit
abbrev Out:Type:=Int×Unit
abbrev OO:=Option Out
noncomputable def D:FD:={ fn:=f104,tl:=bc,ps:=[(.ro,(.aa ca))],rs:=[(i64,(ak i64))],gl:=[(70,nT.D.sig),(180,dh.D.sig),(181,ny.D.sig)],lv:=[(4,[0,14,15,16]),(16,[0,6,45,46,47]),(19,[0,6,45,46,47,52,53,54])],lx:=[(0,[0]),(2,[0]),(4,[0,6,45,46,47])],od:=[(8,[0,1,2,3,4,5,6,7,8,9,10,11,12])] }
noncomputable def ab (a:Arg):OO:=@lift Out λk=>D.W k a
noncomputable def T0 (a1:Arg) (U:Int):St:={ n:=68,sl:=[(0,.val (.aa ca) a1.1),(14,.val (.aa ca) a1.1),(15,.val i64 (a1.1.length:Int)),(16,.val i64 U)],vr:=[],az:=[] }
noncomputable def S0 (rec:RT Out) (a1:Arg):(Int)->OO:=λU=>rec (T0 a1 U)
noncomputable def cx (K:KT Out) (a1:Arg):(Unit)->OO:=λz=>K (.exit 0) ({ n:=68,sl:=[(0,.val (.aa ca) a1.1)],vr:=[],az:=[] })
noncomputable def b0 (self:Int->OO) (e0:(Unit)->OO) (a1:Arg) (U:Int):OO:=bif decide (U < (a1.1.length:Int)) then (if 0<=U then ((a1.1[U.toNat]?).bind λa8=>(nT.ab (a8.1,())).bind λdg=>bif !dg.1 then (some ((3:Int),())) else bif decide ((0:Int) < U) then (if 0<=af (U - (1:Int)) then ((a1.1[(af (U - (1:Int))).toNat]?).bind λdw=>bif decide (a8.1<=dw.1) then (some ((1:Int),())) else (dh.ab (a8,())).bind λjz=>bif !decide (jz.1=(0:Int)) then (some (jz.1,())) else self (af (U+(1:Int)))) else none) else (dh.ab (a8,())).bind λpF=>bif !decide (pF.1=(0:Int)) then (some (pF.1,())) else self (af (U+(1:Int)))) else none) else e0 ()
theorem lB (k:Nat) (rec:RT Out) (K:KT Out) (a1:Arg) (U:Int):D.N k [1,1,0,1,0,0] (T0 a1 U) (iV rec (fw [0,14,15,16] []) K)=b0 (S0 rec a1) (cx K a1) a1 U:=by kernel_rfl
noncomputable def T1 (a1:Arg) (iw:(List Tx)×(List (Key×Bool))×(List Tx)×Int×Int):St:={ n:=68,sl:=[(0,.val (.aa ca) iw.1),(6,.own (.map be .bool) (ai (.map be .bool)) [] iw.2.1),(45,.val (.aa ca) iw.2.2.1),(46,.val i64 iw.2.2.2.1),(47,.val i64 iw.2.2.2.2)],vr:=[],az:=[] }
noncomputable def S1 (rec:RT Out) (a1:Arg):((List Tx)×(List (Key×Bool))×(List Tx)×Int×Int)->OO:=λiw=>rec (T1 a1 iw)
noncomputable def jA (K:KT Out) (a1:Arg):(List Tx)->OO:=λz=>K (.exit 2) ({ n:=68,sl:=[(0,.val (.aa ca) z)],vr:=[],az:=[] })
noncomputable def T2 (a1:Arg) (en:List Tx) (oY:List Tx) (oZ:Int) (o3:Int) (o4:List Key) (xj:Int) (mZ:(List (Key×Bool))×Int):St:={ n:=68,sl:=[(0,.val (.aa ca) en),(6,.own (.map be .bool) (ai (.map be .bool)) [] mZ.1),(45,.val (.aa ca) oY),(46,.val i64 oZ),(47,.val i64 o3),(52,.val (.aa be) o4),(53,.val i64 xj),(54,.val i64 mZ.2)],vr:=[],az:=[] }
noncomputable def b2 (self:((List (Key×Bool))×Int)->OO) (e4:(List (Key×Bool))->OO) (a1:Arg) (en:List Tx) (oY:List Tx) (oZ:Int) (o3:Int) (o4:List Key) (xj:Int) (mZ:(List (Key×Bool))×Int):OO:=bif decide (mZ.2 < xj) then (if 0<=mZ.2 then ((o4[mZ.2.toNat]?).bind λRg=>bif A7 (jQ be mZ.1 Rg) false then (some ((7:Int),())) else self (oV be mZ.1 Rg true,af (mZ.2+(1:Int)))) else none) else e4 mZ.1
noncomputable def q1 (self:((List Tx)×(List (Key×Bool))×(List Tx)×Int×Int)->OO) (e2:(List Tx)->OO) (a1:Arg) (en:List Tx) (oY:List Tx) (oZ:Int) (o3:Int) (o4:List Key) (xj:Int) (Rh:(List (Key×Bool))):OO:=self (en,Rh,oY,oZ,af (o3+(1:Int)))
noncomputable def s2 (k:Nat) (rec:RT Out) (K:KT Out) (a1:Arg):(List Tx)->(List Tx)->Int->Int->(List Key)->Int->((List (Key×Bool))×Int)->OO:=λen oY oZ o3 o4 xj=>λmZ=>D.L k [1,1,1,1,0,1,0,0,1,1,0,0,1,1,0,0] [0,6,45,46,47,52,53,54] [] (ah 4 (ah 3 (av (D.N k [1,1,1,1,0,1,0,0,1,1,1]) (iV rec (fw [0,6,45,46,47] []) K)))) (T2 a1 en oY oZ o3 o4 xj mZ)
noncomputable def r2 (k:Nat) (self:((List Tx)×(List (Key×Bool))×(List Tx)×Int×Int)->OO) (e2:(List Tx)->OO) (a1:Arg):(List Tx)->(List Tx)->Int->Int->(List Key)->Int->((List (Key×Bool))×Int)->OO:=λen oY oZ o3 o4 xj=>al (λw v=>b2 w (q1 self e2 a1 en oY oZ o3 o4 xj) a1 en oY oZ o3 o4 xj v) k
theorem su (k:Nat) (rec:RT Out) (K:KT Out) (a1:Arg):s2 k rec K a1=r2 k (S1 rec a1) (jA K a1) a1:=
 funext λen=>funext λoY=>funext λoZ=>funext λo3=>funext λo4=>funext λxj=>funext λmZ=>ap _ _ _ (T2 a1 en oY oZ o3 o4 xj) _ (λrec v=>by kernel_rfl) k mZ
noncomputable def b1 (self:((List Tx)×(List (Key×Bool))×(List Tx)×Int×Int)->OO) (e2:(List Tx)->OO) (l2:(List Tx)->(List Tx)->Int->Int->(List Key)->Int->((List (Key×Bool))×Int)->OO) (a1:Arg) (iw:(List Tx)×(List (Key×Bool))×(List Tx)×Int×Int):OO:=bif decide (iw.2.2.2.2 < iw.2.2.2.1) then (if 0<=iw.2.2.2.2 then ((iw.2.2.1[iw.2.2.2.2.toNat]?).bind λBp=>l2 iw.1 iw.2.2.1 iw.2.2.2.1 iw.2.2.2.2 Bp.2.2.2.1 (Bp.2.2.2.1.length:Int) (iw.2.1,(0:Int))) else none) else e2 iw.1
noncomputable def B1 (k:Nat) (self:((List Tx)×(List (Key×Bool))×(List Tx)×Int×Int)->OO) (e2:(List Tx)->OO) (a1:Arg) (iw:(List Tx)×(List (Key×Bool))×(List Tx)×Int×Int):OO:=b1 self e2 (r2 k self e2 a1) a1 iw
theorem tT (k:Nat) (rec:RT Out) (K:KT Out) (a1:Arg) (iw:(List Tx)×(List (Key×Bool))×(List Tx)×Int×Int):D.N k [1,1,1,1,0,1,0,0] (T1 a1 iw) (iV rec (fw [0,6,45,46,47] []) K)=B1 k (S1 rec a1) (jA K a1) a1 iw:=
 aQ (b:=b1 (S1 rec a1) (jA K a1) (s2 k rec K a1) a1 iw) (by kernel_rfl) (by rw[su];rfl)
noncomputable def q2 (a1:Arg) (v7:(List Tx)):OO:=(ny.ab (v7,())).bind λaa1=>bif decide ((12:Int) < aa1.1) then (some ((2:Int),())) else some ((0:Int),())
theorem vv (k:Nat) (a1:Arg) (v7:(List Tx)):jA (ah 2 (av (D.N k [1,1,1,1,1]) D.K0)) a1 v7=q2 a1 v7:=by kernel_rfl
noncomputable def s1 (k:Nat) (a1:Arg):((List Tx)×(List (Key×Bool))×(List Tx)×Int×Int)->OO:=λiw=>D.L k [1,1,1,1,0,1,0,0] [0,6,45,46,47] [] (ah 2 (av (D.N k [1,1,1,1,1]) D.K0)) (T1 a1 iw)
noncomputable def r1 (k:Nat) (a1:Arg):((List Tx)×(List (Key×Bool))×(List Tx)×Int×Int)->OO:=al (λw v=>B1 k w (q2 a1) a1 v) k
theorem lC (k:Nat) (a1:Arg):s1 k a1=r1 k a1:=by
 funext iw;have h2:jA (ah 2 (av (D.N k [1,1,1,1,1]) D.K0)) a1=q2 a1:=funext λz=>vv k a1 z;refine (ap _ _ _ (T1 a1) (λself v=>B1 k self (jA (ah 2 (av (D.N k [1,1,1,1,1]) D.K0)) a1) a1 v) (λrec v=>tT k rec (ah 2 (av (D.N k [1,1,1,1,1]) D.K0)) a1 v) k iw).trans ?_;rw[h2];rfl
noncomputable def q0 (l1:((List Tx)×(List (Key×Bool))×(List Tx)×Int×Int)->OO) (a1:Arg) (uZ:(Unit)):OO:=l1 (a1.1,([]:List (Key×Bool)),a1.1,(a1.1.length:Int),(0:Int))
noncomputable def Q0 (k:Nat) (a1:Arg) (uZ:(Unit)):OO:=q0 (r1 k a1) a1 uZ
theorem sv (k:Nat) (a1:Arg) (uZ:(Unit)):cx (ah 0 (av (D.N k [1,1,1]) D.K0)) a1 uZ=Q0 k a1 uZ:=
 aQ (b:=q0 (s1 k a1) a1 uZ) (by kernel_rfl) (by rw[lC];rfl)
noncomputable def s0 (k:Nat) (a1:Arg):(Int)->OO:=λU=>D.L k [1,1,0,1,0,0] [0,14,15,16] [] (ah 0 (av (D.N k [1,1,1]) D.K0)) (T0 a1 U)
noncomputable def r0 (k:Nat) (a1:Arg):(Int)->OO:=al (λw v=>b0 w (Q0 k a1) a1 v) k
theorem aq (k:Nat) (a1:Arg):s0 k a1=r0 k a1:=by
 funext U;have h0:cx (ah 0 (av (D.N k [1,1,1]) D.K0)) a1=Q0 k a1:=funext λz=>sv k a1 z;refine (ap _ _ _ (T0 a1) (λself v=>b0 self (cx (ah 0 (av (D.N k [1,1,1]) D.K0)) a1) a1 v) (λrec v=>lB k rec (ah 0 (av (D.N k [1,1,1]) D.K0)) a1 v) k U).trans ?_;rw[h0];rfl
noncomputable def p (l0:(Int)->OO) (a1:Arg):OO:=bif decide ((4:Int) < (a1.1.length:Int)) then (some ((2:Int),())) else l0 (0:Int)
theorem ae (k:Nat) (a1:Arg):@Eq OO (D.W k a1) (p (r0 k a1) a1):=
 aQ (b:=p (s0 k a1) a1) (by kernel_rfl) (by rw[aq])
theorem ok:Ok prog 104 D.sig:=am func104 aw (by kernel_rfl) (fc nT.ok (fc dh.ok (fc ny.ok (aj _))))
end ct
namespace ey
abbrev Arg:Type:=(List Row)×(List Tx)×Unit
abbrev Out:Type:=(List (Key×Bool))×Unit
abbrev OO:=Option Out
noncomputable def D:FD:={ fn:=f175,tl:=bc,ps:=[(.ro,(.aa bd)),(.ro,(.aa ca))],rs:=[((.map be .bool),(ai (.map be .bool)))],lv:=[(3,[1,5,13,14,15]),(8,[5,26,27,28]),(11,[5,26,27,28,33,34,35])],lx:=[(0,[1,5]),(2,[5]),(4,[5,26,27,28])] }
noncomputable def ab (a:Arg):OO:=@lift Out λk=>D.W k a
noncomputable def T0 (a1:Arg) (U:(List (Key×Bool))×Int):St:={ n:=44,sl:=[(1,.val (.aa ca) a1.2.1),(5,.own (.map be .bool) (ai (.map be .bool)) [] U.1),(13,.val (.aa bd) a1.1),(14,.val i64 (a1.1.length:Int)),(15,.val i64 U.2)],vr:=[],az:=[] }
noncomputable def S0 (rec:RT Out) (a1:Arg):((List (Key×Bool))×Int)->OO:=λU=>rec (T0 a1 U)
noncomputable def cx (K:KT Out) (a1:Arg):(List (Key×Bool))->OO:=λz=>K (.exit 0) ({ n:=44,sl:=[(1,.val (.aa ca) a1.2.1),(5,.own (.map be .bool) (ai (.map be .bool)) [] z)],vr:=[],az:=[] })
noncomputable def b0 (self:((List (Key×Bool))×Int)->OO) (e0:(List (Key×Bool))->OO) (a1:Arg) (U:(List (Key×Bool))×Int):OO:=bif decide (U.2 < (a1.1.length:Int)) then (if 0<=U.2 then ((a1.1[U.2.toNat]?).bind λa8=>let qH:=oV be U.1 (a8.1,a8.2.1,()) true;self (qH,af (U.2+(1:Int)))) else none) else e0 U.1
theorem lB (k:Nat) (rec:RT Out) (K:KT Out) (a1:Arg) (U:(List (Key×Bool))×Int):D.N k [1,1,0,1,0,0] (T0 a1 U) (iV rec (fw [1,5,13,14,15] []) K)=b0 (S0 rec a1) (cx K a1) a1 U:=by kernel_rfl
noncomputable def T1 (a1:Arg) (fd:(List (Key×Bool))×(List Tx)×Int×Int):St:={ n:=44,sl:=[(5,.own (.map be .bool) (ai (.map be .bool)) [] fd.1),(26,.val (.aa ca) fd.2.1),(27,.val i64 fd.2.2.1),(28,.val i64 fd.2.2.2)],vr:=[],az:=[] }
noncomputable def S1 (rec:RT Out) (a1:Arg):((List (Key×Bool))×(List Tx)×Int×Int)->OO:=λfd=>rec (T1 a1 fd)
noncomputable def jA (K:KT Out) (a1:Arg):(List (Key×Bool))->OO:=λz=>K (.exit 2) ({ n:=44,sl:=[(5,.own (.map be .bool) (ai (.map be .bool)) [] z)],vr:=[],az:=[] })
noncomputable def T2 (a1:Arg) (xk:List Tx) (n8:Int) (jK:Int) (ii:List Key) (en:Int) (vz:(List (Key×Bool))×Int):St:={ n:=44,sl:=[(5,.own (.map be .bool) (ai (.map be .bool)) [] vz.1),(26,.val (.aa ca) xk),(27,.val i64 n8),(28,.val i64 jK),(33,.val (.aa be) ii),(34,.val i64 en),(35,.val i64 vz.2)],vr:=[],az:=[] }
noncomputable def b2 (self:((List (Key×Bool))×Int)->OO) (e4:(List (Key×Bool))->OO) (a1:Arg) (xk:List Tx) (n8:Int) (jK:Int) (ii:List Key) (en:Int) (vz:(List (Key×Bool))×Int):OO:=bif decide (vz.2 < en) then (if 0<=vz.2 then ((ii[vz.2.toNat]?).bind λQ8=>self (oV be vz.1 Q8 true,af (vz.2+(1:Int)))) else none) else e4 vz.1
noncomputable def q1 (self:((List (Key×Bool))×(List Tx)×Int×Int)->OO) (e2:(List (Key×Bool))->OO) (a1:Arg) (xk:List Tx) (n8:Int) (jK:Int) (ii:List Key) (en:Int) (FF:(List (Key×Bool))):OO:=self (FF,xk,n8,af (jK+(1:Int)))
noncomputable def s2 (k:Nat) (rec:RT Out) (K:KT Out) (a1:Arg):(List Tx)->Int->Int->(List Key)->Int->((List (Key×Bool))×Int)->OO:=λxk n8 jK ii en=>λvz=>D.L k [1,1,1,0,1,0,0,1,1,0,0,1,1,0,0] [5,26,27,28,33,34,35] [] (ah 4 (ah 3 (av (D.N k [1,1,1,0,1,0,0,1,1,1]) (iV rec (fw [5,26,27,28] []) K)))) (T2 a1 xk n8 jK ii en vz)
noncomputable def r2 (k:Nat) (self:((List (Key×Bool))×(List Tx)×Int×Int)->OO) (e2:(List (Key×Bool))->OO) (a1:Arg):(List Tx)->Int->Int->(List Key)->Int->((List (Key×Bool))×Int)->OO:=λxk n8 jK ii en=>al (λw v=>b2 w (q1 self e2 a1 xk n8 jK ii en) a1 xk n8 jK ii en v) k
theorem su (k:Nat) (rec:RT Out) (K:KT Out) (a1:Arg):s2 k rec K a1=r2 k (S1 rec a1) (jA K a1) a1:=
 funext λxk=>funext λn8=>funext λjK=>funext λii=>funext λen=>funext λvz=>ap _ _ _ (T2 a1 xk n8 jK ii en) _ (λrec v=>by kernel_rfl) k vz
noncomputable def b1 (self:((List (Key×Bool))×(List Tx)×Int×Int)->OO) (e2:(List (Key×Bool))->OO) (l2:(List Tx)->Int->Int->(List Key)->Int->((List (Key×Bool))×Int)->OO) (a1:Arg) (fd:(List (Key×Bool))×(List Tx)×Int×Int):OO:=bif decide (fd.2.2.2 < fd.2.2.1) then (if 0<=fd.2.2.2 then ((fd.2.1[fd.2.2.2.toNat]?).bind λC7=>l2 fd.2.1 fd.2.2.1 fd.2.2.2 C7.2.2.2.1 (C7.2.2.2.1.length:Int) (fd.1,(0:Int))) else none) else e2 fd.1
noncomputable def B1 (k:Nat) (self:((List (Key×Bool))×(List Tx)×Int×Int)->OO) (e2:(List (Key×Bool))->OO) (a1:Arg) (fd:(List (Key×Bool))×(List Tx)×Int×Int):OO:=b1 self e2 (r2 k self e2 a1) a1 fd
theorem tT (k:Nat) (rec:RT Out) (K:KT Out) (a1:Arg) (fd:(List (Key×Bool))×(List Tx)×Int×Int):D.N k [1,1,1,0,1,0,0] (T1 a1 fd) (iV rec (fw [5,26,27,28] []) K)=B1 k (S1 rec a1) (jA K a1) a1 fd:=
 aQ (b:=b1 (S1 rec a1) (jA K a1) (s2 k rec K a1) a1 fd) (by kernel_rfl) (by rw[su];rfl)
noncomputable def q2 (a1:Arg) (vu:(List (Key×Bool))):OO:=some (vu,())
theorem vv (k:Nat) (a1:Arg) (vu:(List (Key×Bool))):jA (ah 2 (av (D.N k [1,1,1,1]) D.K0)) a1 vu=q2 a1 vu:=by kernel_rfl
noncomputable def s1 (k:Nat) (a1:Arg):((List (Key×Bool))×(List Tx)×Int×Int)->OO:=λfd=>D.L k [1,1,1,0,1,0,0] [5,26,27,28] [] (ah 2 (av (D.N k [1,1,1,1]) D.K0)) (T1 a1 fd)
noncomputable def r1 (k:Nat) (a1:Arg):((List (Key×Bool))×(List Tx)×Int×Int)->OO:=al (λw v=>B1 k w (q2 a1) a1 v) k
theorem lC (k:Nat) (a1:Arg):s1 k a1=r1 k a1:=by
 funext fd;have h2:jA (ah 2 (av (D.N k [1,1,1,1]) D.K0)) a1=q2 a1:=funext λz=>vv k a1 z;refine (ap _ _ _ (T1 a1) (λself v=>B1 k self (jA (ah 2 (av (D.N k [1,1,1,1]) D.K0)) a1) a1 v) (λrec v=>tT k rec (ah 2 (av (D.N k [1,1,1,1]) D.K0)) a1 v) k fd).trans ?_;rw[h2];rfl
noncomputable def q0 (l1:((List (Key×Bool))×(List Tx)×Int×Int)->OO) (a1:Arg) (et:(List (Key×Bool))):OO:=l1 (et,a1.2.1,(a1.2.1.length:Int),(0:Int))
noncomputable def Q0 (k:Nat) (a1:Arg) (et:(List (Key×Bool))):OO:=q0 (r1 k a1) a1 et
theorem sv (k:Nat) (a1:Arg) (et:(List (Key×Bool))):cx (ah 0 (av (D.N k [1,1,1]) D.K0)) a1 et=Q0 k a1 et:=
 aQ (b:=q0 (s1 k a1) a1 et) (by kernel_rfl) (by rw[lC];rfl)
noncomputable def s0 (k:Nat) (a1:Arg):((List (Key×Bool))×Int)->OO:=λU=>D.L k [1,1,0,1,0,0] [1,5,13,14,15] [] (ah 0 (av (D.N k [1,1,1]) D.K0)) (T0 a1 U)
noncomputable def r0 (k:Nat) (a1:Arg):((List (Key×Bool))×Int)->OO:=al (λw v=>b0 w (Q0 k a1) a1 v) k
theorem aq (k:Nat) (a1:Arg):s0 k a1=r0 k a1:=by
 funext U;have h0:cx (ah 0 (av (D.N k [1,1,1]) D.K0)) a1=Q0 k a1:=funext λz=>sv k a1 z;refine (ap _ _ _ (T0 a1) (λself v=>b0 self (cx (ah 0 (av (D.N k [1,1,1]) D.K0)) a1) a1 v) (λrec v=>lB k rec (ah 0 (av (D.N k [1,1,1]) D.K0)) a1 v) k U).trans ?_;rw[h0];rfl
noncomputable def p (l0:((List (Key×Bool))×Int)->OO) (a1:Arg):OO:=l0 (([]:List (Key×Bool)),(0:Int))
theorem ae (k:Nat) (a1:Arg):@Eq OO (D.W k a1) (p (r0 k a1) a1):=
 aQ (b:=p (s0 k a1) a1) (by kernel_rfl) (by rw[aq])
theorem ok:Ok prog 175 D.sig:=am func175 aw (by kernel_rfl) (aj _)
end ey
namespace kW
abbrev Arg:Type:=(List Change)×Unit
abbrev Out:Type:=(List Change)×Unit
abbrev OO:=Option Out
noncomputable def D:FD:={ fn:=f134,tl:=bc,ps:=[(.ro,(.aa an))],rs:=[((.aa an),(ai (.aa an)))],lv:=[(3,[0,3,4])],lx:=[(0,[3])] }
noncomputable def ab (a:Arg):OO:=@lift Out λk=>D.W k a
noncomputable def T0 (a1:Arg) (U:(List Change)×Int):St:={ n:=30,sl:=[(0,.val (.aa an) a1.1),(3,.own (.aa an) (ai (.aa an)) [] U.1),(4,.val i64 U.2)],vr:=[],az:=[] }
noncomputable def b0 (self:((List Change)×Int)->OO) (e0:(List Change)->OO) (a1:Arg) (U:(List Change)×Int):OO:=bif decide ((0:Int)<=U.2) then (if 0<=U.2 then ((a1.1[U.2.toNat]?).bind λa8=>if U.1.length+[(a8.2.2.1,a8.2.2.2.1,a8.1,a8.2.1,())].length<=cg then (let qH:=U.1++[(a8.2.2.1,a8.2.2.2.1,a8.1,a8.2.1,())];self (qH,af (U.2 - (1:Int)))) else none) else none) else e0 U.1
noncomputable def q0 (a1:Arg) (et:(List Change)):OO:=some (et,())
noncomputable def s0 (k:Nat) (a1:Arg):((List Change)×Int)->OO:=λU=>D.L k [1,1,0,1,0,0] [0,3,4] [] (ah 0 (av (D.N k [1,1,1]) D.K0)) (T0 a1 U)
noncomputable def r0 (k:Nat) (a1:Arg):((List Change)×Int)->OO:=al (λw v=>b0 w (q0 a1) a1 v) k
theorem aq (k:Nat) (a1:Arg):s0 k a1=r0 k a1:=
 funext λU=>ap _ _ _ (T0 a1) _ (λrec v=>by kernel_rfl) k U
noncomputable def p (l0:((List Change)×Int)->OO) (a1:Arg):OO:=l0 (([]:List Change),af ((a1.1.length:Int) - (1:Int)))
theorem ae (k:Nat) (a1:Arg):@Eq OO (D.W k a1) (p (r0 k a1) a1):=
 aQ (b:=p (s0 k a1) a1) (by kernel_rfl) (by rw[aq])
theorem ok:Ok prog 134 D.sig:=am func134 aw (by kernel_rfl) (aj _)
end kW
namespace kj
abbrev Arg:Type:=(List Row)×Unit
abbrev Out:Type:=(List Row)×Unit
noncomputable def D:FD:={ fn:=f257,tl:=bc,ps:=[(.ro,(.aa bd))],rs:=[((.aa bd),(ai (.aa bd)))] }
noncomputable def ab (a:Arg):Option Out:=@lift Out λk=>D.W k a
noncomputable def p (a1:Arg):Option Out:=zP a1.1 (some (([]:List Row),())) (if ([]:List Row).length+a1.1.length<=cg then (some (([]:List Row)++a1.1,())) else none)
theorem ae (k:Nat) (a1:Arg):@Eq (Option Out) (D.W k a1) (p a1):=by kernel_rfl
theorem ok:Ok prog 257 D.sig:=am func257 aw (by kernel_rfl) (aj _)
end kj
namespace bv
abbrev Arg:Type:=(List Row)×Row×(Nat×Int)×Unit
abbrev Out:Type:=Int×Bool×Unit
abbrev OO:=Option Out
noncomputable def D:FD:={ fn:=f185,tl:=bc,ps:=[(.ro,(.aa bd)),(.ro,bd),(.fix 186,.fn)],rs:=[(i64,(ak i64)),(.bool,(ak .bool))],gl:=[(186,lE.D.sig)],lv:=[(3,[0,2,4,8,9,10])],lx:=[(0,[0,2,4,8,9])],od:=[(5,[0,1,2,3,4,5,6,7]),(8,[0,1,2,3,4,5,6,7,8,9,10,11,12,13,14,15])] }
noncomputable def ab (a:Arg):OO:=@lift Out λk=>D.W k a
noncomputable def T0 (a1:Arg) (U:Int×Int):St:={ n:=49,sl:=[(0,.val (.aa bd) a1.1),(2,.val .fn ((186,a1.2.2.1.2):Nat×Int)),(4,.box bd (ak bd) [] a1.2.1),(8,.val i64 (a1.1.length:Int)),(9,.val i64 U.1),(10,.val i64 U.2)],vr:=[],az:=[] }
noncomputable def b0 (self:(Int×Int)->OO) (e0:Int->OO) (a1:Arg) (U:Int×Int):OO:=bif decide (U.1 < U.2) then (if 0<=af ((IntKind.wrap .u64 (af (U.1+U.2))).fdiv (2 ^ 1)) then ((a1.1[(af ((IntKind.wrap .u64 (af (U.1+U.2))).fdiv (2 ^ 1))).toNat]?).bind λa8=>(lE.ab (a8,a1.2.1,())).bind λdg=>bif decide (dg.1 < (0:Int)) then (self (af ((af ((IntKind.wrap .u64 (af (U.1+U.2))).fdiv (2 ^ 1)))+(1:Int)),U.2)) else self (U.1,af ((IntKind.wrap .u64 (af (U.1+U.2))).fdiv (2 ^ 1)))) else none) else e0 U.1
noncomputable def q0 (a1:Arg) (et:Int):OO:=bif decide (et < (a1.1.length:Int)) then (if 0<=et then ((a1.1[et.toNat]?).bind λrL=>(lE.ab (rL,a1.2.1,())).bind λjz=>some (et,decide (jz.1=(0:Int)),())) else none) else some (et,false,())
noncomputable def s0 (k:Nat) (a1:Arg):(Int×Int)->OO:=λU=>D.L k [1,1,1,0,0,0] [0,2,4,8,9,10] [] (ah 0 (av (D.N k [1,1,1,1]) D.K0)) (T0 a1 U)
noncomputable def r0 (k:Nat) (a1:Arg):(Int×Int)->OO:=al (λw v=>b0 w (q0 a1) a1 v) k
theorem aq (k:Nat) (a1:Arg):s0 k a1=r0 k a1:=
 funext λU=>ap _ _ _ (T0 a1) _ (λrec v=>by kernel_rfl) k U
noncomputable def p (l0:(Int×Int)->OO) (a1:Arg):OO:=l0 ((0:Int),(a1.1.length:Int))
theorem ae (k:Nat) (a1:Arg):@Eq OO (D.W k a1) (p (r0 k a1) a1):=
 aQ (b:=p (s0 k a1) a1) (by kernel_rfl) (by rw[aq])
theorem ok:Ok prog 185 D.sig:=am func185 aw (by kernel_rfl) (fc lE.ok (aj _))
end bv
namespace jT
abbrev Arg:Type:=Change×(List Row)×Unit
abbrev Out:Type:=Bool×Unit
noncomputable def D:FD:={ fn:=f263,tl:=bc,ps:=[(.ro,an),(.ro,(.aa bd))],rs:=[(.bool,(ak .bool))],gl:=[(133,du.D.sig),(185,bv.D.sig)],od:=[(2,[0,1,2,3,4,5,6,7,8,9,10,11,12,13,14,15,16,17])] }
noncomputable def ab (a:Arg):Option Out:=@lift Out λk=>D.W k a
noncomputable def p (a1:Arg):Option Out:=(du.ab (a1.1,())).bind λr2=>(bv.ab (a1.2.1,r2.1,((186,0):Nat×Int),())).bind λr3=>bif (r3.2.1 == a1.1.1) then (bif !r3.2.1 then (some (true,())) else if 0<=r3.1 then ((a1.2.1[r3.1.toNat]?).bind λx4=>some ((Ty.eq bd x4 a1.1.2.1),())) else none) else some (false,())
theorem ae (k:Nat) (a1:Arg):@Eq (Option Out) (D.W k a1) (p a1):=by kernel_rfl
theorem ok:Ok prog 263 D.sig:=am func263 aw (by kernel_rfl) (fc du.ok (fc bv.ok (aj _)))
end jT
namespace qh
abbrev Arg:Type:=(List Row)×Change×Unit
abbrev Out:Type:=(List Row)×Unit
abbrev OO:=Option Out
noncomputable def D:FD:={ fn:=f304,tl:=bc,ps:=[(.ro,(.aa bd)),(.ro,an)],rs:=[((.aa bd),(ai (.aa bd)))],gl:=[(133,du.D.sig),(185,bv.D.sig)] }
noncomputable def ab (a:Arg):OO:=@lift Out λk=>D.W k a
noncomputable def p (a1:Arg):OO:=(du.ab (a1.2.1,())).bind λr2=>(bv.ab (a1.1,r2.1,((186,0):Nat×Int),())).bind λr3=>if 0<=r3.1/\r3.1<=(a1.1.length:Int) then (if ([]:List Row).length+((a1.1.take r3.1.toNat).drop 0).length<=cg then (let y4:=([]:List Row)++((a1.1.take r3.1.toNat).drop 0);let j8:=λ(p7:List Row)=>(let j11:=λ(Xh:Int)=>(if 0<=Xh/\Xh<=(a1.1.length:Int) then (if p7.length+((a1.1.take a1.1.length).drop Xh.toNat).length<=cg then (let y12:=p7++((a1.1.take a1.1.length).drop Xh.toNat);some (y12,())) else none) else none:OO);bif r3.2.1 then (j11 (af (r3.1+(1:Int)))) else j11 r3.1:OO);bif a1.2.1.2.2.1 then (if y4.length+[a1.2.1.2.2.2.1].length<=cg then (j8 (y4++[a1.2.1.2.2.2.1])) else none) else j8 y4) else none) else none
theorem ae (k:Nat) (a1:Arg):@Eq OO (D.W k a1) (p a1):=by kernel_rfl
theorem ok:Ok prog 304 D.sig:=am func304 aw (by kernel_rfl) (fc du.ok (fc bv.ok (aj _)))
end qh
namespace f_
abbrev Arg:Type:=(List Row)×(List Change)×Unit
abbrev Out:Type:=zo×Unit
abbrev OO:=Option Out
noncomputable def D:FD:={ fn:=f256,tl:=bc,ps:=[(.ro,(.aa bd)),(.ro,(.aa an))],rs:=[(vS,(ai vS))],gl:=[(103,f0.D.sig),(208,iF.D.sig),(257,kj.D.sig),(263,jT.D.sig),(304,qh.D.sig)],lv:=[(6,[4,6,18,19,20])],lx:=[(0,[4,6])] }
noncomputable def ab (a:Arg):OO:=@lift Out λk=>D.W k a
noncomputable def T0 (a1:Arg) (cq:(List Row)×Int):St:={ n:=45,sl:=[(4,.box vS (ai vS) [] ((0:Int),([]:List Row),())),(6,.own (.aa bd) (ai (.aa bd)) [] cq.1),(18,.val (.aa an) a1.2.1),(19,.val i64 (a1.2.1.length:Int)),(20,.val i64 cq.2)],vr:=[],az:=[] }
noncomputable def b0 (self:((List Row)×Int)->OO) (e0:(List Row)->OO) (a1:Arg) (cq:(List Row)×Int):OO:=bif decide (cq.2 < (a1.2.1.length:Int)) then (if 0<=cq.2 then ((a1.2.1[cq.2.toNat]?).bind λdw=>(iF.ab (dw,())).bind λjy=>bif !decide (jy.1=(0:Int)) then (some ((jy.1,([]:List Row),()),())) else (jT.ab (dw,cq.1,())).bind λjz=>bif !jz.1 then (some (((8:Int),([]:List Row),()),())) else (qh.ab (cq.1,dw,())).bind λpF=>self (pF.1,af (cq.2+(1:Int)))) else none) else e0 cq.1
noncomputable def q0 (a1:Arg) (uZ:(List Row)):OO:=bif decide ((60:Int) < (uZ.length:Int)) then (some (((2:Int),([]:List Row),()),())) else some (((0:Int),uZ,()),())
noncomputable def s0 (k:Nat) (a1:Arg):((List Row)×Int)->OO:=λcq=>D.L k [1,1,1,0,1,0,0] [4,6,18,19,20] [] (ah 0 (av (D.N k [1,1,1,1]) D.K0)) (T0 a1 cq)
noncomputable def r0 (k:Nat) (a1:Arg):((List Row)×Int)->OO:=al (λw v=>b0 w (q0 a1) a1 v) k
theorem aq (k:Nat) (a1:Arg):s0 k a1=r0 k a1:=
 funext λcq=>ap _ _ _ (T0 a1) _ (λrec v=>by kernel_rfl) k cq
noncomputable def p (l0:((List Row)×Int)->OO) (a1:Arg):OO:=(f0.ab (a1.1,())).bind λr2=>bif !decide (r2.1=(0:Int)) then (some ((r2.1,([]:List Row),()),())) else (kj.ab (a1.1,())).bind λr3=>l0 (r3.1,(0:Int))
theorem ae (k:Nat) (a1:Arg):@Eq OO (D.W k a1) (p (r0 k a1) a1):=
 aQ (b:=p (s0 k a1) a1) (by kernel_rfl) (by rw[aq])
theorem ok:Ok prog 256 D.sig:=am func256 aw (by kernel_rfl) (fc f0.ok (fc iF.ok (fc kj.ok (fc jT.ok (fc qh.ok (aj _))))))
end f_
namespace jW
abbrev Arg:Type:=(List Row)×(List Tx)×Unit
abbrev Out:Type:=(List Row)×Int×Unit
abbrev OO:=Option Out
noncomputable def D:FD:={ fn:=f176,tl:=bc,ps:=[(.ro,(.aa bd)),(.ro,(.aa ca))],rs:=[((.aa bd),(ai (.aa bd))),(i64,(ak i64))],gl:=[(134,kW.D.sig),(256,f_.D.sig),(257,kj.D.sig)],lv:=[(2,[0,9,10,11])],lx:=[(0,[0])],lf:=[(2,[(0,(.aa false (.pair .leaf (.pair .leaf (.pair .leaf (.pair .leaf .leaf))))))])],od:=[(6,[0,1,2,3])] }
noncomputable def ab (a:Arg):OO:=@lift Out λk=>D.W k a
noncomputable def T0 (a1:Arg) (U:(List Row)×Int):St:={ n:=30,sl:=[(0,.val (.aa bd) U.1),(9,.val (.aa ca) a1.2.1),(10,.val i64 (a1.2.1.length:Int)),(11,.val i64 U.2)],vr:=[],az:=[] }
noncomputable def b0 (self:((List Row)×Int)->OO) (e0:(List Row)->OO) (a1:Arg) (U:(List Row)×Int):OO:=bif decide (U.2 < (a1.2.1.length:Int)) then (if 0<=U.2 then ((a1.2.1[U.2.toNat]?).bind λa8=>(kW.ab (a8.2.1,())).bind λdg=>(f_.ab (U.1,dg.1,())).bind λls=>bif !decide (ls.1.1=(0:Int)) then (some (([]:List Row),ls.1.1,())) else self (ls.1.2.1,af (U.2+(1:Int)))) else none) else e0 U.1
noncomputable def q0 (a1:Arg) (qY:(List Row)):OO:=(kj.ab (qY,())).bind λjz=>some (jz.1,(0:Int),())
noncomputable def s0 (k:Nat) (a1:Arg):((List Row)×Int)->OO:=λU=>D.L k [1,0,1,0,0] [0,9,10,11] [(0,(.aa false (.pair .leaf (.pair .leaf (.pair .leaf (.pair .leaf .leaf))))))] (ah 0 (av (D.N k [1,1]) D.K0)) (T0 a1 U)
noncomputable def r0 (k:Nat) (a1:Arg):((List Row)×Int)->OO:=al (λw v=>b0 w (q0 a1) a1 v) k
theorem aq (k:Nat) (a1:Arg):s0 k a1=r0 k a1:=
 funext λU=>ap _ _ _ (T0 a1) _ (λrec v=>by kernel_rfl) k U
noncomputable def p (l0:((List Row)×Int)->OO) (a1:Arg):OO:=l0 (a1.1,(0:Int))
theorem ae (k:Nat) (a1:Arg):@Eq OO (D.W k a1) (p (r0 k a1) a1):=
 aQ (b:=p (s0 k a1) a1) (by kernel_rfl) (by rw[aq])
theorem ok:Ok prog 176 D.sig:=am func176 aw (by kernel_rfl) (fc kW.ok (fc f_.ok (fc kj.ok (aj _))))
end jW
namespace nU
abbrev Arg:Type:=Plain×Unit
abbrev Out:Type:=Int×Unit
noncomputable def D:FD:={ fn:=f100,tl:=bc,ps:=[(.ro,Cg)],rs:=[(i64,(ak i64))],gl:=[(98,h_.D.sig),(103,f0.D.sig),(104,ct.D.sig),(175,ey.D.sig),(176,jW.D.sig)],od:=[(7,[0,1,2,3,4,5,6,7,8,9,10,11,12,13,14,15,16,17,18,19,20,21,22,23])],ar:=[(7,[1,6,11,13,18,20])],bx:=[(7,[1])] }
noncomputable def ab (a:Arg):Option Out:=@lift Out λk=>D.W k a
noncomputable def p (a1:Arg):Option Out:=(f0.ab (a1.1.1,())).bind λr2=>bif !decide (r2.1=(0:Int)) then (some (r2.1,())) else (ct.ab (a1.1.2.1,())).bind λr3=>bif !decide (r3.1=(0:Int)) then (some (r3.1,())) else let j8:Option Out:=(ey.ab (a1.1.1,a1.1.2.1,())).bind λr9=>bif decide ((12:Int) < (r9.1.length:Int)) then (some ((2:Int),())) else (jW.ab (a1.1.1,a1.1.2.1,())).bind λuY=>bif !decide (uY.2.1=(0:Int)) then (some ((8:Int),())) else some ((0:Int),());(h_.ab (a1.1.2.2.1,(1:Int),(100:Int),())).bind λr4=>bif !r4.1 then (some ((3:Int),())) else bif decide ((0:Int) < (a1.1.2.1.length:Int)) then (if 0<=af ((a1.1.2.1.length:Int) - (1:Int)) then ((a1.1.2.1[(af ((a1.1.2.1.length:Int) - (1:Int))).toNat]?).bind λx5=>bif decide (a1.1.2.2.1<=x5.1) then (some ((3:Int),())) else j8) else none) else j8
theorem ae (k:Nat) (a1:Arg):@Eq (Option Out) (D.W k a1) (p a1):=by kernel_rfl
theorem ok:Ok prog 100 D.sig:=am func100 aw (by kernel_rfl) (fc h_.ok (fc f0.ok (fc ct.ok (fc ey.ok (fc jW.ok (aj _))))))
end nU
namespace mg
abbrev Arg:Type:=(List Seen)×Unit
abbrev Out:Type:=(List Row)×Unit
abbrev OO:=Option Out
noncomputable def D:FD:={ fn:=f101,tl:=bc,ps:=[(.ro,(.aa gc))],rs:=[((.aa bd),(ai (.aa bd)))],lv:=[(3,[3,6,7,8])],lx:=[(0,[3])] }
noncomputable def ab (a:Arg):OO:=@lift Out λk=>D.W k a
noncomputable def T0 (a1:Arg) (U:(List Row)×Int):St:={ n:=19,sl:=[(3,.own (.aa bd) (ai (.aa bd)) [] U.1),(6,.val (.aa gc) a1.1),(7,.val i64 (a1.1.length:Int)),(8,.val i64 U.2)],vr:=[],az:=[] }
noncomputable def b0 (self:((List Row)×Int)->OO) (e0:(List Row)->OO) (a1:Arg) (U:(List Row)×Int):OO:=bif decide (U.2 < (a1.1.length:Int)) then (if 0<=U.2 then ((a1.1[U.2.toNat]?).bind λa8=>if U.1.length+[a8.1].length<=cg then (self (U.1++[a8.1],af (U.2+(1:Int)))) else none) else none) else e0 U.1
noncomputable def q0 (a1:Arg) (mM:(List Row)):OO:=some (mM,())
noncomputable def s0 (k:Nat) (a1:Arg):((List Row)×Int)->OO:=λU=>D.L k [1,1,0,1,0,0] [3,6,7,8] [] (ah 0 (av (D.N k [1,1,1]) D.K0)) (T0 a1 U)
noncomputable def r0 (k:Nat) (a1:Arg):((List Row)×Int)->OO:=al (λw v=>b0 w (q0 a1) a1 v) k
theorem aq (k:Nat) (a1:Arg):s0 k a1=r0 k a1:=
 funext λU=>ap _ _ _ (T0 a1) _ (λrec v=>by kernel_rfl) k U
noncomputable def p (l0:((List Row)×Int)->OO) (a1:Arg):OO:=l0 (([]:List Row),(0:Int))
theorem ae (k:Nat) (a1:Arg):@Eq OO (D.W k a1) (p (r0 k a1) a1):=
 aQ (b:=p (s0 k a1) a1) (by kernel_rfl) (by rw[aq])
theorem ok:Ok prog 101 D.sig:=am func101 aw (by kernel_rfl) (aj _)
end mg
namespace e_
abbrev Arg:Type:=(List (List UInt8))×(List (List UInt8))×(Nat×Int)×Unit
abbrev Out:Type:=Bool×Unit
abbrev OO:=Option Out
noncomputable def D:FD:={ fn:=f177,tl:=bc,ps:=[(.ro,(.aa (.aa u8))),(.ro,(.aa (.aa u8))),(.fix 178,.fn)],rs:=[(.bool,(ak .bool))],gl:=[(178,fa.D.sig)],lv:=[(4,[1,2,15,16,17])],lx:=[(0,[])] }
noncomputable def ab (a:Arg):OO:=@lift Out λk=>D.W k a
noncomputable def T0 (a1:Arg) (U:Int):St:={ n:=32,sl:=[(1,.val (.aa (.aa u8)) a1.2.1),(2,.val .fn ((178,a1.2.2.1.2):Nat×Int)),(15,.val (.aa (.aa u8)) a1.1),(16,.val i64 (a1.1.length:Int)),(17,.val i64 U)],vr:=[],az:=[] }
noncomputable def b0 (self:Int->OO) (e0:(Unit)->OO) (a1:Arg) (U:Int):OO:=bif decide (U < (a1.1.length:Int)) then (if 0<=U then ((a1.1[U.toNat]?).bind λa8=>if 0<=U then ((a1.2.1[U.toNat]?).bind λgx=>(fa.ab (a8,gx,())).bind λls=>bif !ls.1 then (some (false,())) else self (af (U+(1:Int)))) else none) else none) else e0 ()
noncomputable def q0 (a1:Arg) (qY:(Unit)):OO:=some (true,())
noncomputable def s0 (k:Nat) (a1:Arg):(Int)->OO:=λU=>D.L k [1,1,0,1,0,0] [1,2,15,16,17] [] (ah 0 (av (D.N k [1,1,1]) D.K0)) (T0 a1 U)
noncomputable def r0 (k:Nat) (a1:Arg):(Int)->OO:=al (λw v=>b0 w (q0 a1) a1 v) k
theorem aq (k:Nat) (a1:Arg):s0 k a1=r0 k a1:=
 funext λU=>ap _ _ _ (T0 a1) _ (λrec v=>by kernel_rfl) k U
noncomputable def p (l0:(Int)->OO) (a1:Arg):OO:=bif !decide ((a1.1.length:Int)=(a1.2.1.length:Int)) then (some (false,())) else l0 (0:Int)
theorem ae (k:Nat) (a1:Arg):@Eq OO (D.W k a1) (p (r0 k a1) a1):=
 aQ (b:=p (s0 k a1) a1) (by kernel_rfl) (by rw[aq])
theorem ok:Ok prog 177 D.sig:=am func177 aw (by kernel_rfl) (fc fa.ok (aj _))
end e_
namespace pP
abbrev Arg:Type:=(List (List UInt8))×(List (List UInt8))×Unit
abbrev Out:Type:=Bool×Unit
noncomputable def D:FD:={ fn:=f102,tl:=bc,ps:=[(.ro,(.aa (.aa u8))),(.ro,(.aa (.aa u8)))],rs:=[(.bool,(ak .bool))],gl:=[(177,e_.D.sig)] }
noncomputable def ab (a:Arg):Option Out:=@lift Out λk=>D.W k a
noncomputable def p (a1:Arg):Option Out:=(e_.ab (a1.1,a1.2.1,((178,0):Nat×Int),())).bind λr2=>some (r2.1,())
theorem ae (k:Nat) (a1:Arg):@Eq (Option Out) (D.W k a1) (p a1):=by kernel_rfl
theorem ok:Ok prog 102 D.sig:=am func102 aw (by kernel_rfl) (fc e_.ok (aj _))
end pP
namespace o8
abbrev Arg:Type:=bj×Unit
abbrev Out:Type:=Int×Unit
noncomputable def D:FD:={ fn:=f46,tl:=bc,ps:=[(.ro,ci)],rs:=[(i64,(ak i64))],gl:=[(79,oq.D.sig),(81,py.D.sig),(97,jg.D.sig),(98,h_.D.sig),(99,fq.D.sig),(100,nU.D.sig),(101,mg.D.sig),(102,pP.D.sig)],od:=[(13,[0,2,3,4,5,1,6,7,8])] }
noncomputable def ab (a:Arg):Option Out:=@lift Out λk=>D.W k a
noncomputable def p (a1:Arg):Option Out:=(jg.ab (a1.1.2.2.1,())).bind λr2=>bif !decide (r2.1=(0:Int)) then (some (r2.1,())) else bif !a1.1.1 then (bif decide ((0:Int) < (a1.1.2.1.length:Int)) then (some ((1:Int),())) else bif decide ((0:Int) < (a1.1.2.2.2.1.length:Int)) then (some ((1:Int),())) else bif decide ((0:Int) < (a1.1.2.2.1.2.1.length:Int)) then (some ((1:Int),())) else (h_.ab (a1.1.2.2.2.2.1,(1:Int),(100:Int),())).bind λr3=>bif !r3.1 then (some ((3:Int),())) else some ((0:Int),())) else (fq.ab (a1.1.2.1,())).bind λr4=>bif !decide (r4.2.1=(0:Int)) then (some (r4.2.1,())) else (mg.ab (r4.1,())).bind λr5=>(nU.ab ((r5.1,a1.1.2.2.2.1,a1.1.2.2.2.2.1,()),())).bind λr6=>bif !decide (r6.1=(0:Int)) then (some (r6.1,())) else (oq.ab (a1.1.2.2.1,())).bind λr7=>(py.ab (r7.1,())).bind λr8=>bif !decide (r8.2.1=(0:Int)) then (some ((8:Int),())) else (pP.ab (r8.1,a1.1.2.1,())).bind λr9=>bif !r9.1 then (some ((8:Int),())) else some ((0:Int),())
theorem ae (k:Nat) (a1:Arg):@Eq (Option Out) (D.W k a1) (p a1):=by kernel_rfl
theorem ok:Ok prog 46 D.sig:=am func46 aw (by kernel_rfl) (fc oq.ok (fc py.ok (fc jg.ok (fc h_.ok (fc fq.ok (fc nU.ok (fc mg.ok (fc pP.ok (aj _)))))))))
end o8
namespace li
abbrev Arg:Type:=(List (List UInt8))×Unit
abbrev Out:Type:=(List (List UInt8))×Unit
abbrev OO:=Option Out
noncomputable def D:FD:={ fn:=f82,tl:=bc,ps:=[(.ro,(.aa (.aa u8)))],rs:=[((.aa (.aa u8)),(ai (.aa (.aa u8))))],gl:=[(114,cn.D.sig)],lv:=[(3,[3,6,7,8])],lx:=[(0,[3])] }
noncomputable def ab (a:Arg):OO:=@lift Out λk=>D.W k a
noncomputable def T0 (a1:Arg) (U:(List (List UInt8))×Int):St:={ n:=19,sl:=[(3,.own (.aa (.aa u8)) (ai (.aa (.aa u8))) [] U.1),(6,.val (.aa (.aa u8)) a1.1),(7,.val i64 (a1.1.length:Int)),(8,.val i64 U.2)],vr:=[],az:=[] }
noncomputable def b0 (self:((List (List UInt8))×Int)->OO) (e0:(List (List UInt8))->OO) (a1:Arg) (U:(List (List UInt8))×Int):OO:=bif decide (U.2 < (a1.1.length:Int)) then (if 0<=U.2 then ((a1.1[U.2.toNat]?).bind λa8=>(cn.ab (a8,())).bind λdg=>if U.1.length+[dg.1].length<=cg then (self (U.1++[dg.1],af (U.2+(1:Int)))) else none) else none) else e0 U.1
noncomputable def q0 (a1:Arg) (et:(List (List UInt8))):OO:=some (et,())
noncomputable def s0 (k:Nat) (a1:Arg):((List (List UInt8))×Int)->OO:=λU=>D.L k [1,1,0,1,0,0] [3,6,7,8] [] (ah 0 (av (D.N k [1,1,1]) D.K0)) (T0 a1 U)
noncomputable def r0 (k:Nat) (a1:Arg):((List (List UInt8))×Int)->OO:=al (λw v=>b0 w (q0 a1) a1 v) k
theorem aq (k:Nat) (a1:Arg):s0 k a1=r0 k a1:=
 funext λU=>ap _ _ _ (T0 a1) _ (λrec v=>by kernel_rfl) k U
noncomputable def p (l0:((List (List UInt8))×Int)->OO) (a1:Arg):OO:=l0 (([]:List (List UInt8)),(0:Int))
theorem ae (k:Nat) (a1:Arg):@Eq OO (D.W k a1) (p (r0 k a1) a1):=
 aQ (b:=p (s0 k a1) a1) (by kernel_rfl) (by rw[aq])
theorem ok:Ok prog 82 D.sig:=am func82 aw (by kernel_rfl) (fc cn.ok (aj _))
end li
namespace qi
abbrev Arg:Type:=Log×Unit
abbrev Out:Type:=Log×Unit
noncomputable def D:FD:={ fn:=f83,tl:=bc,ps:=[(.ro,ee)],rs:=[(ee,(ai ee))],gl:=[(114,cn.D.sig)],od:=[(1,[0,1,3,4,2,5,6,7])] }
noncomputable def ab (a:Arg):Option Out:=@lift Out λk=>D.W k a
noncomputable def p (a1:Arg):Option Out:=(cn.ab (a1.1.1,())).bind λr2=>(cn.ab (a1.1.2.1,())).bind λr3=>some ((r2.1,r3.1,()),())
theorem ae (k:Nat) (a1:Arg):@Eq (Option Out) (D.W k a1) (p a1):=by kernel_rfl
theorem ok:Ok prog 83 D.sig:=am func83 aw (by kernel_rfl) (fc cn.ok (aj _))
end qi
namespace ly
abbrev Arg:Type:=(List Change)×Unit
abbrev Out:Type:=(List Change)×Unit
noncomputable def D:FD:={ fn:=f188,tl:=bc,ps:=[(.ro,(.aa an))],rs:=[((.aa an),(ai (.aa an)))] }
noncomputable def ab (a:Arg):Option Out:=@lift Out λk=>D.W k a
noncomputable def p (a1:Arg):Option Out:=zP a1.1 (some (([]:List Change),())) (if ([]:List Change).length+a1.1.length<=cg then (some (([]:List Change)++a1.1,())) else none)
theorem ae (k:Nat) (a1:Arg):@Eq (Option Out) (D.W k a1) (p a1):=by kernel_rfl
theorem ok:Ok prog 188 D.sig:=am func188 aw (by kernel_rfl) (aj _)
end ly
namespace mc
abbrev Arg:Type:=(List Int)×Unit
abbrev Out:Type:=(List Int)×Unit
noncomputable def D:FD:={ fn:=f189,tl:=bc,ps:=[(.ro,(.aa i64))],rs:=[((.aa i64),(ai (.aa i64)))] }
noncomputable def ab (a:Arg):Option Out:=@lift Out λk=>D.W k a
noncomputable def p (a1:Arg):Option Out:=zP a1.1 (some (([]:List Int),())) (if ([]:List Int).length+a1.1.length<=cg then (some (([]:List Int)++a1.1,())) else none)
theorem ae (k:Nat) (a1:Arg):@Eq (Option Out) (D.W k a1) (p a1):=by kernel_rfl
theorem ok:Ok prog 189 D.sig:=am func189 aw (by kernel_rfl) (aj _)
end mc
namespace nm
abbrev Arg:Type:=(List Key)×Unit
abbrev Out:Type:=(List Key)×Unit
noncomputable def D:FD:={ fn:=f190,tl:=bc,ps:=[(.ro,(.aa be))],rs:=[((.aa be),(ai (.aa be)))] }
noncomputable def ab (a:Arg):Option Out:=@lift Out λk=>D.W k a
noncomputable def p (a1:Arg):Option Out:=zP a1.1 (some (([]:List Key),())) (if ([]:List Key).length+a1.1.length<=cg then (some (([]:List Key)++a1.1,())) else none)
theorem ae (k:Nat) (a1:Arg):@Eq (Option Out) (D.W k a1) (p a1):=by kernel_rfl
theorem ok:Ok prog 190 D.sig:=am func190 aw (by kernel_rfl) (aj _)
end nm
namespace nz
abbrev Arg:Type:=(List Tx)×Unit
abbrev Out:Type:=(List Tx)×Unit
abbrev OO:=Option Out
noncomputable def D:FD:={ fn:=f108,tl:=bc,ps:=[(.ro,(.aa ca))],rs:=[((.aa ca),(ai (.aa ca)))],gl:=[(188,ly.D.sig),(189,mc.D.sig),(190,nm.D.sig)],lv:=[(3,[3,6,7,8])],lx:=[(0,[3])],od:=[(5,[0,1,2,3,4,6,7,9,10,5,8,11,12,13,14,15])] }
noncomputable def ab (a:Arg):OO:=@lift Out λk=>D.W k a
noncomputable def T0 (a1:Arg) (U:(List Tx)×Int):St:={ n:=29,sl:=[(3,.own (.aa ca) (ai (.aa ca)) [] U.1),(6,.val (.aa ca) a1.1),(7,.val i64 (a1.1.length:Int)),(8,.val i64 U.2)],vr:=[],az:=[] }
noncomputable def b0 (self:((List Tx)×Int)->OO) (e0:(List Tx)->OO) (a1:Arg) (U:(List Tx)×Int):OO:=bif decide (U.2 < (a1.1.length:Int)) then (if 0<=U.2 then ((a1.1[U.2.toNat]?).bind λa8=>(ly.ab (a8.2.1,())).bind λdg=>(mc.ab (a8.2.2.1,())).bind λls=>(nm.ab (a8.2.2.2.1,())).bind λjy=>if U.1.length+[(a8.1,dg.1,ls.1,jy.1,())].length<=cg then (let BP:=U.1++[(a8.1,dg.1,ls.1,jy.1,())];self (BP,af (U.2+(1:Int)))) else none) else none) else e0 U.1
noncomputable def q0 (a1:Arg) (rM:(List Tx)):OO:=some (rM,())
noncomputable def s0 (k:Nat) (a1:Arg):((List Tx)×Int)->OO:=λU=>D.L k [1,1,0,1,0,0] [3,6,7,8] [] (ah 0 (av (D.N k [1,1,1]) D.K0)) (T0 a1 U)
noncomputable def r0 (k:Nat) (a1:Arg):((List Tx)×Int)->OO:=al (λw v=>b0 w (q0 a1) a1 v) k
theorem aq (k:Nat) (a1:Arg):s0 k a1=r0 k a1:=
 funext λU=>ap _ _ _ (T0 a1) _ (λrec v=>by kernel_rfl) k U
noncomputable def p (l0:((List Tx)×Int)->OO) (a1:Arg):OO:=l0 (([]:List Tx),(0:Int))
theorem ae (k:Nat) (a1:Arg):@Eq OO (D.W k a1) (p (r0 k a1) a1):=
 aQ (b:=p (s0 k a1) a1) (by kernel_rfl) (by rw[aq])
theorem ok:Ok prog 108 D.sig:=am func108 aw (by kernel_rfl) (fc ly.ok (fc mc.ok (fc nm.ok (aj _))))
end nz
namespace oE
abbrev Arg:Type:=bj×Unit
abbrev Out:Type:=bj×Unit
noncomputable def D:FD:={ fn:=f50,tl:=bc,ps:=[(.ro,ci)],rs:=[(ci,(ai ci))],gl:=[(82,li.D.sig),(83,qi.D.sig),(108,nz.D.sig)],od:=[(1,[0,1,2,3,5,6,8,9,11,12,4,7,10,13,14])] }
noncomputable def ab (a:Arg):Option Out:=@lift Out λk=>D.W k a
noncomputable def p (a1:Arg):Option Out:=(li.ab (a1.1.2.1,())).bind λr2=>(qi.ab (a1.1.2.2.1,())).bind λr3=>(nz.ab (a1.1.2.2.2.1,())).bind λr4=>some ((a1.1.1,r2.1,r3.1,r4.1,a1.1.2.2.2.2.1,()),())
theorem ae (k:Nat) (a1:Arg):@Eq (Option Out) (D.W k a1) (p a1):=by kernel_rfl
theorem ok:Ok prog 50 D.sig:=am func50 aw (by kernel_rfl) (fc li.ok (fc qi.ok (fc nz.ok (aj _))))
end oE
namespace mK
abbrev Arg:Type:=Log×bm×Unit
abbrev Out:Type:=Log×Bool×Unit
noncomputable def D:FD:={ fn:=f191,tl:=bc,ps:=[(.ro,ee),(.ro,ek)],rs:=[(ee,(ak ee)),(.bool,(ak .bool))],gl:=[(49,mw.D.sig),(114,cn.D.sig),(262,fj.D.sig)],od:=[(4,[0,1,2,3,5,4,6,7,8,9])],ar:=[(4,[1,3])],bx:=[(4,[2])] }
noncomputable def ab (a:Arg):Option Out:=@lift Out λk=>D.W k a
noncomputable def p (a1:Arg):Option Out:=(fj.ab (a1.2.1,())).bind λr2=>(mw.ab (a1.1,())).bind λr3=>bif decide ((16000:Int) < af (r3.1+(r2.1.length:Int))) then (some (a1.1,false,())) else (cn.ab (a1.1.2.1,())).bind λr4=>if r4.1.length+r2.1.length<=cg then (some ((a1.1.1,r4.1++r2.1,()),true,())) else none
theorem ae (k:Nat) (a1:Arg):@Eq (Option Out) (D.W k a1) (p a1):=by kernel_rfl
theorem ok:Ok prog 191 D.sig:=am func191 aw (by kernel_rfl) (fc mw.ok (fc cn.ok (fc fj.ok (aj _))))
end mK
namespace kl
abbrev Arg:Type:=bj×bm×Unit
abbrev Out:Type:=Int×bj×Unit
noncomputable def D:FD:={ fn:=f109,tl:=bc,ps:=[(.jV (.pair (ak .bool) (.pair (ai (.aa (.aa u8))) (.pair (ak ee) (.pair (.aa true (.pair (ak i64) (.pair (ak (.aa an)) (ai (bq [(.aa i64),(.aa be)]))))) (ak (bq [i64])))))) (.pair (ak .bool) (.pair (ai (.aa (.aa u8))) (.pair (ak ee) (.pair (.aa true (.pair (ak i64) (.pair (ak (.aa an)) (ai (bq [(.aa i64),(.aa be)]))))) (ak (bq [i64])))))),ci),(.ro,ek)],rs:=[(i64,(ak i64))],gl:=[(191,mK.D.sig)],es:=[0],fz:=[(1,3,7),(1,4,7)],od:=[(1,[0,1,2,3,4,5,6,7,8,9,10,11])],ar:=[(1,[])],pd:=[(1,[9])],er:=[(1,[(3,12),(4,12)])] }
noncomputable def ab (a:Arg):Option Out:=@lift Out λk=>D.W k a
noncomputable def p (a1:Arg):Option Out:=(mK.ab (a1.1.2.2.1,a1.2.1,())).bind λr2=>bif !r2.2.1 then (some ((9:Int),a1.1,())) else some ((0:Int),(a1.1.1,a1.1.2.1,r2.1,a1.1.2.2.2),())
theorem ae (k:Nat) (a1:Arg):@Eq (Option Out) (D.W k a1) (p a1):=by kernel_rfl
theorem ok:Ok prog 109 D.sig:=am func109 aw (by kernel_rfl) (fc mK.ok (aj _))
end kl
namespace rz
abbrev Arg:Type:=(List (List UInt8))×Unit
abbrev Out:Type:=aT×Unit
noncomputable def D:FD:={ fn:=f264,tl:=bc,ps:=[(.ro,(.aa (.aa u8)))],rs:=[((.ptr cv),(ai (.ptr cv)))],gl:=[(82,li.D.sig)] }
noncomputable def ab (a:Arg):Option Out:=@lift Out λk=>D.W k a
noncomputable def p (a1:Arg):Option Out:=(li.ab (a1.1,())).bind λr2=>some ((r2.1,([]:List cd),()),())
theorem ae (k:Nat) (a1:Arg):@Eq (Option Out) (D.W k a1) (p a1):=by kernel_rfl
theorem ok:Ok prog 264 D.sig:=am func264 aw (by kernel_rfl) (fc li.ok (aj _))
end rz
namespace pz
abbrev Arg:Type:=(List Seen)×Int×Int×Unit
abbrev Out:Type:=Seen×Bool×Unit
abbrev OO:=Option Out
noncomputable def D:FD:={ fn:=f265,tl:=bc,ps:=[(.ro,(.aa gc)),(.ro,i64),(.ro,i64)],rs:=[(gc,(ak gc)),(.bool,(ak .bool))],lv:=[(2,[1,2,6,10,11,12])],lx:=[(0,[6])] }
noncomputable def ab (a:Arg):OO:=@lift Out λk=>D.W k a
noncomputable def T0 (a1:Arg) (U:Int):St:={ n:=31,sl:=[(1,.val i64 a1.2.1),(2,.val i64 a1.2.2.1),(6,.box gc (ak gc) [] (((0:Int),(0:Int),(0:Int),([]:List UInt8),()),(0:Int),(0:Int),false,(0:Int),(0:Int),())),(10,.val (.aa gc) a1.1),(11,.val i64 (a1.1.length:Int)),(12,.val i64 U)],vr:=[],az:=[] }
noncomputable def b0 (self:Int->OO) (e0:(Unit)->OO) (a1:Arg) (U:Int):OO:=bif decide (U < (a1.1.length:Int)) then (if 0<=U then ((a1.1[U.toNat]?).bind λa8=>bif decide (a8.1.1=a1.2.1) then (bif decide (a8.1.2.1=a1.2.2.1) then (some (a8,true,())) else self (af (U+(1:Int)))) else self (af (U+(1:Int)))) else none) else e0 ()
noncomputable def q0 (a1:Arg) (mM:(Unit)):OO:=some ((((0:Int),(0:Int),(0:Int),([]:List UInt8),()),(0:Int),(0:Int),false,(0:Int),(0:Int),()),false,())
noncomputable def s0 (k:Nat) (a1:Arg):(Int)->OO:=λU=>D.L k [1,0,1,0,0] [1,2,6,10,11,12] [] (ah 0 (av (D.N k [1,1]) D.K0)) (T0 a1 U)
noncomputable def r0 (k:Nat) (a1:Arg):(Int)->OO:=al (λw v=>b0 w (q0 a1) a1 v) k
theorem aq (k:Nat) (a1:Arg):s0 k a1=r0 k a1:=
 funext λU=>ap _ _ _ (T0 a1) _ (λrec v=>by kernel_rfl) k U
noncomputable def p (l0:(Int)->OO) (a1:Arg):OO:=l0 (0:Int)
theorem ae (k:Nat) (a1:Arg):@Eq OO (D.W k a1) (p (r0 k a1) a1):=
 aQ (b:=p (s0 k a1) a1) (by kernel_rfl) (by rw[aq])
theorem ok:Ok prog 265 D.sig:=am func265 aw (by kernel_rfl) (aj _)
end pz
namespace lj
abbrev Arg:Type:=aT×Unit
abbrev Out:Type:=dr×Unit
noncomputable def D:FD:={ fn:=f270,tl:=bc,ps:=[(.sg (ai cv),cv)],rs:=[(db,(ai db))],fz:=[(1,3,7),(1,7,7)],od:=[(1,[0,1,2,3,4,5,6,7,8,9])] }
noncomputable def ab (a:Arg):Option Out:=@lift Out λk=>D.W k a
noncomputable def p (a1:Arg):Option Out:=some (((0:Int),a1.1.2.1,a1.1.1,()),())
theorem ae (k:Nat) (a1:Arg):@Eq (Option Out) (D.W k a1) (p a1):=by kernel_rfl
theorem ok:Ok prog 270 D.sig:=am func270 aw (by kernel_rfl) (aj _)
end lj
namespace mH
abbrev Arg:Type:=aT×Bool×Unit
abbrev Out:Type:=dr×Unit
noncomputable def D:FD:={ fn:=f266,tl:=bc,ps:=[(.sg (ai cv),cv),(.ro,.bool)],rs:=[(db,(ai db))],gl:=[(270,lj.D.sig)] }
noncomputable def ab (a:Arg):Option Out:=@lift Out λk=>D.W k a
noncomputable def p (a1:Arg):Option Out:=bif !a1.2.1 then (some (((9:Int),([]:List cd),([]:List (List UInt8)),()),())) else (lj.ab (a1.1,())).bind λr2=>some (r2.1,())
theorem ae (k:Nat) (a1:Arg):@Eq (Option Out) (D.W k a1) (p a1):=by kernel_rfl
theorem ok:Ok prog 266 D.sig:=am func266 aw (by kernel_rfl) (fc lj.ok (aj _))
end mH
namespace lO
abbrev Arg:Type:=(List UInt8)×(List UInt8)×Unit
abbrev Out:Type:=Int×Unit
noncomputable def D:FD:={ fn:=f353,tl:=bc,ps:=[(.ro,(.aa u8)),(.ro,(.aa u8))],rs:=[(i64,(ak i64))],gl:=[(169,bh.D.sig)] }
noncomputable def ab (a:Arg):Option Out:=@lift Out λk=>D.W k a
noncomputable def p (a1:Arg):Option Out:=(bh.ab (a1.1,())).bind λr2=>bif !decide (r2.1=(0:Int)) then (some (r2.1,())) else bif decide ((a1.2.1.length:Int) < (1:Int)) then (some ((1:Int),())) else bif decide ((20:Int) < (a1.2.1.length:Int)) then (some ((1:Int),())) else some ((0:Int),())
theorem ae (k:Nat) (a1:Arg):@Eq (Option Out) (D.W k a1) (p a1):=by kernel_rfl
theorem ok:Ok prog 353 D.sig:=am func353 aw (by kernel_rfl) (fc bh.ok (aj _))
end lO
namespace kD
abbrev Arg:Type:=(List UInt8)×Unit
abbrev Out:Type:=Int×Unit
abbrev OO:=Option Out
noncomputable def D:FD:={ fn:=f354,tl:=bc,ps:=[(.ro,(.aa u8))],rs:=[(i64,(ak i64))],gl:=[(170,e8.D.sig),(253,lw.D.sig)],lv:=[(3,[0,3,12,13])],lx:=[(0,[3])] }
noncomputable def ab (a:Arg):OO:=@lift Out λk=>D.W k a
noncomputable def T0 (a1:Arg) (eh:Int) (cq:Int×Int):St:={ n:=27,sl:=[(0,.val (.aa u8) a1.1),(3,.val i64 cq.1),(12,.val i64 eh),(13,.val i64 cq.2)],vr:=[],az:=[] }
noncomputable def b0 (self:(Int×Int)->OO) (e0:Int->OO) (a1:Arg) (eh:Int) (cq:Int×Int):OO:=bif decide (cq.2 < eh) then ((lw.ab (a1.1,cq.2,())).bind λjy=>self (af (cq.1 - jy.2.1),af (cq.2+(1:Int)))) else e0 cq.1
noncomputable def q0 (a1:Arg) (eh:Int) (lg:Int):OO:=some (lg,())
noncomputable def s0 (k:Nat) (a1:Arg):Int->(Int×Int)->OO:=λeh=>λcq=>D.L k [1,1,0,1,0,0] [0,3,12,13] [] (ah 0 (av (D.N k [1,1,1]) D.K0)) (T0 a1 eh cq)
noncomputable def r0 (k:Nat) (a1:Arg):Int->(Int×Int)->OO:=λeh=>al (λw v=>b0 w (q0 a1 eh) a1 eh v) k
theorem aq (k:Nat) (a1:Arg):s0 k a1=r0 k a1:=
 funext λeh=>funext λcq=>ap _ _ _ (T0 a1 eh) _ (λrec v=>by kernel_rfl) k cq
noncomputable def p (l0:Int->(Int×Int)->OO) (a1:Arg):OO:=(e8.ab (a1.1,())).bind λr2=>(e8.ab (a1.1,())).bind λr3=>l0 r3.1 (af ((62:Int) - (af ((2:Int)*r2.1))),(0:Int))
theorem ae (k:Nat) (a1:Arg):@Eq OO (D.W k a1) (p (r0 k a1) a1):=
 aQ (b:=p (s0 k a1) a1) (by kernel_rfl) (by rw[aq])
theorem ok:Ok prog 354 D.sig:=am func354 aw (by kernel_rfl) (fc e8.ok (fc lw.ok (aj _)))
end kD
namespace nI
abbrev Arg:Type:=(List UInt8)×Int×Int×(List UInt8)×Unit
abbrev Out:Type:=(List UInt8)×Unit
noncomputable def D:FD:={ fn:=f355,tl:=bc,ps:=[(.ro,(.aa u8)),(.ro,i64),(.ro,i64),(.ro,(.aa u8))],rs:=[((.aa u8),(ai (.aa u8)))],gl:=[(114,cn.D.sig)] }
noncomputable def ab (a:Arg):Option Out:=@lift Out λk=>D.W k a
noncomputable def p (a1:Arg):Option Out:=(cn.ab (a1.1,())).bind λr2=>if 0<=a1.2.2.1/\a1.2.2.1<=(r2.1.length:Int) then (let y3:=oo r2.1 a1.2.2.1.toNat (min a1.2.2.2.1.length (r2.1.length - a1.2.2.1.toNat)) a1.2.2.2.1;if 0<=af ((2:Int)+(af ((2:Int)*a1.2.1)))/\af ((2:Int)+(af ((2:Int)*a1.2.1))) < (y3.length:Int) then ((y3[(af ((2:Int)+(af ((2:Int)*a1.2.1)))).toNat]?).bind λx4=>let y5:=y3.set (af ((2:Int)+(af ((2:Int)*a1.2.1)))).toNat (UInt8.ofInt a1.2.2.1);if 0<=af ((3:Int)+(af ((2:Int)*a1.2.1)))/\af ((3:Int)+(af ((2:Int)*a1.2.1))) < (y5.length:Int) then ((y5[(af ((3:Int)+(af ((2:Int)*a1.2.1)))).toNat]?).bind λx6=>let y7:=y5.set (af ((3:Int)+(af ((2:Int)*a1.2.1)))).toNat (UInt8.ofInt (a1.2.2.2.1.length:Int));some (y7,())) else none) else none) else none
theorem ae (k:Nat) (a1:Arg):@Eq (Option Out) (D.W k a1) (p a1):=by kernel_rfl
theorem ok:Ok prog 355 D.sig:=am func355 aw (by kernel_rfl) (fc cn.ok (aj _))
end nI
namespace gr
abbrev Arg:Type:=(List UInt8)×(List UInt8)×Unit
abbrev Out:Type:=xe×Unit
abbrev OO:=Option Out
noncomputable def D:FD:={ fn:=f336,tl:=bc,ps:=[(.ro,(.aa u8)),(.ro,(.aa u8))],rs:=[(ld,(ai ld))],gl:=[(170,e8.D.sig),(353,lO.D.sig),(354,kD.D.sig),(355,nI.D.sig)],lv:=[(6,[0,1,4,6,7])],lx:=[(0,[0,1,4,6,7])] }
noncomputable def ab (a:Arg):OO:=@lift Out λk=>D.W k a
noncomputable def T0 (a1:Arg) (eh:Int) (cq:Int):St:={ n:=88,sl:=[(0,.val (.aa u8) a1.1),(1,.val (.aa u8) a1.2.1),(4,.box ld (ai ld) [] ((0:Int),(0:Int),([]:List UInt8),())),(6,.val i64 eh),(7,.val i64 cq)],vr:=[],az:=[] }
noncomputable def b0 (self:Int->OO) (e0:Int->OO) (a1:Arg) (eh:Int) (cq:Int):OO:=bif decide (cq < eh) then (if 0<=af ((3:Int)+(af ((2:Int)*cq))) then ((a1.1[(af ((3:Int)+(af ((2:Int)*cq)))).toNat]?).bind λrL=>bif !decide ((rL.toNat:Int)=(0:Int)) then (self (af (cq+(1:Int)))) else e0 cq) else none) else e0 cq
noncomputable def q0 (a1:Arg) (eh:Int) (lg:Int):OO:=let ZR:=λ(Vr:Int)=>((kD.ab (a1.1,())).bind λRl=>bif decide (Rl.1 < af ((a1.2.1.length:Int)+Vr)) then (some (((9:Int),(0:Int),([]:List UInt8),()),())) else (a1.1[1]?).bind λu0=>bif decide (af ((af (u0.toNat:Int)) - (af ((af ((2:Int)+(af ((2:Int)*eh))))+Vr))) < (a1.2.1.length:Int)) then (some (((8:Int),(0:Int),([]:List UInt8),()),())) else (nI.ab (a1.1,lg,af ((af (u0.toNat:Int)) - (a1.2.1.length:Int)),a1.2.1,())).bind λDb=>if 0<=(0:Int)/\(0:Int) < (Db.1.length:Int) then ((Db.1[0]?).bind λDd=>let AD:=Db.1.set 0 (UInt8.ofInt (af (eh+(af (Vr.tdiv (2:Int))))));if 0<=(1:Int)/\(1:Int) < (AD.length:Int) then ((AD[1]?).bind λMG=>let Vs:=AD.set 1 (UInt8.ofInt (af ((af (u0.toNat:Int)) - (a1.2.1.length:Int))));some (((0:Int),lg,Vs,()),())) else none) else none:OO);bif decide (lg=eh) then (bif decide (eh=(16:Int)) then (some (((2:Int),(0:Int),([]:List UInt8),()),())) else ZR (2:Int)) else ZR (0:Int)
noncomputable def s0 (k:Nat) (a1:Arg):Int->(Int)->OO:=λeh=>λcq=>D.L k [1,1,1,1,0,0,0] [0,1,4,6,7] [] (ah 0 (av (D.N k [1,1,1,1,1]) D.K0)) (T0 a1 eh cq)
noncomputable def r0 (k:Nat) (a1:Arg):Int->(Int)->OO:=λeh=>al (λw v=>b0 w (q0 a1 eh) a1 eh v) k
theorem aq (k:Nat) (a1:Arg):s0 k a1=r0 k a1:=
 funext λeh=>funext λcq=>ap _ _ _ (T0 a1 eh) _ (λrec v=>by kernel_rfl) k cq
noncomputable def p (l0:Int->(Int)->OO) (a1:Arg):OO:=(lO.ab (a1.1,a1.2.1,())).bind λr2=>bif !decide (r2.1=(0:Int)) then (some ((r2.1,(0:Int),([]:List UInt8),()),())) else (e8.ab (a1.1,())).bind λr3=>l0 r3.1 (0:Int)
theorem ae (k:Nat) (a1:Arg):@Eq OO (D.W k a1) (p (r0 k a1) a1):=
 aQ (b:=p (s0 k a1) a1) (by kernel_rfl) (by rw[aq])
theorem ok:Ok prog 336 D.sig:=am func336 aw (by kernel_rfl) (fc e8.ok (fc lO.ok (fc kD.ok (fc nI.ok (aj _)))))
end gr
namespace f8
abbrev Arg:Type:=aT×Int×(List UInt8)×Unit
abbrev Out:Type:=aT×Unit
noncomputable def D:FD:={ fn:=f338,tl:=bc,ps:=[(.jV (ai cv) (ai cv),cv),(.ro,i64),(.ro,(.aa u8))],rs:=[],gl:=[(114,cn.D.sig)],es:=[0],od:=[(1,[0,1,2,3,4,5,6,7,8,9,10,11]),(2,[0,1,2,3,4,5,6,7,8,9,10]),(3,[0,1,2,3,4,5,6,7,8]),(4,[0,1,2,3,4,5,6,7,8,9,10,11,12,13])] }
noncomputable def ab (a:Arg):Option Out:=@lift Out λk=>D.W k a
noncomputable def p (a1:Arg):Option Out:=let j9:=λ(p8:aT)=>((cn.ab (a1.2.2.1,())).bind λuY=>if p8.2.1.length+[(a1.2.1,uY.1,())].length<=cg then (some ((p8.1,p8.2.1++[(a1.2.1,uY.1,())],p8.2.2),())) else none:Option Out);bif decide (a1.2.1=(a1.1.1.length:Int)) then ((cn.ab (a1.2.2.1,())).bind λr2=>if a1.1.1.length+[r2.1].length<=cg then (j9 (a1.1.1++[r2.1],a1.1.2)) else none) else if 0<=a1.2.1/\a1.2.1 < (a1.1.1.length:Int) then ((a1.1.1[a1.2.1.toNat]?).bind λx3=>(a1.1.1[a1.2.1.toNat]?).bind λx4=>bif decide (x4=a1.2.2.1) then (some (a1.1,())) else (cn.ab (a1.2.2.1,())).bind λr5=>if 0<=a1.2.1/\a1.2.1 < (a1.1.1.length:Int) then ((a1.1.1[a1.2.1.toNat]?).bind λx6=>j9 (a1.1.1.set a1.2.1.toNat r5.1,a1.1.2)) else none) else none
theorem ae (k:Nat) (a1:Arg):@Eq (Option Out) (D.W k a1) (p a1):=by kernel_rfl
theorem ok:Ok prog 338 D.sig:=am func338 aw (by kernel_rfl) (fc cn.ok (aj _))
end f8
namespace gy
abbrev Arg:Type:=(List UInt8)×Unit
abbrev Out:Type:=xe×Unit
abbrev OO:=Option Out
noncomputable def D:FD:={ fn:=f356,tl:=bc,ps:=[(.ro,(.aa u8))],rs:=[(ld,(ai ld))],gl:=[(169,bh.D.sig),(170,e8.D.sig),(171,ic.D.sig),(173,lZ.D.sig)],lv:=[(9,[0,2,5,6,25,26])],lx:=[(0,[2,5,6]),(1,[0,2,5,6,25,26])] }
noncomputable def ab (a:Arg):OO:=@lift Out λk=>D.W k a
noncomputable def T0 (a1:Arg) (dm:Int) (dj:(List UInt8)×Int×Int):St:={ n:=59,sl:=[(0,.val (.aa u8) a1.1),(2,.box ld (ai ld) [] ((0:Int),(0:Int),([]:List UInt8),())),(5,.own (.aa u8) (ai (.aa u8)) [] dj.1),(6,.val i64 dj.2.1),(25,.val i64 dm),(26,.val i64 dj.2.2)],vr:=[],az:=[] }
noncomputable def b0 (self:((List UInt8)×Int×Int)->OO) (e0:((List UInt8)×Int)->OO) (a1:Arg) (dm:Int) (dj:(List UInt8)×Int×Int):OO:=bif decide (dj.2.2 < dm) then ((ic.ab (a1.1,dj.2.2,())).bind λjz=>bif !jz.1 then (self (dj.1,dj.2.1,af (dj.2.2+(1:Int)))) else (lZ.ab (a1.1,dj.2.2,())).bind λpF=>if 0<=af (dj.2.1 - (pF.1.length:Int))/\af (dj.2.1 - (pF.1.length:Int))<=(dj.1.length:Int) then (let G5:=oo dj.1 (af (dj.2.1 - (pF.1.length:Int))).toNat (min pF.1.length (dj.1.length - (af (dj.2.1 - (pF.1.length:Int))).toNat)) pF.1;if 0<=af ((2:Int)+(af ((2:Int)*dj.2.2)))/\af ((2:Int)+(af ((2:Int)*dj.2.2))) < (G5.length:Int) then ((G5[(af ((2:Int)+(af ((2:Int)*dj.2.2)))).toNat]?).bind λG4=>let Vl:=G5.set (af ((2:Int)+(af ((2:Int)*dj.2.2)))).toNat (UInt8.ofInt (af (dj.2.1 - (pF.1.length:Int))));self (Vl,af (dj.2.1 - (pF.1.length:Int)),af (dj.2.2+(1:Int)))) else none) else none) else e0 (dj.1,dj.2.1)
noncomputable def q0 (a1:Arg) (dm:Int) (Rm:((List UInt8)×Int)):OO:=if 0<=(1:Int)/\(1:Int) < (Rm.1.length:Int) then ((Rm.1[1]?).bind λEB=>some (((0:Int),(0:Int),Rm.1.set 1 (UInt8.ofInt Rm.2),()),())) else none
noncomputable def s0 (k:Nat) (a1:Arg):Int->((List UInt8)×Int×Int)->OO:=λdm=>λdj=>D.L k [1,1,1,1,1,1,0,1,0,0] [0,2,5,6,25,26] [] (ah 0 (av (D.N k [1,1,1,1,1,1,1]) D.K0)) (T0 a1 dm dj)
noncomputable def r0 (k:Nat) (a1:Arg):Int->((List UInt8)×Int×Int)->OO:=λdm=>al (λw v=>b0 w (q0 a1 dm) a1 dm v) k
theorem aq (k:Nat) (a1:Arg):s0 k a1=r0 k a1:=
 funext λdm=>funext λdj=>ap _ _ _ (T0 a1 dm) _ (λrec v=>by kernel_rfl) k dj
noncomputable def p (l0:Int->((List UInt8)×Int×Int)->OO) (a1:Arg):OO:=(bh.ab (a1.1,())).bind λr2=>bif !decide (r2.1=(0:Int)) then (some ((r2.1,(0:Int),([]:List UInt8),()),())) else (e8.ab (a1.1,())).bind λr3=>if 0<=(64:Int)/\(64:Int)<=(64:Int)/\(64:Int)<=(cg:Int) then (if 0<=af ((2:Int)+(af ((2:Int)*r3.1)))/\af ((2:Int)+(af ((2:Int)*r3.1)))<=(a1.1.length:Int) then (let y4:=oo (List.replicate 64 (0:UInt8)) 0 (min ((a1.1.take (af ((2:Int)+(af ((2:Int)*r3.1)))).toNat).drop 0).length (List.replicate 64 (0:UInt8)).length) ((a1.1.take (af ((2:Int)+(af ((2:Int)*r3.1)))).toNat).drop 0);l0 r3.1 (y4,(64:Int),(0:Int))) else none) else none
theorem ae (k:Nat) (a1:Arg):@Eq OO (D.W k a1) (p (r0 k a1) a1):=
 aQ (b:=p (s0 k a1) a1) (by kernel_rfl) (by rw[aq])
theorem ok:Ok prog 356 D.sig:=am func356 aw (by kernel_rfl) (fc bh.ok (fc e8.ok (fc ic.ok (fc lZ.ok (aj _)))))
end gy
namespace jH
abbrev Arg:Type:=aT×Int×Unit
abbrev Out:Type:=aT×Unit
noncomputable def D:FD:={ fn:=f337,tl:=bc,ps:=[(.jV (ai cv) (ai cv),cv),(.ro,i64)],rs:=[],gl:=[(338,f8.D.sig),(356,gy.D.sig)],es:=[0] }
noncomputable def ab (a:Arg):Option Out:=@lift Out λk=>D.W k a
noncomputable def p (a1:Arg):Option Out:=if 0<=a1.2.1/\a1.2.1 < (a1.1.1.length:Int) then ((a1.1.1[a1.2.1.toNat]?).bind λx2=>(a1.1.1[a1.2.1.toNat]?).bind λx3=>(gy.ab (x3,())).bind λr4=>(f8.ab (a1.1,a1.2.1,r4.1.2.2.1,())).bind λr5=>some (r5.1,())) else none
theorem ae (k:Nat) (a1:Arg):@Eq (Option Out) (D.W k a1) (p a1):=by kernel_rfl
theorem ok:Ok prog 337 D.sig:=am func337 aw (by kernel_rfl) (fc f8.ok (fc gy.ok (aj _)))
end jH
namespace ff
abbrev Arg:Type:=aT×(List UInt8)×Int×Unit
abbrev Out:Type:=Int×Int×Bool×aT×Unit
abbrev OO:=Option Out
noncomputable def D:FD:={ fn:=f306,tl:=bc,ps:=[(.jV (ai cv) (ai cv),cv),(.ro,(.aa u8)),(.ro,i64)],rs:=[(i64,(ak i64)),(i64,(ak i64)),(.bool,(ak .bool))],gl:=[(193,iz.D.sig),(336,gr.D.sig),(337,jH.D.sig),(338,f8.D.sig)],es:=[0],lv:=[(2,[0,1,2,16,17])],lx:=[(0,[0,1]),(1,[0,1,2,16,17])],od:=[(11,[0,1,2,3,4,5]),(16,[0,1,2,3,4,5,6,7,8]),(17,[0,1,2,3,4,5,6,7,8,9,10])] }
noncomputable def ab (a:Arg):OO:=@lift Out λk=>D.W k a
noncomputable def T0 (a1:Arg) (U:aT×Int):St:={ n:=85,sl:=[(0,.box cv (ai cv) [] U.1),(1,.val (.aa u8) a1.2.1),(2,.val i64 a1.2.2.1),(16,.val i64 (a1.1.1.length:Int)),(17,.val i64 U.2)],vr:=[],az:=[(0,0,false)] }
noncomputable def b0 (self:(aT×Int)->OO) (e0:aT->OO) (a1:Arg) (U:aT×Int):OO:=bif decide (U.2 < (a1.1.1.length:Int)) then (bif decide (U.2=a1.2.2.1) then (self (U.1,af (U.2+(1:Int)))) else if 0<=U.2/\U.2 < (U.1.1.length:Int) then ((U.1.1[U.2.toNat]?).bind λa8=>(U.1.1[U.2.toNat]?).bind λgx=>(gr.ab (gx,a1.2.1,())).bind λls=>let MI:=λ(ZS:aT) (sQ:xe)=>(bif decide (sQ.1=(0:Int)) then ((f8.ab (ZS,U.2,sQ.2.2.1,())).bind λDa=>some (U.2,sQ.2.1,true,Da.1,())) else self (ZS,af (U.2+(1:Int))):OO);bif decide (ls.1.1=(8:Int)) then ((jH.ab (U.1,U.2,())).bind λjy=>if 0<=U.2/\U.2 < (jy.1.1.length:Int) then ((jy.1.1[U.2.toNat]?).bind λrY=>(jy.1.1[U.2.toNat]?).bind λAy=>(gr.ab (Ay,a1.2.1,())).bind λuX=>MI jy.1 uX.1) else none) else MI U.1 ls.1) else none) else e0 U.1
noncomputable def q0 (a1:Arg) (Jq:aT):OO:=bif decide ((Jq.1.length:Int)=(12:Int)) then (some ((0:Int),(0:Int),false,Jq,())) else (iz.ab ((0:UInt8),())).bind λRd=>(gr.ab (Rd.1,a1.2.1,())).bind λRl=>(f8.ab (Jq,(Jq.1.length:Int),Rl.1.2.2.1,())).bind λZT=>some (af ((ZT.1.1.length:Int) - (1:Int)),Rl.1.2.1,true,ZT.1,())
noncomputable def s0 (k:Nat) (a1:Arg):(aT×Int)->OO:=λU=>D.L k [1,0,1,0,0] [0,1,2,16,17] [] (ah 0 (av (D.N k [1,1]) D.K0)) (T0 a1 U)
noncomputable def r0 (k:Nat) (a1:Arg):(aT×Int)->OO:=al (λw v=>b0 w (q0 a1) a1 v) k
theorem aq (k:Nat) (a1:Arg):s0 k a1=r0 k a1:=
 funext λU=>ap _ _ _ (T0 a1) _ (λrec v=>by kernel_rfl) k U
noncomputable def p (l0:(aT×Int)->OO) (a1:Arg):OO:=l0 (a1.1,(0:Int))
theorem ae (k:Nat) (a1:Arg):@Eq OO (D.W k a1) (p (r0 k a1) a1):=
 aQ (b:=p (s0 k a1) a1) (by kernel_rfl) (by rw[aq])
theorem ok:Ok prog 306 D.sig:=am func306 aw (by kernel_rfl) (fc iz.ok (fc gr.ok (fc jH.ok (fc f8.ok (aj _)))))
end ff
namespace mL
abbrev Arg:Type:=Int×Row×Unit
abbrev Out:Type:=(List UInt8)×Unit
noncomputable def D:FD:={ fn:=f307,tl:=bc,ps:=[(.ro,i64),(.ro,bd)],rs:=[((.aa u8),(ai (.aa u8)))] }
noncomputable def ab (a:Arg):Option Out:=@lift Out λk=>D.W k a
noncomputable def p (a1:Arg):Option Out:=if [UInt8.ofInt a1.1,UInt8.ofInt a1.2.1.1,UInt8.ofInt a1.2.1.2.1,UInt8.ofInt (a1.2.1.2.2.1.fdiv (2 ^ 8)),UInt8.ofInt a1.2.1.2.2.1,UInt8.ofInt (a1.2.1.2.2.2.1.length:Int)].length+a1.2.1.2.2.2.1.length<=cg then (let y2:=[UInt8.ofInt a1.1,UInt8.ofInt a1.2.1.1,UInt8.ofInt a1.2.1.2.1,UInt8.ofInt (a1.2.1.2.2.1.fdiv (2 ^ 8)),UInt8.ofInt a1.2.1.2.2.1,UInt8.ofInt (a1.2.1.2.2.2.1.length:Int)]++a1.2.1.2.2.2.1;some (y2,())) else none
theorem ae (k:Nat) (a1:Arg):@Eq (Option Out) (D.W k a1) (p a1):=by kernel_rfl
theorem ok:Ok prog 307 D.sig:=am func307 aw (by kernel_rfl) (aj _)
end mL
namespace np
abbrev Arg:Type:=aT×Row×Unit
abbrev Out:Type:=Bool×aT×Unit
noncomputable def D:FD:={ fn:=f267,tl:=bc,ps:=[(.jV (ai cv) (ai cv),cv),(.ro,bd)],rs:=[(.bool,(ak .bool))],gl:=[(306,ff.D.sig),(307,mL.D.sig)],es:=[0] }
noncomputable def ab (a:Arg):Option Out:=@lift Out λk=>D.W k a
noncomputable def p (a1:Arg):Option Out:=(mL.ab ((0:Int),a1.2.1,())).bind λr2=>(ff.ab (a1.1,r2.1,(-1:Int),())).bind λr3=>some (r3.2.2.1,r3.2.2.2.1,())
theorem ae (k:Nat) (a1:Arg):@Eq (Option Out) (D.W k a1) (p a1):=by kernel_rfl
theorem ok:Ok prog 267 D.sig:=am func267 aw (by kernel_rfl) (fc ff.ok (fc mL.ok (aj _)))
end np
namespace o9
abbrev Arg:Type:=(List UInt8)×Int×(List UInt8)×Unit
abbrev Out:Type:=xe×Unit
noncomputable def D:FD:={ fn:=f339,tl:=bc,ps:=[(.ro,(.aa u8)),(.ro,i64),(.ro,(.aa u8))],rs:=[(ld,(ai ld))],gl:=[(170,e8.D.sig),(171,ic.D.sig),(253,lw.D.sig),(353,lO.D.sig),(354,kD.D.sig),(355,nI.D.sig)] }
noncomputable def ab (a:Arg):Option Out:=@lift Out λk=>D.W k a
noncomputable def p (a1:Arg):Option Out:=(lO.ab (a1.1,a1.2.2.1,())).bind λr2=>bif !decide (r2.1=(0:Int)) then (some ((r2.1,(0:Int),([]:List UInt8),()),())) else (ic.ab (a1.1,a1.2.1,())).bind λr3=>bif !r3.1 then (some (((4:Int),(0:Int),([]:List UInt8),()),())) else (lw.ab (a1.1,a1.2.1,())).bind λr4=>bif decide ((a1.2.2.1.length:Int)<=r4.2.1) then ((nI.ab (a1.1,a1.2.1,af ((af (r4.1+r4.2.1)) - (a1.2.2.1.length:Int)),a1.2.2.1,())).bind λr5=>some (((0:Int),a1.2.1,r5.1,()),())) else (kD.ab (a1.1,())).bind λr6=>bif decide (af (r6.1+r4.2.1) < (a1.2.2.1.length:Int)) then (some (((9:Int),(0:Int),([]:List UInt8),()),())) else (a1.1[1]?).bind λx7=>(e8.ab (a1.1,())).bind λr8=>bif decide (af ((af (x7.toNat:Int)) - (af ((2:Int)+(af ((2:Int)*r8.1))))) < (a1.2.2.1.length:Int)) then (some (((8:Int),(0:Int),([]:List UInt8),()),())) else (nI.ab (a1.1,a1.2.1,af ((af (x7.toNat:Int)) - (a1.2.2.1.length:Int)),a1.2.2.1,())).bind λr9=>if 0<=(1:Int)/\(1:Int) < (r9.1.length:Int) then ((r9.1[1]?).bind λXc=>let y11:=r9.1.set 1 (UInt8.ofInt (af ((af (x7.toNat:Int)) - (a1.2.2.1.length:Int))));some (((0:Int),a1.2.1,y11,()),())) else none
theorem ae (k:Nat) (a1:Arg):@Eq (Option Out) (D.W k a1) (p a1):=by kernel_rfl
theorem ok:Ok prog 339 D.sig:=am func339 aw (by kernel_rfl) (fc e8.ok (fc ic.ok (fc lw.ok (fc lO.ok (fc kD.ok (fc nI.ok (aj _)))))))
end o9
namespace lP
abbrev Arg:Type:=aT×Int×Int×(List UInt8)×Unit
abbrev Out:Type:=Bool×aT×Unit
noncomputable def D:FD:={ fn:=f308,tl:=bc,ps:=[(.jV (ai cv) (ai cv),cv),(.ro,i64),(.ro,i64),(.ro,(.aa u8))],rs:=[(.bool,(ak .bool))],gl:=[(337,jH.D.sig),(338,f8.D.sig),(339,o9.D.sig)],es:=[0] }
noncomputable def ab (a:Arg):Option Out:=@lift Out λk=>D.W k a
noncomputable def p (a1:Arg):Option Out:=if 0<=a1.2.1/\a1.2.1 < (a1.1.1.length:Int) then ((a1.1.1[a1.2.1.toNat]?).bind λx2=>(a1.1.1[a1.2.1.toNat]?).bind λx3=>(o9.ab (x3,a1.2.2.1,a1.2.2.2.1,())).bind λr4=>bif decide (r4.1.1=(8:Int)) then ((jH.ab (a1.1,a1.2.1,())).bind λr5=>if 0<=a1.2.1/\a1.2.1 < (r5.1.1.length:Int) then ((r5.1.1[a1.2.1.toNat]?).bind λx6=>(r5.1.1[a1.2.1.toNat]?).bind λx7=>(o9.ab (x7,a1.2.2.1,a1.2.2.2.1,())).bind λr8=>bif !decide (r8.1.1=(0:Int)) then (some (false,r5.1,())) else (f8.ab (r5.1,a1.2.1,r8.1.2.2.1,())).bind λuY=>some (true,uY.1,())) else none) else bif !decide (r4.1.1=(0:Int)) then (some (false,a1.1,())) else (f8.ab (a1.1,a1.2.1,r4.1.2.2.1,())).bind λtA=>some (true,tA.1,())) else none
theorem ae (k:Nat) (a1:Arg):@Eq (Option Out) (D.W k a1) (p a1):=by kernel_rfl
theorem ok:Ok prog 308 D.sig:=am func308 aw (by kernel_rfl) (fc jH.ok (fc f8.ok (fc o9.ok (aj _))))
end lP
namespace sC
abbrev Arg:Type:=Int×Int×Unit
abbrev Out:Type:=(List UInt8)×Unit
noncomputable def D:FD:={ fn:=f309,tl:=bc,ps:=[(.ro,i64),(.ro,i64)],rs:=[((.aa u8),(ai (.aa u8)))] }
noncomputable def ab (a:Arg):Option Out:=@lift Out λk=>D.W k a
noncomputable def p (a1:Arg):Option Out:=some ([(1:UInt8),UInt8.ofInt a1.1,UInt8.ofInt a1.2.1],())
theorem ae (k:Nat) (a1:Arg):@Eq (Option Out) (D.W k a1) (p a1):=by kernel_rfl
theorem ok:Ok prog 309 D.sig:=am func309 aw (by kernel_rfl) (aj _)
end sC
namespace nA
abbrev Arg:Type:=(List UInt8)×Int×Unit
abbrev Out:Type:=xe×Unit
abbrev OO:=Option Out
noncomputable def D:FD:={ fn:=f340,tl:=bc,ps:=[(.ro,(.aa u8)),(.ro,i64)],rs:=[(ld,(ai ld))],gl:=[(114,cn.D.sig),(169,bh.D.sig),(171,ic.D.sig)],lv:=[(9,[1,4,6])],lx:=[(0,[1,4,6])] }
noncomputable def ab (a:Arg):OO:=@lift Out λk=>D.W k a
noncomputable def T0 (a1:Arg) (jm:List UInt8):St:={ n:=54,sl:=[(1,.val i64 a1.2.1),(4,.box ld (ai ld) [] ((0:Int),(0:Int),([]:List UInt8),())),(6,.own (.aa u8) (ai (.aa u8)) [] jm)],vr:=[],az:=[] }
noncomputable def b0 (self:(List UInt8)->OO) (e0:(List UInt8)->OO) (a1:Arg) (jm:List UInt8):OO:=if 0<=(0:Int)/\(0:Int) < (jm.length:Int) then ((jm[0]?).bind λG4=>bif decide ((0:Int) < (G4.toNat:Int)) then (if 0<=(0:Int)/\(0:Int) < (jm.length:Int) then ((jm[0]?).bind λEA=>if 0<=af ((af ((2:Int)*(af (EA.toNat:Int))))+(1:Int))/\af ((af ((2:Int)*(af (EA.toNat:Int))))+(1:Int)) < (jm.length:Int) then ((jm[(af ((af ((2:Int)*(af (EA.toNat:Int))))+(1:Int))).toNat]?).bind λxS=>bif decide ((xS.toNat:Int)=(0:Int)) then (if 0<=(0:Int)/\(0:Int) < (jm.length:Int) then ((jm[0]?).bind λEB=>if 0<=(0:Int)/\(0:Int) < (jm.length:Int) then ((jm[0]?).bind λAA=>let ML:=jm.set 0 (UInt8.ofInt ((EB.toNat:Int) - (1:Int)));self ML) else none) else none) else e0 jm) else none) else none) else e0 jm) else none
noncomputable def q0 (a1:Arg) (Vq:(List UInt8)):OO:=some (((0:Int),a1.2.1,Vq,()),())
noncomputable def s0 (k:Nat) (a1:Arg):(List UInt8)->OO:=λjm=>D.L k [1,1,1,1,1,1,0,0,0] [1,4,6] [] (ah 0 (av (D.N k [1,1,1,1,1,1,1]) D.K0)) (T0 a1 jm)
noncomputable def r0 (k:Nat) (a1:Arg):(List UInt8)->OO:=al (λw v=>b0 w (q0 a1) a1 v) k
theorem aq (k:Nat) (a1:Arg):s0 k a1=r0 k a1:=
 funext λjm=>ap _ _ _ (T0 a1) _ (λrec v=>by kernel_rfl) k jm
noncomputable def p (l0:(List UInt8)->OO) (a1:Arg):OO:=(bh.ab (a1.1,())).bind λr2=>bif !decide (r2.1=(0:Int)) then (some ((r2.1,(0:Int),([]:List UInt8),()),())) else (ic.ab (a1.1,a1.2.1,())).bind λr3=>bif !r3.1 then (some (((4:Int),(0:Int),([]:List UInt8),()),())) else (cn.ab (a1.1,())).bind λr4=>if 0<=af ((2:Int)+(af ((2:Int)*a1.2.1)))/\af ((2:Int)+(af ((2:Int)*a1.2.1))) < (r4.1.length:Int) then ((r4.1[(af ((2:Int)+(af ((2:Int)*a1.2.1)))).toNat]?).bind λx5=>let y6:=r4.1.set (af ((2:Int)+(af ((2:Int)*a1.2.1)))).toNat (0:UInt8);if 0<=af ((3:Int)+(af ((2:Int)*a1.2.1)))/\af ((3:Int)+(af ((2:Int)*a1.2.1))) < (y6.length:Int) then ((y6[(af ((3:Int)+(af ((2:Int)*a1.2.1)))).toNat]?).bind λx7=>let y8:=y6.set (af ((3:Int)+(af ((2:Int)*a1.2.1)))).toNat (0:UInt8);l0 y8) else none) else none
theorem ae (k:Nat) (a1:Arg):@Eq OO (D.W k a1) (p (r0 k a1) a1):=
 aQ (b:=p (s0 k a1) a1) (by kernel_rfl) (by rw[aq])
theorem ok:Ok prog 340 D.sig:=am func340 aw (by kernel_rfl) (fc cn.ok (fc bh.ok (fc ic.ok (aj _))))
end nA
namespace jX
abbrev Arg:Type:=aT×Int×Int×Unit
abbrev Out:Type:=aT×Unit
noncomputable def D:FD:={ fn:=f310,tl:=bc,ps:=[(.jV (ai cv) (ai cv),cv),(.ro,i64),(.ro,i64)],rs:=[],gl:=[(338,f8.D.sig),(340,nA.D.sig)],es:=[0] }
noncomputable def ab (a:Arg):Option Out:=@lift Out λk=>D.W k a
noncomputable def p (a1:Arg):Option Out:=if 0<=a1.2.1/\a1.2.1 < (a1.1.1.length:Int) then ((a1.1.1[a1.2.1.toNat]?).bind λx2=>(a1.1.1[a1.2.1.toNat]?).bind λx3=>(nA.ab (x3,a1.2.2.1,())).bind λr4=>(f8.ab (a1.1,a1.2.1,r4.1.2.2.1,())).bind λr5=>some (r5.1,())) else none
theorem ae (k:Nat) (a1:Arg):@Eq (Option Out) (D.W k a1) (p a1):=by kernel_rfl
theorem ok:Ok prog 310 D.sig:=am func310 aw (by kernel_rfl) (fc f8.ok (fc nA.ok (aj _)))
end jX
namespace km
abbrev Arg:Type:=aT×Seen×Row×Unit
abbrev Out:Type:=Bool×aT×Unit
noncomputable def D:FD:={ fn:=f268,tl:=bc,ps:=[(.jV (ai cv) (ai cv),cv),(.ro,gc),(.ro,bd)],rs:=[(.bool,(ak .bool))],gl:=[(306,ff.D.sig),(307,mL.D.sig),(308,lP.D.sig),(309,sC.D.sig),(310,jX.D.sig)],es:=[0],od:=[(6,[0,1,2,3,4,5,6,7,8]),(8,[0,1,3,4,2,5,6,7,8,9,10,11,12]),(11,[0,1,2,3,4,5,6,7,8])] }
noncomputable def ab (a:Arg):Option Out:=@lift Out λk=>D.W k a
noncomputable def p (a1:Arg):Option Out:=bif (Ty.eq bd a1.2.1.1 a1.2.2.1) then (some (true,a1.1,())) else let Tw:=λ(p9:Int)=>((mL.ab (p9,a1.2.2.1,())).bind λtA=>(lP.ab (a1.1,a1.2.1.2.2.2.2.1,a1.2.1.2.2.2.2.2.1,tA.1,())).bind λwz=>bif wz.1 then (some (true,wz.2.1,())) else (mL.ab ((2:Int),a1.2.2.1,())).bind λIf=>(ff.ab (wz.2.1,If.1,a1.2.1.2.2.2.2.1,())).bind λxg=>bif !xg.2.2.1 then (some (false,xg.2.2.2.1,())) else (sC.ab (xg.1,xg.2.1,())).bind λEz=>(lP.ab (xg.2.2.2.1,a1.2.1.2.1,a1.2.1.2.2.1,Ez.1,())).bind λAz=>bif a1.2.1.2.2.2.1 then ((jX.ab (Az.2.1,a1.2.1.2.2.2.2.1,a1.2.1.2.2.2.2.2.1,())).bind λCh=>some (true,Ch.1,())) else some (true,Az.2.1,()):Option Out);bif a1.2.1.2.2.2.1 then (Tw (2:Int)) else Tw (0:Int)
theorem ae (k:Nat) (a1:Arg):@Eq (Option Out) (D.W k a1) (p a1):=by kernel_rfl
theorem ok:Ok prog 268 D.sig:=am func268 aw (by kernel_rfl) (fc ff.ok (fc mL.ok (fc lP.ok (fc sC.ok (fc jX.ok (aj _))))))
end km
namespace lk
abbrev Arg:Type:=aT×Seen×Unit
abbrev Out:Type:=aT×Unit
noncomputable def D:FD:={ fn:=f269,tl:=bc,ps:=[(.jV (ai cv) (ai cv),cv),(.ro,gc)],rs:=[],gl:=[(310,jX.D.sig)],es:=[0] }
noncomputable def ab (a:Arg):Option Out:=@lift Out λk=>D.W k a
noncomputable def p (a1:Arg):Option Out:=(jX.ab (a1.1,a1.2.1.2.1,a1.2.1.2.2.1,())).bind λr2=>bif a1.2.1.2.2.2.1 then ((jX.ab (r2.1,a1.2.1.2.2.2.2.1,a1.2.1.2.2.2.2.2.1,())).bind λr3=>some (r3.1,())) else some (r2.1,())
theorem ae (k:Nat) (a1:Arg):@Eq (Option Out) (D.W k a1) (p a1):=by kernel_rfl
theorem ok:Ok prog 269 D.sig:=am func269 aw (by kernel_rfl) (fc jX.ok (aj _))
end lk
namespace pA
abbrev Arg:Type:=(List (List UInt8))×Change×Unit
abbrev Out:Type:=dr×Unit
noncomputable def D:FD:={ fn:=f192,tl:=bc,ps:=[(.ro,(.aa (.aa u8))),(.ro,an)],rs:=[(db,(ai db))],gl:=[(99,fq.D.sig),(101,mg.D.sig),(133,du.D.sig),(208,iF.D.sig),(263,jT.D.sig),(264,rz.D.sig),(265,pz.D.sig),(266,mH.D.sig),(267,np.D.sig),(268,km.D.sig),(269,lk.D.sig),(270,lj.D.sig)],od:=[(6,[0,1,2,3,4]),(9,[0,1,4,2,3,5,6,7,8,9,10,11,12,13])],ar:=[(9,[1,4])],bx:=[(9,[3])],pd:=[(9,[11])] }
noncomputable def ab (a:Arg):Option Out:=@lift Out λk=>D.W k a
noncomputable def p (a1:Arg):Option Out:=(fq.ab (a1.1,())).bind λr2=>let Tv:=λ(Xb:Int)=>(bif !decide (Xb=(0:Int)) then (some ((Xb,([]:List cd),([]:List (List UInt8)),()),())) else (mg.ab (r2.1,())).bind λF9=>(jT.ab (a1.2.1,F9.1,())).bind λXi=>bif !Xi.1 then (some (((8:Int),([]:List cd),([]:List (List UInt8)),()),())) else (rz.ab (a1.1,())).bind λTz=>(du.ab (a1.2.1,())).bind λIc=>(du.ab (a1.2.1,())).bind λPK=>(pz.ab (r2.1,Ic.1.1,PK.1.2.1,())).bind λXj=>bif !a1.2.1.1 then ((np.ab (Tz.1,a1.2.1.2.2.2.1,())).bind λKa=>(mH.ab (Ka.2.1,Ka.1,())).bind λZN=>some (ZN.1,())) else bif a1.2.1.2.2.1 then ((km.ab (Tz.1,Xj.1,a1.2.1.2.2.2.1,())).bind λW7=>(mH.ab (W7.2.1,W7.1,())).bind λr27=>some (r27.1,())) else (lk.ab (Tz.1,Xj.1,())).bind λZU=>(lj.ab (ZU.1,())).bind λr29=>some (r29.1,()):Option Out);bif decide (r2.2.1=(0:Int)) then ((iF.ab (a1.2.1,())).bind λr3=>Tv r3.1) else Tv r2.2.1
theorem ae (k:Nat) (a1:Arg):@Eq (Option Out) (D.W k a1) (p a1):=by kernel_rfl
theorem ok:Ok prog 192 D.sig:=am func192 aw (by kernel_rfl) (fc fq.ok (fc mg.ok (fc du.ok (fc iF.ok (fc jT.ok (fc rz.ok (fc pz.ok (fc mH.ok (fc np.ok (fc km.ok (fc lk.ok (fc lj.ok (aj _)))))))))))))
end pA
namespace jn
abbrev Arg:Type:=(List UInt8)×(List UInt8)×Unit
abbrev Out:Type:=(List cd)×Unit
abbrev OO:=Option Out
noncomputable def D:FD:={ fn:=f194,tl:=bc,ps:=[(.ro,(.aa u8)),(.ro,(.aa u8))],rs:=[((.aa nM),(ai (.aa nM)))],gl:=[(114,cn.D.sig)],lv:=[(3,[0,1,5,6]),(7,[0,1,5,6,7])],lx:=[(0,[5]),(1,[0,1,5,6]),(2,[0,1,5,6,7])],od:=[(5,[0,1,2,3,4,5,6,7,8]),(7,[0,1,2,3,4,5,6,7,8,9,10,11,12])] }
noncomputable def ab (a:Arg):OO:=@lift Out λk=>D.W k a
noncomputable def T0 (a1:Arg) (U:(List UInt8)×(List UInt8)×(List cd)×Int):St:={ n:=49,sl:=[(0,.val (.aa u8) U.1),(1,.val (.aa u8) U.2.1),(5,.own (.aa nM) (ai (.aa nM)) [] U.2.2.1),(6,.val i64 U.2.2.2)],vr:=[],az:=[] }
noncomputable def S0 (rec:RT Out) (a1:Arg):((List UInt8)×(List UInt8)×(List cd)×Int)->OO:=λU=>rec (T0 a1 U)
noncomputable def cx (K:KT Out) (a1:Arg):(List cd)->OO:=λz=>K (.exit 0) ({ n:=49,sl:=[(5,.own (.aa nM) (ai (.aa nM)) [] z)],vr:=[],az:=[] })
noncomputable def T1 (a1:Arg) (ez:List UInt8) (dy:List UInt8) (d0:List cd) (cr:Int) (co:Int):St:={ n:=49,sl:=[(0,.val (.aa u8) ez),(1,.val (.aa u8) dy),(5,.own (.aa nM) (ai (.aa nM)) [] d0),(6,.val i64 cr),(7,.val i64 co)],vr:=[],az:=[] }
noncomputable def b1 (self:Int->OO) (e2:Int->OO) (a1:Arg) (ez:List UInt8) (dy:List UInt8) (d0:List cd) (cr:Int) (co:Int):OO:=bif decide (co < (64:Int)) then (if 0<=co then ((ez[co.toNat]?).bind λC4=>if 0<=co then ((dy[co.toNat]?).bind λBp=>bif !decide ((C4.toNat:Int)=(Bp.toNat:Int)) then (self (af (co+(1:Int)))) else e2 co) else none) else none) else e2 co
noncomputable def q0 (self:((List UInt8)×(List UInt8)×(List cd)×Int)->OO) (e0:(List cd)->OO) (a1:Arg) (ez:List UInt8) (dy:List UInt8) (d0:List cd) (cr:Int) (vx:Int):OO:=if 0<=cr/\cr<=vx/\vx<=(dy.length:Int) then ((cn.ab ((dy.take vx.toNat).drop cr.toNat,())).bind λsw=>if d0.length+[(cr,sw.1,())].length<=cg then (self (ez,dy,d0++[(cr,sw.1,())],af (vx+(1:Int)))) else none) else none
noncomputable def s1 (k:Nat) (rec:RT Out) (K:KT Out) (a1:Arg):(List UInt8)->(List UInt8)->(List cd)->Int->(Int)->OO:=λez dy d0 cr=>λco=>D.L k [1,1,0,1,0,0,1,0,0,1,1,0,0,0] [0,1,5,6,7] [] (ah 2 (av (D.N k [1,1,0,1,0,0,1,0,0,1,1,1]) (ah 1 (av (D.N k [1,1,0,1,0,0,1,1]) (iV rec (fw [0,1,5,6] []) K))))) (T1 a1 ez dy d0 cr co)
noncomputable def r1 (k:Nat) (self:((List UInt8)×(List UInt8)×(List cd)×Int)->OO) (e0:(List cd)->OO) (a1:Arg):(List UInt8)->(List UInt8)->(List cd)->Int->(Int)->OO:=λez dy d0 cr=>al (λw v=>b1 w (q0 self e0 a1 ez dy d0 cr) a1 ez dy d0 cr v) k
theorem lC (k:Nat) (rec:RT Out) (K:KT Out) (a1:Arg):s1 k rec K a1=r1 k (S0 rec a1) (cx K a1) a1:=
 funext λez=>funext λdy=>funext λd0=>funext λcr=>funext λco=>ap _ _ _ (T1 a1 ez dy d0 cr) _ (λrec v=>by kernel_rfl) k co
noncomputable def b0 (self:((List UInt8)×(List UInt8)×(List cd)×Int)->OO) (e0:(List cd)->OO) (l1:(List UInt8)->(List UInt8)->(List cd)->Int->(Int)->OO) (a1:Arg) (U:(List UInt8)×(List UInt8)×(List cd)×Int):OO:=bif decide (U.2.2.2 < (64:Int)) then (if 0<=U.2.2.2 then ((U.1[U.2.2.2.toNat]?).bind λa8=>if 0<=U.2.2.2 then ((U.2.1[U.2.2.2.toNat]?).bind λgx=>bif decide ((a8.toNat:Int)=(gx.toNat:Int)) then (self (U.1,U.2.1,U.2.2.1,af (U.2.2.2+(1:Int)))) else l1 U.1 U.2.1 U.2.2.1 U.2.2.2 U.2.2.2) else none) else none) else e0 U.2.2.1
noncomputable def B0 (k:Nat) (self:((List UInt8)×(List UInt8)×(List cd)×Int)->OO) (e0:(List cd)->OO) (a1:Arg) (U:(List UInt8)×(List UInt8)×(List cd)×Int):OO:=b0 self e0 (r1 k self e0 a1) a1 U
theorem lB (k:Nat) (rec:RT Out) (K:KT Out) (a1:Arg) (U:(List UInt8)×(List UInt8)×(List cd)×Int):D.N k [1,1,0,1,0,0] (T0 a1 U) (iV rec (fw [0,1,5,6] []) K)=B0 k (S0 rec a1) (cx K a1) a1 U:=
 aQ (b:=b0 (S0 rec a1) (cx K a1) (s1 k rec K a1) a1 U) (by kernel_rfl) (by rw[lC];rfl)
noncomputable def q1 (a1:Arg) (C6:(List cd)):OO:=some (C6,())
theorem qX (k:Nat) (a1:Arg) (C6:(List cd)):cx (ah 0 (av (D.N k [1,1,1]) D.K0)) a1 C6=q1 a1 C6:=by kernel_rfl
noncomputable def s0 (k:Nat) (a1:Arg):((List UInt8)×(List UInt8)×(List cd)×Int)->OO:=λU=>D.L k [1,1,0,1,0,0] [0,1,5,6] [] (ah 0 (av (D.N k [1,1,1]) D.K0)) (T0 a1 U)
noncomputable def r0 (k:Nat) (a1:Arg):((List UInt8)×(List UInt8)×(List cd)×Int)->OO:=al (λw v=>B0 k w (q1 a1) a1 v) k
theorem aq (k:Nat) (a1:Arg):s0 k a1=r0 k a1:=by
 funext U;have h0:cx (ah 0 (av (D.N k [1,1,1]) D.K0)) a1=q1 a1:=funext λz=>qX k a1 z;refine (ap _ _ _ (T0 a1) (λself v=>B0 k self (cx (ah 0 (av (D.N k [1,1,1]) D.K0)) a1) a1 v) (λrec v=>lB k rec (ah 0 (av (D.N k [1,1,1]) D.K0)) a1 v) k U).trans ?_;rw[h0];rfl
noncomputable def p (l0:((List UInt8)×(List UInt8)×(List cd)×Int)->OO) (a1:Arg):OO:=l0 (a1.1,a1.2.1,([]:List cd),(0:Int))
theorem ae (k:Nat) (a1:Arg):@Eq OO (D.W k a1) (p (r0 k a1) a1):=
 aQ (b:=p (s0 k a1) a1) (by kernel_rfl) (by rw[aq])
theorem ok:Ok prog 194 D.sig:=am func194 aw (by kernel_rfl) (fc cn.ok (aj _))
end jn
namespace ei
abbrev Arg:Type:=bj×(List Change)×Int×Int×Unit
abbrev Out:Type:=Int×bj×Unit
abbrev OO:=Option Out
noncomputable def D:FD:={ fn:=f110,tl:=bc,ps:=[(.jV (.pair (ak .bool) (.pair (ai (.aa (.aa u8))) (.pair (ak ee) (.pair (.aa true (.pair (ak i64) (.pair (ak (.aa an)) (ai (bq [(.aa i64),(.aa be)]))))) (ak (bq [i64])))))) (.pair (ak .bool) (.pair (ai (.aa (.aa u8))) (.pair (ak ee) (.pair (.aa true (.pair (ak i64) (.pair (ak (.aa an)) (ai (bq [(.aa i64),(.aa be)]))))) (ak (bq [i64])))))),ci),(.ro,(.aa an)),(.ro,i64),(.ro,i64)],rs:=[(i64,(ak i64))],gl:=[(109,kl.D.sig),(114,cn.D.sig),(192,pA.D.sig),(193,iz.D.sig),(194,jn.D.sig)],es:=[0],fz:=[(4,7,1)],lv:=[(2,[0,2,3,15,16,17]),(8,[0,2,3,15,16,17,33,34,35])],lx:=[(0,[0]),(2,[0,2,3,15,16,17])],od:=[(4,[0,1,2,3,4,5,6,7]),(10,[0,1,2,3,4,5,6,7]),(11,[0,1,2,3,4,5,6,7,8,9,10]),(12,[0,1,2,3,4,5,6,7,8,9,10,11,12,13,14,15,16,17,18]),(15,[0,1,2,3,4,5,6,7,8,9,10])],ar:=[(4,[4])],bx:=[(4,[10])],pd:=[(4,[6])],er:=[(4,[(3,8)])] }
noncomputable def ab (a:Arg):OO:=@lift Out λk=>D.W k a
noncomputable def T0 (a1:Arg) (U:bj×Int×Int×(List Change)×Int×Int):St:={ n:=90,sl:=[(0,.box ci (.pair (ak .bool) (.pair (ai (.aa (.aa u8))) (.pair (ak ee) (.pair (.aa true (.pair (ak i64) (.pair (ak (.aa an)) (ai (bq [(.aa i64),(.aa be)]))))) (ak (bq [i64])))))) [] U.1),(2,.val i64 U.2.1),(3,.val i64 U.2.2.1),(15,.val (.aa an) U.2.2.2.1),(16,.val i64 U.2.2.2.2.1),(17,.val i64 U.2.2.2.2.2)],vr:=[],az:=[(0,0,false)] }
noncomputable def S0 (rec:RT Out) (a1:Arg):(bj×Int×Int×(List Change)×Int×Int)->OO:=λU=>rec (T0 a1 U)
noncomputable def cx (K:KT Out) (a1:Arg):bj->OO:=λz=>K (.exit 0) ({ n:=90,sl:=[(0,.box ci (.pair (ak .bool) (.pair (ai (.aa (.aa u8))) (.pair (ak ee) (.pair (.aa true (.pair (ak i64) (.pair (ak (.aa an)) (ai (bq [(.aa i64),(.aa be)]))))) (ak (bq [i64])))))) [] z)],vr:=[],az:=[(0,0,false)] })
noncomputable def T1 (a1:Arg) (ez:Int) (dy:Int) (d0:List Change) (cr:Int) (iy:Int) (kR:List cd) (o7:Int) (co:bj×Int):St:={ n:=90,sl:=[(0,.box ci (.pair (ak .bool) (.pair (ai (.aa (.aa u8))) (.pair (ak ee) (.pair (.aa true (.pair (ak i64) (.pair (ak (.aa an)) (ai (bq [(.aa i64),(.aa be)]))))) (ak (bq [i64])))))) [] co.1),(2,.val i64 ez),(3,.val i64 dy),(15,.val (.aa an) d0),(16,.val i64 cr),(17,.val i64 iy),(33,.val (.aa nM) kR),(34,.val i64 o7),(35,.val i64 co.2)],vr:=[],az:=[(0,0,false)] }
noncomputable def b1 (self:(bj×Int)->OO) (e2:bj->OO) (a1:Arg) (ez:Int) (dy:Int) (d0:List Change) (cr:Int) (iy:Int) (kR:List cd) (o7:Int) (co:bj×Int):OO:=bif decide (co.2 < o7) then (if 0<=co.2 then ((kR[co.2.toNat]?).bind λuH=>let Xk:=λ(Le:bj)=>(if 0<=uH.1/\uH.1 < (Le.2.1.length:Int) then ((Le.2.1[uH.1.toNat]?).bind λaa2=>(Le.2.1[uH.1.toNat]?).bind λRn=>(jn.ab (Rn,uH.2.1,())).bind λRp=>(kl.ab (Le,(ez,dy,uH.1,Rp.1,()),())).bind λsD=>bif !decide (sD.1=(0:Int)) then (some (sD.1,sD.2.1,())) else (cn.ab (uH.2.1,())).bind λRq=>if 0<=uH.1/\uH.1 < (sD.2.1.2.1.length:Int) then ((sD.2.1.2.1[uH.1.toNat]?).bind λaa3=>self ((sD.2.1.1,sD.2.1.2.1.set uH.1.toNat Rq.1,sD.2.1.2.2),af (co.2+(1:Int)))) else none) else none:OO);bif decide (uH.1=(co.1.2.1.length:Int)) then ((iz.ab ((0:UInt8),())).bind λBo=>if co.1.2.1.length+[Bo.1].length<=cg then (Xk (co.1.1,co.1.2.1++[Bo.1],co.1.2.2)) else none) else Xk co.1) else none) else e2 co.1
noncomputable def q0 (self:(bj×Int×Int×(List Change)×Int×Int)->OO) (e0:bj->OO) (a1:Arg) (ez:Int) (dy:Int) (d0:List Change) (cr:Int) (iy:Int) (kR:List cd) (o7:Int) (aa4:bj):OO:=self (aa4,ez,dy,d0,cr,af (iy+(1:Int)))
noncomputable def s1 (k:Nat) (rec:RT Out) (K:KT Out) (a1:Arg):Int->Int->(List Change)->Int->Int->(List cd)->Int->(bj×Int)->OO:=λez dy d0 cr iy kR o7=>λco=>D.L k [1,0,1,0,0,1,1,0,0,1,1,1,1,0,0] [0,2,3,15,16,17,33,34,35] [] (ah 2 (ah 1 (av (D.N k [1,0,1,0,0,1,1,1]) (iV rec (fw [0,2,3,15,16,17] []) K)))) (T1 a1 ez dy d0 cr iy kR o7 co)
noncomputable def r1 (k:Nat) (self:(bj×Int×Int×(List Change)×Int×Int)->OO) (e0:bj->OO) (a1:Arg):Int->Int->(List Change)->Int->Int->(List cd)->Int->(bj×Int)->OO:=λez dy d0 cr iy kR o7=>al (λw v=>b1 w (q0 self e0 a1 ez dy d0 cr iy kR o7) a1 ez dy d0 cr iy kR o7 v) k
theorem lC (k:Nat) (rec:RT Out) (K:KT Out) (a1:Arg):s1 k rec K a1=r1 k (S0 rec a1) (cx K a1) a1:=
 funext λez=>funext λdy=>funext λd0=>funext λcr=>funext λiy=>funext λkR=>funext λo7=>funext λco=>ap _ _ _ (T1 a1 ez dy d0 cr iy kR o7) _ (λrec v=>by kernel_rfl) k co
noncomputable def b0 (self:(bj×Int×Int×(List Change)×Int×Int)->OO) (e0:bj->OO) (l1:Int->Int->(List Change)->Int->Int->(List cd)->Int->(bj×Int)->OO) (a1:Arg) (U:bj×Int×Int×(List Change)×Int×Int):OO:=bif decide (U.2.2.2.2.2 < U.2.2.2.2.1) then (if 0<=U.2.2.2.2.2 then ((U.2.2.2.1[U.2.2.2.2.2.toNat]?).bind λa8=>(pA.ab (U.1.2.1,a8,())).bind λdg=>bif !decide (dg.1.1=(0:Int)) then (some (dg.1.1,U.1,())) else l1 U.2.1 U.2.2.1 U.2.2.2.1 U.2.2.2.2.1 U.2.2.2.2.2 dg.1.2.1 (dg.1.2.1.length:Int) (U.1,(0:Int))) else none) else e0 U.1
noncomputable def B0 (k:Nat) (self:(bj×Int×Int×(List Change)×Int×Int)->OO) (e0:bj->OO) (a1:Arg) (U:bj×Int×Int×(List Change)×Int×Int):OO:=b0 self e0 (r1 k self e0 a1) a1 U
theorem lB (k:Nat) (rec:RT Out) (K:KT Out) (a1:Arg) (U:bj×Int×Int×(List Change)×Int×Int):D.N k [1,0,1,0,0] (T0 a1 U) (iV rec (fw [0,2,3,15,16,17] []) K)=B0 k (S0 rec a1) (cx K a1) a1 U:=
 aQ (b:=b0 (S0 rec a1) (cx K a1) (s1 k rec K a1) a1 U) (by kernel_rfl) (by rw[lC];rfl)
noncomputable def q1 (a1:Arg) (Lf:bj):OO:=some ((0:Int),Lf,())
theorem qX (k:Nat) (a1:Arg) (Lf:bj):cx (ah 0 (av (D.N k [1,1]) D.K0)) a1 Lf=q1 a1 Lf:=by kernel_rfl
noncomputable def s0 (k:Nat) (a1:Arg):(bj×Int×Int×(List Change)×Int×Int)->OO:=λU=>D.L k [1,0,1,0,0] [0,2,3,15,16,17] [] (ah 0 (av (D.N k [1,1]) D.K0)) (T0 a1 U)
noncomputable def r0 (k:Nat) (a1:Arg):(bj×Int×Int×(List Change)×Int×Int)->OO:=al (λw v=>B0 k w (q1 a1) a1 v) k
theorem aq (k:Nat) (a1:Arg):s0 k a1=r0 k a1:=by
 funext U;have h0:cx (ah 0 (av (D.N k [1,1]) D.K0)) a1=q1 a1:=funext λz=>qX k a1 z;refine (ap _ _ _ (T0 a1) (λself v=>B0 k self (cx (ah 0 (av (D.N k [1,1]) D.K0)) a1) a1 v) (λrec v=>lB k rec (ah 0 (av (D.N k [1,1]) D.K0)) a1 v) k U).trans ?_;rw[h0];rfl
noncomputable def p (l0:(bj×Int×Int×(List Change)×Int×Int)->OO) (a1:Arg):OO:=l0 (a1.1,a1.2.2.1,a1.2.2.2.1,a1.2.1,(a1.2.1.length:Int),(0:Int))
theorem ae (k:Nat) (a1:Arg):@Eq OO (D.W k a1) (p (r0 k a1) a1):=
 aQ (b:=p (s0 k a1) a1) (by kernel_rfl) (by rw[aq])
theorem ok:Ok prog 110 D.sig:=am func110 aw (by kernel_rfl) (fc kl.ok (fc cn.ok (fc pA.ok (fc iz.ok (fc jn.ok (aj _))))))
end ei
namespace nq
abbrev Arg:Type:=(List UInt8)×(List UInt8)×Unit
abbrev Out:Type:=Bool×Unit
abbrev OO:=Option Out
noncomputable def D:FD:={ fn:=f115,tl:=bc,ps:=[(.ro,(.aa u8)),(.ro,(.aa u8))],rs:=[(.bool,(ak .bool))],lv:=[(4,[0,1,5])],lx:=[(0,[])],od:=[(6,[0,1,2,3,4,5,6,7,8])] }
noncomputable def ab (a:Arg):OO:=@lift Out λk=>D.W k a
noncomputable def T0 (a1:Arg) (U:Int):St:={ n:=26,sl:=[(0,.val (.aa u8) a1.1),(1,.val (.aa u8) a1.2.1),(5,.val i64 U)],vr:=[],az:=[] }
noncomputable def b0 (self:Int->OO) (e0:(Unit)->OO) (a1:Arg) (U:Int):OO:=bif decide (U < (a1.1.length:Int)) then (if 0<=U then ((a1.1[U.toNat]?).bind λa8=>if 0<=U then ((a1.2.1[U.toNat]?).bind λgx=>bif !decide ((a8.toNat:Int)=(gx.toNat:Int)) then (some (false,())) else self (af (U+(1:Int)))) else none) else none) else e0 ()
noncomputable def q0 (a1:Arg) (et:(Unit)):OO:=some (true,())
noncomputable def s0 (k:Nat) (a1:Arg):(Int)->OO:=λU=>D.L k [1,1,0,1,0,0] [0,1,5] [] (ah 0 (av (D.N k [1,1,1]) D.K0)) (T0 a1 U)
noncomputable def r0 (k:Nat) (a1:Arg):(Int)->OO:=al (λw v=>b0 w (q0 a1) a1 v) k
theorem aq (k:Nat) (a1:Arg):s0 k a1=r0 k a1:=
 funext λU=>ap _ _ _ (T0 a1) _ (λrec v=>by kernel_rfl) k U
noncomputable def p (l0:(Int)->OO) (a1:Arg):OO:=bif !decide ((a1.1.length:Int)=(a1.2.1.length:Int)) then (some (false,())) else l0 (0:Int)
theorem ae (k:Nat) (a1:Arg):@Eq OO (D.W k a1) (p (r0 k a1) a1):=
 aQ (b:=p (s0 k a1) a1) (by kernel_rfl) (by rw[aq])
theorem ok:Ok prog 115 D.sig:=am func115 aw (by kernel_rfl) (aj _)
end nq
namespace sd
abbrev Arg:Type:=(List (List UInt8))×(List (List UInt8))×Unit
abbrev Out:Type:=Bool×Unit
abbrev OO:=Option Out
noncomputable def D:FD:={ fn:=f52,tl:=bc,ps:=[(.ro,(.aa (.aa u8))),(.ro,(.aa (.aa u8)))],rs:=[(.bool,(ak .bool))],gl:=[(115,nq.D.sig)],lv:=[(4,[0,1,5])],lx:=[(0,[])],od:=[(6,[0,1,2,3,4,5,6,7,8,9])] }
noncomputable def ab (a:Arg):OO:=@lift Out λk=>D.W k a
noncomputable def T0 (a1:Arg) (U:Int):St:={ n:=27,sl:=[(0,.val (.aa (.aa u8)) a1.1),(1,.val (.aa (.aa u8)) a1.2.1),(5,.val i64 U)],vr:=[],az:=[] }
noncomputable def b0 (self:Int->OO) (e0:(Unit)->OO) (a1:Arg) (U:Int):OO:=bif decide (U < (a1.1.length:Int)) then (if 0<=U then ((a1.1[U.toNat]?).bind λa8=>if 0<=U then ((a1.2.1[U.toNat]?).bind λgx=>(nq.ab (a8,gx,())).bind λls=>bif !ls.1 then (some (false,())) else self (af (U+(1:Int)))) else none) else none) else e0 ()
noncomputable def q0 (a1:Arg) (qY:(Unit)):OO:=some (true,())
noncomputable def s0 (k:Nat) (a1:Arg):(Int)->OO:=λU=>D.L k [1,1,0,1,0,0] [0,1,5] [] (ah 0 (av (D.N k [1,1,1]) D.K0)) (T0 a1 U)
noncomputable def r0 (k:Nat) (a1:Arg):(Int)->OO:=al (λw v=>b0 w (q0 a1) a1 v) k
theorem aq (k:Nat) (a1:Arg):s0 k a1=r0 k a1:=
 funext λU=>ap _ _ _ (T0 a1) _ (λrec v=>by kernel_rfl) k U
noncomputable def p (l0:(Int)->OO) (a1:Arg):OO:=bif !decide ((a1.1.length:Int)=(a1.2.1.length:Int)) then (some (false,())) else l0 (0:Int)
theorem ae (k:Nat) (a1:Arg):@Eq OO (D.W k a1) (p (r0 k a1) a1):=
 aQ (b:=p (s0 k a1) a1) (by kernel_rfl) (by rw[aq])
theorem ok:Ok prog 52 D.sig:=am func52 aw (by kernel_rfl) (fc nq.ok (aj _))
end sd
namespace sE
abbrev Arg:Type:=Log×Log×Unit
abbrev Out:Type:=Bool×Unit
noncomputable def D:FD:={ fn:=f53,tl:=bc,ps:=[(.ro,ee),(.ro,ee)],rs:=[(.bool,(ak .bool))],gl:=[(115,nq.D.sig)] }
noncomputable def ab (a:Arg):Option Out:=@lift Out λk=>D.W k a
noncomputable def p (a1:Arg):Option Out:=(nq.ab (a1.1.1,a1.2.1.1,())).bind λr2=>bif !r2.1 then (some (false,())) else (nq.ab (a1.1.2.1,a1.2.1.2.1,())).bind λr3=>bif !r3.1 then (some (false,())) else some (true,())
theorem ae (k:Nat) (a1:Arg):@Eq (Option Out) (D.W k a1) (p a1):=by kernel_rfl
theorem ok:Ok prog 53 D.sig:=am func53 aw (by kernel_rfl) (fc nq.ok (aj _))
end sE
namespace se
abbrev Arg:Type:=(List Int)×(List Int)×Unit
abbrev Out:Type:=Bool×Unit
abbrev OO:=Option Out
noncomputable def D:FD:={ fn:=f59,tl:=bc,ps:=[(.ro,(.aa i64)),(.ro,(.aa i64))],rs:=[(.bool,(ak .bool))],lv:=[(4,[0,1,5])],lx:=[(0,[])],od:=[(6,[0,1,2,3,4,5,6,7,8])] }
noncomputable def ab (a:Arg):OO:=@lift Out λk=>D.W k a
noncomputable def T0 (a1:Arg) (U:Int):St:={ n:=26,sl:=[(0,.val (.aa i64) a1.1),(1,.val (.aa i64) a1.2.1),(5,.val i64 U)],vr:=[],az:=[] }
noncomputable def b0 (self:Int->OO) (e0:(Unit)->OO) (a1:Arg) (U:Int):OO:=bif decide (U < (a1.1.length:Int)) then (if 0<=U then ((a1.1[U.toNat]?).bind λa8=>if 0<=U then ((a1.2.1[U.toNat]?).bind λgx=>bif !decide (a8=gx) then (some (false,())) else self (af (U+(1:Int)))) else none) else none) else e0 ()
noncomputable def q0 (a1:Arg) (et:(Unit)):OO:=some (true,())
noncomputable def s0 (k:Nat) (a1:Arg):(Int)->OO:=λU=>D.L k [1,1,0,1,0,0] [0,1,5] [] (ah 0 (av (D.N k [1,1,1]) D.K0)) (T0 a1 U)
noncomputable def r0 (k:Nat) (a1:Arg):(Int)->OO:=al (λw v=>b0 w (q0 a1) a1 v) k
theorem aq (k:Nat) (a1:Arg):s0 k a1=r0 k a1:=
 funext λU=>ap _ _ _ (T0 a1) _ (λrec v=>by kernel_rfl) k U
noncomputable def p (l0:(Int)->OO) (a1:Arg):OO:=bif !decide ((a1.1.length:Int)=(a1.2.1.length:Int)) then (some (false,())) else l0 (0:Int)
theorem ae (k:Nat) (a1:Arg):@Eq OO (D.W k a1) (p (r0 k a1) a1):=
 aQ (b:=p (s0 k a1) a1) (by kernel_rfl) (by rw[aq])
theorem ok:Ok prog 59 D.sig:=am func59 aw (by kernel_rfl) (aj _)
end se
namespace rg
abbrev Arg:Type:=Row×Row×Unit
abbrev Out:Type:=Bool×Unit
noncomputable def D:FD:={ fn:=f122,tl:=bc,ps:=[(.ro,bd),(.ro,bd)],rs:=[(.bool,(ak .bool))] }
noncomputable def ab (a:Arg):Option Out:=@lift Out λk=>D.W k a
noncomputable def p (a1:Arg):Option Out:=bif !decide (a1.1.1=a1.2.1.1) then (some (false,())) else bif !decide (a1.1.2.1=a1.2.1.2.1) then (some (false,())) else bif !decide (a1.1.2.2.1=a1.2.1.2.2.1) then (some (false,())) else bif !decide (a1.1.2.2.2.1=a1.2.1.2.2.2.1) then (some (false,())) else some (true,())
theorem ae (k:Nat) (a1:Arg):@Eq (Option Out) (D.W k a1) (p a1):=by kernel_rfl
theorem ok:Ok prog 122 D.sig:=am func122 aw (by kernel_rfl) (aj _)
end rg
namespace of
abbrev Arg:Type:=Change×Change×Unit
abbrev Out:Type:=Bool×Unit
noncomputable def D:FD:={ fn:=f135,tl:=bc,ps:=[(.ro,an),(.ro,an)],rs:=[(.bool,(ak .bool))],gl:=[(122,rg.D.sig)] }
noncomputable def ab (a:Arg):Option Out:=@lift Out λk=>D.W k a
noncomputable def p (a1:Arg):Option Out:=bif !(a1.1.1 == a1.2.1.1) then (some (false,())) else (rg.ab (a1.1.2.1,a1.2.1.2.1,())).bind λr2=>bif !r2.1 then (some (false,())) else bif !(a1.1.2.2.1 == a1.2.1.2.2.1) then (some (false,())) else (rg.ab (a1.1.2.2.2.1,a1.2.1.2.2.2.1,())).bind λr3=>bif !r3.1 then (some (false,())) else some (true,())
theorem ae (k:Nat) (a1:Arg):@Eq (Option Out) (D.W k a1) (p a1):=by kernel_rfl
theorem ok:Ok prog 135 D.sig:=am func135 aw (by kernel_rfl) (fc rg.ok (aj _))
end of
namespace nJ
abbrev Arg:Type:=(List Change)×(List Change)×Unit
abbrev Out:Type:=Bool×Unit
abbrev OO:=Option Out
noncomputable def D:FD:={ fn:=f73,tl:=bc,ps:=[(.ro,(.aa an)),(.ro,(.aa an))],rs:=[(.bool,(ak .bool))],gl:=[(135,of.D.sig)],lv:=[(4,[0,1,5])],lx:=[(0,[])],od:=[(6,[0,1,2,3,4,5,6,7,8,9])] }
noncomputable def ab (a:Arg):OO:=@lift Out λk=>D.W k a
noncomputable def T0 (a1:Arg) (U:Int):St:={ n:=27,sl:=[(0,.val (.aa an) a1.1),(1,.val (.aa an) a1.2.1),(5,.val i64 U)],vr:=[],az:=[] }
noncomputable def b0 (self:Int->OO) (e0:(Unit)->OO) (a1:Arg) (U:Int):OO:=bif decide (U < (a1.1.length:Int)) then (if 0<=U then ((a1.1[U.toNat]?).bind λa8=>if 0<=U then ((a1.2.1[U.toNat]?).bind λgx=>(of.ab (a8,gx,())).bind λls=>bif !ls.1 then (some (false,())) else self (af (U+(1:Int)))) else none) else none) else e0 ()
noncomputable def q0 (a1:Arg) (qY:(Unit)):OO:=some (true,())
noncomputable def s0 (k:Nat) (a1:Arg):(Int)->OO:=λU=>D.L k [1,1,0,1,0,0] [0,1,5] [] (ah 0 (av (D.N k [1,1,1]) D.K0)) (T0 a1 U)
noncomputable def r0 (k:Nat) (a1:Arg):(Int)->OO:=al (λw v=>b0 w (q0 a1) a1 v) k
theorem aq (k:Nat) (a1:Arg):s0 k a1=r0 k a1:=
 funext λU=>ap _ _ _ (T0 a1) _ (λrec v=>by kernel_rfl) k U
noncomputable def p (l0:(Int)->OO) (a1:Arg):OO:=bif !decide ((a1.1.length:Int)=(a1.2.1.length:Int)) then (some (false,())) else l0 (0:Int)
theorem ae (k:Nat) (a1:Arg):@Eq OO (D.W k a1) (p (r0 k a1) a1):=
 aQ (b:=p (s0 k a1) a1) (by kernel_rfl) (by rw[aq])
theorem ok:Ok prog 73 D.sig:=am func73 aw (by kernel_rfl) (fc of.ok (aj _))
end nJ
namespace rh
abbrev Arg:Type:=Key×Key×Unit
abbrev Out:Type:=Bool×Unit
noncomputable def D:FD:={ fn:=f271,tl:=bc,ps:=[(.ro,be),(.ro,be)],rs:=[(.bool,(ak .bool))] }
noncomputable def ab (a:Arg):Option Out:=@lift Out λk=>D.W k a
noncomputable def p (a1:Arg):Option Out:=bif !decide (a1.1.1=a1.2.1.1) then (some (false,())) else bif !decide (a1.1.2.1=a1.2.1.2.1) then (some (false,())) else some (true,())
theorem ae (k:Nat) (a1:Arg):@Eq (Option Out) (D.W k a1) (p a1):=by kernel_rfl
theorem ok:Ok prog 271 D.sig:=am func271 aw (by kernel_rfl) (aj _)
end rh
namespace uz
abbrev Arg:Type:=(List Key)×(List Key)×Unit
abbrev Out:Type:=Bool×Unit
abbrev OO:=Option Out
noncomputable def D:FD:={ fn:=f199,tl:=bc,ps:=[(.ro,(.aa be)),(.ro,(.aa be))],rs:=[(.bool,(ak .bool))],gl:=[(271,rh.D.sig)],lv:=[(4,[0,1,5])],lx:=[(0,[])],od:=[(6,[0,1,2,3,4,5,6,7,8,9])] }
noncomputable def ab (a:Arg):OO:=@lift Out λk=>D.W k a
noncomputable def T0 (a1:Arg) (U:Int):St:={ n:=27,sl:=[(0,.val (.aa be) a1.1),(1,.val (.aa be) a1.2.1),(5,.val i64 U)],vr:=[],az:=[] }
noncomputable def b0 (self:Int->OO) (e0:(Unit)->OO) (a1:Arg) (U:Int):OO:=bif decide (U < (a1.1.length:Int)) then (if 0<=U then ((a1.1[U.toNat]?).bind λa8=>if 0<=U then ((a1.2.1[U.toNat]?).bind λgx=>(rh.ab (a8,gx,())).bind λls=>bif !ls.1 then (some (false,())) else self (af (U+(1:Int)))) else none) else none) else e0 ()
noncomputable def q0 (a1:Arg) (qY:(Unit)):OO:=some (true,())
noncomputable def s0 (k:Nat) (a1:Arg):(Int)->OO:=λU=>D.L k [1,1,0,1,0,0] [0,1,5] [] (ah 0 (av (D.N k [1,1,1]) D.K0)) (T0 a1 U)
noncomputable def r0 (k:Nat) (a1:Arg):(Int)->OO:=al (λw v=>b0 w (q0 a1) a1 v) k
theorem aq (k:Nat) (a1:Arg):s0 k a1=r0 k a1:=
 funext λU=>ap _ _ _ (T0 a1) _ (λrec v=>by kernel_rfl) k U
noncomputable def p (l0:(Int)->OO) (a1:Arg):OO:=bif !decide ((a1.1.length:Int)=(a1.2.1.length:Int)) then (some (false,())) else l0 (0:Int)
theorem ae (k:Nat) (a1:Arg):@Eq OO (D.W k a1) (p (r0 k a1) a1):=
 aQ (b:=p (s0 k a1) a1) (by kernel_rfl) (by rw[aq])
theorem ok:Ok prog 199 D.sig:=am func199 aw (by kernel_rfl) (fc rh.ok (aj _))
end uz
namespace sF
abbrev Arg:Type:=Tx×Tx×Unit
abbrev Out:Type:=Bool×Unit
noncomputable def D:FD:={ fn:=f116,tl:=bc,ps:=[(.ro,ca),(.ro,ca)],rs:=[(.bool,(ak .bool))],gl:=[(59,se.D.sig),(73,nJ.D.sig),(199,uz.D.sig)] }
noncomputable def ab (a:Arg):Option Out:=@lift Out λk=>D.W k a
noncomputable def p (a1:Arg):Option Out:=bif !decide (a1.1.1=a1.2.1.1) then (some (false,())) else (nJ.ab (a1.1.2.1,a1.2.1.2.1,())).bind λr2=>bif !r2.1 then (some (false,())) else (se.ab (a1.1.2.2.1,a1.2.1.2.2.1,())).bind λr3=>bif !r3.1 then (some (false,())) else (uz.ab (a1.1.2.2.2.1,a1.2.1.2.2.2.1,())).bind λr4=>bif !r4.1 then (some (false,())) else some (true,())
theorem ae (k:Nat) (a1:Arg):@Eq (Option Out) (D.W k a1) (p a1):=by kernel_rfl
theorem ok:Ok prog 116 D.sig:=am func116 aw (by kernel_rfl) (fc se.ok (fc nJ.ok (fc uz.ok (aj _))))
end sF
namespace vA
abbrev Arg:Type:=(List Tx)×(List Tx)×Unit
abbrev Out:Type:=Bool×Unit
abbrev OO:=Option Out
noncomputable def D:FD:={ fn:=f54,tl:=bc,ps:=[(.ro,(.aa ca)),(.ro,(.aa ca))],rs:=[(.bool,(ak .bool))],gl:=[(116,sF.D.sig)],lv:=[(4,[0,1,5])],lx:=[(0,[])],od:=[(6,[0,1,2,3,4,5,6,7,8,9])] }
noncomputable def ab (a:Arg):OO:=@lift Out λk=>D.W k a
noncomputable def T0 (a1:Arg) (U:Int):St:={ n:=27,sl:=[(0,.val (.aa ca) a1.1),(1,.val (.aa ca) a1.2.1),(5,.val i64 U)],vr:=[],az:=[] }
noncomputable def b0 (self:Int->OO) (e0:(Unit)->OO) (a1:Arg) (U:Int):OO:=bif decide (U < (a1.1.length:Int)) then (if 0<=U then ((a1.1[U.toNat]?).bind λa8=>if 0<=U then ((a1.2.1[U.toNat]?).bind λgx=>(sF.ab (a8,gx,())).bind λls=>bif !ls.1 then (some (false,())) else self (af (U+(1:Int)))) else none) else none) else e0 ()
noncomputable def q0 (a1:Arg) (qY:(Unit)):OO:=some (true,())
noncomputable def s0 (k:Nat) (a1:Arg):(Int)->OO:=λU=>D.L k [1,1,0,1,0,0] [0,1,5] [] (ah 0 (av (D.N k [1,1,1]) D.K0)) (T0 a1 U)
noncomputable def r0 (k:Nat) (a1:Arg):(Int)->OO:=al (λw v=>b0 w (q0 a1) a1 v) k
theorem aq (k:Nat) (a1:Arg):s0 k a1=r0 k a1:=
 funext λU=>ap _ _ _ (T0 a1) _ (λrec v=>by kernel_rfl) k U
noncomputable def p (l0:(Int)->OO) (a1:Arg):OO:=bif !decide ((a1.1.length:Int)=(a1.2.1.length:Int)) then (some (false,())) else l0 (0:Int)
theorem ae (k:Nat) (a1:Arg):@Eq OO (D.W k a1) (p (r0 k a1) a1):=
 aQ (b:=p (s0 k a1) a1) (by kernel_rfl) (by rw[aq])
theorem ok:Ok prog 54 D.sig:=am func54 aw (by kernel_rfl) (fc sF.ok (aj _))
end vA
namespace nr
abbrev Arg:Type:=bj×bj×Unit
abbrev Out:Type:=Bool×Unit
noncomputable def D:FD:={ fn:=f14,tl:=bc,ps:=[(.ro,ci),(.ro,ci)],rs:=[(.bool,(ak .bool))],gl:=[(52,sd.D.sig),(53,sE.D.sig),(54,vA.D.sig)] }
noncomputable def ab (a:Arg):Option Out:=@lift Out λk=>D.W k a
noncomputable def p (a1:Arg):Option Out:=bif !(a1.1.1 == a1.2.1.1) then (some (false,())) else (sd.ab (a1.1.2.1,a1.2.1.2.1,())).bind λr2=>bif !r2.1 then (some (false,())) else (sE.ab (a1.1.2.2.1,a1.2.1.2.2.1,())).bind λr3=>bif !r3.1 then (some (false,())) else (vA.ab (a1.1.2.2.2.1,a1.2.1.2.2.2.1,())).bind λr4=>bif !r4.1 then (some (false,())) else bif !decide (a1.1.2.2.2.2.1=a1.2.1.2.2.2.2.1) then (some (false,())) else some (true,())
theorem ae (k:Nat) (a1:Arg):@Eq (Option Out) (D.W k a1) (p a1):=by kernel_rfl
theorem ok:Ok prog 14 D.sig:=am func14 aw (by kernel_rfl) (fc sd.ok (fc sE.ok (fc vA.ok (aj _))))
end nr
namespace jU
abbrev Arg:Type:=mE×mE×Unit
abbrev Out:Type:=Bool×Unit
noncomputable def D:FD:={ fn:=f13,tl:=bc,ps:=[(.ro,gz),(.ro,gz)],rs:=[(.bool,(ak .bool))],gl:=[(14,nr.D.sig)] }
noncomputable def ab (a:Arg):Option Out:=@lift Out λk=>D.W k a
noncomputable def p (a1:Arg):Option Out:=bif !decide (a1.1.1=a1.2.1.1) then (some (false,())) else bif !decide (a1.1.2.1=a1.2.1.2.1) then (some (false,())) else (nr.ab (a1.1.2.2.1,a1.2.1.2.2.1,())).bind λr2=>bif !r2.1 then (some (false,())) else some (true,())
theorem ae (k:Nat) (a1:Arg):@Eq (Option Out) (D.W k a1) (p a1):=by kernel_rfl
theorem ok:Ok prog 13 D.sig:=am func13 aw (by kernel_rfl) (fc nr.ok (aj _))
end jU
namespace jr
abbrev Arg:Type:=(List UInt8)×Int×Unit
abbrev Out:Type:=Int×(List UInt8)×Unit
abbrev OO:=Option Out
noncomputable def D:FD:={ fn:=f117,tl:=bc,ps:=[(.k8 (ai (.aa u8)),(.aa u8)),(.ro,i64)],rs:=[(i64,(ak i64))],es:=[0],lv:=[(2,[0,1,5])],lx:=[(0,[0,1])] }
noncomputable def ab (a:Arg):OO:=@lift Out λk=>D.W k a
noncomputable def T0 (a1:Arg) (U:(List UInt8)×Int×Int):St:={ n:=20,sl:=[(0,.own (.aa u8) (ai (.aa u8)) [] U.1),(1,.val i64 U.2.1),(5,.val i64 U.2.2)],vr:=[],az:=[(0,0,true)] }
noncomputable def b0 (self:((List UInt8)×Int×Int)->OO) (e0:((List UInt8)×Int)->OO) (a1:Arg) (U:(List UInt8)×Int×Int):OO:=bif decide (U.2.2 < (U.1.length:Int)) then (if 0<=U.2.2/\U.2.2 < (U.1.length:Int) then ((U.1[U.2.2.toNat]?).bind λa8=>let qH:=U.1.set U.2.2.toNat (UInt8.ofInt U.2.1);self (qH,af (U.2.1+(1:Int)),af (U.2.2+(1:Int)))) else none) else e0 (U.1,U.2.1)
noncomputable def q0 (a1:Arg) (et:((List UInt8)×Int)):OO:=some (et.2,et.1,())
noncomputable def s0 (k:Nat) (a1:Arg):((List UInt8)×Int×Int)->OO:=λU=>D.L k [1,0,1,0,0] [0,1,5] [] (ah 0 (av (D.N k [1,1]) D.K0)) (T0 a1 U)
noncomputable def r0 (k:Nat) (a1:Arg):((List UInt8)×Int×Int)->OO:=al (λw v=>b0 w (q0 a1) a1 v) k
theorem aq (k:Nat) (a1:Arg):s0 k a1=r0 k a1:=
 funext λU=>ap _ _ _ (T0 a1) _ (λrec v=>by kernel_rfl) k U
noncomputable def p (l0:((List UInt8)×Int×Int)->OO) (a1:Arg):OO:=l0 (a1.1,a1.2.1,(0:Int))
theorem ae (k:Nat) (a1:Arg):@Eq OO (D.W k a1) (p (r0 k a1) a1):=
 aQ (b:=p (s0 k a1) a1) (by kernel_rfl) (by rw[aq])
theorem ok:Ok prog 117 D.sig:=am func117 aw (by kernel_rfl) (aj _)
end jr
namespace nV
abbrev Arg:Type:=(List (List UInt8))×Int×Unit
abbrev Out:Type:=Int×(List (List UInt8))×Unit
abbrev OO:=Option Out
noncomputable def D:FD:={ fn:=f55,tl:=bc,ps:=[(.k8 (ai (.aa (.aa u8))),(.aa (.aa u8))),(.ro,i64)],rs:=[(i64,(ak i64))],gl:=[(117,jr.D.sig)],es:=[0],lv:=[(2,[0,1,5])],lx:=[(0,[0,1])] }
noncomputable def ab (a:Arg):OO:=@lift Out λk=>D.W k a
noncomputable def T0 (a1:Arg) (U:(List (List UInt8))×Int×Int):St:={ n:=19,sl:=[(0,.own (.aa (.aa u8)) (ai (.aa (.aa u8))) [] U.1),(1,.val i64 U.2.1),(5,.val i64 U.2.2)],vr:=[],az:=[(0,0,true)] }
noncomputable def b0 (self:((List (List UInt8))×Int×Int)->OO) (e0:((List (List UInt8))×Int)->OO) (a1:Arg) (U:(List (List UInt8))×Int×Int):OO:=bif decide (U.2.2 < (U.1.length:Int)) then (if 0<=U.2.2/\U.2.2 < (U.1.length:Int) then ((U.1[U.2.2.toNat]?).bind λa8=>(U.1[U.2.2.toNat]?).bind λgx=>(U.1[U.2.2.toNat]?).bind λdw=>(jr.ab (dw,U.2.1,())).bind λjy=>(U.1[U.2.2.toNat]?).bind λrY=>self (U.1.set U.2.2.toNat jy.2.1,jy.1,af (U.2.2+(1:Int)))) else none) else e0 (U.1,U.2.1)
noncomputable def q0 (a1:Arg) (rM:((List (List UInt8))×Int)):OO:=some (rM.2,rM.1,())
noncomputable def s0 (k:Nat) (a1:Arg):((List (List UInt8))×Int×Int)->OO:=λU=>D.L k [1,0,1,0,0] [0,1,5] [] (ah 0 (av (D.N k [1,1]) D.K0)) (T0 a1 U)
noncomputable def r0 (k:Nat) (a1:Arg):((List (List UInt8))×Int×Int)->OO:=al (λw v=>b0 w (q0 a1) a1 v) k
theorem aq (k:Nat) (a1:Arg):s0 k a1=r0 k a1:=
 funext λU=>ap _ _ _ (T0 a1) _ (λrec v=>by kernel_rfl) k U
noncomputable def p (l0:((List (List UInt8))×Int×Int)->OO) (a1:Arg):OO:=l0 (a1.1,a1.2.1,(0:Int))
theorem ae (k:Nat) (a1:Arg):@Eq OO (D.W k a1) (p (r0 k a1) a1):=
 aQ (b:=p (s0 k a1) a1) (by kernel_rfl) (by rw[aq])
theorem ok:Ok prog 55 D.sig:=am func55 aw (by kernel_rfl) (fc jr.ok (aj _))
end nV
namespace my
abbrev Arg:Type:=Log×Int×Unit
abbrev Out:Type:=Int×Log×Unit
noncomputable def D:FD:={ fn:=f56,tl:=bc,ps:=[(.k8 (ai ee),ee),(.ro,i64)],rs:=[(i64,(ak i64))],gl:=[(117,jr.D.sig)],es:=[2] }
noncomputable def ab (a:Arg):Option Out:=@lift Out λk=>D.W k a
noncomputable def p (a1:Arg):Option Out:=(jr.ab (a1.1.1,a1.2.1,())).bind λr2=>(jr.ab (a1.1.2.1,r2.1,())).bind λr3=>some (r3.1,(r2.2.1,r3.2.1,a1.1.2.2),())
theorem ae (k:Nat) (a1:Arg):@Eq (Option Out) (D.W k a1) (p a1):=by kernel_rfl
theorem ok:Ok prog 56 D.sig:=am func56 aw (by kernel_rfl) (fc jr.ok (aj _))
end my
namespace l5
abbrev Arg:Type:=(List Int)×Int×Unit
abbrev Out:Type:=Int×(List Int)×Unit
abbrev OO:=Option Out
noncomputable def D:FD:={ fn:=f62,tl:=bc,ps:=[(.k8 (ai (.aa i64)),(.aa i64)),(.ro,i64)],rs:=[(i64,(ak i64))],es:=[0],lv:=[(2,[0,1,5])],lx:=[(0,[0,1])] }
noncomputable def ab (a:Arg):OO:=@lift Out λk=>D.W k a
noncomputable def T0 (a1:Arg) (U:(List Int)×Int×Int):St:={ n:=19,sl:=[(0,.own (.aa i64) (ai (.aa i64)) [] U.1),(1,.val i64 U.2.1),(5,.val i64 U.2.2)],vr:=[],az:=[(0,0,true)] }
noncomputable def b0 (self:((List Int)×Int×Int)->OO) (e0:((List Int)×Int)->OO) (a1:Arg) (U:(List Int)×Int×Int):OO:=bif decide (U.2.2 < (U.1.length:Int)) then (if 0<=U.2.2/\U.2.2 < (U.1.length:Int) then ((U.1[U.2.2.toNat]?).bind λa8=>self (U.1.set U.2.2.toNat U.2.1,af (U.2.1+(1:Int)),af (U.2.2+(1:Int)))) else none) else e0 (U.1,U.2.1)
noncomputable def q0 (a1:Arg) (mM:((List Int)×Int)):OO:=some (mM.2,mM.1,())
noncomputable def s0 (k:Nat) (a1:Arg):((List Int)×Int×Int)->OO:=λU=>D.L k [1,0,1,0,0] [0,1,5] [] (ah 0 (av (D.N k [1,1]) D.K0)) (T0 a1 U)
noncomputable def r0 (k:Nat) (a1:Arg):((List Int)×Int×Int)->OO:=al (λw v=>b0 w (q0 a1) a1 v) k
theorem aq (k:Nat) (a1:Arg):s0 k a1=r0 k a1:=
 funext λU=>ap _ _ _ (T0 a1) _ (λrec v=>by kernel_rfl) k U
noncomputable def p (l0:((List Int)×Int×Int)->OO) (a1:Arg):OO:=l0 (a1.1,a1.2.1,(0:Int))
theorem ae (k:Nat) (a1:Arg):@Eq OO (D.W k a1) (p (r0 k a1) a1):=
 aQ (b:=p (s0 k a1) a1) (by kernel_rfl) (by rw[aq])
theorem ok:Ok prog 62 D.sig:=am func62 aw (by kernel_rfl) (aj _)
end l5
namespace df
abbrev Arg:Type:=Int×Unit
abbrev Out:Type:=(List UInt8)×Unit
abbrev OO:=Option Out
noncomputable def D:FD:={ fn:=f61,tl:=bc,ps:=[(.ro,i64)],rs:=[(.str,(ak .str))],lv:=[(4,[0,3])],lx:=[(0,[3])] }
noncomputable def ab (a:Arg):OO:=@lift Out λk=>D.W k a
noncomputable def T0 (a1:Arg) (U:Int×(List UInt8)):St:={ n:=20,sl:=[(0,.val i64 U.1),(3,.val .str U.2)],vr:=[],az:=[] }
noncomputable def b0 (self:(Int×(List UInt8))->OO) (e0:(List UInt8)->OO) (a1:Arg) (U:Int×(List UInt8)):OO:=bif decide ((0:Int) < U.1) then (if [UInt8.ofInt (af ((48:Int)+(U.1.tmod (10:Int))))].length+U.2.length<=cg then (self (af (U.1.tdiv (10:Int)),[UInt8.ofInt (af ((48:Int)+(U.1.tmod (10:Int))))]++U.2)) else none) else e0 U.2
noncomputable abbrev B0 (_:Nat):=b0
noncomputable def q0 (a1:Arg) (ZV:(List UInt8)):OO:=if ([109]:List UInt8).length+ZV.length<=cg then (some (([109]:List UInt8)++ZV,())) else none
noncomputable abbrev Q0 (_:Nat):=q0
noncomputable def s0 (k:Nat) (a1:Arg):(Int×(List UInt8))->OO:=λU=>D.L k [1,1,1,0,0,0] [0,3] [] (ah 0 (av (D.N k [1,1,1,1]) D.K0)) (T0 a1 U)
noncomputable def r0 (k:Nat) (a1:Arg):(Int×(List UInt8))->OO:=al (λw v=>B0 k w (Q0 k a1) a1 v) k
theorem aq (k:Nat) (a1:Arg):s0 k a1=r0 k a1:=
 funext λU=>ap _ _ _ (T0 a1) _ (λrec v=>by kernel_rfl) k U
noncomputable def p (l0:(Int×(List UInt8))->OO) (a1:Arg):OO:=bif decide (a1.1<=(0:Int)) then (some (([109,48]:List UInt8),())) else l0 (a1.1,([]:List UInt8))
theorem ae (k:Nat) (a1:Arg):@Eq OO (D.W k a1) (p (r0 k a1) a1):=
 aQ (b:=p (s0 k a1) a1) (by kernel_rfl) (by rw[aq])
theorem ok:Ok prog 61 D.sig:=am func61 aw (by kernel_rfl) (aj _)
end df
namespace jc
abbrev Arg:Type:=(List Change)×Int×Unit
abbrev Out:Type:=Int×(List Change)×Unit
abbrev OO:=Option Out
noncomputable def D:FD:={ fn:=f74,tl:=bc,ps:=[(.k8 (ai (.aa an)),(.aa an)),(.ro,i64)],rs:=[(i64,(ak i64))],gl:=[(61,df.D.sig)],es:=[0],lv:=[(2,[0,1,5])],lx:=[(0,[0,1])] }
noncomputable def ab (a:Arg):OO:=@lift Out λk=>D.W k a
noncomputable def T0 (a1:Arg) (U:(List Change)×Int×Int):St:={ n:=97,sl:=[(0,.own (.aa an) (ai (.aa an)) [] U.1),(1,.val i64 U.2.1),(5,.val i64 U.2.2)],vr:=[],az:=[(0,0,true)] }
noncomputable def b0 (self:((List Change)×Int×Int)->OO) (e0:((List Change)×Int)->OO) (a1:Arg) (U:(List Change)×Int×Int):OO:=bif decide (U.2.2 < (U.1.length:Int)) then (if 0<=U.2.2/\U.2.2 < (U.1.length:Int) then ((U.1[U.2.2.toNat]?).bind λa8=>let qH:=U.1.set U.2.2.toNat (decide (U.2.1.tmod (3:Int)=(0:Int)),a8.2);if 0<=U.2.2/\U.2.2 < (qH.length:Int) then ((qH[U.2.2.toNat]?).bind λdw=>let xh:=qH.set U.2.2.toNat (dw.1,(af (U.2.1+(1:Int)),dw.2.1.2),dw.2.2);if 0<=U.2.2/\U.2.2 < (xh.length:Int) then ((xh[U.2.2.toNat]?).bind λrY=>let Vt:=xh.set U.2.2.toNat (rY.1,(rY.2.1.1,af ((af (U.2.1+(1:Int)))+(1:Int)),rY.2.1.2.2),rY.2.2);if 0<=U.2.2/\U.2.2 < (Vt.length:Int) then ((Vt[U.2.2.toNat]?).bind λxf=>let yV:=Vt.set U.2.2.toNat (xf.1,(xf.2.1.1,xf.2.1.2.1,af ((af ((af (U.2.1+(1:Int)))+(1:Int)))+(1:Int)),xf.2.1.2.2.2),xf.2.2);(df.ab (af ((af ((af ((af (U.2.1+(1:Int)))+(1:Int)))+(1:Int)))+(1:Int)),())).bind λMF=>if 0<=U.2.2/\U.2.2 < (yV.length:Int) then ((yV[U.2.2.toNat]?).bind λxS=>let MH:=yV.set U.2.2.toNat (xS.1,(xS.2.1.1,xS.2.1.2.1,xS.2.1.2.2.1,MF.1,xS.2.1.2.2.2.2),xS.2.2);if 0<=U.2.2/\U.2.2 < (MH.length:Int) then ((MH[U.2.2.toNat]?).bind λAA=>let ML:=MH.set U.2.2.toNat (AA.1,AA.2.1,decide ((af ((af ((af ((af ((af (U.2.1+(1:Int)))+(1:Int)))+(1:Int)))+(1:Int)))+(1:Int))).tmod (3:Int)=(0:Int)),AA.2.2.2);if 0<=U.2.2/\U.2.2 < (ML.length:Int) then ((ML[U.2.2.toNat]?).bind λAB=>let MK:=ML.set U.2.2.toNat (AB.1,AB.2.1,AB.2.2.1,(af ((af ((af ((af ((af ((af (U.2.1+(1:Int)))+(1:Int)))+(1:Int)))+(1:Int)))+(1:Int)))+(1:Int)),AB.2.2.2.1.2),AB.2.2.2.2);if 0<=U.2.2/\U.2.2 < (MK.length:Int) then ((MK[U.2.2.toNat]?).bind λu0=>let MJ:=MK.set U.2.2.toNat (u0.1,u0.2.1,u0.2.2.1,(u0.2.2.2.1.1,af ((af ((af ((af ((af ((af ((af (U.2.1+(1:Int)))+(1:Int)))+(1:Int)))+(1:Int)))+(1:Int)))+(1:Int)))+(1:Int)),u0.2.2.2.1.2.2),u0.2.2.2.2);if 0<=U.2.2/\U.2.2 < (MJ.length:Int) then ((MJ[U.2.2.toNat]?).bind λDd=>let AD:=MJ.set U.2.2.toNat (Dd.1,Dd.2.1,Dd.2.2.1,(Dd.2.2.2.1.1,Dd.2.2.2.1.2.1,af ((af ((af ((af ((af ((af ((af ((af (U.2.1+(1:Int)))+(1:Int)))+(1:Int)))+(1:Int)))+(1:Int)))+(1:Int)))+(1:Int)))+(1:Int)),Dd.2.2.2.1.2.2.2),Dd.2.2.2.2);(df.ab (af ((af ((af ((af ((af ((af ((af ((af ((af (U.2.1+(1:Int)))+(1:Int)))+(1:Int)))+(1:Int)))+(1:Int)))+(1:Int)))+(1:Int)))+(1:Int)))+(1:Int)),())).bind λabO=>if 0<=U.2.2/\U.2.2 < (AD.length:Int) then ((AD[U.2.2.toNat]?).bind λEC=>let abP:=AD.set U.2.2.toNat (EC.1,EC.2.1,EC.2.2.1,(EC.2.2.2.1.1,EC.2.2.2.1.2.1,EC.2.2.2.1.2.2.1,abO.1,EC.2.2.2.1.2.2.2.2),EC.2.2.2.2);self (abP,af ((af ((af ((af ((af ((af ((af ((af ((af ((af (U.2.1+(1:Int)))+(1:Int)))+(1:Int)))+(1:Int)))+(1:Int)))+(1:Int)))+(1:Int)))+(1:Int)))+(1:Int)))+(1:Int)),af (U.2.2+(1:Int)))) else none) else none) else none) else none) else none) else none) else none) else none) else none) else none) else e0 (U.1,U.2.1)
noncomputable def q0 (a1:Arg) (ZW:((List Change)×Int)):OO:=some (ZW.2,ZW.1,())
noncomputable def s0 (k:Nat) (a1:Arg):((List Change)×Int×Int)->OO:=λU=>D.L k [1,0,1,0,0] [0,1,5] [] (ah 0 (av (D.N k [1,1]) D.K0)) (T0 a1 U)
noncomputable def r0 (k:Nat) (a1:Arg):((List Change)×Int×Int)->OO:=al (λw v=>b0 w (q0 a1) a1 v) k
theorem aq (k:Nat) (a1:Arg):s0 k a1=r0 k a1:=
 funext λU=>ap _ _ _ (T0 a1) _ (λrec v=>by kernel_rfl) k U
noncomputable def p (l0:((List Change)×Int×Int)->OO) (a1:Arg):OO:=l0 (a1.1,a1.2.1,(0:Int))
theorem ae (k:Nat) (a1:Arg):@Eq OO (D.W k a1) (p (r0 k a1) a1):=
 aQ (b:=p (s0 k a1) a1) (by kernel_rfl) (by rw[aq])
theorem ok:Ok prog 74 D.sig:=am func74 aw (by kernel_rfl) (fc df.ok (aj _))
end jc
namespace nB
abbrev Arg:Type:=(List Key)×Int×Unit
abbrev Out:Type:=Int×(List Key)×Unit
abbrev OO:=Option Out
noncomputable def D:FD:={ fn:=f118,tl:=bc,ps:=[(.k8 (ai (.aa be)),(.aa be)),(.ro,i64)],rs:=[(i64,(ak i64))],es:=[0],lv:=[(2,[0,1,5])],lx:=[(0,[0,1])] }
noncomputable def ab (a:Arg):OO:=@lift Out λk=>D.W k a
noncomputable def T0 (a1:Arg) (U:(List Key)×Int×Int):St:={ n:=27,sl:=[(0,.own (.aa be) (ai (.aa be)) [] U.1),(1,.val i64 U.2.1),(5,.val i64 U.2.2)],vr:=[],az:=[(0,0,true)] }
noncomputable def b0 (self:((List Key)×Int×Int)->OO) (e0:((List Key)×Int)->OO) (a1:Arg) (U:(List Key)×Int×Int):OO:=bif decide (U.2.2 < (U.1.length:Int)) then (if 0<=U.2.2/\U.2.2 < (U.1.length:Int) then ((U.1[U.2.2.toNat]?).bind λa8=>let qH:=U.1.set U.2.2.toNat (U.2.1,a8.2);if 0<=U.2.2/\U.2.2 < (qH.length:Int) then ((qH[U.2.2.toNat]?).bind λdw=>let xh:=qH.set U.2.2.toNat (dw.1,af (U.2.1+(1:Int)),dw.2.2);self (xh,af ((af (U.2.1+(1:Int)))+(1:Int)),af (U.2.2+(1:Int)))) else none) else none) else e0 (U.1,U.2.1)
noncomputable def q0 (a1:Arg) (lg:((List Key)×Int)):OO:=some (lg.2,lg.1,())
noncomputable def s0 (k:Nat) (a1:Arg):((List Key)×Int×Int)->OO:=λU=>D.L k [1,0,1,0,0] [0,1,5] [] (ah 0 (av (D.N k [1,1]) D.K0)) (T0 a1 U)
noncomputable def r0 (k:Nat) (a1:Arg):((List Key)×Int×Int)->OO:=al (λw v=>b0 w (q0 a1) a1 v) k
theorem aq (k:Nat) (a1:Arg):s0 k a1=r0 k a1:=
 funext λU=>ap _ _ _ (T0 a1) _ (λrec v=>by kernel_rfl) k U
noncomputable def p (l0:((List Key)×Int×Int)->OO) (a1:Arg):OO:=l0 (a1.1,a1.2.1,(0:Int))
theorem ae (k:Nat) (a1:Arg):@Eq OO (D.W k a1) (p (r0 k a1) a1):=
 aQ (b:=p (s0 k a1) a1) (by kernel_rfl) (by rw[aq])
theorem ok:Ok prog 118 D.sig:=am func118 aw (by kernel_rfl) (aj _)
end nB
namespace qj
abbrev Arg:Type:=(List Tx)×Int×Unit
abbrev Out:Type:=Int×(List Tx)×Unit
abbrev OO:=Option Out
noncomputable def D:FD:={ fn:=f57,tl:=bc,ps:=[(.k8 (ai (.aa ca)),(.aa ca)),(.ro,i64)],rs:=[(i64,(ak i64))],gl:=[(62,l5.D.sig),(74,jc.D.sig),(118,nB.D.sig)],es:=[0],lv:=[(2,[0,1,5])],lx:=[(0,[0,1])] }
noncomputable def ab (a:Arg):OO:=@lift Out λk=>D.W k a
noncomputable def T0 (a1:Arg) (U:(List Tx)×Int×Int):St:={ n:=41,sl:=[(0,.own (.aa ca) (ai (.aa ca)) [] U.1),(1,.val i64 U.2.1),(5,.val i64 U.2.2)],vr:=[],az:=[(0,0,true)] }
noncomputable def b0 (self:((List Tx)×Int×Int)->OO) (e0:((List Tx)×Int)->OO) (a1:Arg) (U:(List Tx)×Int×Int):OO:=bif decide (U.2.2 < (U.1.length:Int)) then (if 0<=U.2.2/\U.2.2 < (U.1.length:Int) then ((U.1[U.2.2.toNat]?).bind λa8=>let qH:=U.1.set U.2.2.toNat (U.2.1,a8.2);if 0<=U.2.2/\U.2.2 < (qH.length:Int) then ((qH[U.2.2.toNat]?).bind λdw=>(qH[U.2.2.toNat]?).bind λrL=>(qH[U.2.2.toNat]?).bind λrY=>(jc.ab (rY.2.1,af (U.2.1+(1:Int)),())).bind λpF=>(qH[U.2.2.toNat]?).bind λxf=>let yV:=qH.set U.2.2.toNat (xf.1,pF.2.1,xf.2.2);if 0<=U.2.2/\U.2.2 < (yV.length:Int) then ((yV[U.2.2.toNat]?).bind λEA=>(yV[U.2.2.toNat]?).bind λxS=>(yV[U.2.2.toNat]?).bind λEB=>(l5.ab (EB.2.2.1,pF.1,())).bind λDa=>(yV[U.2.2.toNat]?).bind λC_=>let Jr:=yV.set U.2.2.toNat (C_.1,C_.2.1,Da.2.1,C_.2.2.2);if 0<=U.2.2/\U.2.2 < (Jr.length:Int) then ((Jr[U.2.2.toNat]?).bind λJp=>(Jr[U.2.2.toNat]?).bind λu0=>(Jr[U.2.2.toNat]?).bind λabQ=>(nB.ab (abQ.2.2.2.1,Da.1,())).bind λRf=>(Jr[U.2.2.toNat]?).bind λJo=>let abR:=Jr.set U.2.2.toNat (Jo.1,Jo.2.1,Jo.2.2.1,Rf.2.1,Jo.2.2.2.2);self (abR,Rf.1,af (U.2.2+(1:Int)))) else none) else none) else none) else none) else e0 (U.1,U.2.1)
noncomputable def q0 (a1:Arg) (ZX:((List Tx)×Int)):OO:=some (ZX.2,ZX.1,())
noncomputable def s0 (k:Nat) (a1:Arg):((List Tx)×Int×Int)->OO:=λU=>D.L k [1,0,1,0,0] [0,1,5] [] (ah 0 (av (D.N k [1,1]) D.K0)) (T0 a1 U)
noncomputable def r0 (k:Nat) (a1:Arg):((List Tx)×Int×Int)->OO:=al (λw v=>b0 w (q0 a1) a1 v) k
theorem aq (k:Nat) (a1:Arg):s0 k a1=r0 k a1:=
 funext λU=>ap _ _ _ (T0 a1) _ (λrec v=>by kernel_rfl) k U
noncomputable def p (l0:((List Tx)×Int×Int)->OO) (a1:Arg):OO:=l0 (a1.1,a1.2.1,(0:Int))
theorem ae (k:Nat) (a1:Arg):@Eq OO (D.W k a1) (p (r0 k a1) a1):=
 aQ (b:=p (s0 k a1) a1) (by kernel_rfl) (by rw[aq])
theorem ok:Ok prog 57 D.sig:=am func57 aw (by kernel_rfl) (fc l5.ok (fc jc.ok (fc nB.ok (aj _))))
end qj
namespace jd
abbrev Arg:Type:=bj×Int×Unit
abbrev Out:Type:=Int×bj×Unit
noncomputable def D:FD:={ fn:=f15,tl:=bc,ps:=[(.k8 (ai ci),ci),(.ro,i64)],rs:=[(i64,(ak i64))],gl:=[(55,nV.D.sig),(56,my.D.sig),(57,qj.D.sig)],es:=[2] }
noncomputable def ab (a:Arg):Option Out:=@lift Out λk=>D.W k a
noncomputable def p (a1:Arg):Option Out:=(nV.ab (a1.1.2.1,a1.2.1,())).bind λr2=>(my.ab (a1.1.2.2.1,r2.1,())).bind λr3=>(qj.ab (a1.1.2.2.2.1,r3.1,())).bind λr4=>some (r4.1,(a1.1.1,r2.2.1,r3.2.1,r4.2.1,a1.1.2.2.2.2),())
theorem ae (k:Nat) (a1:Arg):@Eq (Option Out) (D.W k a1) (p a1):=by kernel_rfl
theorem ok:Ok prog 15 D.sig:=am func15 aw (by kernel_rfl) (fc nV.ok (fc my.ok (fc qj.ok (aj _))))
end jd
namespace kX
abbrev Arg:Type:=mE×Int×Unit
abbrev Out:Type:=Int×mE×Unit
noncomputable def D:FD:={ fn:=f16,tl:=bc,ps:=[(.k8 (ai gz),gz),(.ro,i64)],rs:=[(i64,(ak i64))],gl:=[(15,jd.D.sig)],es:=[2] }
noncomputable def ab (a:Arg):Option Out:=@lift Out λk=>D.W k a
noncomputable def p (a1:Arg):Option Out:=(jd.ab (a1.1.2.2.1,a1.2.1,())).bind λr2=>some (r2.1,(a1.1.1,a1.1.2.1,r2.2.1,a1.1.2.2.2),())
theorem ae (k:Nat) (a1:Arg):@Eq (Option Out) (D.W k a1) (p a1):=by kernel_rfl
theorem ok:Ok prog 16 D.sig:=am func16 aw (by kernel_rfl) (fc jd.ok (aj _))
end kX
namespace lQ
abbrev Arg:Type:=(List UInt8)×Int×Unit
abbrev Out:Type:=Int×Unit
abbrev OO:=Option Out
noncomputable def D:FD:={ fn:=f200,tl:=bc,ps:=[(.ro,(.aa u8)),(.ro,i64)],rs:=[(i64,(ak i64))],lv:=[(2,[0,1,5])],lx:=[(0,[1])] }
noncomputable def ab (a:Arg):OO:=@lift Out λk=>D.W k a
noncomputable def T0 (a1:Arg) (U:Int×Int):St:={ n:=22,sl:=[(0,.val (.aa u8) a1.1),(1,.val i64 U.1),(5,.val i64 U.2)],vr:=[],az:=[] }
noncomputable def b0 (self:(Int×Int)->OO) (e0:Int->OO) (a1:Arg) (U:Int×Int):OO:=bif decide (U.2 < (a1.1.length:Int)) then (if 0<=U.2 then ((a1.1[U.2.toNat]?).bind λa8=>bif !decide ((a8.toNat:Int)=((UInt8.ofInt U.1).toNat:Int)) then (some ((-1:Int),())) else self (af (U.1+(1:Int)),af (U.2+(1:Int)))) else none) else e0 U.1
noncomputable def q0 (a1:Arg) (mM:Int):OO:=some (mM,())
noncomputable def s0 (k:Nat) (a1:Arg):(Int×Int)->OO:=λU=>D.L k [1,0,1,0,0] [0,1,5] [] (ah 0 (av (D.N k [1,1]) D.K0)) (T0 a1 U)
noncomputable def r0 (k:Nat) (a1:Arg):(Int×Int)->OO:=al (λw v=>b0 w (q0 a1) a1 v) k
theorem aq (k:Nat) (a1:Arg):s0 k a1=r0 k a1:=
 funext λU=>ap _ _ _ (T0 a1) _ (λrec v=>by kernel_rfl) k U
noncomputable def p (l0:(Int×Int)->OO) (a1:Arg):OO:=l0 (a1.2.1,(0:Int))
theorem ae (k:Nat) (a1:Arg):@Eq OO (D.W k a1) (p (r0 k a1) a1):=
 aQ (b:=p (s0 k a1) a1) (by kernel_rfl) (by rw[aq])
theorem ok:Ok prog 200 D.sig:=am func200 aw (by kernel_rfl) (aj _)
end lQ
namespace qx
abbrev Arg:Type:=(List (List UInt8))×Int×Unit
abbrev Out:Type:=Int×Unit
abbrev OO:=Option Out
noncomputable def D:FD:={ fn:=f119,tl:=bc,ps:=[(.ro,(.aa (.aa u8))),(.ro,i64)],rs:=[(i64,(ak i64))],gl:=[(200,lQ.D.sig)],lv:=[(2,[0,1,5])],lx:=[(0,[1])] }
noncomputable def ab (a:Arg):OO:=@lift Out λk=>D.W k a
noncomputable def T0 (a1:Arg) (U:Int×Int):St:={ n:=21,sl:=[(0,.val (.aa (.aa u8)) a1.1),(1,.val i64 U.1),(5,.val i64 U.2)],vr:=[],az:=[] }
noncomputable def b0 (self:(Int×Int)->OO) (e0:Int->OO) (a1:Arg) (U:Int×Int):OO:=bif decide (U.2 < (a1.1.length:Int)) then (if 0<=U.2 then ((a1.1[U.2.toNat]?).bind λa8=>(lQ.ab (a8,U.1,())).bind λdg=>bif decide (dg.1 < (0:Int)) then (some ((-1:Int),())) else self (dg.1,af (U.2+(1:Int)))) else none) else e0 U.1
noncomputable def q0 (a1:Arg) (et:Int):OO:=some (et,())
noncomputable def s0 (k:Nat) (a1:Arg):(Int×Int)->OO:=λU=>D.L k [1,0,1,0,0] [0,1,5] [] (ah 0 (av (D.N k [1,1]) D.K0)) (T0 a1 U)
noncomputable def r0 (k:Nat) (a1:Arg):(Int×Int)->OO:=al (λw v=>b0 w (q0 a1) a1 v) k
theorem aq (k:Nat) (a1:Arg):s0 k a1=r0 k a1:=
 funext λU=>ap _ _ _ (T0 a1) _ (λrec v=>by kernel_rfl) k U
noncomputable def p (l0:(Int×Int)->OO) (a1:Arg):OO:=l0 (a1.2.1,(0:Int))
theorem ae (k:Nat) (a1:Arg):@Eq OO (D.W k a1) (p (r0 k a1) a1):=
 aQ (b:=p (s0 k a1) a1) (by kernel_rfl) (by rw[aq])
theorem ok:Ok prog 119 D.sig:=am func119 aw (by kernel_rfl) (fc lQ.ok (aj _))
end qx
namespace qk
abbrev Arg:Type:=Log×Int×Unit
abbrev Out:Type:=Int×Unit
noncomputable def D:FD:={ fn:=f120,tl:=bc,ps:=[(.ro,ee),(.ro,i64)],rs:=[(i64,(ak i64))],gl:=[(200,lQ.D.sig)] }
noncomputable def ab (a:Arg):Option Out:=@lift Out λk=>D.W k a
noncomputable def p (a1:Arg):Option Out:=(lQ.ab (a1.1.1,a1.2.1,())).bind λr2=>bif decide (r2.1 < (0:Int)) then (some ((-1:Int),())) else (lQ.ab (a1.1.2.1,r2.1,())).bind λr3=>bif decide (r3.1 < (0:Int)) then (some ((-1:Int),())) else some (r3.1,())
theorem ae (k:Nat) (a1:Arg):@Eq (Option Out) (D.W k a1) (p a1):=by kernel_rfl
theorem ok:Ok prog 120 D.sig:=am func120 aw (by kernel_rfl) (fc lQ.ok (aj _))
end qk
namespace o_
abbrev Arg:Type:=(List Int)×Int×Unit
abbrev Out:Type:=Int×Unit
abbrev OO:=Option Out
noncomputable def D:FD:={ fn:=f63,tl:=bc,ps:=[(.ro,(.aa i64)),(.ro,i64)],rs:=[(i64,(ak i64))],lv:=[(2,[0,1,5])],lx:=[(0,[1])] }
noncomputable def ab (a:Arg):OO:=@lift Out λk=>D.W k a
noncomputable def T0 (a1:Arg) (U:Int×Int):St:={ n:=21,sl:=[(0,.val (.aa i64) a1.1),(1,.val i64 U.1),(5,.val i64 U.2)],vr:=[],az:=[] }
noncomputable def b0 (self:(Int×Int)->OO) (e0:Int->OO) (a1:Arg) (U:Int×Int):OO:=bif decide (U.2 < (a1.1.length:Int)) then (if 0<=U.2 then ((a1.1[U.2.toNat]?).bind λa8=>bif !decide (a8=U.1) then (some ((-1:Int),())) else self (af (U.1+(1:Int)),af (U.2+(1:Int)))) else none) else e0 U.1
noncomputable def q0 (a1:Arg) (mM:Int):OO:=some (mM,())
noncomputable def s0 (k:Nat) (a1:Arg):(Int×Int)->OO:=λU=>D.L k [1,0,1,0,0] [0,1,5] [] (ah 0 (av (D.N k [1,1]) D.K0)) (T0 a1 U)
noncomputable def r0 (k:Nat) (a1:Arg):(Int×Int)->OO:=al (λw v=>b0 w (q0 a1) a1 v) k
theorem aq (k:Nat) (a1:Arg):s0 k a1=r0 k a1:=
 funext λU=>ap _ _ _ (T0 a1) _ (λrec v=>by kernel_rfl) k U
noncomputable def p (l0:(Int×Int)->OO) (a1:Arg):OO:=l0 (a1.2.1,(0:Int))
theorem ae (k:Nat) (a1:Arg):@Eq OO (D.W k a1) (p (r0 k a1) a1):=
 aQ (b:=p (s0 k a1) a1) (by kernel_rfl) (by rw[aq])
theorem ok:Ok prog 63 D.sig:=am func63 aw (by kernel_rfl) (aj _)
end o_
namespace ot
abbrev Arg:Type:=(List Change)×Int×Unit
abbrev Out:Type:=Int×Unit
abbrev OO:=Option Out
noncomputable def D:FD:={ fn:=f201,tl:=bc,ps:=[(.ro,(.aa an)),(.ro,i64)],rs:=[(i64,(ak i64))],gl:=[(61,df.D.sig)],lv:=[(2,[0,1,5])],lx:=[(0,[1])],od:=[(16,[0,1,2,3,4,5,6,7,8]),(31,[0,1,2,3,4,5,6,7,8])] }
noncomputable def ab (a:Arg):OO:=@lift Out λk=>D.W k a
noncomputable def T0 (a1:Arg) (U:Int×Int):St:={ n:=117,sl:=[(0,.val (.aa an) a1.1),(1,.val i64 U.1),(5,.val i64 U.2)],vr:=[],az:=[] }
noncomputable def b0 (self:(Int×Int)->OO) (e0:Int->OO) (a1:Arg) (U:Int×Int):OO:=bif decide (U.2 < (a1.1.length:Int)) then (if 0<=U.2 then ((a1.1[U.2.toNat]?).bind λa8=>bif !(a8.1 == (decide (U.1.tmod (3:Int)=(0:Int)))) then (some ((-1:Int),())) else if 0<=U.2 then ((a1.1[U.2.toNat]?).bind λgx=>bif !decide (gx.2.1.1=af (U.1+(1:Int))) then (some ((-1:Int),())) else if 0<=U.2 then ((a1.1[U.2.toNat]?).bind λdw=>bif !decide (dw.2.1.2.1=af ((af (U.1+(1:Int)))+(1:Int))) then (some ((-1:Int),())) else if 0<=U.2 then ((a1.1[U.2.toNat]?).bind λrL=>bif !decide (rL.2.1.2.2.1=af ((af ((af (U.1+(1:Int)))+(1:Int)))+(1:Int))) then (some ((-1:Int),())) else if 0<=U.2 then ((a1.1[U.2.toNat]?).bind λrY=>(df.ab (af ((af ((af ((af (U.1+(1:Int)))+(1:Int)))+(1:Int)))+(1:Int)),())).bind λpF=>bif !decide (rY.2.1.2.2.2.1=pF.1) then (some ((-1:Int),())) else if 0<=U.2 then ((a1.1[U.2.toNat]?).bind λxf=>bif !(xf.2.2.1 == (decide ((af ((af ((af ((af ((af (U.1+(1:Int)))+(1:Int)))+(1:Int)))+(1:Int)))+(1:Int))).tmod (3:Int)=(0:Int)))) then (some ((-1:Int),())) else if 0<=U.2 then ((a1.1[U.2.toNat]?).bind λG4=>bif !decide (G4.2.2.2.1.1=af ((af ((af ((af ((af ((af (U.1+(1:Int)))+(1:Int)))+(1:Int)))+(1:Int)))+(1:Int)))+(1:Int))) then (some ((-1:Int),())) else if 0<=U.2 then ((a1.1[U.2.toNat]?).bind λEA=>bif !decide (EA.2.2.2.1.2.1=af ((af ((af ((af ((af ((af ((af (U.1+(1:Int)))+(1:Int)))+(1:Int)))+(1:Int)))+(1:Int)))+(1:Int)))+(1:Int))) then (some ((-1:Int),())) else if 0<=U.2 then ((a1.1[U.2.toNat]?).bind λxS=>bif !decide (xS.2.2.2.1.2.2.1=af ((af ((af ((af ((af ((af ((af ((af (U.1+(1:Int)))+(1:Int)))+(1:Int)))+(1:Int)))+(1:Int)))+(1:Int)))+(1:Int)))+(1:Int))) then (some ((-1:Int),())) else if 0<=U.2 then ((a1.1[U.2.toNat]?).bind λEB=>(df.ab (af ((af ((af ((af ((af ((af ((af ((af ((af (U.1+(1:Int)))+(1:Int)))+(1:Int)))+(1:Int)))+(1:Int)))+(1:Int)))+(1:Int)))+(1:Int)))+(1:Int)),())).bind λDa=>bif !decide (EB.2.2.2.1.2.2.2.1=Da.1) then (some ((-1:Int),())) else self (af ((af ((af ((af ((af ((af ((af ((af ((af ((af (U.1+(1:Int)))+(1:Int)))+(1:Int)))+(1:Int)))+(1:Int)))+(1:Int)))+(1:Int)))+(1:Int)))+(1:Int)))+(1:Int)),af (U.2+(1:Int)))) else none) else none) else none) else none) else none) else none) else none) else none) else none) else none) else e0 U.1
noncomputable def q0 (a1:Arg) (Jq:Int):OO:=some (Jq,())
noncomputable def s0 (k:Nat) (a1:Arg):(Int×Int)->OO:=λU=>D.L k [1,0,1,0,0] [0,1,5] [] (ah 0 (av (D.N k [1,1]) D.K0)) (T0 a1 U)
noncomputable def r0 (k:Nat) (a1:Arg):(Int×Int)->OO:=al (λw v=>b0 w (q0 a1) a1 v) k
theorem aq (k:Nat) (a1:Arg):s0 k a1=r0 k a1:=
 funext λU=>ap _ _ _ (T0 a1) _ (λrec v=>by kernel_rfl) k U
noncomputable def p (l0:(Int×Int)->OO) (a1:Arg):OO:=l0 (a1.2.1,(0:Int))
theorem ae (k:Nat) (a1:Arg):@Eq OO (D.W k a1) (p (r0 k a1) a1):=
 aQ (b:=p (s0 k a1) a1) (by kernel_rfl) (by rw[aq])
theorem ok:Ok prog 201 D.sig:=am func201 aw (by kernel_rfl) (fc df.ok (aj _))
end ot
namespace qJ
abbrev Arg:Type:=(List Key)×Int×Unit
abbrev Out:Type:=Int×Unit
abbrev OO:=Option Out
noncomputable def D:FD:={ fn:=f202,tl:=bc,ps:=[(.ro,(.aa be)),(.ro,i64)],rs:=[(i64,(ak i64))],lv:=[(2,[0,1,5])],lx:=[(0,[1])] }
noncomputable def ab (a:Arg):OO:=@lift Out λk=>D.W k a
noncomputable def T0 (a1:Arg) (U:Int×Int):St:={ n:=31,sl:=[(0,.val (.aa be) a1.1),(1,.val i64 U.1),(5,.val i64 U.2)],vr:=[],az:=[] }
noncomputable def b0 (self:(Int×Int)->OO) (e0:Int->OO) (a1:Arg) (U:Int×Int):OO:=bif decide (U.2 < (a1.1.length:Int)) then (if 0<=U.2 then ((a1.1[U.2.toNat]?).bind λa8=>bif !decide (a8.1=U.1) then (some ((-1:Int),())) else if 0<=U.2 then ((a1.1[U.2.toNat]?).bind λgx=>bif !decide (gx.2.1=af (U.1+(1:Int))) then (some ((-1:Int),())) else self (af ((af (U.1+(1:Int)))+(1:Int)),af (U.2+(1:Int)))) else none) else none) else e0 U.1
noncomputable def q0 (a1:Arg) (et:Int):OO:=some (et,())
noncomputable def s0 (k:Nat) (a1:Arg):(Int×Int)->OO:=λU=>D.L k [1,0,1,0,0] [0,1,5] [] (ah 0 (av (D.N k [1,1]) D.K0)) (T0 a1 U)
noncomputable def r0 (k:Nat) (a1:Arg):(Int×Int)->OO:=al (λw v=>b0 w (q0 a1) a1 v) k
theorem aq (k:Nat) (a1:Arg):s0 k a1=r0 k a1:=
 funext λU=>ap _ _ _ (T0 a1) _ (λrec v=>by kernel_rfl) k U
noncomputable def p (l0:(Int×Int)->OO) (a1:Arg):OO:=l0 (a1.2.1,(0:Int))
theorem ae (k:Nat) (a1:Arg):@Eq OO (D.W k a1) (p (r0 k a1) a1):=
 aQ (b:=p (s0 k a1) a1) (by kernel_rfl) (by rw[aq])
theorem ok:Ok prog 202 D.sig:=am func202 aw (by kernel_rfl) (aj _)
end qJ
namespace tB
abbrev Arg:Type:=(List Tx)×Int×Unit
abbrev Out:Type:=Int×Unit
abbrev OO:=Option Out
noncomputable def D:FD:={ fn:=f121,tl:=bc,ps:=[(.ro,(.aa ca)),(.ro,i64)],rs:=[(i64,(ak i64))],gl:=[(63,o_.D.sig),(201,ot.D.sig),(202,qJ.D.sig)],lv:=[(2,[0,1,5])],lx:=[(0,[1])] }
noncomputable def ab (a:Arg):OO:=@lift Out λk=>D.W k a
noncomputable def T0 (a1:Arg) (U:Int×Int):St:={ n:=49,sl:=[(0,.val (.aa ca) a1.1),(1,.val i64 U.1),(5,.val i64 U.2)],vr:=[],az:=[] }
noncomputable def b0 (self:(Int×Int)->OO) (e0:Int->OO) (a1:Arg) (U:Int×Int):OO:=bif decide (U.2 < (a1.1.length:Int)) then (if 0<=U.2 then ((a1.1[U.2.toNat]?).bind λa8=>bif !decide (a8.1=U.1) then (some ((-1:Int),())) else if 0<=U.2 then ((a1.1[U.2.toNat]?).bind λgx=>(ot.ab (gx.2.1,af (U.1+(1:Int)),())).bind λls=>bif decide (ls.1 < (0:Int)) then (some ((-1:Int),())) else if 0<=U.2 then ((a1.1[U.2.toNat]?).bind λrL=>(o_.ab (rL.2.2.1,ls.1,())).bind λjz=>bif decide (jz.1 < (0:Int)) then (some ((-1:Int),())) else if 0<=U.2 then ((a1.1[U.2.toNat]?).bind λAy=>(qJ.ab (Ay.2.2.2.1,jz.1,())).bind λuX=>bif decide (uX.1 < (0:Int)) then (some ((-1:Int),())) else self (uX.1,af (U.2+(1:Int)))) else none) else none) else none) else none) else e0 U.1
noncomputable def q0 (a1:Arg) (Vm:Int):OO:=some (Vm,())
noncomputable def s0 (k:Nat) (a1:Arg):(Int×Int)->OO:=λU=>D.L k [1,0,1,0,0] [0,1,5] [] (ah 0 (av (D.N k [1,1]) D.K0)) (T0 a1 U)
noncomputable def r0 (k:Nat) (a1:Arg):(Int×Int)->OO:=al (λw v=>b0 w (q0 a1) a1 v) k
theorem aq (k:Nat) (a1:Arg):s0 k a1=r0 k a1:=
 funext λU=>ap _ _ _ (T0 a1) _ (λrec v=>by kernel_rfl) k U
noncomputable def p (l0:(Int×Int)->OO) (a1:Arg):OO:=l0 (a1.2.1,(0:Int))
theorem ae (k:Nat) (a1:Arg):@Eq OO (D.W k a1) (p (r0 k a1) a1):=
 aQ (b:=p (s0 k a1) a1) (by kernel_rfl) (by rw[aq])
theorem ok:Ok prog 121 D.sig:=am func121 aw (by kernel_rfl) (fc o_.ok (fc ot.ok (fc qJ.ok (aj _))))
end tB
namespace oF
abbrev Arg:Type:=bj×Int×Unit
abbrev Out:Type:=Int×Unit
noncomputable def D:FD:={ fn:=f58,tl:=bc,ps:=[(.ro,ci),(.ro,i64)],rs:=[(i64,(ak i64))],gl:=[(119,qx.D.sig),(120,qk.D.sig),(121,tB.D.sig)] }
noncomputable def ab (a:Arg):Option Out:=@lift Out λk=>D.W k a
noncomputable def p (a1:Arg):Option Out:=(qx.ab (a1.1.2.1,a1.2.1,())).bind λr2=>bif decide (r2.1 < (0:Int)) then (some ((-1:Int),())) else (qk.ab (a1.1.2.2.1,r2.1,())).bind λr3=>bif decide (r3.1 < (0:Int)) then (some ((-1:Int),())) else (tB.ab (a1.1.2.2.2.1,r3.1,())).bind λr4=>bif decide (r4.1 < (0:Int)) then (some ((-1:Int),())) else some (r4.1,())
theorem ae (k:Nat) (a1:Arg):@Eq (Option Out) (D.W k a1) (p a1):=by kernel_rfl
theorem ok:Ok prog 58 D.sig:=am func58 aw (by kernel_rfl) (fc qx.ok (fc qk.ok (fc tB.ok (aj _))))
end oF
namespace jO
abbrev Arg:Type:=mE×Int×Unit
abbrev Out:Type:=Int×Unit
noncomputable def D:FD:={ fn:=f17,tl:=bc,ps:=[(.ro,gz),(.ro,i64)],rs:=[(i64,(ak i64))],gl:=[(58,oF.D.sig)] }
noncomputable def ab (a:Arg):Option Out:=@lift Out λk=>D.W k a
noncomputable def p (a1:Arg):Option Out:=(oF.ab (a1.1.2.2.1,a1.2.1,())).bind λr2=>bif decide (r2.1 < (0:Int)) then (some ((-1:Int),())) else some (r2.1,())
theorem ae (k:Nat) (a1:Arg):@Eq (Option Out) (D.W k a1) (p a1):=by kernel_rfl
theorem ok:Ok prog 17 D.sig:=am func17 aw (by kernel_rfl) (fc oF.ok (aj _))
end jO
namespace pB
abbrev Arg:Type:=Buffer×Int×Unit
abbrev Out:Type:=Int×Unit
noncomputable def D:FD:={ fn:=f27,tl:=bc,ps:=[(.ro,gi),(.ro,i64)],rs:=[(i64,(ak i64))],gl:=[(64,nE.D.sig)] }
noncomputable def ab (a:Arg):Option Out:=@lift Out λk=>D.W k a
noncomputable def p (a1:Arg):Option Out:=(nE.ab (a1.1.2.1,a1.2.1,())).bind λr2=>bif decide (r2.1 < (0:Int)) then (some ((-1:Int),())) else some (r2.1,())
theorem ae (k:Nat) (a1:Arg):@Eq (Option Out) (D.W k a1) (p a1):=by kernel_rfl
theorem ok:Ok prog 27 D.sig:=am func27 aw (by kernel_rfl) (fc nE.ok (aj _))
end pB
namespace ql
abbrev Arg:Type:=Change×Change×Unit
abbrev Out:Type:=Bool×Unit
noncomputable def D:FD:={ fn:=f125,tl:=bc,ps:=[(.ro,(.ptr an)),(.ro,(.ptr an))],rs:=[(.bool,(ak .bool))],gl:=[(204,ku.D.sig)] }
noncomputable def ab (a:Arg):Option Out:=@lift Out λk=>D.W k a
noncomputable def p (a1:Arg):Option Out:=(ku.ab (a1.1,())).bind λr2=>(ku.ab (a1.2.1,())).bind λr3=>bif decide (r2.1 < r3.1) then (some (true,())) else bif decide (r2.1=r3.1) then (some (decide (r2.2.1 < r3.2.1),())) else some (false,())
theorem ae (k:Nat) (a1:Arg):@Eq (Option Out) (D.W k a1) (p a1):=by kernel_rfl
theorem ok:Ok prog 125 D.sig:=am func125 aw (by kernel_rfl) (fc ku.ok (aj _))
end ql
namespace kE
abbrev Arg:Type:=(List Change)×Unit
abbrev Out:Type:=Int×Unit
abbrev OO:=Option Out
noncomputable def D:FD:={ fn:=f66,tl:=bc,ps:=[(.ro,(.aa an))],rs:=[(i64,(ak i64))],gl:=[(124,mp.D.sig),(125,ql.D.sig)],lv:=[(4,[0,3])],lx:=[(0,[])],od:=[(9,[0,1,2,3,4,5,6,7,8,9,10,11,12])] }
noncomputable def ab (a:Arg):OO:=@lift Out λk=>D.W k a
noncomputable def T0 (a1:Arg) (U:Int):St:={ n:=34,sl:=[(0,.val (.aa an) a1.1),(3,.val i64 U)],vr:=[],az:=[] }
noncomputable def b0 (self:Int->OO) (e0:(Unit)->OO) (a1:Arg) (U:Int):OO:=bif decide (U < (a1.1.length:Int)) then (if 0<=U then ((a1.1[U.toNat]?).bind λa8=>(mp.ab (a8,())).bind λdg=>bif !decide (dg.1=(0:Int)) then (some (dg.1,())) else bif decide ((0:Int) < U) then (if 0<=af (U - (1:Int)) then ((a1.1[(af (U - (1:Int))).toNat]?).bind λdw=>if 0<=U then ((a1.1[U.toNat]?).bind λrL=>(ql.ab (dw,rL,())).bind λjz=>bif !jz.1 then (some ((1:Int),())) else self (af (U+(1:Int)))) else none) else none) else self (af (U+(1:Int)))) else none) else e0 ()
noncomputable def q0 (a1:Arg) (rM:(Unit)):OO:=some ((0:Int),())
noncomputable def s0 (k:Nat) (a1:Arg):(Int)->OO:=λU=>D.L k [1,1,0,1,0,0] [0,3] [] (ah 0 (av (D.N k [1,1,1]) D.K0)) (T0 a1 U)
noncomputable def r0 (k:Nat) (a1:Arg):(Int)->OO:=al (λw v=>b0 w (q0 a1) a1 v) k
theorem aq (k:Nat) (a1:Arg):s0 k a1=r0 k a1:=
 funext λU=>ap _ _ _ (T0 a1) _ (λrec v=>by kernel_rfl) k U
noncomputable def p (l0:(Int)->OO) (a1:Arg):OO:=bif decide ((60:Int) < (a1.1.length:Int)) then (some ((2:Int),())) else l0 (0:Int)
theorem ae (k:Nat) (a1:Arg):@Eq OO (D.W k a1) (p (r0 k a1) a1):=
 aQ (b:=p (s0 k a1) a1) (by kernel_rfl) (by rw[aq])
theorem ok:Ok prog 66 D.sig:=am func66 aw (by kernel_rfl) (fc mp.ok (fc ql.ok (aj _)))
end kE
namespace oG
abbrev Arg:Type:=bj×Buffer×Unit
abbrev Out:Type:=Int×bj×Unit
noncomputable def D:FD:={ fn:=f68,tl:=bc,ps:=[(.jV (.pair (ak .bool) (.pair (ai (.aa (.aa u8))) (.pair (ak ee) (.pair (.aa true (.pair (ak i64) (.pair (ak (.aa an)) (ai (bq [(.aa i64),(.aa be)]))))) (ak (bq [i64])))))) (.pair (ak .bool) (.pair (ai (.aa (.aa u8))) (.pair (ak ee) (.pair (.aa true (.pair (ak i64) (.pair (ak (.aa an)) (ai (bq [(.aa i64),(.aa be)]))))) (ak (bq [i64])))))),ci),(.ro,(.ptr gi))],rs:=[(i64,(ak i64))],gl:=[(128,lM.D.sig),(129,lh.D.sig)],es:=[0],od:=[(1,[0,1,2,3,4,5,6,7,8,9,10])] }
noncomputable def ab (a:Arg):Option Out:=@lift Out λk=>D.W k a
noncomputable def p (a1:Arg):Option Out:=(lM.ab (a1.1,a1.2.1.2.1,a1.2.1.1,())).bind λr2=>bif !decide (r2.1=(0:Int)) then (some (r2.1,r2.2.1,())) else (lh.ab (r2.2.1,((6:Int),a1.2.1.1,(0:Int),([]:List cd),()),())).bind λr3=>some (r3.1,r3.2.1,())
theorem ae (k:Nat) (a1:Arg):@Eq (Option Out) (D.W k a1) (p a1):=by kernel_rfl
theorem ok:Ok prog 68 D.sig:=am func68 aw (by kernel_rfl) (fc lM.ok (fc lh.ok (aj _)))
end oG
namespace qK
abbrev Arg:Type:=bj×Buffer×Unit
abbrev Out:Type:=mE×Unit
noncomputable def D:FD:={ fn:=f28,tl:=bc,ps:=[(.ro,ci),(.ro,gi)],rs:=[(gz,(.pair (ak i64) (.pair (ak i64) (.pair (.pair (ak .bool) (.pair (ai (.aa (.aa u8))) (.pair (ak ee) (.pair (.aa true (.pair (ak i64) (.pair (ak (.aa an)) (ai (bq [(.aa i64),(.aa be)]))))) (ak (bq [i64])))))) (ak .unit)))))],gl:=[(39,qI.D.sig),(40,oR.D.sig),(65,br.D.sig),(66,kE.D.sig),(67,rN.D.sig),(68,oG.D.sig)] }
noncomputable def ab (a:Arg):Option Out:=@lift Out λk=>D.W k a
noncomputable def p (a1:Arg):Option Out:=(qI.ab (a1.1,())).bind λr2=>bif !decide (r2.1=(0:Int)) then ((oR.ab (r2.1,())).bind λr3=>some (r3.1,())) else bif !a1.1.1 then ((oR.ab ((8:Int),())).bind λr4=>some (r4.1,())) else (br.ab (a1.2.1.1,(1:Int),(99:Int),())).bind λr5=>bif !r5.1 then ((oR.ab ((1:Int),())).bind λr6=>some (r6.1,())) else (kE.ab (a1.2.1.2.1,())).bind λr7=>bif !decide (r7.1=(0:Int)) then ((oR.ab (r7.1,())).bind λr8=>some (r8.1,())) else (rN.ab (a1.1,())).bind λr9=>(oG.ab (r9.1,a1.2.1,())).bind λuY=>bif !decide (uY.1=(0:Int)) then ((oR.ab (uY.1,())).bind λtA=>some (tA.1,())) else some (((0:Int),(0:Int),uY.2.1,()),())
theorem ae (k:Nat) (a1:Arg):@Eq (Option Out) (D.W k a1) (p a1):=by kernel_rfl
theorem ok:Ok prog 28 D.sig:=am func28 aw (by kernel_rfl) (fc qI.ok (fc oR.ok (fc br.ok (fc kE.ok (fc rN.ok (fc oG.ok (aj _)))))))
end qK
namespace mz
abbrev Arg:Type:=Buffer×Unit
abbrev Out:Type:=Buffer×Unit
noncomputable def D:FD:={ fn:=f29,tl:=bc,ps:=[(.ro,gi)],rs:=[(gi,(ai gi))],gl:=[(69,nH.D.sig)] }
noncomputable def ab (a:Arg):Option Out:=@lift Out λk=>D.W k a
noncomputable def p (a1:Arg):Option Out:=(nH.ab (a1.1.2.1,())).bind λr2=>some ((a1.1.1,r2.1,()),())
theorem ae (k:Nat) (a1:Arg):@Eq (Option Out) (D.W k a1) (p a1):=by kernel_rfl
theorem ok:Ok prog 29 D.sig:=am func29 aw (by kernel_rfl) (fc nH.ok (aj _))
end mz
namespace gb
abbrev Arg:Type:=(List Change)×Unit
abbrev Out:Type:=Int×Unit
abbrev OO:=Option Out
noncomputable def D:FD:={ fn:=f71,tl:=bc,ps:=[(.ro,(.aa an))],rs:=[(i64,(ak i64))],gl:=[(131,kh.D.sig),(132,il.D.sig),(133,du.D.sig)],lv:=[(4,[0,9,10,11])],lx:=[(0,[])],od:=[(9,[0,1,2,3,4,5,6,7,9,8,10,11,12,13])] }
noncomputable def ab (a:Arg):OO:=@lift Out λk=>D.W k a
noncomputable def T0 (a1:Arg) (U:Int):St:={ n:=36,sl:=[(0,.val (.aa an) a1.1),(9,.val (.aa an) a1.1),(10,.val i64 (a1.1.length:Int)),(11,.val i64 U)],vr:=[],az:=[] }
noncomputable def b0 (self:Int->OO) (e0:(Unit)->OO) (a1:Arg) (U:Int):OO:=bif decide (U < (a1.1.length:Int)) then (if 0<=U then ((a1.1[U.toNat]?).bind λa8=>(kh.ab (a8,())).bind λdg=>bif !decide (dg.1=(0:Int)) then (some (dg.1,())) else bif decide ((0:Int) < U) then (if 0<=af (U - (1:Int)) then ((a1.1[(af (U - (1:Int))).toNat]?).bind λdw=>(du.ab (dw,())).bind λjy=>(du.ab (a8,())).bind λjz=>(il.ab (jy.1,jz.1,())).bind λpF=>bif !pF.1 then (some ((1:Int),())) else self (af (U+(1:Int)))) else none) else self (af (U+(1:Int)))) else none) else e0 ()
noncomputable def q0 (a1:Arg) (uZ:(Unit)):OO:=some ((0:Int),())
noncomputable def s0 (k:Nat) (a1:Arg):(Int)->OO:=λU=>D.L k [1,1,0,1,0,0] [0,9,10,11] [] (ah 0 (av (D.N k [1,1,1]) D.K0)) (T0 a1 U)
noncomputable def r0 (k:Nat) (a1:Arg):(Int)->OO:=al (λw v=>b0 w (q0 a1) a1 v) k
theorem aq (k:Nat) (a1:Arg):s0 k a1=r0 k a1:=
 funext λU=>ap _ _ _ (T0 a1) _ (λrec v=>by kernel_rfl) k U
noncomputable def p (l0:(Int)->OO) (a1:Arg):OO:=bif decide ((60:Int) < (a1.1.length:Int)) then (some ((2:Int),())) else l0 (0:Int)
theorem ae (k:Nat) (a1:Arg):@Eq OO (D.W k a1) (p (r0 k a1) a1):=
 aQ (b:=p (s0 k a1) a1) (by kernel_rfl) (by rw[aq])
theorem ok:Ok prog 71 D.sig:=am func71 aw (by kernel_rfl) (fc kh.ok (fc il.ok (fc du.ok (aj _))))
end gb
namespace lz
abbrev Arg:Type:=bj×Buffer×Unit
abbrev Out:Type:=Int×bj×Unit
noncomputable def D:FD:={ fn:=f72,tl:=bc,ps:=[(.jV (.pair (ak .bool) (.pair (ai (.aa (.aa u8))) (.pair (ak ee) (.pair (.aa true (.pair (ak i64) (.pair (ak (.aa an)) (ai (bq [(.aa i64),(.aa be)]))))) (ak (bq [i64])))))) (.pair (ak .bool) (.pair (ai (.aa (.aa u8))) (.pair (ak ee) (.pair (.aa true (.pair (ak i64) (.pair (ak (.aa an)) (ai (bq [(.aa i64),(.aa be)]))))) (ak (bq [i64])))))),ci),(.ro,gi)],rs:=[(i64,(ak i64))],gl:=[(109,kl.D.sig),(110,ei.D.sig),(134,kW.D.sig)],es:=[0],od:=[(1,[0,1,2,4,5,3,6,7])] }
noncomputable def ab (a:Arg):Option Out:=@lift Out λk=>D.W k a
noncomputable def p (a1:Arg):Option Out:=(kW.ab (a1.2.1.2.1,())).bind λr2=>(ei.ab (a1.1,r2.1,(3:Int),a1.2.1.1,())).bind λr3=>bif !decide (r3.1=(0:Int)) then (some (r3.1,r3.2.1,())) else (kl.ab (r3.2.1,((6:Int),a1.2.1.1,(0:Int),([]:List cd),()),())).bind λr4=>some (r4.1,r4.2.1,())
theorem ae (k:Nat) (a1:Arg):@Eq (Option Out) (D.W k a1) (p a1):=by kernel_rfl
theorem ok:Ok prog 72 D.sig:=am func72 aw (by kernel_rfl) (fc kl.ok (fc ei.ok (fc kW.ok (aj _))))
end lz
namespace pC
abbrev Arg:Type:=bj×Buffer×Unit
abbrev Out:Type:=mE×Unit
noncomputable def D:FD:={ fn:=f30,tl:=bc,ps:=[(.ro,ci),(.ro,gi)],rs:=[(gz,(ai gz))],gl:=[(46,o8.D.sig),(50,oE.D.sig),(70,nT.D.sig),(71,gb.D.sig),(72,lz.D.sig)] }
noncomputable def ab (a:Arg):Option Out:=@lift Out λk=>D.W k a
noncomputable def p (a1:Arg):Option Out:=(o8.ab (a1.1,())).bind λr2=>bif !decide (r2.1=(0:Int)) then (some ((r2.1,(0:Int),(false,([]:List (List UInt8)),(([]:List UInt8),([]:List UInt8),()),([]:List Tx),(0:Int),()),()),())) else bif !a1.1.1 then (some (((8:Int),(0:Int),(false,([]:List (List UInt8)),(([]:List UInt8),([]:List UInt8),()),([]:List Tx),(0:Int),()),()),())) else (nT.ab (a1.2.1.1,())).bind λr3=>bif !r3.1 then (some (((1:Int),(0:Int),(false,([]:List (List UInt8)),(([]:List UInt8),([]:List UInt8),()),([]:List Tx),(0:Int),()),()),())) else (gb.ab (a1.2.1.2.1,())).bind λr4=>bif !decide (r4.1=(0:Int)) then (some ((r4.1,(0:Int),(false,([]:List (List UInt8)),(([]:List UInt8),([]:List UInt8),()),([]:List Tx),(0:Int),()),()),())) else (oE.ab (a1.1,())).bind λr5=>(lz.ab (r5.1,a1.2.1,())).bind λr6=>bif !decide (r6.1=(0:Int)) then (some ((r6.1,(0:Int),(false,([]:List (List UInt8)),(([]:List UInt8),([]:List UInt8),()),([]:List Tx),(0:Int),()),()),())) else (oE.ab (r6.2.1,())).bind λr7=>some (((0:Int),(0:Int),r7.1,()),())
theorem ae (k:Nat) (a1:Arg):@Eq (Option Out) (D.W k a1) (p a1):=by kernel_rfl
theorem ok:Ok prog 30 D.sig:=am func30 aw (by kernel_rfl) (fc o8.ok (fc oE.ok (fc nT.ok (fc gb.ok (fc lz.ok (aj _))))))
end pC
namespace pD
abbrev Arg:Type:=Buffer×Buffer×Unit
abbrev Out:Type:=Bool×Unit
noncomputable def D:FD:={ fn:=f31,tl:=bc,ps:=[(.ro,gi),(.ro,gi)],rs:=[(.bool,(ak .bool))],gl:=[(73,nJ.D.sig)] }
noncomputable def ab (a:Arg):Option Out:=@lift Out λk=>D.W k a
noncomputable def p (a1:Arg):Option Out:=bif !decide (a1.1.1=a1.2.1.1) then (some (false,())) else (nJ.ab (a1.1.2.1,a1.2.1.2.1,())).bind λr2=>bif !r2.1 then (some (false,())) else some (true,())
theorem ae (k:Nat) (a1:Arg):@Eq (Option Out) (D.W k a1) (p a1):=by kernel_rfl
theorem ok:Ok prog 31 D.sig:=am func31 aw (by kernel_rfl) (fc nJ.ok (aj _))
end pD
namespace nW
abbrev Arg:Type:=Buffer×Int×Unit
abbrev Out:Type:=Int×Buffer×Unit
noncomputable def D:FD:={ fn:=f32,tl:=bc,ps:=[(.k8 (ai gi),gi),(.ro,i64)],rs:=[(i64,(ak i64))],gl:=[(74,jc.D.sig)],es:=[2] }
noncomputable def ab (a:Arg):Option Out:=@lift Out λk=>D.W k a
noncomputable def p (a1:Arg):Option Out:=(jc.ab (a1.1.2.1,a1.2.1,())).bind λr2=>some (r2.1,(a1.1.1,r2.2.1,a1.1.2.2),())
theorem ae (k:Nat) (a1:Arg):@Eq (Option Out) (D.W k a1) (p a1):=by kernel_rfl
theorem ok:Ok prog 32 D.sig:=am func32 aw (by kernel_rfl) (fc jc.ok (aj _))
end nW
namespace f9
abbrev Arg:Type:=bj×Buffer×Unit
abbrev Out:Type:=Bool×Unit
abbrev ps:PQ:=[(.ro,ci),(.ro,gi)]
noncomputable def D:FD:={ fn:=f5,tl:=bc,ps:=ps,rs:=[(.bool,(ak .bool))],gl:=[(7,qc.D.sig),(10,nk.D.sig),(13,jU.D.sig),(14,nr.D.sig),(15,jd.D.sig),(16,kX.D.sig),(17,jO.D.sig),(27,pB.D.sig),(28,qK.D.sig),(29,mz.D.sig),(30,pC.D.sig),(31,pD.D.sig),(32,nW.D.sig)],fz:=[(8,0,7),(8,2,7),(31,0,7),(31,2,7)],od:=[(8,[0,2,1,3,4,5,6]),(14,[0,1,2,3,4]),(16,[0,1,2,3,4]),(31,[0,2,1,3,4,5,6])],ar:=[(8,[]),(31,[])],pd:=[(8,[5]),(31,[5])],er:=[(8,[(0,7),(2,7)]),(31,[(0,7),(2,7)])] }
noncomputable def ab (a:Arg):Option Out:=@lift Out λk=>D.W k a
noncomputable def p (a1:Arg):Option Out:=(qc.ab (a1.1,(1048576:Int),())).bind λr2=>bif decide (r2.1 < (0:Int)) then (some (true,())) else (pB.ab (a1.2.1,r2.1,())).bind λr3=>bif decide (r3.1 < (0:Int)) then (some (true,())) else (nk.ab (a1.1,())).bind λr4=>(mz.ab (a1.2.1,())).bind λr5=>(qK.ab (r4.1,r5.1,())).bind λr6=>(nk.ab (a1.1,())).bind λr7=>(mz.ab (a1.2.1,())).bind λr8=>(pC.ab (r7.1,r8.1,())).bind λr9=>(jU.ab (r9.1,r6.1,())).bind λuY=>bif !uY.1 then (some (false,())) else (nk.ab (a1.1,())).bind λtA=>(nr.ab (r7.1,tA.1,())).bind λwz=>bif !wz.1 then (some (false,())) else (mz.ab (a1.2.1,())).bind λIf=>(pD.ab (r8.1,If.1,())).bind λxg=>bif !xg.1 then (some (false,())) else (jd.ab (r7.1,(1:Int),())).bind λEz=>(nW.ab (r8.1,Ez.1,())).bind λAz=>bif decide (Az.1 < (0:Int)) then (some (false,())) else (jU.ab (r9.1,r6.1,())).bind λCh=>bif !Ch.1 then (some (false,())) else (kX.ab (r9.1,(1:Int),())).bind λF9=>(jO.ab (F9.2.1,(1:Int),())).bind λXi=>bif decide (Xi.1 < (0:Int)) then (some (false,())) else bif !decide (Xi.1=F9.1) then (some (false,())) else (nk.ab (a1.1,())).bind λTz=>(mz.ab (a1.2.1,())).bind λIc=>(pC.ab (Tz.1,Ic.1,())).bind λPK=>(jU.ab (PK.1,r6.1,())).bind λXj=>bif !Xj.1 then (some (false,())) else (jO.ab (F9.2.1,(1:Int),())).bind λKa=>bif decide (Ka.1 < (0:Int)) then (some (false,())) else bif !decide (Ka.1=F9.1) then (some (false,())) else some (true,())
theorem ae (k:Nat) (a1:Arg):@Eq (Option Out) (D.W k a1) (p a1):=by kernel_rfl
theorem ok:Ok prog 5 D.sig:=am func5 aw (by kernel_rfl) (fc qc.ok (fc nk.ok (fc jU.ok (fc nr.ok (fc jd.ok (fc kX.ok (fc jO.ok (fc pB.ok (fc qK.ok (fc mz.ok (fc pC.ok (fc pD.ok (fc nW.ok (aj _))))))))))))))
end f9
end OT
set_option linter.unusedSimpArgs false
namespace OT
open Go
noncomputable def FJ (n:Int):List UInt8:=((df.ab (n,())).map (·.1)).getD []
theorem jx (n:Int) (h:n<=9223372036854775807):df.ab (n,())=some (FJ n,()):=by
 have main:∃ t,df.ab (n,())=some (t,()):=by
  by_cases hn:n<=0
  ·refine ⟨[109,48],ag (k:=0) λk _=>(df.ae k _).trans ?_⟩
   unfold df.p;simp only[hn,aG,aH]
   try rfl
  ·have key:∀ (f:Nat) (m:Int) (out:List UInt8),0<=m->m<=9223372036854775807->m < 10 ^ f->out.length+f<=100->∃ t,t.length<=100/\∀ k,f < k->al (λself v=>df.B0 0 self (λz=>df.Q0 0 (n,()) z) (n,()) v) k (m,out)=some (109::t,()):=by
    intro f
    induction f with
    | zero=>
     intro m out h0 h9 h1 h2;have hm:m=0:=by simp at h1;omega
     subst hm;refine ⟨out,by omega,λk hk=>?_⟩
     cases k with
     | zero=>omega
     | succ k=>
      rw[Ax];show df.b0 _ _ _ _=_;unfold df.b0 df.Q0 df.q0;have hc:([109]:List UInt8).length+out.length<=cg:=by simp only[cg,aW,bC];omega
      simp only[show ¬ ((0:Int) < 0) by omega,aE,aD,hc,aI];rfl
    | succ f ih=>
     intro m out h0 h9 h1 h2;by_cases hm:0 < m
     ·have hq0:0<=m.tdiv 10:=Int.tdiv_nonneg h0 (by omega)
      have hq:m.tdiv 10 < 10 ^ f:=by
       rw[dG h0];have:(10:Int) ^ (f+1)=10 ^ f*10:=Int.pow_succ 10 f;omega
      have hd:=Int.emod_nonneg m (b:=10) (by omega);have PL:=Int.emod_lt_of_pos m (b:=10) (by omega);obtain ⟨t,t1,t2⟩:=ih (m.tdiv 10) ([UInt8.ofInt (af (48+m.tmod 10))]++out) hq0 (by rw[dG h0];omega) hq (by simp;omega);refine ⟨t,t1,λk hk=>?_⟩
      cases k with
      | zero=>omega
      | succ k=>
       rw[Ax];show df.b0 _ _ _ _=_;unfold df.b0
       have hw:af (m.tdiv 10)=m.tdiv 10:=a7 ⟨by omega,by
        rw[dG h0]
        omega⟩
       have hc:[UInt8.ofInt (af (48+m.tmod 10))].length+out.length<=cg:=by simp only[cg,aW,bC];omega
       simp only[hm,aG,aH,hc,aI,hw];exact t2 k (by omega)
     ·have hm:m=0:=by omega
      subst hm;refine ⟨out,by omega,λk hk=>?_⟩
      cases k with
      | zero=>omega
      | succ k=>
       rw[Ax];show df.b0 _ _ _ _=_;unfold df.b0 df.Q0 df.q0;have hc:([109]:List UInt8).length+out.length<=cg:=by simp only[cg,aW,bC];omega
       simp only[show ¬ ((0:Int) < 0) by omega,aE,aD,hc,aI];rfl
   obtain ⟨t,t1,t2⟩:=key 19 n [] (by omega) h (by omega) (by simp);refine ⟨109::t,ag (k:=20) λk hk=>(df.ae k _).trans ?_⟩
   unfold df.p;simp only[hn,aE,aD];exact t2 k (by omega)
 obtain ⟨t,ht⟩:=main;rw[ht];simp[FJ,ht]
theorem De (x:List UInt8) (n:Int) (hx:sm (.aa u8) x) (h0:0<=n) (h1:n<=1048576):nh.ab (x,n,())=some (iq n (zz (.aa u8) x),()):=Vf (e:=u8) (λ_=>rfl) (λx n k=>nh.ae k (x,n,())) x n hx h0 h1
theorem Oj (x:List (List UInt8)) (n:Int) (hx:sm (.aa (.aa u8)) x) (h0:0<=n) (h1:n<=1048576):r_.ab (x,n,())=some (iq n (zz (.aa (.aa u8)) x),()):=ZA (e:=(.aa u8)) (f:=λa n=>nh.ab (a,n,())) (λx n k=>r_.ae k (x,n,())) De x n hx h0 h1
theorem Vu (x:Log) (n:Int) (hx:sm ee x) (h0:0<=n) (h1:n<=1048576):sr.ab (x,n,())=some (iq n (zz ee x),()):=by
 have hz:zz ee x=(zz (.aa u8) x.1+(zz (.aa u8) x.2.1+0)):=rfl;refine ag (k:=0) λk _=>(sr.ae k _).trans ?_;show sr.p _=_;unfold sr.p;simp only[De x.1 (n) hx.1 (by omega) (by omega),aA];by_cases hc:((zz (.aa u8) x.1:Nat):Int)<=n;rotate_left
 ·have e1:iq (n) (zz (.aa u8) x.1)=-1:=aP hc;have e2:iq n (zz ee x)=-1:=aP (by omega);rw[e1,e2];rfl
 have e1:iq (n) (zz (.aa u8) x.1)=n - ((zz (.aa u8) x.1:Nat):Int):=aM hc;have n1:¬ (n - ((zz (.aa u8) x.1:Nat):Int) < 0):=by omega
 simp only[e1,n1,aE,aD];clear e1 n1;simp only[De x.2.1 ((n - ((zz (.aa u8) x.1:Nat):Int))) hx.2.1 (by omega) (by omega),aA]
 by_cases hc:((zz (.aa u8) x.2.1:Nat):Int)<=(n - ((zz (.aa u8) x.1:Nat):Int))
 rotate_left
 ·have e1:iq ((n - ((zz (.aa u8) x.1:Nat):Int))) (zz (.aa u8) x.2.1)=-1:=aP hc;have e2:iq n (zz ee x)=-1:=aP (by omega);rw[e1,e2];rfl
 have e1:iq ((n - ((zz (.aa u8) x.1:Nat):Int))) (zz (.aa u8) x.2.1)=(n - ((zz (.aa u8) x.1:Nat):Int)) - ((zz (.aa u8) x.2.1:Nat):Int):=aM hc;have n1:¬ ((n - ((zz (.aa u8) x.1:Nat):Int)) - ((zz (.aa u8) x.2.1:Nat):Int) < 0):=by omega
 simp only[e1,n1,aE,aD];clear e1 n1;have e2:iq n (zz ee x)=((n - ((zz (.aa u8) x.1:Nat):Int)) - ((zz (.aa u8) x.2.1:Nat):Int)):=by unfold iq;rw[aM (by omega)];omega
 rw[e2]
theorem MM (x:Row) (n:Int) (hx:sm bd x) (h0:0<=n) (h1:n<=1048576):qW.ab (x,n,())=some (iq n (zz bd x),()):=by
 have hz:zz bd x=(0+(0+(0+(List.length x.2.2.2.1+0)))):=rfl;refine ag (k:=0) λk _=>(qW.ae k _).trans ?_;show qW.p _=_;unfold qW.p;have hw:af (n - (List.length x.2.2.2.1:Int))=n - (List.length x.2.2.2.1:Int):=a7 (by have h9:=hx.2.2.2.1;simp only[sm] at h9;rw[au] at h9;omega);simp only[hw];by_cases hc:((List.length x.2.2.2.1:Nat):Int)<=n;rotate_left
 ·have n1:n - ((List.length x.2.2.2.1:Nat):Int) < 0:=by omega
  have e2:iq n (zz bd x)=-1:=aP (by omega);rw[e2];simp only[n1,aG,aH]
 have n1:¬ (n - ((List.length x.2.2.2.1:Nat):Int) < 0):=by omega
 simp only[n1,aE,aD];clear n1 hw;have e2:iq n (zz bd x)=(n - ((List.length x.2.2.2.1:Nat):Int)):=by unfold iq;rw[aM (by omega)];omega
 rw[e2]
theorem Ol (x:Change) (n:Int) (hx:sm an x) (h0:0<=n) (h1:n<=1048576):n7.ab (x,n,())=some (iq n (zz an x),()):=by
 have hz:zz an x=(0+((0+(0+(0+(List.length x.2.1.2.2.2.1+0))))+(0+((0+(0+(0+(List.length x.2.2.2.1.2.2.2.1+0))))+0)))):=rfl;refine ag (k:=0) λk _=>(n7.ae k _).trans ?_;show n7.p _=_;unfold n7.p;have El:zz bd x.2.1=(0+(0+(0+(List.length x.2.1.2.2.2.1+0)))):=rfl;simp only[MM x.2.1 (n) hx.2.1 (by omega) (by omega),aA];by_cases hc:((zz bd x.2.1:Nat):Int)<=n;rotate_left
 ·have e1:iq (n) (zz bd x.2.1)=-1:=aP hc;have e2:iq n (zz an x)=-1:=aP (by omega);rw[e1,e2];rfl
 have e1:iq (n) (zz bd x.2.1)=n - ((zz bd x.2.1:Nat):Int):=aM hc;have n1:¬ (n - ((zz bd x.2.1:Nat):Int) < 0):=by omega
 simp only[e1,n1,aE,aD];clear e1 n1;have hz3:zz bd x.2.2.2.1=(0+(0+(0+(List.length x.2.2.2.1.2.2.2.1+0)))):=rfl;simp only[MM x.2.2.2.1 ((n - ((zz bd x.2.1:Nat):Int))) hx.2.2.2.1 (by omega) (by omega),aA]
 by_cases hc:((zz bd x.2.2.2.1:Nat):Int)<=(n - ((zz bd x.2.1:Nat):Int))
 rotate_left
 ·have e1:iq ((n - ((zz bd x.2.1:Nat):Int))) (zz bd x.2.2.2.1)=-1:=aP hc;have e2:iq n (zz an x)=-1:=aP (by omega);rw[e1,e2];rfl
 have e1:iq ((n - ((zz bd x.2.1:Nat):Int))) (zz bd x.2.2.2.1)=(n - ((zz bd x.2.1:Nat):Int)) - ((zz bd x.2.2.2.1:Nat):Int):=aM hc;have n1:¬ ((n - ((zz bd x.2.1:Nat):Int)) - ((zz bd x.2.2.2.1:Nat):Int) < 0):=by omega
 simp only[e1,n1,aE,aD];clear e1 n1;have e2:iq n (zz an x)=((n - ((zz bd x.2.1:Nat):Int)) - ((zz bd x.2.2.2.1:Nat):Int)):=by unfold iq;rw[aM (by omega)];omega
 rw[e2]
theorem ED (x:List Change) (n:Int) (hx:sm (.aa an) x) (h0:0<=n) (h1:n<=1048576):nE.ab (x,n,())=some (iq n (zz (.aa an) x),()):=ZA (e:=an) (f:=λa n=>n7.ab (a,n,())) (λx n k=>nE.ae k (x,n,())) Ol x n hx h0 h1
theorem Om (x:List Int) (n:Int) (hx:sm (.aa i64) x) (h0:0<=n) (h1:n<=1048576):sa.ab (x,n,())=some (iq n (zz (.aa i64) x),()):=Vf (e:=i64) (λ_=>rfl) (λx n k=>sa.ae k (x,n,())) x n hx h0 h1
theorem TA (x:List Key) (n:Int) (hx:sm (.aa be) x) (h0:0<=n) (h1:n<=1048576):ux.ab (x,n,())=some (iq n (zz (.aa be) x),()):=Vf (e:=be) (λ_=>rfl) (λx n k=>ux.ae k (x,n,())) x n hx h0 h1
theorem X8 (x:Tx) (n:Int) (hx:sm ca x) (h0:0<=n) (h1:n<=1048576):st.ab (x,n,())=some (iq n (zz ca x),()):=by
 have hz:zz ca x=(0+(zz (.aa an) x.2.1+(zz (.aa i64) x.2.2.1+(zz (.aa be) x.2.2.2.1+0)))):=rfl;refine ag (k:=0) λk _=>(st.ae k _).trans ?_;show st.p _=_;unfold st.p;simp only[ED x.2.1 (n) hx.2.1 (by omega) (by omega),aA];by_cases hc:((zz (.aa an) x.2.1:Nat):Int)<=n;rotate_left
 ·have e1:iq (n) (zz (.aa an) x.2.1)=-1:=aP hc;have e2:iq n (zz ca x)=-1:=aP (by omega);rw[e1,e2];rfl
 have e1:iq (n) (zz (.aa an) x.2.1)=n - ((zz (.aa an) x.2.1:Nat):Int):=aM hc;have n1:¬ (n - ((zz (.aa an) x.2.1:Nat):Int) < 0):=by omega
 simp only[e1,n1,aE,aD];clear e1 n1;simp only[Om x.2.2.1 ((n - ((zz (.aa an) x.2.1:Nat):Int))) hx.2.2.1 (by omega) (by omega),aA]
 by_cases hc:((zz (.aa i64) x.2.2.1:Nat):Int)<=(n - ((zz (.aa an) x.2.1:Nat):Int))
 rotate_left
 ·have e1:iq ((n - ((zz (.aa an) x.2.1:Nat):Int))) (zz (.aa i64) x.2.2.1)=-1:=aP hc;have e2:iq n (zz ca x)=-1:=aP (by omega);rw[e1,e2];rfl
 have e1:iq ((n - ((zz (.aa an) x.2.1:Nat):Int))) (zz (.aa i64) x.2.2.1)=(n - ((zz (.aa an) x.2.1:Nat):Int)) - ((zz (.aa i64) x.2.2.1:Nat):Int):=aM hc;have n1:¬ ((n - ((zz (.aa an) x.2.1:Nat):Int)) - ((zz (.aa i64) x.2.2.1:Nat):Int) < 0):=by omega
 simp only[e1,n1,aE,aD];clear e1 n1;simp only[TA x.2.2.2.1 (((n - ((zz (.aa an) x.2.1:Nat):Int)) - ((zz (.aa i64) x.2.2.1:Nat):Int))) hx.2.2.2.1 (by omega) (by omega),aA]
 by_cases hc:((zz (.aa be) x.2.2.2.1:Nat):Int)<=((n - ((zz (.aa an) x.2.1:Nat):Int)) - ((zz (.aa i64) x.2.2.1:Nat):Int))
 rotate_left
 ·have e1:iq (((n - ((zz (.aa an) x.2.1:Nat):Int)) - ((zz (.aa i64) x.2.2.1:Nat):Int))) (zz (.aa be) x.2.2.2.1)=-1:=aP hc;have e2:iq n (zz ca x)=-1:=aP (by omega);rw[e1,e2];rfl
 have e1:iq (((n - ((zz (.aa an) x.2.1:Nat):Int)) - ((zz (.aa i64) x.2.2.1:Nat):Int))) (zz (.aa be) x.2.2.2.1)=((n - ((zz (.aa an) x.2.1:Nat):Int)) - ((zz (.aa i64) x.2.2.1:Nat):Int)) - ((zz (.aa be) x.2.2.2.1:Nat):Int):=aM hc;have n1:¬ (((n - ((zz (.aa an) x.2.1:Nat):Int)) - ((zz (.aa i64) x.2.2.1:Nat):Int)) - ((zz (.aa be) x.2.2.2.1:Nat):Int) < 0):=by omega
 simp only[e1,n1,aE,aD];clear e1 n1;have e2:iq n (zz ca x)=(((n - ((zz (.aa an) x.2.1:Nat):Int)) - ((zz (.aa i64) x.2.2.1:Nat):Int)) - ((zz (.aa be) x.2.2.2.1:Nat):Int)):=by unfold iq;rw[aM (by omega)];omega
 rw[e2]
theorem Vv (x:List Tx) (n:Int) (hx:sm (.aa ca) x) (h0:0<=n) (h1:n<=1048576):vt.ab (x,n,())=some (iq n (zz (.aa ca) x),()):=ZA (e:=ca) (f:=λa n=>st.ab (a,n,())) (λx n k=>vt.ae k (x,n,())) X8 x n hx h0 h1
theorem Rr (x:bj) (n:Int) (hx:sm ci x) (h0:0<=n) (h1:n<=1048576):qc.ab (x,n,())=some (iq n (zz ci x),()):=by
 have hz:zz ci x=(0+(zz (.aa (.aa u8)) x.2.1+((zz (.aa u8) x.2.2.1.1+(zz (.aa u8) x.2.2.1.2.1+0))+(zz (.aa ca) x.2.2.2.1+(0+0))))):=rfl;refine ag (k:=0) λk _=>(qc.ae k _).trans ?_;show qc.p _=_;unfold qc.p;simp only[Oj x.2.1 (n) hx.2.1 (by omega) (by omega),aA];by_cases hc:((zz (.aa (.aa u8)) x.2.1:Nat):Int)<=n;rotate_left
 ·have e1:iq (n) (zz (.aa (.aa u8)) x.2.1)=-1:=aP hc;have e2:iq n (zz ci x)=-1:=aP (by omega);rw[e1,e2];rfl
 have e1:iq (n) (zz (.aa (.aa u8)) x.2.1)=n - ((zz (.aa (.aa u8)) x.2.1:Nat):Int):=aM hc;have n1:¬ (n - ((zz (.aa (.aa u8)) x.2.1:Nat):Int) < 0):=by omega
 simp only[e1,n1,aE,aD];clear e1 n1;have ze:zz ee x.2.2.1=(zz (.aa u8) x.2.2.1.1+(zz (.aa u8) x.2.2.1.2.1+0)):=rfl;simp only[Vu x.2.2.1 ((n - ((zz (.aa (.aa u8)) x.2.1:Nat):Int))) hx.2.2.1 (by omega) (by omega),aA]
 by_cases hc:((zz ee x.2.2.1:Nat):Int)<=(n - ((zz (.aa (.aa u8)) x.2.1:Nat):Int))
 rotate_left
 ·have e1:iq ((n - ((zz (.aa (.aa u8)) x.2.1:Nat):Int))) (zz ee x.2.2.1)=-1:=aP hc;have e2:iq n (zz ci x)=-1:=aP (by omega);rw[e1,e2];rfl
 have e1:iq ((n - ((zz (.aa (.aa u8)) x.2.1:Nat):Int))) (zz ee x.2.2.1)=(n - ((zz (.aa (.aa u8)) x.2.1:Nat):Int)) - ((zz ee x.2.2.1:Nat):Int):=aM hc;have n1:¬ ((n - ((zz (.aa (.aa u8)) x.2.1:Nat):Int)) - ((zz ee x.2.2.1:Nat):Int) < 0):=by omega
 simp only[e1,n1,aE,aD];clear e1 n1;simp only[Vv x.2.2.2.1 (((n - ((zz (.aa (.aa u8)) x.2.1:Nat):Int)) - ((zz ee x.2.2.1:Nat):Int))) hx.2.2.2.1 (by omega) (by omega),aA]
 by_cases hc:((zz (.aa ca) x.2.2.2.1:Nat):Int)<=((n - ((zz (.aa (.aa u8)) x.2.1:Nat):Int)) - ((zz ee x.2.2.1:Nat):Int))
 rotate_left
 ·have e1:iq (((n - ((zz (.aa (.aa u8)) x.2.1:Nat):Int)) - ((zz ee x.2.2.1:Nat):Int))) (zz (.aa ca) x.2.2.2.1)=-1:=aP hc;have e2:iq n (zz ci x)=-1:=aP (by omega);rw[e1,e2];rfl
 have e1:iq (((n - ((zz (.aa (.aa u8)) x.2.1:Nat):Int)) - ((zz ee x.2.2.1:Nat):Int))) (zz (.aa ca) x.2.2.2.1)=((n - ((zz (.aa (.aa u8)) x.2.1:Nat):Int)) - ((zz ee x.2.2.1:Nat):Int)) - ((zz (.aa ca) x.2.2.2.1:Nat):Int):=aM hc;have n1:¬ (((n - ((zz (.aa (.aa u8)) x.2.1:Nat):Int)) - ((zz ee x.2.2.1:Nat):Int)) - ((zz (.aa ca) x.2.2.2.1:Nat):Int) < 0):=by omega
 simp only[e1,n1,aE,aD];clear e1 n1;have e2:iq n (zz ci x)=(((n - ((zz (.aa (.aa u8)) x.2.1:Nat):Int)) - ((zz ee x.2.2.1:Nat):Int)) - ((zz (.aa ca) x.2.2.2.1:Nat):Int)):=by unfold iq;rw[aM (by omega)];omega
 rw[e2]
theorem Df (x:List UInt8) (h:zz (.aa u8) x<=1048576):nj.ab (x,())=some (x,()):=PG (e:=u8) (f:=λa=>some (a,())) (λx k=>nj.ae k (x,())) (λ_ _=>rfl) x h
theorem On (x:List (List UInt8)) (h:zz (.aa (.aa u8)) x<=1048576):sb.ab (x,())=some (x,()):=PG (e:=(.aa u8)) (f:=λa=>nj.ab (a,())) (λx k=>sb.ae k (x,())) Df x h
theorem Vw (x:Log) (h:zz ee x<=1048576):sy.ab (x,())=some (x,()):=by
 have hz:zz ee x=(zz (.aa u8) x.1+(zz (.aa u8) x.2.1+0)):=rfl;refine ag (k:=0) λk _=>(sy.ae k _).trans ?_;show sy.p _=_;unfold sy.p;simp only[Df x.1 (by omega),Df x.2.1 (by omega),aA]
theorem MN (x:Row) (h:zz bd x<=1048576):q_.ab (x,())=some (x,()):=by
 have hz:zz bd x=(0+(0+(0+(List.length x.2.2.2.1+0)))):=rfl;refine ag (k:=0) λk _=>(q_.ae k _).trans ?_;show q_.p _=_;unfold q_.p;rfl
theorem Oo (x:Change) (h:zz an x<=1048576):n9.ab (x,())=some (x,()):=by
 have hz:zz an x=(0+((0+(0+(0+(List.length x.2.1.2.2.2.1+0))))+(0+((0+(0+(0+(List.length x.2.2.2.1.2.2.2.1+0))))+0)))):=rfl;have El:zz bd x.2.1=(0+(0+(0+(List.length x.2.1.2.2.2.1+0)))):=rfl;have hz3:zz bd x.2.2.2.1=(0+(0+(0+(List.length x.2.2.2.1.2.2.2.1+0)))):=rfl;refine ag (k:=0) λk _=>(n9.ae k _).trans ?_;show n9.p _=_;unfold n9.p;simp only[MN x.2.1 (by omega),MN x.2.2.2.1 (by omega),aA]
theorem EE (x:List Change) (h:zz (.aa an) x<=1048576):nH.ab (x,())=some (x,()):=PG (e:=an) (f:=λa=>n9.ab (a,())) (λx k=>nH.ae k (x,())) Oo x h
theorem Oq (x:List Int) (h:zz (.aa i64) x<=1048576):sc.ab (x,())=some (x,()):=PG (e:=i64) (f:=λa=>some (a,())) (λx k=>sc.ae k (x,())) (λ_ _=>rfl) x h
theorem Vx (x:Key) (h:zz be x<=1048576):rf.ab (x,())=some (x,()):=by
 have hz:zz be x=(0+(0+0)):=rfl;refine ag (k:=0) λk _=>(rf.ae k _).trans ?_;show rf.p _=_;unfold rf.p;rfl
theorem TB (x:List Key) (h:zz (.aa be) x<=1048576):uy.ab (x,())=some (x,()):=PG (e:=be) (f:=λa=>rf.ab (a,())) (λx k=>uy.ae k (x,())) Vx x h
theorem X9 (x:Tx) (h:zz ca x<=1048576):sA.ab (x,())=some (x,()):=by
 have hz:zz ca x=(0+(zz (.aa an) x.2.1+(zz (.aa i64) x.2.2.1+(zz (.aa be) x.2.2.2.1+0)))):=rfl;refine ag (k:=0) λk _=>(sA.ae k _).trans ?_;show sA.p _=_;unfold sA.p;simp only[EE x.2.1 (by omega),Oq x.2.2.1 (by omega),TB x.2.2.2.1 (by omega),aA]
theorem Vy (x:List Tx) (h:zz (.aa ca) x<=1048576):vy.ab (x,())=some (x,()):=PG (e:=ca) (f:=λa=>sA.ab (a,())) (λx k=>vy.ae k (x,())) X9 x h
theorem Rs (x:bj) (h:zz ci x<=1048576):nk.ab (x,())=some (x,()):=by
 have hz:zz ci x=(0+(zz (.aa (.aa u8)) x.2.1+((zz (.aa u8) x.2.2.1.1+(zz (.aa u8) x.2.2.1.2.1+0))+(zz (.aa ca) x.2.2.2.1+(0+0))))):=rfl;have ze:zz ee x.2.2.1=(zz (.aa u8) x.2.2.1.1+(zz (.aa u8) x.2.2.1.2.1+0)):=rfl;refine ag (k:=0) λk _=>(nk.ae k _).trans ?_;show nk.p _=_;unfold nk.p;simp only[On x.2.1 (by omega),Vw x.2.2.1 (by omega),Vy x.2.2.2.1 (by omega),aA]
theorem AE (x:List UInt8) (h:zz (.aa u8) x<=4611686018427387904):nq.ab (x,x,())=some (true,()):=PH (e:=u8) (f:=λ(a b:UInt8)=>some (decide ((a.toNat:Int)=(b.toNat:Int)),())) (λx k=>nq.ae k (x,x,())) (λa _=>by simp) x h
theorem KP (x:List (List UInt8)) (h:zz (.aa (.aa u8)) x<=4611686018427387904):sd.ab (x,x,())=some (true,()):=PH (e:=(.aa u8)) (f:=λ(a b:List UInt8)=>nq.ab (a,b,())) (λx k=>sd.ae k (x,x,())) AE x h
theorem Rt (x:Log) (h:zz ee x<=4611686018427387904):sE.ab (x,x,())=some (true,()):=by
 have hz:zz ee x=(zz (.aa u8) x.1+(zz (.aa u8) x.2.1+0)):=rfl;refine ag (k:=0) λk _=>(sE.ae k _).trans ?_;show sE.p _=_;unfold sE.p;have q0:=AE x.1 (by omega);have q1:=AE x.2.1 (by omega);simp[q0,q1]
theorem KQ (x:List Int) (h:zz (.aa i64) x<=4611686018427387904):se.ab (x,x,())=some (true,()):=PH (e:=i64) (f:=λ(a b:Int)=>some (decide (a=b),())) (λx k=>se.ae k (x,x,())) (λa _=>by simp) x h
theorem Ii (x:Row) (h:zz bd x<=4611686018427387904):rg.ab (x,x,())=some (true,()):=by
 have hz:zz bd x=(0+(0+(0+(List.length x.2.2.2.1+0)))):=rfl;refine ag (k:=0) λk _=>(rg.ae k _).trans ?_;show rg.p _=_;unfold rg.p;simp[]
theorem KR (x:Change) (h:zz an x<=4611686018427387904):of.ab (x,x,())=some (true,()):=by
 have hz:zz an x=(0+((0+(0+(0+(List.length x.2.1.2.2.2.1+0))))+(0+((0+(0+(0+(List.length x.2.2.2.1.2.2.2.1+0))))+0)))):=rfl;have El:zz bd x.2.1=(0+(0+(0+(List.length x.2.1.2.2.2.1+0)))):=rfl;have hz3:zz bd x.2.2.2.1=(0+(0+(0+(List.length x.2.2.2.1.2.2.2.1+0)))):=rfl;refine ag (k:=0) λk _=>(of.ae k _).trans ?_;show of.p _=_;unfold of.p;have q0:=Ii x.2.1 (by omega);have q1:=Ii x.2.2.2.1 (by omega);simp[q0,q1]
theorem Ci (x:List Change) (h:zz (.aa an) x<=4611686018427387904):nJ.ab (x,x,())=some (true,()):=PH (e:=an) (f:=λ(a b:Change)=>of.ab (a,b,())) (λx k=>nJ.ae k (x,x,())) KR x h
theorem Ru (x:Key) (h:zz be x<=4611686018427387904):rh.ab (x,x,())=some (true,()):=by
 have hz:zz be x=(0+(0+0)):=rfl;refine ag (k:=0) λk _=>(rh.ae k _).trans ?_;show rh.p _=_;unfold rh.p;simp[]
theorem Ot (x:List Key) (h:zz (.aa be) x<=4611686018427387904):uz.ab (x,x,())=some (true,()):=PH (e:=be) (f:=λ(a b:Key)=>rh.ab (a,b,())) (λx k=>uz.ae k (x,x,())) Ru x h
theorem TC (x:Tx) (h:zz ca x<=4611686018427387904):sF.ab (x,x,())=some (true,()):=by
 have hz:zz ca x=(0+(zz (.aa an) x.2.1+(zz (.aa i64) x.2.2.1+(zz (.aa be) x.2.2.2.1+0)))):=rfl;refine ag (k:=0) λk _=>(sF.ae k _).trans ?_;show sF.p _=_;unfold sF.p;have q0:=Ci x.2.1 (by omega);have q1:=KQ x.2.2.1 (by omega);have q2:=Ot x.2.2.2.1 (by omega);simp[q0,q1,q2]
theorem Rv (x:List Tx) (h:zz (.aa ca) x<=4611686018427387904):vA.ab (x,x,())=some (true,()):=PH (e:=ca) (f:=λ(a b:Tx)=>sF.ab (a,b,())) (λx k=>vA.ae k (x,x,())) TC x h
theorem EF (x:bj) (h:zz ci x<=4611686018427387904):nr.ab (x,x,())=some (true,()):=by
 have hz:zz ci x=(0+(zz (.aa (.aa u8)) x.2.1+((zz (.aa u8) x.2.2.1.1+(zz (.aa u8) x.2.2.1.2.1+0))+(zz (.aa ca) x.2.2.2.1+(0+0))))):=rfl;have ze:zz ee x.2.2.1=(zz (.aa u8) x.2.2.1.1+(zz (.aa u8) x.2.2.1.2.1+0)):=rfl;refine ag (k:=0) λk _=>(nr.ae k _).trans ?_;show nr.p _=_;unfold nr.p;have q0:=KP x.2.1 (by omega);have q1:=Rt x.2.2.1 (by omega);have q2:=Rv x.2.2.2.1 (by omega);simp[q0,q1,q2]
theorem EG (x:mE) (h:zz gz x<=4611686018427387904):jU.ab (x,x,())=some (true,()):=by
 have hz:zz gz x=(0+(0+((0+(zz (.aa (.aa u8)) x.2.2.1.2.1+((zz (.aa u8) x.2.2.1.2.2.1.1+(zz (.aa u8) x.2.2.1.2.2.1.2.1+0))+(zz (.aa ca) x.2.2.1.2.2.2.1+(0+0)))))+0))):=rfl;have ze:zz ci x.2.2.1=(0+(zz (.aa (.aa u8)) x.2.2.1.2.1+((zz (.aa u8) x.2.2.1.2.2.1.1+(zz (.aa u8) x.2.2.1.2.2.1.2.1+0))+(zz (.aa ca) x.2.2.1.2.2.2.1+(0+0))))):=rfl;refine ag (k:=0) λk _=>(jU.ae k _).trans ?_;show jU.p _=_;unfold jU.p;have q0:=EF x.2.2.1 (by omega);simp[q0]
def ZY (x:UInt8) (k:Int) (y:UInt8) (k':Int):Prop:=y=(UInt8.ofInt (k))/\k+1=k'
theorem Js (x:List UInt8) (k:Int) (h0:0<=k) (h1:k+32*((zz (.aa u8) x:Nat):Int)<=lU):∃ (k':Int) (y:List UInt8),jr.ab (x,k,())=some (k',y,())/\k<=k'/\k'<=k+32*((zz (.aa u8) x:Nat):Int):=by
 have hB:lU=4611686018427387904:=rfl
 exact PI (α:=UInt8) (zz u8) ZY (λx k f=>jr.ae f (x,k,())) (λ(x:UInt8) k h0 h1=>by
   exact ⟨_,_,by omega,by omega,⟨rfl,rfl⟩⟩) (λi (acc:List (UInt8)) k self (x y:UInt8) k' hi hx h0 h1 h2 h3 hE ax=>by
   obtain ⟨rfl,rfl⟩:=hE
   simp (disch:=omega) only [ax,aG,aH,aK,bR,aI,aC,hx,aA,aZ,mn,dR,a7,jx]) x k h0 h1
def X_ (x:List UInt8) (k:Int) (y:List UInt8) (k':Int):Prop:=∃ (r1:Int) (y1:List UInt8),jr.ab (x,k,())=some (r1,y1,())/\k<=r1/\r1<=k+32*((zz (.aa u8) x:Nat):Int)/\y=y1/\r1=k'
theorem Vz (x:List (List UInt8)) (k:Int) (h0:0<=k) (h1:k+32*((zz (.aa (.aa u8)) x:Nat):Int)<=lU):∃ (k':Int) (y:List (List UInt8)),nV.ab (x,k,())=some (k',y,())/\k<=k'/\k'<=k+32*((zz (.aa (.aa u8)) x:Nat):Int):=by
 have hB:lU=4611686018427387904:=rfl
 exact PI (α:=List UInt8) (zz (.aa u8)) X_ (λx k f=>nV.ae f (x,k,())) (λ(x:List UInt8) k h0 h1=>by
   obtain ⟨r1,y1,e1,g1,i1⟩:=Js x (k) (by omega) (by omega)
   exact ⟨_,_,by omega,by omega,⟨r1,y1,e1,g1,i1,rfl,rfl⟩⟩) (λi (acc:List (List UInt8)) k self (x y:List UInt8) k' hi hx h0 h1 h2 h3 hE ax=>by
   obtain ⟨r1,y1,e1,g1,i1,rfl,rfl⟩:=hE
   simp (disch:=omega) only [ax,aG,aH,aK,bR,aI,aC,hx,aA,aZ,mn,dR,a7,jx,e1]) x k h0 h1
theorem aa5 (x:Log) (k:Int) (h0:0<=k) (h1:k+32*((zz ee x:Nat):Int)<=lU):∃ (k':Int) (y:Log),my.ab (x,k,())=some (k',y,())/\k<=k'/\k'<=k+32*((zz ee x:Nat):Int):=by
 have hB:lU=4611686018427387904:=rfl;have hz:zz ee x=(zz (.aa u8) x.1+(zz (.aa u8) x.2.1+0)):=rfl;obtain ⟨k1,y1,e1,g1,i1⟩:=Js x.1 k (by omega) (by omega);obtain ⟨k2,y2,e2,g2,i2⟩:=Js x.2.1 k1 (by omega) (by omega);refine ⟨k2,(y1,y2,x.2.2),ag (k:=0) λf _=>(my.ae f _).trans ?_,by omega,by omega⟩
 ·show my.p _=_;unfold my.p;simp only[e1,e2,aA]
def Ya (x:Int) (k:Int) (y:Int) (k':Int):Prop:=y=(k)/\k+1=k'
theorem VA (x:List Int) (k:Int) (h0:0<=k) (h1:k+32*((zz (.aa i64) x:Nat):Int)<=lU):∃ (k':Int) (y:List Int),l5.ab (x,k,())=some (k',y,())/\k<=k'/\k'<=k+32*((zz (.aa i64) x:Nat):Int):=by
 have hB:lU=4611686018427387904:=rfl
 exact PI (α:=Int) (zz i64) Ya (λx k f=>l5.ae f (x,k,())) (λ(x:Int) k h0 h1=>by
   exact ⟨_,_,by omega,by omega,⟨rfl,rfl⟩⟩) (λi (acc:List (Int)) k self (x y:Int) k' hi hx h0 h1 h2 h3 hE ax=>by
   obtain ⟨rfl,rfl⟩:=hE
   simp (disch:=omega) only [ax,aG,aH,aK,bR,aI,aC,hx,aA,aZ,mn,dR,a7,jx]) x k h0 h1
def VB (x:Change) (k:Int) (y:Change) (k':Int):Prop:=y=((decide ((k).tmod (3:Int)=(0:Int))),((k+1),(k+1+1),(k+1+1+1),(FJ (k+1+1+1+1)),x.2.1.2.2.2.2),(decide ((k+1+1+1+1+1).tmod (3:Int)=(0:Int))),((k+1+1+1+1+1+1),(k+1+1+1+1+1+1+1),(k+1+1+1+1+1+1+1+1),(FJ (k+1+1+1+1+1+1+1+1+1)),x.2.2.2.1.2.2.2.2),x.2.2.2.2)/\k+1+1+1+1+1+1+1+1+1+1=k'
theorem Kb (x:List Change) (k:Int) (h0:0<=k) (h1:k+32*((zz (.aa an) x:Nat):Int)<=lU):∃ (k':Int) (y:List Change),jc.ab (x,k,())=some (k',y,())/\k<=k'/\k'<=k+32*((zz (.aa an) x:Nat):Int):=by
 have hB:lU=4611686018427387904:=rfl
 exact PI (α:=Change) (zz an) VB (λx k f=>jc.ae f (x,k,())) (λ(x:Change) k h0 h1=>by
   have hz:zz an x=(0+((0+(0+(0+(List.length x.2.1.2.2.2.1+0))))+(0+((0+(0+(0+(List.length x.2.2.2.1.2.2.2.1+0))))+0)))):=rfl
   exact ⟨_,_,by omega,by omega,⟨rfl,rfl⟩⟩) (λi (acc:List (Change)) k self (x y:Change) k' hi hx h0 h1 h2 h3 hE ax=>by
   have hz:zz an x=(0+((0+(0+(0+(List.length x.2.1.2.2.2.1+0))))+(0+((0+(0+(0+(List.length x.2.2.2.1.2.2.2.1+0))))+0)))):=rfl;obtain ⟨rfl,rfl⟩:=hE
   simp (disch:=omega) only [ax,aG,aH,aK,bR,aI,aC,hx,aA,aZ,mn,dR,a7,jx]) x k h0 h1
def aa6 (x:Key) (k:Int) (y:Key) (k':Int):Prop:=y=((k),(k+1),x.2.2)/\k+1+1=k'
theorem ZZ (x:List Key) (k:Int) (h0:0<=k) (h1:k+32*((zz (.aa be) x:Nat):Int)<=lU):∃ (k':Int) (y:List Key),nB.ab (x,k,())=some (k',y,())/\k<=k'/\k'<=k+32*((zz (.aa be) x:Nat):Int):=by
 have hB:lU=4611686018427387904:=rfl
 exact PI (α:=Key) (zz be) aa6 (λx k f=>nB.ae f (x,k,())) (λ(x:Key) k h0 h1=>by
   have hz:zz be x=(0+(0+0)):=rfl
   exact ⟨_,_,by omega,by omega,⟨rfl,rfl⟩⟩) (λi (acc:List (Key)) k self (x y:Key) k' hi hx h0 h1 h2 h3 hE ax=>by
   have hz:zz be x=(0+(0+0)):=rfl;obtain ⟨rfl,rfl⟩:=hE
   simp (disch:=omega) only [ax,aG,aH,aK,bR,aI,aC,hx,aA,aZ,mn,dR,a7,jx]) x k h0 h1
def abS (x:Tx) (k:Int) (y:Tx) (k':Int):Prop:=∃ (r1:Int) (y1:List Change),∃ (r2:Int) (y2:List Int),∃ (r3:Int) (y3:List Key),jc.ab (x.2.1,k+1,())=some (r1,y1,())/\k+1<=r1/\r1<=k+1+32*((zz (.aa an) x.2.1:Nat):Int)/\l5.ab (x.2.2.1,r1,())=some (r2,y2,())/\r1<=r2/\r2<=r1+32*((zz (.aa i64) x.2.2.1:Nat):Int)/\nB.ab (x.2.2.2.1,r2,())=some (r3,y3,())/\r2<=r3/\r3<=r2+32*((zz (.aa be) x.2.2.2.1:Nat):Int)/\y=((k),y1,y2,y3,x.2.2.2.2)/\r3=k'
theorem aa7 (x:List Tx) (k:Int) (h0:0<=k) (h1:k+32*((zz (.aa ca) x:Nat):Int)<=lU):∃ (k':Int) (y:List Tx),qj.ab (x,k,())=some (k',y,())/\k<=k'/\k'<=k+32*((zz (.aa ca) x:Nat):Int):=by
 have hB:lU=4611686018427387904:=rfl
 exact PI (α:=Tx) (zz ca) abS (λx k f=>qj.ae f (x,k,())) (λ(x:Tx) k h0 h1=>by
   have hz:zz ca x=(0+(zz (.aa an) x.2.1+(zz (.aa i64) x.2.2.1+(zz (.aa be) x.2.2.2.1+0)))):=rfl;obtain ⟨r1,y1,e1,g1,i1⟩:=Kb x.2.1 (k+1) (by omega) (by omega);obtain ⟨r2,y2,e2,g2,i2⟩:=VA x.2.2.1 (r1) (by omega) (by omega);obtain ⟨r3,y3,e3,g3,i3⟩:=ZZ x.2.2.2.1 (r2) (by omega) (by omega)
   exact ⟨_,_,by omega,by omega,⟨r1,y1,r2,y2,r3,y3,e1,g1,i1,e2,g2,i2,e3,g3,i3,rfl,rfl⟩⟩) (λi (acc:List (Tx)) k self (x y:Tx) k' hi hx h0 h1 h2 h3 hE ax=>by
   have hz:zz ca x=(0+(zz (.aa an) x.2.1+(zz (.aa i64) x.2.2.1+(zz (.aa be) x.2.2.2.1+0)))):=rfl;obtain ⟨r1,y1,r2,y2,r3,y3,e1,g1,i1,e2,g2,i2,e3,g3,i3,rfl,rfl⟩:=hE
   simp (disch:=omega) only [ax,aG,aH,aK,bR,aI,aC,hx,aA,aZ,mn,dR,a7,jx,e1,e2,e3]) x k h0 h1
theorem Yb (x:bj) (k:Int) (h0:0<=k) (h1:k+32*((zz ci x:Nat):Int)<=lU):∃ (k':Int) (y:bj),jd.ab (x,k,())=some (k',y,())/\k<=k'/\k'<=k+32*((zz ci x:Nat):Int):=by
 have hB:lU=4611686018427387904:=rfl;have hz:zz ci x=(0+(zz (.aa (.aa u8)) x.2.1+((zz (.aa u8) x.2.2.1.1+(zz (.aa u8) x.2.2.1.2.1+0))+(zz (.aa ca) x.2.2.2.1+(0+0))))):=rfl;obtain ⟨k1,y1,e1,g1,i1⟩:=Vz x.2.1 k (by omega) (by omega);have ze:zz ee x.2.2.1=(zz (.aa u8) x.2.2.1.1+(zz (.aa u8) x.2.2.1.2.1+0)):=rfl;obtain ⟨k2,y2,e2,g2,i2⟩:=aa5 x.2.2.1 k1 (by omega) (by omega);obtain ⟨k3,y3,e3,g3,i3⟩:=aa7 x.2.2.2.1 k2 (by omega) (by omega);refine ⟨k3,(x.1,y1,y2,y3,x.2.2.2.2.1,x.2.2.2.2.2),ag (k:=0) λf _=>(jd.ae f _).trans ?_,by omega,by omega⟩
 ·show jd.p _=_;unfold jd.p;simp only[e1,e2,e3,aA]
def Z0 (x:UInt8) (k:Int) (y:UInt8) (k':Int):Prop:=y=(UInt8.ofInt (k))/\k+1=k'
theorem Jt (x:List UInt8) (k:Int) (h0:0<=k) (h1:k+32*((zz (.aa u8) x:Nat):Int)<=lU):∃ (k':Int) (y:List UInt8),jr.ab (x,k,())=some (k',y,())/\lQ.ab (y,k,())=some (k',())/\k<=k'/\k'<=k+32*((zz (.aa u8) x:Nat):Int):=by
 have hB:lU=4611686018427387904:=rfl
 exact PJ (α:=UInt8) (zz u8) Z0 (λx k f=>jr.ae f (x,k,())) (λy k f=>lQ.ae f (y,k,())) (λ(x:UInt8) k h0 h1=>by
   exact ⟨_,_,by omega,by omega,⟨rfl,rfl⟩⟩) (λi (acc:List (UInt8)) k self (x y:UInt8) k' hi hx h0 h1 h2 h3 hE ax=>by
   obtain ⟨rfl,rfl⟩:=hE
   simp (disch:=omega) only [ax,aG,aH,aK,bR,aI,aC,hx,aA,aZ,mn,dR,a7,jx]) (λ_ i (ys:List (UInt8)) k self (x y:UInt8) k' hi hx h0 h1 h2 h3 hE ax=>by
   obtain ⟨rfl,rfl⟩:=hE
   simp (disch:=omega) only [ax,aG,aH,aK,bR,aI,aC,hx,aA,a7,jx,eM,aN,aD,aE]) x k h0 h1
def Yc (x:List UInt8) (k:Int) (y:List UInt8) (k':Int):Prop:=∃ (r1:Int) (y1:List UInt8),jr.ab (x,k,())=some (r1,y1,())/\lQ.ab (y1,k,())=some (r1,())/\k<=r1/\r1<=k+32*((zz (.aa u8) x:Nat):Int)/\y=y1/\r1=k'
theorem VC (x:List (List UInt8)) (k:Int) (h0:0<=k) (h1:k+32*((zz (.aa (.aa u8)) x:Nat):Int)<=lU):∃ (k':Int) (y:List (List UInt8)),nV.ab (x,k,())=some (k',y,())/\qx.ab (y,k,())=some (k',())/\k<=k'/\k'<=k+32*((zz (.aa (.aa u8)) x:Nat):Int):=by
 have hB:lU=4611686018427387904:=rfl
 exact PJ (α:=List UInt8) (zz (.aa u8)) Yc (λx k f=>nV.ae f (x,k,())) (λy k f=>qx.ae f (y,k,())) (λ(x:List UInt8) k h0 h1=>by
   obtain ⟨r1,y1,e1,f1,g1,i1⟩:=Jt x (k) (by omega) (by omega)
   exact ⟨_,_,by omega,by omega,⟨r1,y1,e1,f1,g1,i1,rfl,rfl⟩⟩) (λi (acc:List (List UInt8)) k self (x y:List UInt8) k' hi hx h0 h1 h2 h3 hE ax=>by
   obtain ⟨r1,y1,e1,f1,g1,i1,rfl,rfl⟩:=hE
   simp (disch:=omega) only [ax,aG,aH,aK,bR,aI,aC,hx,aA,aZ,mn,dR,a7,jx,e1]) (λ_ i (ys:List (List UInt8)) k self (x y:List UInt8) k' hi hx h0 h1 h2 h3 hE ax=>by
   obtain ⟨r1,y1,e1,f1,g1,i1,rfl,rfl⟩:=hE;have n1:¬ r1 < 0:=by omega
   simp (disch:=omega) only [ax,aG,aH,aK,bR,aI,aC,hx,aA,a7,jx,eM,aN,aD,aE,f1,n1]) x k h0 h1
theorem aa8 (x:Log) (k:Int) (h0:0<=k) (h1:k+32*((zz ee x:Nat):Int)<=lU):∃ (k':Int) (y:Log),my.ab (x,k,())=some (k',y,())/\qk.ab (y,k,())=some (k',())/\k<=k'/\k'<=k+32*((zz ee x:Nat):Int):=by
 have hB:lU=4611686018427387904:=rfl;have hz:zz ee x=(zz (.aa u8) x.1+(zz (.aa u8) x.2.1+0)):=rfl;obtain ⟨k1,y1,e1,f1,g1,i1⟩:=Jt x.1 k (by omega) (by omega);have n1:¬ k1 < 0:=by omega
 obtain ⟨k2,y2,e2,f2,g2,i2⟩:=Jt x.2.1 k1 (by omega) (by omega);have n2:¬ k2 < 0:=by omega
 refine ⟨k2,(y1,y2,x.2.2),ag (k:=0) λf _=>(my.ae f _).trans ?_,ag (k:=0) λf _=>(qk.ae f _).trans ?_,by omega,by omega⟩
 ·show my.p _=_;unfold my.p;simp only[e1,e2,aA]
 ·show qk.p _=_;unfold qk.p;simp only[f1,f2,n1,n2,aA,aE,aD]
def Yd (x:Int) (k:Int) (y:Int) (k':Int):Prop:=y=(k)/\k+1=k'
theorem VD (x:List Int) (k:Int) (h0:0<=k) (h1:k+32*((zz (.aa i64) x:Nat):Int)<=lU):∃ (k':Int) (y:List Int),l5.ab (x,k,())=some (k',y,())/\o_.ab (y,k,())=some (k',())/\k<=k'/\k'<=k+32*((zz (.aa i64) x:Nat):Int):=by
 have hB:lU=4611686018427387904:=rfl
 exact PJ (α:=Int) (zz i64) Yd (λx k f=>l5.ae f (x,k,())) (λy k f=>o_.ae f (y,k,())) (λ(x:Int) k h0 h1=>by
   exact ⟨_,_,by omega,by omega,⟨rfl,rfl⟩⟩) (λi (acc:List (Int)) k self (x y:Int) k' hi hx h0 h1 h2 h3 hE ax=>by
   obtain ⟨rfl,rfl⟩:=hE
   simp (disch:=omega) only [ax,aG,aH,aK,bR,aI,aC,hx,aA,aZ,mn,dR,a7,jx]) (λ_ i (ys:List (Int)) k self (x y:Int) k' hi hx h0 h1 h2 h3 hE ax=>by
   obtain ⟨rfl,rfl⟩:=hE
   simp (disch:=omega) only [ax,aG,aH,aK,bR,aI,aC,hx,aA,a7,jx,eM,aN,aD,aE]) x k h0 h1
def VE (x:Change) (k:Int) (y:Change) (k':Int):Prop:=y=((decide ((k).tmod (3:Int)=(0:Int))),((k+1),(k+1+1),(k+1+1+1),(FJ (k+1+1+1+1)),x.2.1.2.2.2.2),(decide ((k+1+1+1+1+1).tmod (3:Int)=(0:Int))),((k+1+1+1+1+1+1),(k+1+1+1+1+1+1+1),(k+1+1+1+1+1+1+1+1),(FJ (k+1+1+1+1+1+1+1+1+1)),x.2.2.2.1.2.2.2.2),x.2.2.2.2)/\k+1+1+1+1+1+1+1+1+1+1=k'
theorem TD (x:List Change) (k:Int) (h0:0<=k) (h1:k+32*((zz (.aa an) x:Nat):Int)<=lU):∃ (k':Int) (y:List Change),jc.ab (x,k,())=some (k',y,())/\ot.ab (y,k,())=some (k',())/\k<=k'/\k'<=k+32*((zz (.aa an) x:Nat):Int):=by
 have hB:lU=4611686018427387904:=rfl
 exact PJ (α:=Change) (zz an) VE (λx k f=>jc.ae f (x,k,())) (λy k f=>ot.ae f (y,k,())) (λ(x:Change) k h0 h1=>by
   have hz:zz an x=(0+((0+(0+(0+(List.length x.2.1.2.2.2.1+0))))+(0+((0+(0+(0+(List.length x.2.2.2.1.2.2.2.1+0))))+0)))):=rfl
   exact ⟨_,_,by omega,by omega,⟨rfl,rfl⟩⟩) (λi (acc:List (Change)) k self (x y:Change) k' hi hx h0 h1 h2 h3 hE ax=>by
   have hz:zz an x=(0+((0+(0+(0+(List.length x.2.1.2.2.2.1+0))))+(0+((0+(0+(0+(List.length x.2.2.2.1.2.2.2.1+0))))+0)))):=rfl;obtain ⟨rfl,rfl⟩:=hE
   simp (disch:=omega) only [ax,aG,aH,aK,bR,aI,aC,hx,aA,aZ,mn,dR,a7,jx]) (λ_ i (ys:List (Change)) k self (x y:Change) k' hi hx h0 h1 h2 h3 hE ax=>by
   have hz:zz an x=(0+((0+(0+(0+(List.length x.2.1.2.2.2.1+0))))+(0+((0+(0+(0+(List.length x.2.2.2.1.2.2.2.1+0))))+0)))):=rfl;obtain ⟨rfl,rfl⟩:=hE
   simp (disch:=omega) only [ax,aG,aH,aK,bR,aI,aC,hx,aA,a7,jx,eM,aN,aD,aE]) x k h0 h1
def aa9 (x:Key) (k:Int) (y:Key) (k':Int):Prop:=y=((k),(k+1),x.2.2)/\k+1+1=k'
theorem Z1 (x:List Key) (k:Int) (h0:0<=k) (h1:k+32*((zz (.aa be) x:Nat):Int)<=lU):∃ (k':Int) (y:List Key),nB.ab (x,k,())=some (k',y,())/\qJ.ab (y,k,())=some (k',())/\k<=k'/\k'<=k+32*((zz (.aa be) x:Nat):Int):=by
 have hB:lU=4611686018427387904:=rfl
 exact PJ (α:=Key) (zz be) aa9 (λx k f=>nB.ae f (x,k,())) (λy k f=>qJ.ae f (y,k,())) (λ(x:Key) k h0 h1=>by
   have hz:zz be x=(0+(0+0)):=rfl
   exact ⟨_,_,by omega,by omega,⟨rfl,rfl⟩⟩) (λi (acc:List (Key)) k self (x y:Key) k' hi hx h0 h1 h2 h3 hE ax=>by
   have hz:zz be x=(0+(0+0)):=rfl;obtain ⟨rfl,rfl⟩:=hE
   simp (disch:=omega) only [ax,aG,aH,aK,bR,aI,aC,hx,aA,aZ,mn,dR,a7,jx]) (λ_ i (ys:List (Key)) k self (x y:Key) k' hi hx h0 h1 h2 h3 hE ax=>by
   have hz:zz be x=(0+(0+0)):=rfl;obtain ⟨rfl,rfl⟩:=hE
   simp (disch:=omega) only [ax,aG,aH,aK,bR,aI,aC,hx,aA,a7,jx,eM,aN,aD,aE]) x k h0 h1
def abT (x:Tx) (k:Int) (y:Tx) (k':Int):Prop:=∃ (r1:Int) (y1:List Change),∃ (r2:Int) (y2:List Int),∃ (r3:Int) (y3:List Key),jc.ab (x.2.1,k+1,())=some (r1,y1,())/\ot.ab (y1,k+1,())=some (r1,())/\k+1<=r1/\r1<=k+1+32*((zz (.aa an) x.2.1:Nat):Int)/\l5.ab (x.2.2.1,r1,())=some (r2,y2,())/\o_.ab (y2,r1,())=some (r2,())/\r1<=r2/\r2<=r1+32*((zz (.aa i64) x.2.2.1:Nat):Int)/\nB.ab (x.2.2.2.1,r2,())=some (r3,y3,())/\qJ.ab (y3,r2,())=some (r3,())/\r2<=r3/\r3<=r2+32*((zz (.aa be) x.2.2.2.1:Nat):Int)/\y=((k),y1,y2,y3,x.2.2.2.2)/\r3=k'
theorem aa_ (x:List Tx) (k:Int) (h0:0<=k) (h1:k+32*((zz (.aa ca) x:Nat):Int)<=lU):∃ (k':Int) (y:List Tx),qj.ab (x,k,())=some (k',y,())/\tB.ab (y,k,())=some (k',())/\k<=k'/\k'<=k+32*((zz (.aa ca) x:Nat):Int):=by
 have hB:lU=4611686018427387904:=rfl
 exact PJ (α:=Tx) (zz ca) abT (λx k f=>qj.ae f (x,k,())) (λy k f=>tB.ae f (y,k,())) (λ(x:Tx) k h0 h1=>by
   have hz:zz ca x=(0+(zz (.aa an) x.2.1+(zz (.aa i64) x.2.2.1+(zz (.aa be) x.2.2.2.1+0)))):=rfl;obtain ⟨r1,y1,e1,f1,g1,i1⟩:=TD x.2.1 (k+1) (by omega) (by omega);obtain ⟨r2,y2,e2,f2,g2,i2⟩:=VD x.2.2.1 (r1) (by omega) (by omega);obtain ⟨r3,y3,e3,f3,g3,i3⟩:=Z1 x.2.2.2.1 (r2) (by omega) (by omega)
   exact ⟨_,_,by omega,by omega,⟨r1,y1,r2,y2,r3,y3,e1,f1,g1,i1,e2,f2,g2,i2,e3,f3,g3,i3,rfl,rfl⟩⟩) (λi (acc:List (Tx)) k self (x y:Tx) k' hi hx h0 h1 h2 h3 hE ax=>by
   have hz:zz ca x=(0+(zz (.aa an) x.2.1+(zz (.aa i64) x.2.2.1+(zz (.aa be) x.2.2.2.1+0)))):=rfl;obtain ⟨r1,y1,r2,y2,r3,y3,e1,f1,g1,i1,e2,f2,g2,i2,e3,f3,g3,i3,rfl,rfl⟩:=hE
   simp (disch:=omega) only [ax,aG,aH,aK,bR,aI,aC,hx,aA,aZ,mn,dR,a7,jx,e1,e2,e3]) (λ_ i (ys:List (Tx)) k self (x y:Tx) k' hi hx h0 h1 h2 h3 hE ax=>by
   have hz:zz ca x=(0+(zz (.aa an) x.2.1+(zz (.aa i64) x.2.2.1+(zz (.aa be) x.2.2.2.1+0)))):=rfl;obtain ⟨r1,y1,r2,y2,r3,y3,e1,f1,g1,i1,e2,f2,g2,i2,e3,f3,g3,i3,rfl,rfl⟩:=hE;have n1:¬ r1 < 0:=by omega
   have n2:¬ r2 < 0:=by omega
   have n3:¬ r3 < 0:=by omega
   simp (disch:=omega) only [ax,aG,aH,aK,bR,aI,aC,hx,aA,a7,jx,eM,aN,aD,aE,f1,n1,f2,n2,f3,n3]) x k h0 h1
theorem Ye (x:bj) (k:Int) (h0:0<=k) (h1:k+32*((zz ci x:Nat):Int)<=lU):∃ (k':Int) (y:bj),jd.ab (x,k,())=some (k',y,())/\oF.ab (y,k,())=some (k',())/\k<=k'/\k'<=k+32*((zz ci x:Nat):Int):=by
 have hB:lU=4611686018427387904:=rfl;have hz:zz ci x=(0+(zz (.aa (.aa u8)) x.2.1+((zz (.aa u8) x.2.2.1.1+(zz (.aa u8) x.2.2.1.2.1+0))+(zz (.aa ca) x.2.2.2.1+(0+0))))):=rfl;obtain ⟨k1,y1,e1,f1,g1,i1⟩:=VC x.2.1 k (by omega) (by omega);have n1:¬ k1 < 0:=by omega
 have ze:zz ee x.2.2.1=(zz (.aa u8) x.2.2.1.1+(zz (.aa u8) x.2.2.1.2.1+0)):=rfl;obtain ⟨k2,y2,e2,f2,g2,i2⟩:=aa8 x.2.2.1 k1 (by omega) (by omega);have n2:¬ k2 < 0:=by omega
 obtain ⟨k3,y3,e3,f3,g3,i3⟩:=aa_ x.2.2.2.1 k2 (by omega) (by omega);have n3:¬ k3 < 0:=by omega
 refine ⟨k3,(x.1,y1,y2,y3,x.2.2.2.2.1,x.2.2.2.2.2),ag (k:=0) λf _=>(jd.ae f _).trans ?_,ag (k:=0) λf _=>(oF.ae f _).trans ?_,by omega,by omega⟩
 ·show jd.p _=_;unfold jd.p;simp only[e1,e2,e3,aA]
 ·show oF.p _=_;unfold oF.p;simp only[f1,f2,f3,n1,n2,n3,aA,aE,aD]
theorem KS (x:mE) (k:Int) (h0:0<=k) (h1:k+32*((zz gz x:Nat):Int)<=lU):∃ (k':Int) (y:mE),kX.ab (x,k,())=some (k',y,())/\jO.ab (y,k,())=some (k',())/\k<=k'/\k'<=k+32*((zz gz x:Nat):Int):=by
 have hB:lU=4611686018427387904:=rfl;have hz:zz gz x=(0+(0+((0+(zz (.aa (.aa u8)) x.2.2.1.2.1+((zz (.aa u8) x.2.2.1.2.2.1.1+(zz (.aa u8) x.2.2.1.2.2.1.2.1+0))+(zz (.aa ca) x.2.2.1.2.2.2.1+(0+0)))))+0))):=rfl;have El:zz ci x.2.2.1=(0+(zz (.aa (.aa u8)) x.2.2.1.2.1+((zz (.aa u8) x.2.2.1.2.2.1.1+(zz (.aa u8) x.2.2.1.2.2.1.2.1+0))+(zz (.aa ca) x.2.2.1.2.2.2.1+(0+0))))):=rfl;obtain ⟨k1,y1,e1,f1,g1,i1⟩:=Ye x.2.2.1 k (by omega) (by omega);have n1:¬ k1 < 0:=by omega
 refine ⟨k1,(x.1,x.2.1,y1,x.2.2.2),ag (k:=0) λf _=>(kX.ae f _).trans ?_,ag (k:=0) λf _=>(jO.ae f _).trans ?_,by omega,by omega⟩
 ·show kX.p _=_;unfold kX.p;simp only[e1,aA]
 ·show jO.p _=_;unfold jO.p;simp only[f1,n1,aA,aE,aD]
theorem Ou (x:Buffer) (n:Int) (hx:sm gi x) (h0:0<=n) (h1:n<=1048576):pB.ab (x,n,())=some (iq n (zz gi x),()):=by
 have hz:zz gi x=(0+(zz (.aa an) x.2.1+0)):=rfl;refine ag (k:=0) λk _=>(pB.ae k _).trans ?_;show pB.p _=_;unfold pB.p;simp only[ED x.2.1 (n) hx.2.1 (by omega) (by omega),aA];by_cases hc:((zz (.aa an) x.2.1:Nat):Int)<=n;rotate_left
 ·have e1:iq (n) (zz (.aa an) x.2.1)=-1:=aP hc;have e2:iq n (zz gi x)=-1:=aP (by omega);rw[e1,e2];rfl
 have e1:iq (n) (zz (.aa an) x.2.1)=n - ((zz (.aa an) x.2.1:Nat):Int):=aM hc;have n1:¬ (n - ((zz (.aa an) x.2.1:Nat):Int) < 0):=by omega
 simp only[e1,n1,aE,aD];clear e1 n1;have e2:iq n (zz gi x)=(n - ((zz (.aa an) x.2.1:Nat):Int)):=by unfold iq;rw[aM (by omega)];omega
 rw[e2]
theorem Ov (x:Buffer) (h:zz gi x<=1048576):mz.ab (x,())=some (x,()):=by
 have hz:zz gi x=(0+(zz (.aa an) x.2.1+0)):=rfl;refine ag (k:=0) λk _=>(mz.ae k _).trans ?_;show mz.p _=_;unfold mz.p;simp only[EE x.2.1 (by omega),aA]
theorem KU (x:Buffer) (h:zz gi x<=4611686018427387904):pD.ab (x,x,())=some (true,()):=by
 have hz:zz gi x=(0+(zz (.aa an) x.2.1+0)):=rfl;refine ag (k:=0) λk _=>(pD.ae k _).trans ?_;show pD.p _=_;unfold pD.p;have q0:=Ci x.2.1 (by omega);simp[q0]
theorem VF (x:Buffer) (k:Int) (h0:0<=k) (h1:k+32*((zz gi x:Nat):Int)<=lU):∃ (k':Int) (y:Buffer),nW.ab (x,k,())=some (k',y,())/\k<=k'/\k'<=k+32*((zz gi x:Nat):Int):=by
 have hB:lU=4611686018427387904:=rfl;have hz:zz gi x=(0+(zz (.aa an) x.2.1+0)):=rfl;obtain ⟨k1,y1,e1,g1,i1⟩:=Kb x.2.1 k (by omega) (by omega);refine ⟨k1,(x.1,y1,x.2.2),ag (k:=0) λf _=>(nW.ae f _).trans ?_,by omega,by omega⟩
 ·show nW.p _=_;unfold nW.p;simp only[e1,aA]
end OT
namespace OT
open Go
theorem nX (a b c:Int):br.ab (a,b,c,())=some (decide (b<=a)&&decide (a<=c),()):=by
 refine ag (k:=0) λk _=>(br.ae k _).trans ?_;show br.p _=_;unfold br.p;by_cases h:b<=a <;> simp[h]
theorem tJ (a b c:Int):h_.ab (a,b,c,())=some (decide (b<=a)&&decide (a<=c),()):=by
 refine ag (k:=0) λk _=>(h_.ae k _).trans ?_;show h_.p _=_;unfold h_.p;by_cases h:b<=a <;> simp[h]
theorem Ju (a:Int):nT.ab (a,())=some (decide (1<=a)&&decide (a<=99),()):=by
 refine ag (k:=0) λk _=>(nT.ae k _).trans ?_;show nT.p _=_;unfold nT.p;simp[tJ]
def gu (a b c:Int):Bool:=decide (b<=a)&&decide (a<=c)
theorem mA (s:List UInt8) (h:s.length<=200000000000):cn.ab (s,())=some (s,()):=by
 refine ag (k:=0) λk _=>(cn.ae k _).trans ?_;show cn.p _=_;unfold cn.p;have:([]:List UInt8).length+s.length<=cg:=dn (by simpa using h);rw[aM this,bO]
theorem mI (s:List UInt8) (h:s.length<=200000000000):cb.ab (s,())=some (s,()):=by
 refine ag (k:=0) λk _=>(cb.ae k _).trans ?_;show cb.p _=_;unfold cb.p;have:([]:List UInt8).length+s.length<=cg:=dn (by simpa using h);rw[aM this,bO]
theorem ig {S O α:Type} {g:S->α->S} {fin:S->O}:∀ (xs:List α) (i:Nat) (s:S),b_ (λ_ s x=>.inr (g s x)) fin i xs s=fin (xs.foldl g s)
 | [],_,_=>rfl
 | x::xs,i,s=>by simp only[b_,eU];exact ig xs _ _
theorem yF {α:Type}:∀ (xs s:List α),xs.foldl (λs x=>s++[x]) s=s++xs
 | [],s=>by simp
 | x::xs,s=>by rw[eU,yF];simp
abbrev l6:Type:=List (List UInt8)
def gp (ps:l6):Prop:=ps.length<=12/\∀ p ∈ ps,p.length=64
def u9:List UInt8:=((List.replicate 64 (0:UInt8)).set 0 0).set 1 64
theorem xU:u9.length=64:=by simp[u9]
theorem DY (ps:l6) (h:gp ps):li.ab (ps,())=some (ps,()):=by
 obtain ⟨h1,h2⟩:=h;refine ag (k:=14) λk hk=>(li.ae k _).trans ?_
 have:=da (B:=λself v=>li.b0 self (λz=>li.q0 (ps,()) z) (ps,()) v) ps (λ(s:l6) (i:Int)=>(s,i)) (λ_ s x=>.inr (s++[x])) (λs=>(s,())) (λi s=>s.length=i) (by rw[au];omega)
  (λi hi s self hI=>by
   show li.b0 _ _ _ _=_;unfold li.b0;have ax:(i:Int) < (ps.length:Int):=by omega
   have hx:=h2 ps[i] (aU hi);simp only[ax,aG,aH,aK,aI,aC,aB hi,aA];rw[mA _ (by omega)];have hc:s.length+[ps[i]].length<=cg:=dn (by simp only[aW,bC];omega)
   simp only[aA,hc,aI])
  (λi hi s s' hI hs=>by injection hs with hs;rw[<-hs];simp[hI]) (λs self hI=>by
   show li.b0 _ _ _ _=_;unfold li.b0;simp only[aX,aE,aD]
   rfl) [] rfl k (by omega)
 rw[ig,yF] at this;exact this
theorem v_ (ps:l6) (h:gp ps):ir.ab (ps,())=some (ps,()):=by
 obtain ⟨h1,h2⟩:=h;refine ag (k:=14) λk hk=>(ir.ae k _).trans ?_
 have:=da (B:=λself v=>ir.b0 self (λz=>ir.q0 (ps,()) z) (ps,()) v) ps (λ(s:l6) (i:Int)=>(s,i)) (λ_ s x=>.inr (s++[x])) (λs=>(s,())) (λi s=>s.length=i) (by rw[au];omega)
  (λi hi s self hI=>by
   show ir.b0 _ _ _ _=_;unfold ir.b0;have ax:(i:Int) < (ps.length:Int):=by omega
   have hx:=h2 ps[i] (aU hi);simp only[ax,aG,aH,aK,aI,aC,aB hi,aA];rw[mI _ (by omega)];have hc:s.length+[ps[i]].length<=cg:=dn (by simp only[aW,bC];omega)
   simp only[aA,hc,aI])
  (λi hi s s' hI hs=>by injection hs with hs;rw[<-hs];simp[hI]) (λs self hI=>by
   show ir.b0 _ _ _ _=_;unfold ir.b0;simp only[aX,aE,aD]
   rfl) [] rfl k (by omega)
 rw[ig,yF] at this;exact this
end OT
namespace OT
open Go
def bl (x:cd):Int:=(List.length x.2.1:Int)
def qy (s:Int) (x:cd):Sum (Int×Unit) Int:=
 if gu x.1 0 63 then (if gu (bl x) 1 64 then (if 64 < x.1+bl x then .inl (3,()) else if x.1 < s then .inl (1,()) else .inr (x.1+bl x+1)) else .inl (3,())) else .inl (3,())
def Ij (s:Int) (xs:List cd):Int:=(b_ (λ_ s x=>qy s x) (λ_=>((0:Int),())) 0 xs s).1
def tX (xs:List cd):Int:=if 64 < xs.length then 2 else Ij 0 xs
theorem Br {s s':Int} {x:cd} (h:qy s x=.inr s'):0<=x.1/\x.1<=63/\1<=bl x/\bl x<=64/\x.1+bl x<=64/\s<=x.1/\s'=x.1+bl x+1:=by
 unfold qy at h;split at h
 ·rename_i h1;split at h
  ·rename_i h2;split at h
   ·cases h
   ·split at h
    ·cases h
    ·injection h with h;simp only[gu,aF,bI] at h1 h2;omega
  ·cases h
 ·cases h
theorem G6 {s:Int} {x:cd} {o:Int×Unit} (h:qy s x=.inl o):o.1≠0:=by
 unfold qy at h;split at h
 ·split at h
  ·split at h
   ·injection h with h;subst h;decide
   ·split at h
    ·injection h with h;subst h;decide
    ·cases h
  ·injection h with h;subst h;decide
 ·injection h with h;subst h;decide
theorem PN {S O α:Type} {f:S->α->Sum O S} {fin:S->O}:∀ (xs:List α) (i j:Nat) (s:S),b_ (λ_ s x=>f s x) fin i xs s=b_ (λ_ s x=>f s x) fin j xs s
 | [],_,_,_=>rfl
 | x::xs,i,j,s=>by
  simp only[b_];split
  ·rfl
  ·exact PN xs _ _ _
theorem Dg (s:Int) (x:cd) (xs:List cd):Ij s (x::xs)=match qy s x with | .inl o=>o.1 | .inr s'=>Ij s' xs:=by
 unfold Ij;simp only[b_]
 cases h:qy s x with
 | inl o=>rfl
 | inr s'=>simp only;rw[PN xs 1 0]
theorem Ik:∀ (xs:List cd) (s:Int),Ij s xs=0->∀ x ∈ xs,0<=x.1/\x.1<=63/\1<=bl x/\bl x<=64
 | [],_,_,_,hx=>by cases hx
 | y::ys,s,h,x,hx=>by
  rw[Dg] at h
  cases hs:qy s y with
  | inl o=>rw[hs] at h;exact absurd h (G6 hs)
  | inr s'=>
   rw[hs] at h;have:=Br hs;rcases bB.1 hx with e | e
   ·subst e;omega
   ·exact Ik ys s' h x e
theorem Rw {xs:List cd} (h:tX xs=0):List.length xs<=64/\∀ x ∈ xs,0<=x.1/\x.1<=63/\1<=bl x/\bl x<=64:=by
 unfold tX at h;split at h
 ·cases h
 ·exact ⟨by omega,Ik xs 0 h⟩
theorem TE {y z:cd} {ys:List cd} (h:tX (y::z::ys)=0):List.length y.2.1≠64:=by
 unfold tX at h;split at h
 ·cases h
 ·rw[Dg] at h
  cases hs:qy 0 y with
  | inl o=>rw[hs] at h;exact absurd h (G6 hs)
  | inr s'=>
   rw[hs] at h;have h1:=Br hs;simp only[Dg] at h
   cases xG:qy s' z with
   | inl o=>rw[xG] at h;exact absurd h (G6 xG)
   | inr s2=>
    have h2:=Br xG;have:bl y=(List.length y.2.1:Int):=rfl;omega
theorem Ow (xs:List cd):jb.ab (xs,())=some (tX xs,()):=by
 refine ag (k:=66) λk hk=>(jb.ae k _).trans ?_;unfold jb.p tX;by_cases hl:64 < xs.length
 ·have:(64:Int) < (xs.length:Int):=by omega
  simp only[hl,this,aG,aH,aI]
 have wy:¬ (64:Int) < (xs.length:Int):=by omega
 have:=da (B:=λself v=>jb.b0 self (λz=>jb.q0 (xs,()) z) (xs,()) v) xs (λ(s:Int) (i:Int)=>(s,i)) (λ_ s x=>qy s x) (λ_=>(0,())) (λ_ _=>True) (by rw[au];omega)
  (λi hi s self _=>by
   show jb.b0 _ _ _ _=_;unfold jb.b0;have ax:(i:Int) < (xs.length:Int):=by omega
   simp only[ax,aG,aH,aK,aI,aC,aB hi,aA,tJ];generalize xs[i]=x;unfold qy bl gu;by_cases a1:(0:Int)<=x.1;rotate_left
   ·simp[a1]
   by_cases a2:x.1<=63;rotate_left
   ·simp[a2]
   by_cases a3:(1:Int)<=(List.length x.2.1:Int)
   rotate_left
   ·simp[a1,a2,a3]
   by_cases a4:(List.length x.2.1:Int)<=64;rotate_left
   ·simp[a1,a2,a4]
   have e1:af (x.1+(List.length x.2.1:Int))=x.1+(List.length x.2.1:Int):=a7 (by omega);have e2:af (x.1+(List.length x.2.1:Int)+1)=x.1+(List.length x.2.1:Int)+1:=a7 (by omega);simp only[a1,a2,a3,a4,e1,e2,aG,gO,aN,aD,aI]
   by_cases a5:64 < x.1+(List.length x.2.1:Int)
   ·simp[a5]
   by_cases a6:x.1 < s
   ·simp[a5,a6]
   simp[a5,a6]) (λ_ _ _ _ _ _=>trivial) (λs self _=>by
   show jb.b0 _ _ _ _=_;unfold jb.b0
   simp[jb.q0,jb.q0]) 0 trivial k (by omega)
 simp only[hl,aO,wy,aE,aD];exact this
theorem F_ (xs:List cd):jF.ab (xs,())=some (tX xs,()):=by
 refine ag (k:=66) λk hk=>(jF.ae k _).trans ?_;unfold jF.p tX;by_cases hl:64 < xs.length
 ·have:(64:Int) < (xs.length:Int):=by omega
  simp only[hl,this,aG,aH,aI]
 have wy:¬ (64:Int) < (xs.length:Int):=by omega
 have:=da (B:=λself v=>jF.b0 self (λz=>jF.q0 (xs,()) z) (xs,()) v) xs (λ(s:Int) (i:Int)=>i) (λ_ s x=>qy s x) (λ_=>(0,()))
  (λi s=>(i=0->s=0)/\∀ y,0 < i->xs[i - 1]?=some y->0<=y.1/\y.1<=63/\bl y<=64/\s=y.1+bl y+1) (by rw[au];omega)
  (λi hi s self hI=>by
   show jF.b0 _ _ _ _=_;unfold jF.b0;have ax:(i:Int) < (xs.length:Int):=by omega
   simp only[ax,aG,aH,aK,aI,aC,aB hi,aA,nX];generalize xs[i]=x;unfold qy bl gu;by_cases a1:(0:Int)<=x.1;rotate_left
   ·simp[a1]
   by_cases a2:x.1<=63;rotate_left
   ·simp[a2]
   by_cases a3:(1:Int)<=(List.length x.2.1:Int)
   rotate_left
   ·simp[a1,a2,a3]
   by_cases a4:(List.length x.2.1:Int)<=64;rotate_left
   ·simp[a1,a2,a4]
   have e1:af (x.1+(List.length x.2.1:Int))=x.1+(List.length x.2.1:Int):=a7 (by omega);simp only[a1,a2,a3,a4,e1,aG,gO,aN,aD,aI]
   by_cases a5:64 < x.1+(List.length x.2.1:Int)
   ·simp[a5]
   by_cases h0:i=0
   ·subst h0;have:=hI.1 rfl;subst this;have a6:¬ x.1 < 0:=by omega
    simp[a5,a6]
   ·have Il:i - 1 < xs.length:=by omega
    obtain ⟨y0,y1,y2,y3⟩:=hI.2 xs[i - 1] (by omega) (aB Il);have hp:(0:Int) < (i:Int):=by omega
    have ew:af ((i:Int) - 1)=((i - 1:Nat):Int):=by rw[a7 (by omega)];omega
    unfold bl at y2 y3;have e2:af ((xs[i - 1]).1+(List.length (xs[i - 1]).2.1:Int))=(xs[i - 1]).1+(List.length (xs[i - 1]).2.1:Int):=a7 (by omega);simp only[a5,hp,ew,e2,aG,aE,aH,aD,aK,aI,aO,aC,aB Il,aA];by_cases a6:x.1 < s
    ·have:x.1<=(xs[i - 1]).1+(List.length (xs[i - 1]).2.1:Int):=by omega
     simp[a6,this]
    ·have:¬ x.1<=(xs[i - 1]).1+(List.length (xs[i - 1]).2.1:Int):=by omega
     simp[a6,this])
  (λi hi s s' _ hs=>⟨λe=>by omega,λy _ hy=>by
   rw[eP,aB hi] at hy;injection hy with hy;subst hy;have:=Br hs
   omega⟩) (λs self _=>by
   show jF.b0 _ _ _ _=_;unfold jF.b0
   simp[jF.q0,jF.q0]) 0 ⟨λ_=>rfl,λy h=>by omega⟩ k (by omega)
 simp only[hl,aO,wy,aE,aD];exact this
def Im (k:Int) (xs:List cd):Int:=match xs with
 | []=>1
 | y::_=>if decide (k=4)&&!decide (List.length y.2.1=64) then 1 else 0
def tY (r:bm):Int:=
 if !gu r.1 1 6||(!gu r.1 2 4&&(!decide (r.2.2.1=0)||decide (0 < List.length r.2.2.2.1)))||(decide (r.1=4)&&!decide (r.2.1=0)) then 1
 else if (!decide (r.1=4)&&!gu r.2.1 1 99)||!gu r.2.2.1 0 11 then 3
 else if !gu r.1 2 4 then 0
 else if tX r.2.2.2.1=0 then Im r.1 r.2.2.2.1 else tX r.2.2.2.1
theorem EH (k:Int):nv.ab (k,())=some (gu k 2 4,()):=by
 refine ag (k:=0) λn _=>(nv.ae n _).trans ?_;show nv.p _=_;unfold nv.p;simp[nX,gu]
theorem MO (k:Int):n_.ab (k,())=some (gu k 2 4,()):=by
 refine ag (k:=0) λn _=>(n_.ae n _).trans ?_;show n_.p _=_;unfold n_.p gu;by_cases h1:k=2
 ·subst h1;rfl
 by_cases h2:k=3
 ·subst h2;rfl
 by_cases h3:k=4
 ·subst h3;rfl
 have:(decide ((2:Int)<=k)&&decide (k<=4))=false:=by
  by_cases h4:(2:Int)<=k
  ·have:¬ k<=4:=by omega
   simp[this]
  ·simp[h4]
 simp[h1,h2,h3,this]
theorem In (r:bm):ni.ab (r,())=some (tY r,()):=by
 obtain ⟨k,t,p,xs,⟨⟩⟩:=r;refine ag (k:=0) λn _=>(ni.ae n _).trans ?_;show ni.p _=_;unfold ni.p tY;simp only[nX,EH,F_,aA,show ∀ a b c:Int,(decide (b<=a)&&decide (a<=c))=gu a b c from λ_ _ _=>rfl];have h0:decide ((0:Int) < (xs.length:Int))=decide (0 < xs.length):=by simp
 have hj:(jF.ab (xs,()))=some (tX xs,()):=F_ xs;rw[h0]
 have hh:(bif decide ((List.length xs:Int)=0) then some ((1:Int),()) else bif decide (k=4) then (xs[0]?).bind λMD=>bif !decide ((List.length MD.2.1:Int)=64) then some ((1:Int),()) else some (0,()) else some (0,()))=some (Im k xs,()):=by
  cases xs with
  | nil=>rfl
  | cons y ys=>
   have:¬ ((List.length (y::ys):Int)=0):=by simp only[aW];omega
   simp only[this,aE,aD,Im,eI,aA]
   have TF:decide ((List.length y.2.1:Int)=64)=decide (List.length y.2.1=64):=by
    by_cases h:List.length y.2.1=64
    ·simp[h]
    ·have:¬ ((List.length y.2.1:Int)=64):=by omega
     simp[h,this]
   rw[TF];cases decide (k=4) <;> cases decide (List.length y.2.1=64) <;> rfl
 rw[hh];by_cases hr:tX xs=0
 ·simp only[hr,aG,aN,aD,aI];cases gu k 1 6 <;> cases gu k 2 4 <;> cases decide (p=0) <;> cases decide (0 < xs.length) <;> cases decide (k=4) <;> cases decide (t=0) <;> cases gu t 1 99 <;> cases gu p 0 11 <;> rfl
 ·simp only[hr,aE,bA,aH,aO];cases gu k 1 6 <;> cases gu k 2 4 <;> cases decide (p=0) <;> cases decide (0 < xs.length) <;> cases decide (k=4) <;> cases decide (t=0) <;> cases gu t 1 99 <;> cases gu p 0 11 <;> rfl
theorem Ip (r:bm):kg.ab (r,())=some (tY r,()):=by
 obtain ⟨k,t,p,xs,⟨⟩⟩:=r;refine ag (k:=0) λn _=>(kg.ae n _).trans ?_;show kg.p _=_;unfold kg.p tY;simp only[tJ,MO,Ju,Ow,aA,show ∀ a b c:Int,(decide (b<=a)&&decide (a<=c))=gu a b c from λ_ _ _=>rfl];have h0:decide ((0:Int) < (xs.length:Int))=decide (0 < xs.length):=by simp
 rw[h0]
 have hk:gu k 2 4=false->decide (k=4)=false:=by
  intro h;by_cases e:k=4
  ·subst e;cases h
  ·simp[e]
 have TF:∀ y:cd,decide ((List.length y.2.1:Int)=64)=decide (List.length y.2.1=64):=λy=>by
  by_cases h:List.length y.2.1=64
  ·simp[h]
  ·have:¬ ((List.length y.2.1:Int)=64):=by omega
   simp[h,this]
 have hz:decide (0 < xs.length)=false->xs=[]:=by
  intro h
  cases xs with
  | nil=>rfl
  | cons _ _=>simp at h
 have hh:tX xs=0->(bif decide ((List.length xs:Int)=0) then some ((1:Int),()) else bif decide (k=4) then bif !decide ((List.length xs:Int)=1) then some ((1:Int),()) else (xs[0]?).bind λMD=>bif !decide ((List.length MD.2.1:Int)=64) then some ((1:Int),()) else some (0,()) else some (0,()))=some (Im k xs,()):=by
  intro hr
  cases xs with
  | nil=>rfl
  | cons y ys=>
   have:¬ ((List.length (y::ys):Int)=0):=by simp only[aW];omega
   simp only[this,aE,aD,Im,eI,aA,TF]
   cases ys with
   | nil=>cases decide (k=4) <;> cases decide (List.length y.2.1=64) <;> rfl
   | cons z ys=>
    have h1:=TE hr;have h2:¬ ((List.length (y::z::ys):Int)=1):=by simp only[aW];omega
    simp only[h1,h2,aE];cases decide (k=4) <;> rfl
 cases mJ:gu k 2 4 with
 | false=>
  have hk4:=hk mJ;have hr0:tX ([]:List cd)=0:=rfl;simp only[hk4]
  by_cases hx:xs=[]
  ·subst hx;cases gu k 1 6 <;> cases decide (p=0) <;> cases gu t 1 99 <;> cases gu p 0 11 <;> rfl
  ·have LD:decide (0 < xs.length)=true:=by
    cases xs with
    | nil=>exact absurd rfl hx
    | cons _ _=>simp
   simp only[LD];cases gu k 1 6 <;> cases decide (p=0) <;> rfl
 | true=>
  by_cases hr:tX xs=0
  ·have hh:=hh hr;simp only[hr,aG,aN,aD,aH,aI,hh];cases gu k 1 6 <;> cases decide (k=4) <;> cases decide (t=0) <;> cases gu t 1 99 <;> cases gu p 0 11 <;> rfl
  ·simp only[hr,aE,bA,aH,aO];cases gu k 1 6 <;> cases decide (k=4) <;> cases decide (t=0) <;> cases gu t 1 99 <;> cases gu p 0 11 <;> rfl
theorem wA {r:bm} (h:tY r=0):1<=r.1/\r.1<=6/\0<=r.2.1/\r.2.1<=99/\0<=r.2.2.1/\r.2.2.1<=11/\List.length r.2.2.2.1<=64/\∀ x ∈ r.2.2.2.1,0<=x.1/\x.1<=63/\1<=bl x/\bl x<=64:=by
 obtain ⟨k,t,p,xs,⟨⟩⟩:=r;unfold tY at h;split at h
 ·cases h
 rename_i h1;split at h
 ·cases h
 rename_i h2
 have hx:List.length xs<=64/\∀ x ∈ xs,0<=x.1/\x.1<=63/\1<=bl x/\bl x<=64:=by
  split at h
  ·rename_i h3;simp only[dC,aF,not_or,not_and,h3,forall_const] at h1
   cases xs with
   | nil=>exact ⟨by simp,λx hx=>by cases hx⟩
   | cons y ys=>exact absurd (by simp) h1.1.2.2
  ·split at h
   ·rename_i h4;exact Rw h4
   ·rename_i h4;exact absurd h h4
 simp only[dC,aF,not_or,not_and,gu,cC,Bool.and_eq_false_iff,eG,bI] at h1 h2;refine ⟨?_,?_,?_,?_,?_,?_,hx⟩ <;> by_cases hk:k=4 <;> simp_all <;> omega
end OT
namespace OT
open Go
theorem Dh:iz.ab ((0:UInt8),())=some (u9,()):=by
 refine ag (k:=66) λk hk=>(iz.ae k _).trans ?_;unfold iz.p
 have:=da (B:=λself v=>iz.b0 self (λz=>iz.q0 ((0:UInt8),()) z) ((0:UInt8),()) v) (List.replicate 64 (0:UInt8)) (λ(s:List UInt8) (i:Int)=>(s,i)) (λ_ s _=>.inr s) (λs=>(u9,())) (λ_ s=>s=List.replicate 64 (0:UInt8)) (by rw[au];simp)
  (λi hi s self hI=>by
   show iz.b0 _ _ _ _=_;unfold iz.b0;subst hI;simp only[cR] at hi ⊢;have ax:(i:Int) < ((64:Nat):Int):=by omega
   have i7:(0:Int)<=(i:Int)/\(i:Int) < ((64:Nat):Int):=by omega
   have hg:(List.replicate 64 (0:UInt8))[i]?=some 0:=(gD (n:=64) (i:=i) (a:=(0:UInt8))).trans (aM hi);have hs:(List.replicate 64 (0:UInt8)).set i 0=List.replicate 64 (0:UInt8):=List.set_replicate_self
   simp only[ax,i7,bR,aG,aH,aI,aC,hg,aA,hs])
  (λi hi s s' hI hs=>by injection hs with hs;rw[<-hs,hI]) (λs self hI=>by
   show iz.b0 _ _ _ _=_;unfold iz.b0;subst hI;simp only[cR,aX,aE,aD]
   rfl) (List.replicate 64 (0:UInt8)) rfl k (by simp;omega)
 rw[ig (g:=λs _=>s)] at this
 have hc:(0:Int)<=64/\(64:Int)<=64/\(64:Int)<=(cg:Int):=⟨by omega,by omega,by simp only[cg];omega⟩
 rw[aM hc];exact this
theorem Di:jL.ab ((0:UInt8),())=some (u9,()):=by
 refine ag (k:=66) λk hk=>(jL.ae k _).trans ?_;unfold jL.p
 have:=da (B:=λself v=>jL.b0 self (λz=>jL.q0 ((0:UInt8),()) z) ((0:UInt8),()) v) (List.replicate 64 (0:UInt8)) (λ(s:List UInt8) (i:Int)=>(s,i)) (λ_ s _=>.inr s) (λs=>(u9,())) (λ_ s=>s=List.replicate 64 (0:UInt8)) (by rw[au];simp)
  (λi hi s self hI=>by
   show jL.b0 _ _ _ _=_;unfold jL.b0;subst hI;simp only[cR] at hi ⊢;have ax:(i:Int) < (64:Int):=by omega
   have i7:(0:Int)<=(i:Int)/\(i:Int) < ((64:Nat):Int):=by omega
   have hg:(List.replicate 64 (0:UInt8))[i]?=some 0:=(gD (n:=64) (i:=i) (a:=(0:UInt8))).trans (aM hi);have hs:(List.replicate 64 (0:UInt8)).set i 0=List.replicate 64 (0:UInt8):=List.set_replicate_self
   simp only[ax,i7,bR,aG,aH,aI,aC,hg,aA,hs])
  (λi hi s s' hI hs=>by injection hs with hs;rw[<-hs,hI]) (λs self hI=>by
   show jL.b0 _ _ _ _=_;unfold jL.b0;subst hI;have:¬ (((64:Nat):Int) < 64):=by omega
   simp only[cR,this,aE,aD]
   rfl) (List.replicate 64 (0:UInt8)) rfl k (by simp;omega)
 rw[ig (g:=λs _=>s)] at this
 have hc:(0:Int)<=64/\(64:Int)<=64/\(64:Int)<=(cg:Int):=⟨by omega,by omega,by simp only[cg];omega⟩
 rw[aM hc];exact this
end OT
