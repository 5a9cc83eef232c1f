/- The proof's parts, merged: Printed by px.py, a program of this claim  what the helpers of the laws compute.. No conditions but those that each states. -/
import Derived.Test.YtachfnbfagcplaaGreatSf
set_option linter.unusedVariables false
set_option linter.unusedSimpArgs false
namespace OT
open Go
theorem uz (x:List UInt8) (n:Int) (hx:ka (.U u8) x) (h0:0<=n) (h1:n<=1048576):fN.ab (x,n,())=some (aZ n (zz (.U u8) x),()):=by
 obtain ⟨hl,iC⟩:=hx
 have gk:=hl
 rw[ah] at gk
 have gk:List.length x<=9223372036854775807:=gk
 have hw:ae (n - (List.length x:Int))=n - (List.length x:Int):=aR (by omega)
 have hz:zz (.U u8) x=List.length x+0:=by show List.length x+jL _ _=_;exact congrArg (List.length x+·) (sD _ (fun _=>rfl) x)
 refine ag (k:=0) fun k _=>(fN.aa k _).trans ?_
 show fN.p _=_
 unfold fN.p
 simp only[hw,hz,Nat.add_zero]
 by_cases hc:(List.length x:Int)<=n
 ·have e1:aZ n (List.length x)=n - (List.length x:Int):=if_pos hc
  have n1:¬ (n - (List.length x:Int) < 0):=by omega
  simp[e1,n1]
 ·have e1:aZ n (List.length x)=-1:=if_neg hc
  have n1:n - (List.length x:Int) < 0:=by omega
  simp[e1,n1]
theorem xl (x:List (List UInt8)) (n:Int) (hx:ka (.U (.U u8)) x) (h0:0<=n) (h1:n<=1048576):cj.ab (x,n,())=some (aZ n (zz (.U (.U u8)) x),()):=by
 obtain ⟨hl,iC⟩:=hx
 have gk:=hl
 rw[ah] at gk
 have gk:List.length x<=9223372036854775807:=gk
 have hw:ae (n - (List.length x:Int))=n - (List.length x:Int):=aR (by omega)
 have hz:zz (.U (.U u8)) x=List.length x+jL (zz (.U u8)) x:=rfl
 by_cases hc:n - (List.length x:Int) < 0
 ·have e1:aZ n (zz (.U (.U u8)) x)=-1:=if_neg (by omega)
  rw[e1]
  refine ag (k:=0) fun k _=>(cj.aa k _).trans ?_
  unfold cj.p
  simp only[hw,hc,decide_true,cond_true]
  try rfl
 ·have e1:aZ n (zz (.U (.U u8)) x)=aZ (n - (List.length x:Int)) (jL (zz (.U u8)) x):=by rw[hz,tt (by omega)]
  rw[e1]
  refine ag (k:=List.length x+1) fun k hk=>(cj.aa k _).trans ?_
  unfold cj.p
  simp only[hw,hc,decide_false,cond_false]
  exact tr (B:=fun self v=>cj.B0 0 self (fun z=>cj.Q0 0 (x,n,()) z) (x,n,()) v) (xs:=x) hl (zz (.U u8)) (fun i hi m self wh nT=>by
    show cj.b0 _ _ _ _=_
    unfold cj.b0
    have aj:(i:Int) < (List.length x:Int):=by omega
    simp only[aj,decide_true,cond_true,Int.natCast_nonneg,if_true,Int.toNat_natCast,List.getElem?_eq_getElem hi,Option.bind_some,uz x[i] m (iC _ (List.getElem_mem hi)) wh nT]
    by_cases hs:aZ m (zz (.U u8) x[i]) < 0 <;> simp[hs]) (fun m self=>by
    show cj.b0 _ _ _ _=_
    unfold cj.b0
    simp[cj.Q0,cj.q0]) _ (by omega) (by omega) k (by omega)
theorem KH (x:Log) (n:Int) (hx:ka fe x) (h0:0<=n) (h1:n<=1048576):lw.ab (x,n,())=some (aZ n (zz fe x),()):=by
 have hz:zz fe x=(zz (.U u8) x.1+(zz (.U u8) x.2.1+0)):=rfl
 refine ag (k:=0) fun k _=>(lw.aa k _).trans ?_
 show lw.p _=_
 unfold lw.p
 simp only[uz x.1 (n) hx.1 (by omega) (by omega),Option.bind_some]
 by_cases hc:((zz (.U u8) x.1:Nat):Int)<=n
 rotate_left
 ·have e1:aZ (n) (zz (.U u8) x.1)=-1:=if_neg hc
  have e2:aZ n (zz fe x)=-1:=if_neg (by omega)
  rw[e1,e2];rfl
 have e1:aZ (n) (zz (.U u8) x.1)=n - ((zz (.U u8) x.1:Nat):Int):=if_pos hc
 have n1:¬ (n - ((zz (.U u8) x.1:Nat):Int) < 0):=by omega
 simp only[e1,n1,decide_false,cond_false]
 clear e1 n1
 simp only[uz x.2.1 ((n - ((zz (.U u8) x.1:Nat):Int))) hx.2.1 (by omega) (by omega),Option.bind_some]
 by_cases hc:((zz (.U u8) x.2.1:Nat):Int)<=(n - ((zz (.U u8) x.1:Nat):Int))
 rotate_left
 ·have e1:aZ ((n - ((zz (.U u8) x.1:Nat):Int))) (zz (.U u8) x.2.1)=-1:=if_neg hc
  have e2:aZ n (zz fe x)=-1:=if_neg (by omega)
  rw[e1,e2];rfl
 have e1:aZ ((n - ((zz (.U u8) x.1:Nat):Int))) (zz (.U u8) x.2.1)=(n - ((zz (.U u8) x.1:Nat):Int)) - ((zz (.U u8) x.2.1:Nat):Int):=if_pos hc
 have n1:¬ ((n - ((zz (.U u8) x.1:Nat):Int)) - ((zz (.U u8) x.2.1:Nat):Int) < 0):=by omega
 simp only[e1,n1,decide_false,cond_false]
 clear e1 n1
 have e2:aZ n (zz fe x)=((n - ((zz (.U u8) x.1:Nat):Int)) - ((zz (.U u8) x.2.1:Nat):Int)):=by unfold aZ;rw[if_pos (by omega)];omega
 rw[e2]
theorem Di (x:Row) (n:Int) (hx:ka aF x) (h0:0<=n) (h1:n<=1048576):kB.ab (x,n,())=some (aZ n (zz aF x),()):=by
 have hz:zz aF x=(0+(0+(0+(List.length x.2.2.2.1+0)))):=rfl
 refine ag (k:=0) fun k _=>(kB.aa k _).trans ?_
 show kB.p _=_
 unfold kB.p
 have hw:ae (n - (List.length x.2.2.2.1:Int))=n - (List.length x.2.2.2.1:Int):=aR (by have h9:=hx.2.2.2.1;simp only[ka] at h9;rw[ah] at h9;omega)
 simp only[hw]
 by_cases hc:((List.length x.2.2.2.1:Nat):Int)<=n
 rotate_left
 ·have n1:n - ((List.length x.2.2.2.1:Nat):Int) < 0:=by omega
  have e2:aZ n (zz aF x)=-1:=if_neg (by omega)
  rw[e2];simp only[n1,decide_true,cond_true]
 have n1:¬ (n - ((List.length x.2.2.2.1:Nat):Int) < 0):=by omega
 simp only[n1,decide_false,cond_false]
 clear n1 hw
 have e2:aZ n (zz aF x)=(n - ((List.length x.2.2.2.1:Nat):Int)):=by unfold aZ;rw[if_pos (by omega)];omega
 rw[e2]
theorem Er (x:Change) (n:Int) (hx:ka an x) (h0:0<=n) (h1:n<=1048576):iY.ab (x,n,())=some (aZ n (zz an x),()):=by
 have hz:zz an x=(0+((0+(0+(0+(List.length x.2.1.2.2.2.1+0))))+(0+((0+(0+(0+(List.length x.2.2.2.1.2.2.2.1+0))))+0)))):=rfl
 refine ag (k:=0) fun k _=>(iY.aa k _).trans ?_
 show iY.p _=_
 unfold iY.p
 have qJ:zz aF x.2.1=(0+(0+(0+(List.length x.2.1.2.2.2.1+0)))):=rfl
 simp only[Di x.2.1 (n) hx.2.1 (by omega) (by omega),Option.bind_some]
 by_cases hc:((zz aF x.2.1:Nat):Int)<=n
 rotate_left
 ·have e1:aZ (n) (zz aF x.2.1)=-1:=if_neg hc
  have e2:aZ n (zz an x)=-1:=if_neg (by omega)
  rw[e1,e2];rfl
 have e1:aZ (n) (zz aF x.2.1)=n - ((zz aF x.2.1:Nat):Int):=if_pos hc
 have n1:¬ (n - ((zz aF x.2.1:Nat):Int) < 0):=by omega
 simp only[e1,n1,decide_false,cond_false]
 clear e1 n1
 have QE:zz aF x.2.2.2.1=(0+(0+(0+(List.length x.2.2.2.1.2.2.2.1+0)))):=rfl
 simp only[Di x.2.2.2.1 ((n - ((zz aF x.2.1:Nat):Int))) hx.2.2.2.1 (by omega) (by omega),Option.bind_some]
 by_cases hc:((zz aF x.2.2.2.1:Nat):Int)<=(n - ((zz aF x.2.1:Nat):Int))
 rotate_left
 ·have e1:aZ ((n - ((zz aF x.2.1:Nat):Int))) (zz aF x.2.2.2.1)=-1:=if_neg hc
  have e2:aZ n (zz an x)=-1:=if_neg (by omega)
  rw[e1,e2];rfl
 have e1:aZ ((n - ((zz aF x.2.1:Nat):Int))) (zz aF x.2.2.2.1)=(n - ((zz aF x.2.1:Nat):Int)) - ((zz aF x.2.2.2.1:Nat):Int):=if_pos hc
 have n1:¬ ((n - ((zz aF x.2.1:Nat):Int)) - ((zz aF x.2.2.2.1:Nat):Int) < 0):=by omega
 simp only[e1,n1,decide_false,cond_false]
 clear e1 n1
 have e2:aZ n (zz an x)=((n - ((zz aF x.2.1:Nat):Int)) - ((zz aF x.2.2.2.1:Nat):Int)):=by unfold aZ;rw[if_pos (by omega)];omega
 rw[e2]
theorem sd (x:List Change) (n:Int) (hx:ka (.U an) x) (h0:0<=n) (h1:n<=1048576):bA.ab (x,n,())=some (aZ n (zz (.U an) x),()):=by
 obtain ⟨hl,iC⟩:=hx
 have gk:=hl
 rw[ah] at gk
 have gk:List.length x<=9223372036854775807:=gk
 have hw:ae (n - (List.length x:Int))=n - (List.length x:Int):=aR (by omega)
 have hz:zz (.U an) x=List.length x+jL (zz an) x:=rfl
 by_cases hc:n - (List.length x:Int) < 0
 ·have e1:aZ n (zz (.U an) x)=-1:=if_neg (by omega)
  rw[e1]
  refine ag (k:=0) fun k _=>(bA.aa k _).trans ?_
  unfold bA.p
  simp only[hw,hc,decide_true,cond_true]
  try rfl
 ·have e1:aZ n (zz (.U an) x)=aZ (n - (List.length x:Int)) (jL (zz an) x):=by rw[hz,tt (by omega)]
  rw[e1]
  refine ag (k:=List.length x+1) fun k hk=>(bA.aa k _).trans ?_
  unfold bA.p
  simp only[hw,hc,decide_false,cond_false]
  exact tr (B:=fun self v=>bA.B0 0 self (fun z=>bA.Q0 0 (x,n,()) z) (x,n,()) v) (xs:=x) hl (zz an) (fun i hi m self wh nT=>by
    show bA.b0 _ _ _ _=_
    unfold bA.b0
    have aj:(i:Int) < (List.length x:Int):=by omega
    simp only[aj,decide_true,cond_true,Int.natCast_nonneg,if_true,Int.toNat_natCast,List.getElem?_eq_getElem hi,Option.bind_some,Er x[i] m (iC _ (List.getElem_mem hi)) wh nT]
    by_cases hs:aZ m (zz an x[i]) < 0 <;> simp[hs]) (fun m self=>by
    show bA.b0 _ _ _ _=_
    unfold bA.b0
    simp[bA.Q0,bA.q0]) _ (by omega) (by omega) k (by omega)
theorem Es (x:List Int) (n:Int) (hx:ka (.U i64) x) (h0:0<=n) (h1:n<=1048576):iZ.ab (x,n,())=some (aZ n (zz (.U i64) x),()):=by
 obtain ⟨hl,iC⟩:=hx
 have gk:=hl
 rw[ah] at gk
 have gk:List.length x<=9223372036854775807:=gk
 have hw:ae (n - (List.length x:Int))=n - (List.length x:Int):=aR (by omega)
 have hz:zz (.U i64) x=List.length x+0:=by show List.length x+jL _ _=_;exact congrArg (List.length x+·) (sD _ (fun _=>rfl) x)
 refine ag (k:=0) fun k _=>(iZ.aa k _).trans ?_
 show iZ.p _=_
 unfold iZ.p
 simp only[hw,hz,Nat.add_zero]
 by_cases hc:(List.length x:Int)<=n
 ·have e1:aZ n (List.length x)=n - (List.length x:Int):=if_pos hc
  have n1:¬ (n - (List.length x:Int) < 0):=by omega
  simp[e1,n1]
 ·have e1:aZ n (List.length x)=-1:=if_neg hc
  have n1:n - (List.length x:Int) < 0:=by omega
  simp[e1,n1]
theorem Je (x:List Key) (n:Int) (hx:ka (.U aL) x) (h0:0<=n) (h1:n<=1048576):kN.ab (x,n,())=some (aZ n (zz (.U aL) x),()):=by
 obtain ⟨hl,iC⟩:=hx
 have gk:=hl
 rw[ah] at gk
 have gk:List.length x<=9223372036854775807:=gk
 have hw:ae (n - (List.length x:Int))=n - (List.length x:Int):=aR (by omega)
 have hz:zz (.U aL) x=List.length x+0:=by show List.length x+jL _ _=_;exact congrArg (List.length x+·) (sD _ (fun _=>rfl) x)
 refine ag (k:=0) fun k _=>(kN.aa k _).trans ?_
 show kN.p _=_
 unfold kN.p
 simp only[hw,hz,Nat.add_zero]
 by_cases hc:(List.length x:Int)<=n
 ·have e1:aZ n (List.length x)=n - (List.length x:Int):=if_pos hc
  have n1:¬ (n - (List.length x:Int) < 0):=by omega
  simp[e1,n1]
 ·have e1:aZ n (List.length x)=-1:=if_neg hc
  have n1:n - (List.length x:Int) < 0:=by omega
  simp[e1,n1]
theorem MW (x:Tx) (n:Int) (hx:ka bd x) (h0:0<=n) (h1:n<=1048576):mm.ab (x,n,())=some (aZ n (zz bd x),()):=by
 have hz:zz bd x=(0+(zz (.U an) x.2.1+(zz (.U i64) x.2.2.1+(zz (.U aL) x.2.2.2.1+0)))):=rfl
 refine ag (k:=0) fun k _=>(mm.aa k _).trans ?_
 show mm.p _=_
 unfold mm.p
 simp only[sd x.2.1 (n) hx.2.1 (by omega) (by omega),Option.bind_some]
 by_cases hc:((zz (.U an) x.2.1:Nat):Int)<=n
 rotate_left
 ·have e1:aZ (n) (zz (.U an) x.2.1)=-1:=if_neg hc
  have e2:aZ n (zz bd x)=-1:=if_neg (by omega)
  rw[e1,e2];rfl
 have e1:aZ (n) (zz (.U an) x.2.1)=n - ((zz (.U an) x.2.1:Nat):Int):=if_pos hc
 have n1:¬ (n - ((zz (.U an) x.2.1:Nat):Int) < 0):=by omega
 simp only[e1,n1,decide_false,cond_false]
 clear e1 n1
 simp only[Es x.2.2.1 ((n - ((zz (.U an) x.2.1:Nat):Int))) hx.2.2.1 (by omega) (by omega),Option.bind_some]
 by_cases hc:((zz (.U i64) x.2.2.1:Nat):Int)<=(n - ((zz (.U an) x.2.1:Nat):Int))
 rotate_left
 ·have e1:aZ ((n - ((zz (.U an) x.2.1:Nat):Int))) (zz (.U i64) x.2.2.1)=-1:=if_neg hc
  have e2:aZ n (zz bd x)=-1:=if_neg (by omega)
  rw[e1,e2];rfl
 have e1:aZ ((n - ((zz (.U an) x.2.1:Nat):Int))) (zz (.U i64) x.2.2.1)=(n - ((zz (.U an) x.2.1:Nat):Int)) - ((zz (.U i64) x.2.2.1:Nat):Int):=if_pos hc
 have n1:¬ ((n - ((zz (.U an) x.2.1:Nat):Int)) - ((zz (.U i64) x.2.2.1:Nat):Int) < 0):=by omega
 simp only[e1,n1,decide_false,cond_false]
 clear e1 n1
 simp only[Je x.2.2.2.1 (((n - ((zz (.U an) x.2.1:Nat):Int)) - ((zz (.U i64) x.2.2.1:Nat):Int))) hx.2.2.2.1 (by omega) (by omega),Option.bind_some]
 by_cases hc:((zz (.U aL) x.2.2.2.1:Nat):Int)<=((n - ((zz (.U an) x.2.1:Nat):Int)) - ((zz (.U i64) x.2.2.1:Nat):Int))
 rotate_left
 ·have e1:aZ (((n - ((zz (.U an) x.2.1:Nat):Int)) - ((zz (.U i64) x.2.2.1:Nat):Int))) (zz (.U aL) x.2.2.2.1)=-1:=if_neg hc
  have e2:aZ n (zz bd x)=-1:=if_neg (by omega)
  rw[e1,e2];rfl
 have e1:aZ (((n - ((zz (.U an) x.2.1:Nat):Int)) - ((zz (.U i64) x.2.2.1:Nat):Int))) (zz (.U aL) x.2.2.2.1)=((n - ((zz (.U an) x.2.1:Nat):Int)) - ((zz (.U i64) x.2.2.1:Nat):Int)) - ((zz (.U aL) x.2.2.2.1:Nat):Int):=if_pos hc
 have n1:¬ (((n - ((zz (.U an) x.2.1:Nat):Int)) - ((zz (.U i64) x.2.2.1:Nat):Int)) - ((zz (.U aL) x.2.2.2.1:Nat):Int) < 0):=by omega
 simp only[e1,n1,decide_false,cond_false]
 clear e1 n1
 have e2:aZ n (zz bd x)=(((n - ((zz (.U an) x.2.1:Nat):Int)) - ((zz (.U i64) x.2.2.1:Nat):Int)) - ((zz (.U aL) x.2.2.2.1:Nat):Int)):=by unfold aZ;rw[if_pos (by omega)];omega
 rw[e2]
theorem KI (x:List Tx) (n:Int) (hx:ka (.U bd) x) (h0:0<=n) (h1:n<=1048576):eG.ab (x,n,())=some (aZ n (zz (.U bd) x),()):=by
 obtain ⟨hl,iC⟩:=hx
 have gk:=hl
 rw[ah] at gk
 have gk:List.length x<=9223372036854775807:=gk
 have hw:ae (n - (List.length x:Int))=n - (List.length x:Int):=aR (by omega)
 have hz:zz (.U bd) x=List.length x+jL (zz bd) x:=rfl
 by_cases hc:n - (List.length x:Int) < 0
 ·have e1:aZ n (zz (.U bd) x)=-1:=if_neg (by omega)
  rw[e1]
  refine ag (k:=0) fun k _=>(eG.aa k _).trans ?_
  unfold eG.p
  simp only[hw,hc,decide_true,cond_true]
  try rfl
 ·have e1:aZ n (zz (.U bd) x)=aZ (n - (List.length x:Int)) (jL (zz bd) x):=by rw[hz,tt (by omega)]
  rw[e1]
  refine ag (k:=List.length x+1) fun k hk=>(eG.aa k _).trans ?_
  unfold eG.p
  simp only[hw,hc,decide_false,cond_false]
  exact tr (B:=fun self v=>eG.B0 0 self (fun z=>eG.Q0 0 (x,n,()) z) (x,n,()) v) (xs:=x) hl (zz bd) (fun i hi m self wh nT=>by
    show eG.b0 _ _ _ _=_
    unfold eG.b0
    have aj:(i:Int) < (List.length x:Int):=by omega
    simp only[aj,decide_true,cond_true,Int.natCast_nonneg,if_true,Int.toNat_natCast,List.getElem?_eq_getElem hi,Option.bind_some,MW x[i] m (iC _ (List.getElem_mem hi)) wh nT]
    by_cases hs:aZ m (zz bd x[i]) < 0 <;> simp[hs]) (fun m self=>by
    show eG.b0 _ _ _ _=_
    unfold eG.b0
    simp[eG.Q0,eG.q0]) _ (by omega) (by omega) k (by omega)
theorem Hd (x:kb) (n:Int) (hx:ka cd x) (h0:0<=n) (h1:n<=1048576):jM.ab (x,n,())=some (aZ n (zz cd x),()):=by
 have hz:zz cd x=(0+(zz (.U (.U u8)) x.2.1+((zz (.U u8) x.2.2.1.1+(zz (.U u8) x.2.2.1.2.1+0))+(zz (.U bd) x.2.2.2.1+(0+0))))):=rfl
 refine ag (k:=0) fun k _=>(jM.aa k _).trans ?_
 show jM.p _=_
 unfold jM.p
 simp only[xl x.2.1 (n) hx.2.1 (by omega) (by omega),Option.bind_some]
 by_cases hc:((zz (.U (.U u8)) x.2.1:Nat):Int)<=n
 rotate_left
 ·have e1:aZ (n) (zz (.U (.U u8)) x.2.1)=-1:=if_neg hc
  have e2:aZ n (zz cd x)=-1:=if_neg (by omega)
  rw[e1,e2];rfl
 have e1:aZ (n) (zz (.U (.U u8)) x.2.1)=n - ((zz (.U (.U u8)) x.2.1:Nat):Int):=if_pos hc
 have n1:¬ (n - ((zz (.U (.U u8)) x.2.1:Nat):Int) < 0):=by omega
 simp only[e1,n1,decide_false,cond_false]
 clear e1 n1
 have vS:zz fe x.2.2.1=(zz (.U u8) x.2.2.1.1+(zz (.U u8) x.2.2.1.2.1+0)):=rfl
 simp only[KH x.2.2.1 ((n - ((zz (.U (.U u8)) x.2.1:Nat):Int))) hx.2.2.1 (by omega) (by omega),Option.bind_some]
 by_cases hc:((zz fe x.2.2.1:Nat):Int)<=(n - ((zz (.U (.U u8)) x.2.1:Nat):Int))
 rotate_left
 ·have e1:aZ ((n - ((zz (.U (.U u8)) x.2.1:Nat):Int))) (zz fe x.2.2.1)=-1:=if_neg hc
  have e2:aZ n (zz cd x)=-1:=if_neg (by omega)
  rw[e1,e2];rfl
 have e1:aZ ((n - ((zz (.U (.U u8)) x.2.1:Nat):Int))) (zz fe x.2.2.1)=(n - ((zz (.U (.U u8)) x.2.1:Nat):Int)) - ((zz fe x.2.2.1:Nat):Int):=if_pos hc
 have n1:¬ ((n - ((zz (.U (.U u8)) x.2.1:Nat):Int)) - ((zz fe x.2.2.1:Nat):Int) < 0):=by omega
 simp only[e1,n1,decide_false,cond_false]
 clear e1 n1
 simp only[KI x.2.2.2.1 (((n - ((zz (.U (.U u8)) x.2.1:Nat):Int)) - ((zz fe x.2.2.1:Nat):Int))) hx.2.2.2.1 (by omega) (by omega),Option.bind_some]
 by_cases hc:((zz (.U bd) x.2.2.2.1:Nat):Int)<=((n - ((zz (.U (.U u8)) x.2.1:Nat):Int)) - ((zz fe x.2.2.1:Nat):Int))
 rotate_left
 ·have e1:aZ (((n - ((zz (.U (.U u8)) x.2.1:Nat):Int)) - ((zz fe x.2.2.1:Nat):Int))) (zz (.U bd) x.2.2.2.1)=-1:=if_neg hc
  have e2:aZ n (zz cd x)=-1:=if_neg (by omega)
  rw[e1,e2];rfl
 have e1:aZ (((n - ((zz (.U (.U u8)) x.2.1:Nat):Int)) - ((zz fe x.2.2.1:Nat):Int))) (zz (.U bd) x.2.2.2.1)=((n - ((zz (.U (.U u8)) x.2.1:Nat):Int)) - ((zz fe x.2.2.1:Nat):Int)) - ((zz (.U bd) x.2.2.2.1:Nat):Int):=if_pos hc
 have n1:¬ (((n - ((zz (.U (.U u8)) x.2.1:Nat):Int)) - ((zz fe x.2.2.1:Nat):Int)) - ((zz (.U bd) x.2.2.2.1:Nat):Int) < 0):=by omega
 simp only[e1,n1,decide_false,cond_false]
 clear e1 n1
 have e2:aZ n (zz cd x)=(((n - ((zz (.U (.U u8)) x.2.1:Nat):Int)) - ((zz fe x.2.2.1:Nat):Int)) - ((zz (.U bd) x.2.2.2.1:Nat):Int)):=by unfold aZ;rw[if_pos (by omega)];omega
 rw[e2]
theorem Et (x:Buffer) (n:Int) (hx:ka aC x) (h0:0<=n) (h1:n<=1048576):i6.ab (x,n,())=some (aZ n (zz aC x),()):=by
 have hz:zz aC x=(0+(zz (.U an) x.2.1+0)):=rfl
 refine ag (k:=0) fun k _=>(i6.aa k _).trans ?_
 show i6.p _=_
 unfold i6.p
 simp only[sd x.2.1 (n) hx.2.1 (by omega) (by omega),Option.bind_some]
 by_cases hc:((zz (.U an) x.2.1:Nat):Int)<=n
 rotate_left
 ·have e1:aZ (n) (zz (.U an) x.2.1)=-1:=if_neg hc
  have e2:aZ n (zz aC x)=-1:=if_neg (by omega)
  rw[e1,e2];rfl
 have e1:aZ (n) (zz (.U an) x.2.1)=n - ((zz (.U an) x.2.1:Nat):Int):=if_pos hc
 have n1:¬ (n - ((zz (.U an) x.2.1:Nat):Int) < 0):=by omega
 simp only[e1,n1,decide_false,cond_false]
 clear e1 n1
 have e2:aZ n (zz aC x)=(n - ((zz (.U an) x.2.1:Nat):Int)):=by unfold aZ;rw[if_pos (by omega)];omega
 rw[e2]
theorem Dj (x:List Buffer) (n:Int) (hx:ka (.U aC) x) (h0:0<=n) (h1:n<=1048576):cC.ab (x,n,())=some (aZ n (zz (.U aC) x),()):=by
 obtain ⟨hl,iC⟩:=hx
 have gk:=hl
 rw[ah] at gk
 have gk:List.length x<=9223372036854775807:=gk
 have hw:ae (n - (List.length x:Int))=n - (List.length x:Int):=aR (by omega)
 have hz:zz (.U aC) x=List.length x+jL (zz aC) x:=rfl
 by_cases hc:n - (List.length x:Int) < 0
 ·have e1:aZ n (zz (.U aC) x)=-1:=if_neg (by omega)
  rw[e1]
  refine ag (k:=0) fun k _=>(cC.aa k _).trans ?_
  unfold cC.p
  simp only[hw,hc,decide_true,cond_true]
  try rfl
 ·have e1:aZ n (zz (.U aC) x)=aZ (n - (List.length x:Int)) (jL (zz aC) x):=by rw[hz,tt (by omega)]
  rw[e1]
  refine ag (k:=List.length x+1) fun k hk=>(cC.aa k _).trans ?_
  unfold cC.p
  simp only[hw,hc,decide_false,cond_false]
  exact tr (B:=fun self v=>cC.B0 0 self (fun z=>cC.Q0 0 (x,n,()) z) (x,n,()) v) (xs:=x) hl (zz aC) (fun i hi m self wh nT=>by
    show cC.b0 _ _ _ _=_
    unfold cC.b0
    have aj:(i:Int) < (List.length x:Int):=by omega
    simp only[aj,decide_true,cond_true,Int.natCast_nonneg,if_true,Int.toNat_natCast,List.getElem?_eq_getElem hi,Option.bind_some,Et x[i] m (iC _ (List.getElem_mem hi)) wh nT]
    by_cases hs:aZ m (zz aC x[i]) < 0 <;> simp[hs]) (fun m self=>by
    show cC.b0 _ _ _ _=_
    unfold cC.b0
    simp[cC.Q0,cC.q0]) _ (by omega) (by omega) k (by omega)
theorem zk (x:jm) (n:Int) (hx:ka br x) (h0:0<=n) (h1:n<=1048576):iD.ab (x,n,())=some (aZ n (zz br x),()):=by
 have hz:zz br x=(zz (.U (.U u8)) x.1+(zz (.U aC) x.2.1+0)):=rfl
 refine ag (k:=0) fun k _=>(iD.aa k _).trans ?_
 show iD.p _=_
 unfold iD.p
 simp only[xl x.1 (n) hx.1 (by omega) (by omega),Option.bind_some]
 by_cases hc:((zz (.U (.U u8)) x.1:Nat):Int)<=n
 rotate_left
 ·have e1:aZ (n) (zz (.U (.U u8)) x.1)=-1:=if_neg hc
  have e2:aZ n (zz br x)=-1:=if_neg (by omega)
  rw[e1,e2];rfl
 have e1:aZ (n) (zz (.U (.U u8)) x.1)=n - ((zz (.U (.U u8)) x.1:Nat):Int):=if_pos hc
 have n1:¬ (n - ((zz (.U (.U u8)) x.1:Nat):Int) < 0):=by omega
 simp only[e1,n1,decide_false,cond_false]
 clear e1 n1
 simp only[Dj x.2.1 ((n - ((zz (.U (.U u8)) x.1:Nat):Int))) hx.2.1 (by omega) (by omega),Option.bind_some]
 by_cases hc:((zz (.U aC) x.2.1:Nat):Int)<=(n - ((zz (.U (.U u8)) x.1:Nat):Int))
 rotate_left
 ·have e1:aZ ((n - ((zz (.U (.U u8)) x.1:Nat):Int))) (zz (.U aC) x.2.1)=-1:=if_neg hc
  have e2:aZ n (zz br x)=-1:=if_neg (by omega)
  rw[e1,e2];rfl
 have e1:aZ ((n - ((zz (.U (.U u8)) x.1:Nat):Int))) (zz (.U aC) x.2.1)=(n - ((zz (.U (.U u8)) x.1:Nat):Int)) - ((zz (.U aC) x.2.1:Nat):Int):=if_pos hc
 have n1:¬ ((n - ((zz (.U (.U u8)) x.1:Nat):Int)) - ((zz (.U aC) x.2.1:Nat):Int) < 0):=by omega
 simp only[e1,n1,decide_false,cond_false]
 clear e1 n1
 have e2:aZ n (zz br x)=((n - ((zz (.U (.U u8)) x.1:Nat):Int)) - ((zz (.U aC) x.2.1:Nat):Int)):=by unfold aZ;rw[if_pos (by omega)];omega
 rw[e2]
theorem An (x:gT) (n:Int) (hx:ka ba x) (h0:0<=n) (h1:n<=1048576):gv.ab (x,n,())=some (aZ n (zz ba x),()):=by
 have hz:zz ba x=((zz (.U (.U u8)) x.1.1+(zz (.U aC) x.1.2.1+0))+(0+((zz (.U (.U u8)) x.2.2.1.1+(zz (.U aC) x.2.2.1.2.1+0))+(0+0)))):=rfl
 refine ag (k:=0) fun k _=>(gv.aa k _).trans ?_
 show gv.p _=_
 unfold gv.p
 have FK:zz br x.1=(zz (.U (.U u8)) x.1.1+(zz (.U aC) x.1.2.1+0)):=rfl
 simp only[zk x.1 (n) hx.1 (by omega) (by omega),Option.bind_some]
 by_cases hc:((zz br x.1:Nat):Int)<=n
 rotate_left
 ·have e1:aZ (n) (zz br x.1)=-1:=if_neg hc
  have e2:aZ n (zz ba x)=-1:=if_neg (by omega)
  rw[e1,e2];rfl
 have e1:aZ (n) (zz br x.1)=n - ((zz br x.1:Nat):Int):=if_pos hc
 have n1:¬ (n - ((zz br x.1:Nat):Int) < 0):=by omega
 simp only[e1,n1,decide_false,cond_false]
 clear e1 n1
 have vS:zz br x.2.2.1=(zz (.U (.U u8)) x.2.2.1.1+(zz (.U aC) x.2.2.1.2.1+0)):=rfl
 simp only[zk x.2.2.1 ((n - ((zz br x.1:Nat):Int))) hx.2.2.1 (by omega) (by omega),Option.bind_some]
 by_cases hc:((zz br x.2.2.1:Nat):Int)<=(n - ((zz br x.1:Nat):Int))
 rotate_left
 ·have e1:aZ ((n - ((zz br x.1:Nat):Int))) (zz br x.2.2.1)=-1:=if_neg hc
  have e2:aZ n (zz ba x)=-1:=if_neg (by omega)
  rw[e1,e2];rfl
 have e1:aZ ((n - ((zz br x.1:Nat):Int))) (zz br x.2.2.1)=(n - ((zz br x.1:Nat):Int)) - ((zz br x.2.2.1:Nat):Int):=if_pos hc
 have n1:¬ ((n - ((zz br x.1:Nat):Int)) - ((zz br x.2.2.1:Nat):Int) < 0):=by omega
 simp only[e1,n1,decide_false,cond_false]
 clear e1 n1
 have e2:aZ n (zz ba x)=((n - ((zz br x.1:Nat):Int)) - ((zz br x.2.2.1:Nat):Int)):=by unfold aZ;rw[if_pos (by omega)];omega
 rw[e2]
theorem Jf (x:gg) (n:Int) (hx:ka bK x) (h0:0<=n) (h1:n<=1048576):kO.ab (x,n,())=some (aZ n (zz bK x),()):=by
 have hz:zz bK x=(0+(0+(zz (.U an) x.2.2.1+0))):=rfl
 refine ag (k:=0) fun k _=>(kO.aa k _).trans ?_
 show kO.p _=_
 unfold kO.p
 simp only[sd x.2.2.1 (n) hx.2.2.1 (by omega) (by omega),Option.bind_some]
 by_cases hc:((zz (.U an) x.2.2.1:Nat):Int)<=n
 rotate_left
 ·have e1:aZ (n) (zz (.U an) x.2.2.1)=-1:=if_neg hc
  have e2:aZ n (zz bK x)=-1:=if_neg (by omega)
  rw[e1,e2];rfl
 have e1:aZ (n) (zz (.U an) x.2.2.1)=n - ((zz (.U an) x.2.2.1:Nat):Int):=if_pos hc
 have n1:¬ (n - ((zz (.U an) x.2.2.1:Nat):Int) < 0):=by omega
 simp only[e1,n1,decide_false,cond_false]
 clear e1 n1
 have e2:aZ n (zz bK x)=(n - ((zz (.U an) x.2.2.1:Nat):Int)):=by unfold aZ;rw[if_pos (by omega)];omega
 rw[e2]
theorem He (x:List gg) (n:Int) (hx:ka (.U bK) x) (h0:0<=n) (h1:n<=1048576):dq.ab (x,n,())=some (aZ n (zz (.U bK) x),()):=by
 obtain ⟨hl,iC⟩:=hx
 have gk:=hl
 rw[ah] at gk
 have gk:List.length x<=9223372036854775807:=gk
 have hw:ae (n - (List.length x:Int))=n - (List.length x:Int):=aR (by omega)
 have hz:zz (.U bK) x=List.length x+jL (zz bK) x:=rfl
 by_cases hc:n - (List.length x:Int) < 0
 ·have e1:aZ n (zz (.U bK) x)=-1:=if_neg (by omega)
  rw[e1]
  refine ag (k:=0) fun k _=>(dq.aa k _).trans ?_
  unfold dq.p
  simp only[hw,hc,decide_true,cond_true]
  try rfl
 ·have e1:aZ n (zz (.U bK) x)=aZ (n - (List.length x:Int)) (jL (zz bK) x):=by rw[hz,tt (by omega)]
  rw[e1]
  refine ag (k:=List.length x+1) fun k hk=>(dq.aa k _).trans ?_
  unfold dq.p
  simp only[hw,hc,decide_false,cond_false]
  exact tr (B:=fun self v=>dq.B0 0 self (fun z=>dq.Q0 0 (x,n,()) z) (x,n,()) v) (xs:=x) hl (zz bK) (fun i hi m self wh nT=>by
    show dq.b0 _ _ _ _=_
    unfold dq.b0
    have aj:(i:Int) < (List.length x:Int):=by omega
    simp only[aj,decide_true,cond_true,Int.natCast_nonneg,if_true,Int.toNat_natCast,List.getElem?_eq_getElem hi,Option.bind_some,Jf x[i] m (iC _ (List.getElem_mem hi)) wh nT]
    by_cases hs:aZ m (zz bK x[i]) < 0 <;> simp[hs]) (fun m self=>by
    show dq.b0 _ _ _ _=_
    unfold dq.b0
    simp[dq.Q0,dq.q0]) _ (by omega) (by omega) k (by omega)
theorem Hf (x:World) (n:Int) (hx:ka dR x) (h0:0<=n) (h1:n<=1048576):jN.ab (x,n,())=some (aZ n (zz dR x),()):=by
 have hz:zz dR x=((0+(zz (.U (.U u8)) x.1.2.1+((zz (.U u8) x.1.2.2.1.1+(zz (.U u8) x.1.2.2.1.2.1+0))+(zz (.U bd) x.1.2.2.2.1+(0+0)))))+(((zz (.U (.U u8)) x.2.1.1.1+(zz (.U aC) x.2.1.1.2.1+0))+(0+((zz (.U (.U u8)) x.2.1.2.2.1.1+(zz (.U aC) x.2.1.2.2.1.2.1+0))+(0+0))))+(zz (.U bK) x.2.2.1+0))):=rfl
 refine ag (k:=0) fun k _=>(jN.aa k _).trans ?_
 show jN.p _=_
 unfold jN.p
 have FK:zz cd x.1=(0+(zz (.U (.U u8)) x.1.2.1+((zz (.U u8) x.1.2.2.1.1+(zz (.U u8) x.1.2.2.1.2.1+0))+(zz (.U bd) x.1.2.2.2.1+(0+0))))):=rfl
 simp only[Hd x.1 (n) hx.1 (by omega) (by omega),Option.bind_some]
 by_cases hc:((zz cd x.1:Nat):Int)<=n
 rotate_left
 ·have e1:aZ (n) (zz cd x.1)=-1:=if_neg hc
  have e2:aZ n (zz dR x)=-1:=if_neg (by omega)
  rw[e1,e2];rfl
 have e1:aZ (n) (zz cd x.1)=n - ((zz cd x.1:Nat):Int):=if_pos hc
 have n1:¬ (n - ((zz cd x.1:Nat):Int) < 0):=by omega
 simp only[e1,n1,decide_false,cond_false]
 clear e1 n1
 have qJ:zz ba x.2.1=((zz (.U (.U u8)) x.2.1.1.1+(zz (.U aC) x.2.1.1.2.1+0))+(0+((zz (.U (.U u8)) x.2.1.2.2.1.1+(zz (.U aC) x.2.1.2.2.1.2.1+0))+(0+0)))):=rfl
 simp only[An x.2.1 ((n - ((zz cd x.1:Nat):Int))) hx.2.1 (by omega) (by omega),Option.bind_some]
 by_cases hc:((zz ba x.2.1:Nat):Int)<=(n - ((zz cd x.1:Nat):Int))
 rotate_left
 ·have e1:aZ ((n - ((zz cd x.1:Nat):Int))) (zz ba x.2.1)=-1:=if_neg hc
  have e2:aZ n (zz dR x)=-1:=if_neg (by omega)
  rw[e1,e2];rfl
 have e1:aZ ((n - ((zz cd x.1:Nat):Int))) (zz ba x.2.1)=(n - ((zz cd x.1:Nat):Int)) - ((zz ba x.2.1:Nat):Int):=if_pos hc
 have n1:¬ ((n - ((zz cd x.1:Nat):Int)) - ((zz ba x.2.1:Nat):Int) < 0):=by omega
 simp only[e1,n1,decide_false,cond_false]
 clear e1 n1
 simp only[He x.2.2.1 (((n - ((zz cd x.1:Nat):Int)) - ((zz ba x.2.1:Nat):Int))) hx.2.2.1 (by omega) (by omega),Option.bind_some]
 by_cases hc:((zz (.U bK) x.2.2.1:Nat):Int)<=((n - ((zz cd x.1:Nat):Int)) - ((zz ba x.2.1:Nat):Int))
 rotate_left
 ·have e1:aZ (((n - ((zz cd x.1:Nat):Int)) - ((zz ba x.2.1:Nat):Int))) (zz (.U bK) x.2.2.1)=-1:=if_neg hc
  have e2:aZ n (zz dR x)=-1:=if_neg (by omega)
  rw[e1,e2];rfl
 have e1:aZ (((n - ((zz cd x.1:Nat):Int)) - ((zz ba x.2.1:Nat):Int))) (zz (.U bK) x.2.2.1)=((n - ((zz cd x.1:Nat):Int)) - ((zz ba x.2.1:Nat):Int)) - ((zz (.U bK) x.2.2.1:Nat):Int):=if_pos hc
 have n1:¬ (((n - ((zz cd x.1:Nat):Int)) - ((zz ba x.2.1:Nat):Int)) - ((zz (.U bK) x.2.2.1:Nat):Int) < 0):=by omega
 simp only[e1,n1,decide_false,cond_false]
 clear e1 n1
 have e2:aZ n (zz dR x)=(((n - ((zz cd x.1:Nat):Int)) - ((zz ba x.2.1:Nat):Int)) - ((zz (.U bK) x.2.2.1:Nat):Int)):=by unfold aZ;rw[if_pos (by omega)];omega
 rw[e2]
theorem uA (x:List UInt8) (h:zz (.U u8) x<=1048576):cT.ab (x,())=some (x,()):=by
 have hl:x.length<=1048576:=Nat.le_trans (eW (e:=u8) x) h
 refine ag (k:=x.length+1) fun k hk=>(cT.aa k _).trans ?_
 unfold cT.p
 have hc:0<=(x.length:Int)/\(x.length:Int)<=(x.length:Int)/\(x.length:Int)<=(bk:Int):=by simp only[bk];omega
 simp only[hc,and_self,if_true,Int.toNat_natCast]
 exact ml (B:=fun self v=>cT.B0 k self (fun z=>cT.Q0 k (x,()) z) (x,()) v) (xs:=x) (by rw[ah];omega) (fun i hi acc self ha=>by
  show cT.b0 _ _ _ _=_
  unfold cT.b0
  have aj:(i:Int) < (x.length:Int):=by omega
  have lR:(i:Int) < (acc.length:Int):=by omega
  simp only[aj,lR,decide_true,cond_true,Int.natCast_nonneg,and_self,if_true,Int.toNat_natCast,List.getElem?_eq_getElem hi,List.getElem?_eq_getElem (show i < acc.length by omega),Option.bind_some]) (fun acc self=>by
  show cT.b0 _ _ _ _=_
  unfold cT.b0
  simp[cT.Q0,cT.q0]) _ k (by omega)
theorem xm (x:List (List UInt8)) (h:zz (.U (.U u8)) x<=1048576):cE.ab (x,())=some (x,()):=by
 have hl:x.length<=1048576:=Nat.le_trans (eW (e:=(.U u8)) x) h
 refine ag (k:=x.length+1) fun k hk=>(cE.aa k _).trans ?_
 unfold cE.p
 have hc:0<=(x.length:Int)/\(x.length:Int)<=(x.length:Int)/\(x.length:Int)<=(bk:Int):=by simp only[bk];omega
 simp only[hc,and_self,if_true,Int.toNat_natCast]
 exact ml (B:=fun self v=>cE.B0 k self (fun z=>cE.Q0 k (x,()) z) (x,()) v) (xs:=x) (by rw[ah];omega) (fun i hi acc self ha=>by
  show cE.b0 _ _ _ _=_
  unfold cE.b0
  have aj:(i:Int) < (x.length:Int):=by omega
  have lR:(i:Int) < (acc.length:Int):=by omega
  simp only[aj,lR,decide_true,cond_true,Int.natCast_nonneg,and_self,if_true,Int.toNat_natCast,List.getElem?_eq_getElem hi,List.getElem?_eq_getElem (show i < acc.length by omega),Option.bind_some,uA x[i] (by have:=kq (e:=(.U u8)) (List.getElem_mem hi);omega)]) (fun acc self=>by
  show cE.b0 _ _ _ _=_
  unfold cE.b0
  simp[cE.Q0,cE.q0]) _ k (by omega)
theorem KJ (x:Log) (h:zz fe x<=1048576):lB.ab (x,())=some (x,()):=by
 have hz:zz fe x=(zz (.U u8) x.1+(zz (.U u8) x.2.1+0)):=rfl
 refine ag (k:=0) fun k _=>(lB.aa k _).trans ?_
 show lB.p _=_
 unfold lB.p
 simp only[uA x.1 (by omega),uA x.2.1 (by omega),Option.bind_some]
theorem Dk (x:Row) (h:zz aF x<=1048576):kC.ab (x,())=some (x,()):=by
 have hz:zz aF x=(0+(0+(0+(List.length x.2.2.2.1+0)))):=rfl
 refine ag (k:=0) fun k _=>(kC.aa k _).trans ?_
 show kC.p _=_
 unfold kC.p
 rfl
theorem Eu (x:Change) (h:zz an x<=1048576):jc.ab (x,())=some (x,()):=by
 have hz:zz an x=(0+((0+(0+(0+(List.length x.2.1.2.2.2.1+0))))+(0+((0+(0+(0+(List.length x.2.2.2.1.2.2.2.1+0))))+0)))):=rfl
 have qJ:zz aF x.2.1=(0+(0+(0+(List.length x.2.1.2.2.2.1+0)))):=rfl
 have QE:zz aF x.2.2.2.1=(0+(0+(0+(List.length x.2.2.2.1.2.2.2.1+0)))):=rfl
 refine ag (k:=0) fun k _=>(jc.aa k _).trans ?_
 show jc.p _=_
 unfold jc.p
 simp only[Dk x.2.1 (by omega),Dk x.2.2.2.1 (by omega),Option.bind_some]
theorem se (x:List Change) (h:zz (.U an) x<=1048576):bO.ab (x,())=some (x,()):=by
 have hl:x.length<=1048576:=Nat.le_trans (eW (e:=an) x) h
 refine ag (k:=x.length+1) fun k hk=>(bO.aa k _).trans ?_
 unfold bO.p
 have hc:0<=(x.length:Int)/\(x.length:Int)<=(x.length:Int)/\(x.length:Int)<=(bk:Int):=by simp only[bk];omega
 simp only[hc,and_self,if_true,Int.toNat_natCast]
 exact ml (B:=fun self v=>bO.B0 k self (fun z=>bO.Q0 k (x,()) z) (x,()) v) (xs:=x) (by rw[ah];omega) (fun i hi acc self ha=>by
  show bO.b0 _ _ _ _=_
  unfold bO.b0
  have aj:(i:Int) < (x.length:Int):=by omega
  have lR:(i:Int) < (acc.length:Int):=by omega
  simp only[aj,lR,decide_true,cond_true,Int.natCast_nonneg,and_self,if_true,Int.toNat_natCast,List.getElem?_eq_getElem hi,List.getElem?_eq_getElem (show i < acc.length by omega),Option.bind_some,Eu x[i] (by have:=kq (e:=an) (List.getElem_mem hi);omega)]) (fun acc self=>by
  show bO.b0 _ _ _ _=_
  unfold bO.b0
  simp[bO.Q0,bO.q0]) _ k (by omega)
theorem Ev (x:List Int) (h:zz (.U i64) x<=1048576):dH.ab (x,())=some (x,()):=by
 have hl:x.length<=1048576:=Nat.le_trans (eW (e:=i64) x) h
 refine ag (k:=x.length+1) fun k hk=>(dH.aa k _).trans ?_
 unfold dH.p
 have hc:0<=(x.length:Int)/\(x.length:Int)<=(x.length:Int)/\(x.length:Int)<=(bk:Int):=by simp only[bk];omega
 simp only[hc,and_self,if_true,Int.toNat_natCast]
 exact ml (B:=fun self v=>dH.B0 k self (fun z=>dH.Q0 k (x,()) z) (x,()) v) (xs:=x) (by rw[ah];omega) (fun i hi acc self ha=>by
  show dH.b0 _ _ _ _=_
  unfold dH.b0
  have aj:(i:Int) < (x.length:Int):=by omega
  have lR:(i:Int) < (acc.length:Int):=by omega
  simp only[aj,lR,decide_true,cond_true,Int.natCast_nonneg,and_self,if_true,Int.toNat_natCast,List.getElem?_eq_getElem hi,List.getElem?_eq_getElem (show i < acc.length by omega),Option.bind_some]) (fun acc self=>by
  show dH.b0 _ _ _ _=_
  unfold dH.b0
  simp[dH.Q0,dH.q0]) _ k (by omega)
theorem KK (x:Key) (h:zz aL x<=1048576):lC.ab (x,())=some (x,()):=by
 have hz:zz aL x=(0+(0+0)):=rfl
 refine ag (k:=0) fun k _=>(lC.aa k _).trans ?_
 show lC.p _=_
 unfold lC.p
 rfl
theorem Jg (x:List Key) (h:zz (.U aL) x<=1048576):eR.ab (x,())=some (x,()):=by
 have hl:x.length<=1048576:=Nat.le_trans (eW (e:=aL) x) h
 refine ag (k:=x.length+1) fun k hk=>(eR.aa k _).trans ?_
 unfold eR.p
 have hc:0<=(x.length:Int)/\(x.length:Int)<=(x.length:Int)/\(x.length:Int)<=(bk:Int):=by simp only[bk];omega
 simp only[hc,and_self,if_true,Int.toNat_natCast]
 exact ml (B:=fun self v=>eR.B0 k self (fun z=>eR.Q0 k (x,()) z) (x,()) v) (xs:=x) (by rw[ah];omega) (fun i hi acc self ha=>by
  show eR.b0 _ _ _ _=_
  unfold eR.b0
  have aj:(i:Int) < (x.length:Int):=by omega
  have lR:(i:Int) < (acc.length:Int):=by omega
  simp only[aj,lR,decide_true,cond_true,Int.natCast_nonneg,and_self,if_true,Int.toNat_natCast,List.getElem?_eq_getElem hi,List.getElem?_eq_getElem (show i < acc.length by omega),Option.bind_some,KK x[i] (by have:=kq (e:=aL) (List.getElem_mem hi);omega)]) (fun acc self=>by
  show eR.b0 _ _ _ _=_
  unfold eR.b0
  simp[eR.Q0,eR.q0]) _ k (by omega)
theorem MX (x:Tx) (h:zz bd x<=1048576):mn.ab (x,())=some (x,()):=by
 have hz:zz bd x=(0+(zz (.U an) x.2.1+(zz (.U i64) x.2.2.1+(zz (.U aL) x.2.2.2.1+0)))):=rfl
 refine ag (k:=0) fun k _=>(mn.aa k _).trans ?_
 show mn.p _=_
 unfold mn.p
 simp only[se x.2.1 (by omega),Ev x.2.2.1 (by omega),Jg x.2.2.2.1 (by omega),Option.bind_some]
theorem KL (x:List Tx) (h:zz (.U bd) x<=1048576):fH.ab (x,())=some (x,()):=by
 have hl:x.length<=1048576:=Nat.le_trans (eW (e:=bd) x) h
 refine ag (k:=x.length+1) fun k hk=>(fH.aa k _).trans ?_
 unfold fH.p
 have hc:0<=(x.length:Int)/\(x.length:Int)<=(x.length:Int)/\(x.length:Int)<=(bk:Int):=by simp only[bk];omega
 simp only[hc,and_self,if_true,Int.toNat_natCast]
 exact ml (B:=fun self v=>fH.B0 k self (fun z=>fH.Q0 k (x,()) z) (x,()) v) (xs:=x) (by rw[ah];omega) (fun i hi acc self ha=>by
  show fH.b0 _ _ _ _=_
  unfold fH.b0
  have aj:(i:Int) < (x.length:Int):=by omega
  have lR:(i:Int) < (acc.length:Int):=by omega
  simp only[aj,lR,decide_true,cond_true,Int.natCast_nonneg,and_self,if_true,Int.toNat_natCast,List.getElem?_eq_getElem hi,List.getElem?_eq_getElem (show i < acc.length by omega),Option.bind_some,MX x[i] (by have:=kq (e:=bd) (List.getElem_mem hi);omega)]) (fun acc self=>by
  show fH.b0 _ _ _ _=_
  unfold fH.b0
  simp[fH.Q0,fH.q0]) _ k (by omega)
theorem Hg (x:kb) (h:zz cd x<=1048576):jT.ab (x,())=some (x,()):=by
 have hz:zz cd x=(0+(zz (.U (.U u8)) x.2.1+((zz (.U u8) x.2.2.1.1+(zz (.U u8) x.2.2.1.2.1+0))+(zz (.U bd) x.2.2.2.1+(0+0))))):=rfl
 have vS:zz fe x.2.2.1=(zz (.U u8) x.2.2.1.1+(zz (.U u8) x.2.2.1.2.1+0)):=rfl
 refine ag (k:=0) fun k _=>(jT.aa k _).trans ?_
 show jT.p _=_
 unfold jT.p
 simp only[xm x.2.1 (by omega),KJ x.2.2.1 (by omega),KL x.2.2.2.1 (by omega),Option.bind_some]
theorem Ew (x:Buffer) (h:zz aC x<=1048576):jd.ab (x,())=some (x,()):=by
 have hz:zz aC x=(0+(zz (.U an) x.2.1+0)):=rfl
 refine ag (k:=0) fun k _=>(jd.aa k _).trans ?_
 show jd.p _=_
 unfold jd.p
 simp only[se x.2.1 (by omega),Option.bind_some]
theorem Dl (x:List Buffer) (h:zz (.U aC) x<=1048576):da.ab (x,())=some (x,()):=by
 have hl:x.length<=1048576:=Nat.le_trans (eW (e:=aC) x) h
 refine ag (k:=x.length+1) fun k hk=>(da.aa k _).trans ?_
 unfold da.p
 have hc:0<=(x.length:Int)/\(x.length:Int)<=(x.length:Int)/\(x.length:Int)<=(bk:Int):=by simp only[bk];omega
 simp only[hc,and_self,if_true,Int.toNat_natCast]
 exact ml (B:=fun self v=>da.B0 k self (fun z=>da.Q0 k (x,()) z) (x,()) v) (xs:=x) (by rw[ah];omega) (fun i hi acc self ha=>by
  show da.b0 _ _ _ _=_
  unfold da.b0
  have aj:(i:Int) < (x.length:Int):=by omega
  have lR:(i:Int) < (acc.length:Int):=by omega
  simp only[aj,lR,decide_true,cond_true,Int.natCast_nonneg,and_self,if_true,Int.toNat_natCast,List.getElem?_eq_getElem hi,List.getElem?_eq_getElem (show i < acc.length by omega),Option.bind_some,Ew x[i] (by have:=kq (e:=aC) (List.getElem_mem hi);omega)]) (fun acc self=>by
  show da.b0 _ _ _ _=_
  unfold da.b0
  simp[da.Q0,da.q0]) _ k (by omega)
theorem zl (x:jm) (h:zz br x<=1048576):iH.ab (x,())=some (x,()):=by
 have hz:zz br x=(zz (.U (.U u8)) x.1+(zz (.U aC) x.2.1+0)):=rfl
 refine ag (k:=0) fun k _=>(iH.aa k _).trans ?_
 show iH.p _=_
 unfold iH.p
 simp only[xm x.1 (by omega),Dl x.2.1 (by omega),Option.bind_some]
theorem Ao (x:gT) (h:zz ba x<=1048576):gy.ab (x,())=some (x,()):=by
 have hz:zz ba x=((zz (.U (.U u8)) x.1.1+(zz (.U aC) x.1.2.1+0))+(0+((zz (.U (.U u8)) x.2.2.1.1+(zz (.U aC) x.2.2.1.2.1+0))+(0+0)))):=rfl
 have FK:zz br x.1=(zz (.U (.U u8)) x.1.1+(zz (.U aC) x.1.2.1+0)):=rfl
 have vS:zz br x.2.2.1=(zz (.U (.U u8)) x.2.2.1.1+(zz (.U aC) x.2.2.1.2.1+0)):=rfl
 refine ag (k:=0) fun k _=>(gy.aa k _).trans ?_
 show gy.p _=_
 unfold gy.p
 simp only[zl x.1 (by omega),zl x.2.2.1 (by omega),Option.bind_some]
theorem Jh (x:gg) (h:zz bK x<=1048576):kR.ab (x,())=some (x,()):=by
 have hz:zz bK x=(0+(0+(zz (.U an) x.2.2.1+0))):=rfl
 refine ag (k:=0) fun k _=>(kR.aa k _).trans ?_
 show kR.p _=_
 unfold kR.p
 simp only[se x.2.2.1 (by omega),Option.bind_some]
theorem Hh (x:List gg) (h:zz (.U bK) x<=1048576):d7.ab (x,())=some (x,()):=by
 have hl:x.length<=1048576:=Nat.le_trans (eW (e:=bK) x) h
 refine ag (k:=x.length+1) fun k hk=>(d7.aa k _).trans ?_
 unfold d7.p
 have hc:0<=(x.length:Int)/\(x.length:Int)<=(x.length:Int)/\(x.length:Int)<=(bk:Int):=by simp only[bk];omega
 simp only[hc,and_self,if_true,Int.toNat_natCast]
 exact ml (B:=fun self v=>d7.B0 k self (fun z=>d7.Q0 k (x,()) z) (x,()) v) (xs:=x) (by rw[ah];omega) (fun i hi acc self ha=>by
  show d7.b0 _ _ _ _=_
  unfold d7.b0
  have aj:(i:Int) < (x.length:Int):=by omega
  have lR:(i:Int) < (acc.length:Int):=by omega
  simp only[aj,lR,decide_true,cond_true,Int.natCast_nonneg,and_self,if_true,Int.toNat_natCast,List.getElem?_eq_getElem hi,List.getElem?_eq_getElem (show i < acc.length by omega),Option.bind_some,Jh x[i] (by have:=kq (e:=bK) (List.getElem_mem hi);omega)]) (fun acc self=>by
  show d7.b0 _ _ _ _=_
  unfold d7.b0
  simp[d7.Q0,d7.q0]) _ k (by omega)
theorem Hj (x:World) (h:zz dR x<=1048576):g_.ab (x,())=some (x,()):=by
 have hz:zz dR x=((0+(zz (.U (.U u8)) x.1.2.1+((zz (.U u8) x.1.2.2.1.1+(zz (.U u8) x.1.2.2.1.2.1+0))+(zz (.U bd) x.1.2.2.2.1+(0+0)))))+(((zz (.U (.U u8)) x.2.1.1.1+(zz (.U aC) x.2.1.1.2.1+0))+(0+((zz (.U (.U u8)) x.2.1.2.2.1.1+(zz (.U aC) x.2.1.2.2.1.2.1+0))+(0+0))))+(zz (.U bK) x.2.2.1+0))):=rfl
 have FK:zz cd x.1=(0+(zz (.U (.U u8)) x.1.2.1+((zz (.U u8) x.1.2.2.1.1+(zz (.U u8) x.1.2.2.1.2.1+0))+(zz (.U bd) x.1.2.2.2.1+(0+0))))):=rfl
 have qJ:zz ba x.2.1=((zz (.U (.U u8)) x.2.1.1.1+(zz (.U aC) x.2.1.1.2.1+0))+(0+((zz (.U (.U u8)) x.2.1.2.2.1.1+(zz (.U aC) x.2.1.2.2.1.2.1+0))+(0+0)))):=rfl
 refine ag (k:=0) fun k _=>(g_.aa k _).trans ?_
 show g_.p _=_
 unfold g_.p
 simp only[Hg x.1 (by omega),Ao x.2.1 (by omega),Hh x.2.2.1 (by omega),Option.bind_some]
theorem sf (x:List UInt8) (h:zz (.U u8) x<=4611686018427387904):cU.ab (x,x,())=some (true,()):=by
 have hl:x.length<=4611686018427387904:=Nat.le_trans (eW (e:=u8) x) h
 refine ag (k:=x.length+1) fun k hk=>(cU.aa k _).trans ?_
 unfold cU.p
 simp only[decide_true,Bool.not_true,cond_false]
 have:=lQ (B:=fun self v=>cU.B0 k self (fun z=>cU.Q0 k (x,x,()) z) (x,x,()) v) (xs:=x) (ys:=x) (fun _ _=>true) rfl (by rw[ah];omega) (fun i hi hj self=>by
   show cU.b0 _ _ _ _=_
   unfold cU.b0
   have aj:(i:Int) < (x.length:Int):=by omega
   simp only[aj,decide_true,cond_true,Int.natCast_nonneg,if_true,Int.toNat_natCast,List.getElem?_eq_getElem hi,Option.bind_some,Bool.not_true,cond_false]) (fun self=>by
   show cU.b0 _ _ _ _=_
   unfold cU.b0
   simp[cU.Q0,cU.q0]) k (by omega)
 rw[show kg (fun _ _=>true) x x=true by simp[kg]] at this
 exact this
theorem ve (x:List (List UInt8)) (h:zz (.U (.U u8)) x<=4611686018427387904):cH.ab (x,x,())=some (true,()):=by
 have hl:x.length<=4611686018427387904:=Nat.le_trans (eW (e:=(.U u8)) x) h
 refine ag (k:=x.length+1) fun k hk=>(cH.aa k _).trans ?_
 unfold cH.p
 simp only[decide_true,Bool.not_true,cond_false]
 have:=lQ (B:=fun self v=>cH.B0 k self (fun z=>cH.Q0 k (x,x,()) z) (x,x,()) v) (xs:=x) (ys:=x) (fun _ _=>true) rfl (by rw[ah];omega) (fun i hi hj self=>by
   show cH.b0 _ _ _ _=_
   unfold cH.b0
   have aj:(i:Int) < (x.length:Int):=by omega
   simp only[aj,decide_true,cond_true,Int.natCast_nonneg,if_true,Int.toNat_natCast,List.getElem?_eq_getElem hi,Option.bind_some,Bool.not_true,cond_false,sf x[i] (by have:=kq (e:=(.U u8)) (List.getElem_mem hi);omega)]) (fun self=>by
   show cH.b0 _ _ _ _=_
   unfold cH.b0
   simp[cH.Q0,cH.q0]) k (by omega)
 rw[show kg (fun _ _=>true) x x=true by simp[kg]] at this
 exact this
theorem Hk (x:Log) (h:zz fe x<=4611686018427387904):lE.ab (x,x,())=some (true,()):=by
 have hz:zz fe x=(zz (.U u8) x.1+(zz (.U u8) x.2.1+0)):=rfl
 refine ag (k:=0) fun k _=>(lE.aa k _).trans ?_
 show lE.p _=_
 unfold lE.p
 have q0:=sf x.1 (by omega)
 have q1:=sf x.2.1 (by omega)
 simp[q0,q1]
theorem zm (x:Row) (h:zz aF x<=4611686018427387904):kD.ab (x,x,())=some (true,()):=by
 have hz:zz aF x=(0+(0+(0+(List.length x.2.2.2.1+0)))):=rfl
 refine ag (k:=0) fun k _=>(kD.aa k _).trans ?_
 show kD.p _=_
 unfold kD.p
 simp[]
theorem Bs (x:Change) (h:zz an x<=4611686018427387904):jh.ab (x,x,())=some (true,()):=by
 have hz:zz an x=(0+((0+(0+(0+(List.length x.2.1.2.2.2.1+0))))+(0+((0+(0+(0+(List.length x.2.2.2.1.2.2.2.1+0))))+0)))):=rfl
 have qJ:zz aF x.2.1=(0+(0+(0+(List.length x.2.1.2.2.2.1+0)))):=rfl
 have QE:zz aF x.2.2.2.1=(0+(0+(0+(List.length x.2.2.2.1.2.2.2.1+0)))):=rfl
 refine ag (k:=0) fun k _=>(jh.aa k _).trans ?_
 show jh.p _=_
 unfold jh.p
 have q0:=zm x.2.1 (by omega)
 have q1:=zm x.2.2.2.1 (by omega)
 simp[q0,q1]
theorem pR (x:List Change) (h:zz (.U an) x<=4611686018427387904):bQ.ab (x,x,())=some (true,()):=by
 have hl:x.length<=4611686018427387904:=Nat.le_trans (eW (e:=an) x) h
 refine ag (k:=x.length+1) fun k hk=>(bQ.aa k _).trans ?_
 unfold bQ.p
 simp only[decide_true,Bool.not_true,cond_false]
 have:=lQ (B:=fun self v=>bQ.B0 k self (fun z=>bQ.Q0 k (x,x,()) z) (x,x,()) v) (xs:=x) (ys:=x) (fun _ _=>true) rfl (by rw[ah];omega) (fun i hi hj self=>by
   show bQ.b0 _ _ _ _=_
   unfold bQ.b0
   have aj:(i:Int) < (x.length:Int):=by omega
   simp only[aj,decide_true,cond_true,Int.natCast_nonneg,if_true,Int.toNat_natCast,List.getElem?_eq_getElem hi,Option.bind_some,Bool.not_true,cond_false,Bs x[i] (by have:=kq (e:=an) (List.getElem_mem hi);omega)]) (fun self=>by
   show bQ.b0 _ _ _ _=_
   unfold bQ.b0
   simp[bQ.Q0,bQ.q0]) k (by omega)
 rw[show kg (fun _ _=>true) x x=true by simp[kg]] at this
 exact this
theorem Bt (x:List Int) (h:zz (.U i64) x<=4611686018427387904):dJ.ab (x,x,())=some (true,()):=by
 have hl:x.length<=4611686018427387904:=Nat.le_trans (eW (e:=i64) x) h
 refine ag (k:=x.length+1) fun k hk=>(dJ.aa k _).trans ?_
 unfold dJ.p
 simp only[decide_true,Bool.not_true,cond_false]
 have:=lQ (B:=fun self v=>dJ.B0 k self (fun z=>dJ.Q0 k (x,x,()) z) (x,x,()) v) (xs:=x) (ys:=x) (fun _ _=>true) rfl (by rw[ah];omega) (fun i hi hj self=>by
   show dJ.b0 _ _ _ _=_
   unfold dJ.b0
   have aj:(i:Int) < (x.length:Int):=by omega
   simp only[aj,decide_true,cond_true,Int.natCast_nonneg,if_true,Int.toNat_natCast,List.getElem?_eq_getElem hi,Option.bind_some,Bool.not_true,cond_false]) (fun self=>by
   show dJ.b0 _ _ _ _=_
   unfold dJ.b0
   simp[dJ.Q0,dJ.q0]) k (by omega)
 rw[show kg (fun _ _=>true) x x=true by simp[kg]] at this
 exact this
theorem Hl (x:Key) (h:zz aL x<=4611686018427387904):lF.ab (x,x,())=some (true,()):=by
 have hz:zz aL x=(0+(0+0)):=rfl
 refine ag (k:=0) fun k _=>(lF.aa k _).trans ?_
 show lF.p _=_
 unfold lF.p
 simp[]
theorem Ey (x:List Key) (h:zz (.U aL) x<=4611686018427387904):eS.ab (x,x,())=some (true,()):=by
 have hl:x.length<=4611686018427387904:=Nat.le_trans (eW (e:=aL) x) h
 refine ag (k:=x.length+1) fun k hk=>(eS.aa k _).trans ?_
 unfold eS.p
 simp only[decide_true,Bool.not_true,cond_false]
 have:=lQ (B:=fun self v=>eS.B0 k self (fun z=>eS.Q0 k (x,x,()) z) (x,x,()) v) (xs:=x) (ys:=x) (fun _ _=>true) rfl (by rw[ah];omega) (fun i hi hj self=>by
   show eS.b0 _ _ _ _=_
   unfold eS.b0
   have aj:(i:Int) < (x.length:Int):=by omega
   simp only[aj,decide_true,cond_true,Int.natCast_nonneg,if_true,Int.toNat_natCast,List.getElem?_eq_getElem hi,Option.bind_some,Bool.not_true,cond_false,Hl x[i] (by have:=kq (e:=aL) (List.getElem_mem hi);omega)]) (fun self=>by
   show eS.b0 _ _ _ _=_
   unfold eS.b0
   simp[eS.Q0,eS.q0]) k (by omega)
 rw[show kg (fun _ _=>true) x x=true by simp[kg]] at this
 exact this
theorem Ji (x:Tx) (h:zz bd x<=4611686018427387904):mo.ab (x,x,())=some (true,()):=by
 have hz:zz bd x=(0+(zz (.U an) x.2.1+(zz (.U i64) x.2.2.1+(zz (.U aL) x.2.2.2.1+0)))):=rfl
 refine ag (k:=0) fun k _=>(mo.aa k _).trans ?_
 show mo.p _=_
 unfold mo.p
 have q0:=pR x.2.1 (by omega)
 have q1:=Bt x.2.2.1 (by omega)
 have q2:=Ey x.2.2.2.1 (by omega)
 simp[q0,q1,q2]
theorem Hm (x:List Tx) (h:zz (.U bd) x<=4611686018427387904):fI.ab (x,x,())=some (true,()):=by
 have hl:x.length<=4611686018427387904:=Nat.le_trans (eW (e:=bd) x) h
 refine ag (k:=x.length+1) fun k hk=>(fI.aa k _).trans ?_
 unfold fI.p
 simp only[decide_true,Bool.not_true,cond_false]
 have:=lQ (B:=fun self v=>fI.B0 k self (fun z=>fI.Q0 k (x,x,()) z) (x,x,()) v) (xs:=x) (ys:=x) (fun _ _=>true) rfl (by rw[ah];omega) (fun i hi hj self=>by
   show fI.b0 _ _ _ _=_
   unfold fI.b0
   have aj:(i:Int) < (x.length:Int):=by omega
   simp only[aj,decide_true,cond_true,Int.natCast_nonneg,if_true,Int.toNat_natCast,List.getElem?_eq_getElem hi,Option.bind_some,Bool.not_true,cond_false,Ji x[i] (by have:=kq (e:=bd) (List.getElem_mem hi);omega)]) (fun self=>by
   show fI.b0 _ _ _ _=_
   unfold fI.b0
   simp[fI.Q0,fI.q0]) k (by omega)
 rw[show kg (fun _ _=>true) x x=true by simp[kg]] at this
 exact this
theorem Dm (x:kb) (h:zz cd x<=4611686018427387904):jV.ab (x,x,())=some (true,()):=by
 have hz:zz cd x=(0+(zz (.U (.U u8)) x.2.1+((zz (.U u8) x.2.2.1.1+(zz (.U u8) x.2.2.1.2.1+0))+(zz (.U bd) x.2.2.2.1+(0+0))))):=rfl
 have vS:zz fe x.2.2.1=(zz (.U u8) x.2.2.1.1+(zz (.U u8) x.2.2.1.2.1+0)):=rfl
 refine ag (k:=0) fun k _=>(jV.aa k _).trans ?_
 show jV.p _=_
 unfold jV.p
 have q0:=ve x.2.1 (by omega)
 have q1:=Hk x.2.2.1 (by omega)
 have q2:=Hm x.2.2.2.1 (by omega)
 simp[q0,q1,q2]
theorem Bu (x:Buffer) (h:zz aC x<=4611686018427387904):ji.ab (x,x,())=some (true,()):=by
 have hz:zz aC x=(0+(zz (.U an) x.2.1+0)):=rfl
 refine ag (k:=0) fun k _=>(ji.aa k _).trans ?_
 show ji.p _=_
 unfold ji.p
 have q0:=pR x.2.1 (by omega)
 simp[q0]
theorem Ap (x:List Buffer) (h:zz (.U aC) x<=4611686018427387904):de.ab (x,x,())=some (true,()):=by
 have hl:x.length<=4611686018427387904:=Nat.le_trans (eW (e:=aC) x) h
 refine ag (k:=x.length+1) fun k hk=>(de.aa k _).trans ?_
 unfold de.p
 simp only[decide_true,Bool.not_true,cond_false]
 have:=lQ (B:=fun self v=>de.B0 k self (fun z=>de.Q0 k (x,x,()) z) (x,x,()) v) (xs:=x) (ys:=x) (fun _ _=>true) rfl (by rw[ah];omega) (fun i hi hj self=>by
   show de.b0 _ _ _ _=_
   unfold de.b0
   have aj:(i:Int) < (x.length:Int):=by omega
   simp only[aj,decide_true,cond_true,Int.natCast_nonneg,if_true,Int.toNat_natCast,List.getElem?_eq_getElem hi,Option.bind_some,Bool.not_true,cond_false,Bu x[i] (by have:=kq (e:=aC) (List.getElem_mem hi);omega)]) (fun self=>by
   show de.b0 _ _ _ _=_
   unfold de.b0
   simp[de.Q0,de.q0]) k (by omega)
 rw[show kg (fun _ _=>true) x x=true by simp[kg]] at this
 exact this
theorem wi (x:jm) (h:zz br x<=4611686018427387904):iR.ab (x,x,())=some (true,()):=by
 have hz:zz br x=(zz (.U (.U u8)) x.1+(zz (.U aC) x.2.1+0)):=rfl
 refine ag (k:=0) fun k _=>(iR.aa k _).trans ?_
 show iR.p _=_
 unfold iR.p
 have q0:=ve x.1 (by omega)
 have q1:=Ap x.2.1 (by omega)
 simp[q0,q1]
theorem xZ (x:gT) (h:zz ba x<=4611686018427387904):gB.ab (x,x,())=some (true,()):=by
 have hz:zz ba x=((zz (.U (.U u8)) x.1.1+(zz (.U aC) x.1.2.1+0))+(0+((zz (.U (.U u8)) x.2.2.1.1+(zz (.U aC) x.2.2.1.2.1+0))+(0+0)))):=rfl
 have FK:zz br x.1=(zz (.U (.U u8)) x.1.1+(zz (.U aC) x.1.2.1+0)):=rfl
 have vS:zz br x.2.2.1=(zz (.U (.U u8)) x.2.2.1.1+(zz (.U aC) x.2.2.1.2.1+0)):=rfl
 refine ag (k:=0) fun k _=>(gB.aa k _).trans ?_
 show gB.p _=_
 unfold gB.p
 have q0:=wi x.1 (by omega)
 have q1:=wi x.2.2.1 (by omega)
 simp[q0,q1]
theorem Ez (x:gg) (h:zz bK x<=4611686018427387904):kS.ab (x,x,())=some (true,()):=by
 have hz:zz bK x=(0+(0+(zz (.U an) x.2.2.1+0))):=rfl
 refine ag (k:=0) fun k _=>(kS.aa k _).trans ?_
 show kS.p _=_
 unfold kS.p
 have q0:=pR x.2.2.1 (by omega)
 simp[q0]
theorem Dn (x:List gg) (h:zz (.U bK) x<=4611686018427387904):ec.ab (x,x,())=some (true,()):=by
 have hl:x.length<=4611686018427387904:=Nat.le_trans (eW (e:=bK) x) h
 refine ag (k:=x.length+1) fun k hk=>(ec.aa k _).trans ?_
 unfold ec.p
 simp only[decide_true,Bool.not_true,cond_false]
 have:=lQ (B:=fun self v=>ec.B0 k self (fun z=>ec.Q0 k (x,x,()) z) (x,x,()) v) (xs:=x) (ys:=x) (fun _ _=>true) rfl (by rw[ah];omega) (fun i hi hj self=>by
   show ec.b0 _ _ _ _=_
   unfold ec.b0
   have aj:(i:Int) < (x.length:Int):=by omega
   simp only[aj,decide_true,cond_true,Int.natCast_nonneg,if_true,Int.toNat_natCast,List.getElem?_eq_getElem hi,Option.bind_some,Bool.not_true,cond_false,Ez x[i] (by have:=kq (e:=bK) (List.getElem_mem hi);omega)]) (fun self=>by
   show ec.b0 _ _ _ _=_
   unfold ec.b0
   simp[ec.Q0,ec.q0]) k (by omega)
 rw[show kg (fun _ _=>true) x x=true by simp[kg]] at this
 exact this
theorem Do (x:World) (h:zz dR x<=4611686018427387904):jW.ab (x,x,())=some (true,()):=by
 have hz:zz dR x=((0+(zz (.U (.U u8)) x.1.2.1+((zz (.U u8) x.1.2.2.1.1+(zz (.U u8) x.1.2.2.1.2.1+0))+(zz (.U bd) x.1.2.2.2.1+(0+0)))))+(((zz (.U (.U u8)) x.2.1.1.1+(zz (.U aC) x.2.1.1.2.1+0))+(0+((zz (.U (.U u8)) x.2.1.2.2.1.1+(zz (.U aC) x.2.1.2.2.1.2.1+0))+(0+0))))+(zz (.U bK) x.2.2.1+0))):=rfl
 have FK:zz cd x.1=(0+(zz (.U (.U u8)) x.1.2.1+((zz (.U u8) x.1.2.2.1.1+(zz (.U u8) x.1.2.2.1.2.1+0))+(zz (.U bd) x.1.2.2.2.1+(0+0))))):=rfl
 have qJ:zz ba x.2.1=((zz (.U (.U u8)) x.2.1.1.1+(zz (.U aC) x.2.1.1.2.1+0))+(0+((zz (.U (.U u8)) x.2.1.2.2.1.1+(zz (.U aC) x.2.1.2.2.1.2.1+0))+(0+0)))):=rfl
 refine ag (k:=0) fun k _=>(jW.aa k _).trans ?_
 show jW.p _=_
 unfold jW.p
 have q0:=Dm x.1 (by omega)
 have q1:=xZ x.2.1 (by omega)
 have q2:=Dn x.2.2.1 (by omega)
 simp[q0,q1,q2]
end OT
set_option linter.unusedVariables false
set_option linter.unusedSimpArgs false
namespace OT
open Go
theorem gC (a b c:Int):aI.ab (a,b,c,())=some (decide (b<=a)&&decide (a<=c),()):=by
 refine ag (k:=0) fun k _=>(aI.aa k _).trans ?_
 show aI.p _=_
 unfold aI.p
 by_cases h:b<=a <;> simp[h]
theorem kT (a b c:Int):bT.ab (a,b,c,())=some (decide (b<=a)&&decide (a<=c),()):=by
 refine ag (k:=0) fun k _=>(bT.aa k _).trans ?_
 show bT.p _=_
 unfold bT.p
 by_cases h:b<=a <;> simp[h]
theorem w5 (a:Int):fC.ab (a,())=some (decide (1<=a)&&decide (a<=99),()):=by
 refine ag (k:=0) fun k _=>(fC.aa k _).trans ?_
 show fC.p _=_
 unfold fC.p
 simp[kT]
def ci (a b c:Int):Bool:=decide (b<=a)&&decide (a<=c)
theorem vf (s:List UInt8) (h:s.length<=200000000000):hB.ab (s,())=some (s,()):=by
 refine ag (k:=0) fun k _=>(hB.aa k _).trans ?_
 show hB.p _=_
 unfold hB.p
 have:([]:List UInt8).length+s.length<=bk:=cQ (by simpa using h)
 rw[if_pos this,List.nil_append]
theorem qb (s:List UInt8) (h:s.length<=200000000000):dC.ab (s,())=some (s,()):=by
 refine ag (k:=0) fun k _=>(dC.aa k _).trans ?_
 show dC.p _=_
 unfold dC.p
 have:([]:List UInt8).length+s.length<=bk:=cQ (by simpa using h)
 rw[if_pos this,List.nil_append]
theorem en {S O α:Type} {g:S->α->S} {fin:S->O}:∀ (xs:List α) (i:Nat) (s:S),aV (fun _ s x=>.inr (g s x)) fin i xs s=fin (xs.foldl g s)
 | [],_,_=>rfl
 | x::xs,i,s=>by simp only[aV,List.foldl_cons];exact en xs _ _
theorem AU {α:Type}:∀ (xs s:List α),xs.foldl (fun s x=>s++[x]) s=s++xs
 | [],s=>by simp
 | x::xs,s=>by rw[List.foldl_cons,AU];simp
abbrev gq:Type:=List (List UInt8)
def gp (ps:gq):Prop:=ps.length<=12/\∀ p ∈ ps,p.length=64
def uB:List UInt8:=((List.replicate 64 (0:UInt8)).set 0 0).set 1 64
theorem x9:uB.length=64:=by simp[uB]
theorem Bv (ps:gq) (h:gp ps):gF.ab (ps,())=some (ps,()):=by
 obtain ⟨h1,Y⟩:=h
 refine ag (k:=14) fun k hk=>(gF.aa k _).trans ?_
 have:=bc (B:=fun self v=>gF.B0 0 self (fun z=>gF.Q0 0 (ps,()) z) (ps,()) v) ps (fun (s:gq) (i:Int)=>(s,i)) (fun _ s x=>.inr (s++[x])) (fun s=>(s,())) (fun i s=>s.length=i) (by rw[ah];omega)
  (fun i hi s self hI=>by
   show gF.b0 _ _ _ _=_
   unfold gF.b0
   have aj:(i:Int) < (ps.length:Int):=by omega
   have hx:=Y ps[i] (List.getElem_mem hi)
   simp only[aj,decide_true,cond_true,Int.natCast_nonneg,if_true,Int.toNat_natCast,List.getElem?_eq_getElem hi,Option.bind_some]
   rw[qb _ (by omega)]
   have hc:s.length+[ps[i]].length<=bk:=cQ (by simp only[List.length_cons,List.length_nil];omega)
   simp only[Option.bind_some,hc,if_true])
  (fun i hi s s' hI hs=>by injection hs with hs;rw[<-hs];simp[hI]) (fun s self hI=>by
   show gF.b0 _ _ _ _=_
   unfold gF.b0
   simp only[Int.lt_irrefl,decide_false,cond_false]
   rfl) [] rfl k (by omega)
 rw[en,AU] at this
 exact this
end OT
set_option linter.unusedVariables false
set_option linter.unusedSimpArgs false
namespace OT
open Go
def pu (c:UInt8):Bool:=!decide ((c.toNat:Int) < 97)&&!decide ((122:Int) < (c.toNat:Int))
def w7 (s:List UInt8):Bool:=s.all pu&&decide (s.length<=8)
def ip (x:Row):Int:=if ci x.1 0 3&&(ci x.2.1 1 99&&ci x.2.2.1 0 999) then (if w7 x.2.2.2.1 then 0 else 5) else 3
theorem len8 (s:List UInt8):decide ((s.length:Int)<=8)=decide (s.length<=8):=by
 by_cases h:s.length<=8
 ·have:(s.length:Int)<=8:=by omega
  simp[h,this]
 ·have:¬ (s.length:Int)<=8:=by omega
  simp[h,this]
theorem EA (s:List UInt8) (h:s.length<=maxLen):fw.ab (s,())=some (w7 s,()):=by
 refine ag (k:=s.length+1) fun k hk=>(fw.aa k _).trans ?_
 have:=bc (B:=fun self v=>fw.B0 0 self (fun z=>fw.Q0 0 (s,()) z) (s,()) v) s (fun (_:Unit) (i:Int)=>i) (fun _ _ x=>if pu x then .inr () else .inl (false,())) (fun _=>(decide (s.length<=8),())) (fun _ _=>True) h
  (fun i hi _ self _=>by
   show fw.b0 _ _ _ _=_
   unfold fw.b0
   have aj:(i:Int) < (s.length:Int):=by omega
   simp only[aj,decide_true,cond_true,Int.natCast_nonneg,if_true,Int.toNat_natCast,List.getElem?_eq_getElem hi,Option.bind_some]
   unfold pu
   by_cases h1:((s[i].toNat:Int) < 97) <;> by_cases Y:((122:Int) < (s[i].toNat:Int)) <;> simp[h1,Y]) (fun _ _ _ _ _ _=>trivial) (fun _ self _=>by
   show fw.b0 _ _ _ _=_
   unfold fw.b0
   simp[fw.Q0,fw.q0,len8]) () trivial k (by omega)
 refine this.trans ?_
 rw[ls pu (false,()) (fun _=>(decide (s.length<=8),()))]
 unfold w7
 cases s.all pu <;> rfl
theorem qX (x:Row) (h:List.length x.2.2.2.1<=maxLen):du.ab (x,())=some (ip x,()):=by
 refine ag (k:=0) fun k _=>(du.aa k _).trans ?_
 show du.p _=_
 unfold du.p ip ci
 simp only[gC,EA _ h,Option.bind_some]
 cases decide ((0:Int)<=x.1) <;> cases decide (x.1<=3) <;> cases decide ((1:Int)<=x.2.1) <;> cases decide (x.2.1<=99) <;> cases decide ((0:Int)<=x.2.2.1) <;> cases decide (x.2.2.1<=999) <;> cases w7 x.2.2.2.1 <;> rfl
theorem qY (x:Row) (h:List.length x.2.2.2.1<=maxLen):bv.ab (x,())=some (ip x,()):=by
 refine ag (k:=List.length x.2.2.2.1+1) fun k hk=>(bv.aa k _).trans ?_
 have:=bc (B:=fun self v=>bv.B0 0 self (fun z=>bv.Q0 0 (x,()) z) (x,()) v) x.2.2.2.1 (fun (_:Unit) (i:Int)=>i) (fun _ _ c=>if pu c then .inr () else .inl (5,())) (fun _=>(0,())) (fun _ _=>True) h
  (fun i hi _ self _=>by
   show bv.b0 _ _ _ _=_
   unfold bv.b0
   have aj:(i:Int) < (List.length x.2.2.2.1:Int):=by omega
   simp only[aj,decide_true,cond_true,Int.natCast_nonneg,if_true,Int.toNat_natCast,List.getElem?_eq_getElem hi,Option.bind_some]
   unfold pu
   by_cases h1:(((x.2.2.2.1)[i].toNat:Int) < 97) <;> by_cases Y:((122:Int) < ((x.2.2.2.1)[i].toNat:Int)) <;> simp[h1,Y]) (fun _ _ _ _ _ _=>trivial) (fun _ self _=>by
   show bv.b0 _ _ _ _=_
   unfold bv.b0
   simp[bv.Q0,bv.q0]) () trivial k (by omega)
 rw[ls pu (5,()) (fun _=>(0,()))] at this
 have this:bv.r0 k (x,()) 0=_:=this
 unfold bv.p ip ci w7
 simp only[kT,this,Option.bind_some]
 have h8:decide ((8:Int) < (List.length x.2.2.2.1:Int))=!decide (List.length x.2.2.2.1<=8):=by
  by_cases hc:List.length x.2.2.2.1<=8
  ·have:¬ (8:Int) < (List.length x.2.2.2.1:Int):=by omega
   simp[hc,this]
  ·have:(8:Int) < (List.length x.2.2.2.1:Int):=by omega
   simp[hc,this]
 rw[h8]
 cases decide ((0:Int)<=x.1) <;> cases decide (x.1<=3) <;> cases decide ((1:Int)<=x.2.1) <;> cases decide (x.2.1<=99) <;> cases decide ((0:Int)<=x.2.2.1) <;> cases decide (x.2.2.1<=999) <;> cases decide (List.length x.2.2.2.1<=8) <;> cases (x.2.2.2.1).all pu <;> rfl
def rl (x:Row):Prop:=List.length x.2.2.2.1<=maxLen
def cl (c:Change):Prop:=rl c.2.1/\rl c.2.2.2.1
def sameKey (a b:Row):Bool:=decide (a.1=b.1)&&decide (a.2.1=b.2.1)
def bS (a b:Int×Int):Bool:=decide (a.1 < b.1)||(decide (a.1=b.1)&&decide (a.2 < b.2))
def nc (c:Change):Int:=if (!c.1&&!c.2.2.1)||(c.1&&c.2.2.1&&!sameKey c.2.1 c.2.2.2.1) then 1 else if c.1&&!decide (ip c.2.1=0) then ip c.2.1 else if c.2.2.1 then ip c.2.2.2.1 else 0
def tw (c:Change):Int:=if nc c=0 then (if c.1&&c.2.2.1&&Ty.eq aF c.2.1 c.2.2.2.1 then 1 else 0) else nc c
def ck (c:Change):Int×Int:=if c.2.2.1 then (c.2.2.2.1.1,c.2.2.2.1.2.1) else (c.2.1.1,c.2.1.2.1)
theorem Bw (c:Change) (h:cl c):i7.ab (c,())=some (nc c,()):=by
 refine ag (k:=0) fun k _=>(i7.aa k _).trans ?_
 show i7.p _=_
 unfold i7.p nc sameKey
 simp only[qX _ h.1,qX _ h.2,Option.bind_some]
 cases c.1 <;> cases c.2.2.1 <;> by_cases h1:c.2.1.1=c.2.2.2.1.1 <;> by_cases Y:c.2.1.2.1=c.2.2.2.1.2.1 <;> by_cases h3:ip c.2.1=0 <;> simp[h1,Y,h3]
theorem qc (a b:Row):cG.ab (a,b,())=some (bS (a.1,a.2.1) (b.1,b.2.1),()):=by
 refine ag (k:=0) fun k _=>(cG.aa k _).trans ?_
 show cG.p _=_
 unfold cG.p bS
 by_cases h1:a.1 < b.1 <;> by_cases Y:a.1=b.1 <;> simp[h1,Y]
theorem uC (a b:Row):e_.ab (a,b,())=some (if bS (a.1,a.2.1) (b.1,b.2.1) then -1 else if bS (b.1,b.2.1) (a.1,a.2.1) then 1 else 0,()):=by
 refine ag (k:=0) fun k _=>(e_.aa k _).trans ?_
 show e_.p _=_
 unfold e_.p
 simp only[qc,Option.bind_some]
 cases bS (a.1,a.2.1) (b.1,b.2.1) <;> cases bS (b.1,b.2.1) (a.1,a.2.1) <;> rfl
theorem zn (a b:Row):decide ((if bS (a.1,a.2.1) (b.1,b.2.1) then (-1:Int) else if bS (b.1,b.2.1) (a.1,a.2.1) then 1 else 0)=0)=sameKey a b:=by
 unfold bS sameKey
 by_cases h1:a.1 < b.1
 ·have:¬ a.1=b.1:=by omega
  simp[h1,this]
 ·by_cases Y:a.1=b.1
  ·by_cases h3:a.2.1 < b.2.1
   ·have:¬ a.2.1=b.2.1:=by omega
    simp[Y,h3,this]
   ·by_cases h4:b.2.1 < a.2.1
    ·have:¬ a.2.1=b.2.1:=by omega
     simp[Y,h3,h4,this]
    ·have:a.2.1=b.2.1:=by omega
     simp[Y,this]
  ·have:b.1 < a.1:=by omega
   simp[h1,Y,this]
theorem vg (c:Change) (h:cl c):d9.ab (c,())=some (nc c,()):=by
 refine ag (k:=0) fun k _=>(d9.aa k _).trans ?_
 show d9.p _=_
 unfold d9.p nc
 simp only[qY _ h.1,qY _ h.2,uC,Option.bind_some,zn]
 cases c.1 <;> cases c.2.2.1 <;> cases sameKey c.2.1 c.2.2.2.1 <;> by_cases h3:ip c.2.1=0 <;> simp[h3]
theorem tz (c:Change) (h:cl c):fP.ab (c,())=some (tw c,()):=by
 refine ag (k:=0) fun k _=>(fP.aa k _).trans ?_
 show fP.p _=_
 unfold fP.p tw
 simp only[Bw c h,Option.bind_some]
 by_cases h1:nc c=0
 ·simp only[h1,decide_true,Bool.not_true,cond_false,if_true]
  cases c.1 <;> cases c.2.2.1 <;> cases Ty.eq aF c.2.1 c.2.2.2.1 <;> rfl
 ·simp[h1]
theorem AV (c:Change) (h:cl c):d_.ab (c,())=some (tw c,()):=by
 refine ag (k:=0) fun k _=>(d_.aa k _).trans ?_
 show d_.p _=_
 unfold d_.p tw
 simp only[vg c h,Option.bind_some]
 by_cases h1:nc c=0
 ·simp only[h1,decide_true,Bool.not_true,cond_false,if_true]
  cases c.1 <;> cases c.2.2.1 <;> cases Ty.eq aF c.2.1 c.2.2.2.1 <;> rfl
 ·simp[h1]
theorem uD (c:Change):fG.ab (c,())=some ((ck c).1,(ck c).2,()):=by
 refine ag (k:=0) fun k _=>(fG.aa k _).trans ?_
 show fG.p _=_
 unfold fG.p ck
 cases c.2.2.1 <;> rfl
def tA (c:Change):Row:=if c.2.2.1 then c.2.2.2.1 else c.2.1
theorem wj (c:Change):((tA c).1,(tA c).2.1)=ck c:=by unfold tA ck;cases c.2.2.1 <;> rfl
theorem qZ (c:Change):bW.ab (c,())=some (tA c,()):=by
 refine ag (k:=0) fun k _=>(bW.aa k _).trans ?_
 show bW.p _=_
 unfold bW.p tA
 cases c.2.2.1 <;> rfl
theorem w8 (n:Nat) (m:Nat):decide ((m:Int) < (n:Int))=decide (m < n):=by
 by_cases h:m < n
 ·have:(m:Int) < (n:Int):=by omega
  simp[h,this]
 ·have:¬ (m:Int) < (n:Int):=by omega
  simp[h,this]
theorem uE {i:Nat} (hi:0 < i) (h:i<=maxLen):ae ((i:Int) - 1)=((i - 1:Nat):Int):=by
 rw[ah] at h
 rw[aR (by omega)];omega
theorem Hn {x:Row} (h:ka aF x):rl x:=h.2.2.2.1
theorem Ho {c:Change} (h:ka an c):cl c:=⟨Hn h.2.1,Hn h.2.2.2.1⟩
end OT
set_option linter.unusedVariables false
set_option linter.unusedSimpArgs false
namespace OT
open Go
theorem bL {V S O α:Type} {B:(V->Option O)->V->Option O} (xs:List α) (enc:S->Int->V) (f:Nat->S->α->Sum (Option O) S) (fin:S->Option O) (I:Nat->S->Prop) (un:xs.length<=maxLen)
  (et:∀ (i:Nat) (hi:i < xs.length) (s:S) self,I i s->B self (enc s (i:Int))=match f i s xs[i] with | .inl o=>o | .inr s'=>self (enc s' (ae ((i:Int)+1))))
  (hI:∀ (i:Nat) (hi:i < xs.length) (s s':S),I i s->f i s xs[i]=.inr s'->I (i+1) s')
  (kA:∀ (s:S) self,I xs.length s->B self (enc s (xs.length:Int))=fin s) (s:S) (h0:I 0 s):∀ k,xs.length < k->al B k (enc s 0)=aV f fin 0 xs s:=by
 have main:∀ (m i:Nat) (s:S),xs.length - i=m->i<=xs.length->I i s->∀ k,m < k->al B k (enc s (i:Int))=aV f fin i (xs.drop i) s:=by
  intro m
  induction m with
  | zero=>
   intro i s hm hi hs k hk
   have eF:i=xs.length:=by omega
   subst eF
   cases k with
   | zero=>omega
   | succ k=>
    show B (al B k) _=_
    rw[kA s _ hs]
    simp[aV]
  | succ m ih=>
   intro i s hm hi hs k hk
   have aj:i < xs.length:=by omega
   cases k with
   | zero=>omega
   | succ k=>
    show B (al B k) _=_
    rw[et i aj s _ hs,List.drop_eq_getElem_cons aj]
    simp only[aV]
    cases hf:f i s xs[i] with
    | inl o=>rfl
    | inr s'=>
     have hw:ae ((i:Int)+1)=((i+1:Nat):Int):=by rw[aR (by rw[ah] at un;omega)];omega
     simp only[hw]
     exact ih (i+1) s' (by omega) (by omega) (hI i aj s s' hs hf) k (by omega)
 intro k hk
 simpa using main xs.length 0 s (by omega) (by omega) h0 k hk
theorem pT {O α:Type} (p:α->Bool) (a:O) (fin:Unit->O):∀ (xs:List α) (i:Nat),aV (fun _ _ x=>if p x then .inl a else .inr ()) fin i xs ()=if xs.any p then a else fin ()
 | [],_=>rfl
 | x::xs,i=>by
  simp only[aV,List.any_cons]
  by_cases h:p x=true
  ·simp[h]
  ·simp[h,pT p a fin xs (i+1)]
def oo {α:Type} (p:α->Bool):Nat->List α->Int
 | _,[]=>-1
 | i,x::xs=>if p x then (i:Int) else oo p (i+1) xs
theorem q9 {α:Type} (p:α->Bool):∀ (xs:List α) (i:Nat),aV (fun i _ x=>if p x then .inl ((i:Int),()) else .inr ()) (fun _=>((-1:Int),())) i xs ()=(oo p i xs,())
 | [],_=>rfl
 | x::xs,i=>by
  simp only[aV,oo]
  by_cases h:p x=true
  ·simp[h]
  ·simp[h,q9 p xs (i+1)]
theorem AW {α:Type} (p:α->Bool):∀ (xs:List α) (i:Nat),decide (0<=oo p i xs)=xs.any p
 | [],_=>rfl
 | x::xs,i=>by
  simp only[oo,List.any_cons]
  by_cases h:p x=true
  ·simp[h]
  ·simp[h,AW p xs (i+1)]
theorem uF (a b:Key):Ty.eq aL a b=decide (a=b):=by
 obtain ⟨a1,a2,⟨⟩⟩:=a
 obtain ⟨b1,b2,⟨⟩⟩:=b
 show (decide (a1=b1)&&(decide (a2=b2)&&true))=decide ((a1,a2,())=(b1,b2,()))
 by_cases h1:a1=b1 <;> by_cases Y:a2=b2 <;> simp[h1,Y]
def tB (c:Change):Key:=((ck c).1,(ck c).2,())
def dm (ks:List Key) (k:Key):Bool:=ks.any fun x=>decide (x=k)
theorem k9 {ks:List Key} {k:Key}:dm ks k=true↔k ∈ ks:=by simp[dm]
def qd (k:Key):Bool:=ci k.1 0 3&&ci k.2.1 1 99
theorem Dp (c:Change):i9.ab (c,())=some (tB c,()):=by
 refine ag (k:=0) fun k _=>(i9.aa k _).trans ?_
 show i9.p _=_
 unfold i9.p
 simp only[uD,Option.bind_some]
 rfl
theorem MY (c:Change):gA.ab (c,())=some (tB c,()):=by
 refine ag (k:=0) fun k _=>(gA.aa k _).trans ?_
 show gA.p _=_
 unfold gA.p tB
 simp only[qZ,Option.bind_some,<- wj]
theorem EB (x:Key):kQ.ab (x,())=some (qd x,()):=by
 refine ag (k:=0) fun k _=>(kQ.aa k _).trans ?_
 show kQ.p _=_
 unfold kQ.p qd ci
 simp only[gC,Option.bind_some]
 cases decide ((0:Int)<=x.1) <;> cases decide (x.1<=3) <;> rfl
theorem KM (x:Key):lD.ab (x.1,x.2.1,())=some (qd x,()):=by
 refine ag (k:=0) fun k _=>(lD.aa k _).trans ?_
 show lD.p _=_
 unfold lD.p qd ci
 simp only[kT,Option.bind_some]
 cases decide ((0:Int)<=x.1) <;> cases decide (x.1<=3) <;> rfl
theorem Dq (x:Tx) (k0:Key) (h:List.length x.2.2.2.1<=maxLen):dG.ab (x,k0,())=some (dm x.2.2.2.1 k0,()):=by
 refine ag (k:=List.length x.2.2.2.1+1) fun k hk=>(dG.aa k _).trans ?_
 have:=bc (B:=fun self v=>dG.B0 0 self (fun z=>dG.Q0 0 (x,k0,()) z) (x,k0,()) v) x.2.2.2.1 (fun (_:Unit) (i:Int)=>i) (fun _ _ y=>if decide (y=k0) then .inl (true,()) else .inr ()) (fun _=>(false,())) (fun _ _=>True) h
  (fun i hi s self _=>by
   show dG.b0 _ _ _ _=_
   unfold dG.b0
   have aj:(i:Int) < (List.length x.2.2.2.1:Int):=by omega
   simp only[aj,decide_true,cond_true,Int.natCast_nonneg,if_true,Int.toNat_natCast,List.getElem?_eq_getElem hi,Option.bind_some,uF]
   by_cases hh:(x.2.2.2.1)[i]=k0
   ·simp only[hh,decide_true,cond_true,if_true]
   ·simp only[hh,decide_false,cond_false,Bool.false_eq_true,if_false])
  (fun _ _ _ _ _ _=>trivial) (fun s self _=>by
   show dG.b0 _ _ _ _=_
   unfold dG.b0
   simp only[Int.lt_irrefl,decide_false,cond_false]
   rfl) () trivial k (by omega)
 rw[pT] at this
 refine Eq.trans this ?_
 unfold dm
 cases x.2.2.2.1.any (fun y=>decide (y=k0)) <;> rfl
theorem contains_eq (ks:List Key) (k0:Key) (h:ks.length<=maxLen):eh.ab (ks,k0,())=some (dm ks k0,()):=by
 have FB:dI.ab (ks,k0,())=some (oo (fun y=>decide (k0=y)) 0 ks,()):=by
  refine ag (k:=ks.length+1) fun k hk=>(dI.aa k _).trans ?_
  have:=bc (B:=fun self v=>dI.B0 0 self (fun z=>dI.Q0 0 (ks,k0,()) z) (ks,k0,()) v) ks (fun (_:Unit) (i:Int)=>i) (fun i _ y=>if decide (k0=y) then .inl ((i:Int),()) else .inr ()) (fun _=>((-1:Int),())) (fun _ _=>True) h
   (fun i hi s self _=>by
    show dI.b0 _ _ _ _=_
    unfold dI.b0
    have aj:(i:Int) < (ks.length:Int):=by omega
    simp only[aj,decide_true,cond_true,Int.natCast_nonneg,if_true,Int.toNat_natCast,List.getElem?_eq_getElem hi,Option.bind_some,uF]
    by_cases hh:k0=ks[i]
    ·simp only[<-hh,decide_true,cond_true,if_true]
    ·simp only[hh,decide_false,cond_false,Bool.false_eq_true,if_false])
   (fun _ _ _ _ _ _=>trivial) (fun s self _=>by
    show dI.b0 _ _ _ _=_
    unfold dI.b0
    simp only[Int.lt_irrefl,decide_false,cond_false]
    rfl) () trivial k (by omega)
  rw[q9] at this
  exact this
 refine ag (k:=0) fun k _=>(eh.aa k _).trans ?_
 show eh.p _=_
 unfold eh.p
 rw[FB]
 simp only[Option.bind_some,AW]
 congr 2
 unfold dm
 congr 1
 funext y
 by_cases hh:k0=y
 ·simp[hh]
 ·have:¬ y=k0:=fun e=>hh e.symm
  simp[hh,this]
def tl (x:Tx):Prop:=List.length x.2.1<=1048576/\List.length x.2.2.1<=1048576/\List.length x.2.2.2.1<=1048576/\∀ c ∈ x.2.1,cl c
def qe (ks:List Key) (c:Change):Int:=if tw c=0 then (if dm ks (tB c) then 0 else 8) else tw c
def zo (n last:Int) (ms:List Int):Bool:=aV (fun _ last m=>if ci m last n then .inr m else .inl false) (fun _=>true) 0 ms last
def kE (ks:List Key) (i:Nat) (k:Key):Int:=if qd k then (if dm (ks.take i) k then 6 else 0) else 3
def pv (ks:List Key):Int:=aV (fun i (_:Unit) k=>if kE ks i k=0 then .inr () else .inl (kE ks i k)) (fun _=>(0:Int)) 0 ks ()
def mQ (x:Tx):Int:=if decide (8 < List.length x.2.2.1)||decide (12 < List.length x.2.2.2.1) then 2 else if zo (List.length x.2.1:Int) 0 x.2.2.1 then pv x.2.2.2.1 else 3
def sG (x:Tx):Int:=gM (qe x.2.2.2.1) x.2.1
theorem Dr (n:Int) (E:Option (Int×Unit)):∀ (ms:List Int) (i:Nat) (last:Int),aV (fun _ last m=>if ci m last n then .inr m else .inl (some ((3:Int),()))) (fun _=>E) i ms last=if aV (fun _ last m=>if ci m last n then .inr m else .inl false) (fun _=>true) i ms last then E else some ((3:Int),())
 | [],_,_=>rfl
 | m::ms,i,last=>by
  simp only[aV]
  by_cases hb:ci m last n=true
  ·simp only[hb,if_true];exact Dr n E ms _ _
  ·simp[hb]
theorem EC (x:Tx) (h:tl x):fQ.ab (x,())=some (sG x,()):=by
 obtain ⟨h1,Y,h3,h4⟩:=h
 refine ag (k:=List.length x.2.1+1) fun k hk=>(fQ.aa k _).trans ?_
 have:=bc (B:=fun self v=>fQ.B0 0 self (fun z=>fQ.Q0 0 (x,()) z) (x,()) v) x.2.1 (fun (_:Unit) (i:Int)=>i) (fun _ _ c=>if qe x.2.2.2.1 c=0 then .inr () else .inl (qe x.2.2.2.1 c,())) (fun _=>(0,())) (fun _ _=>True) (by rw[ah];omega)
  (fun i hi s self _=>by
   show fQ.b0 _ _ _ _=_
   unfold fQ.b0
   have aj:(i:Int) < (List.length x.2.1:Int):=by omega
   simp only[aj,decide_true,cond_true,Int.natCast_nonneg,if_true,Int.toNat_natCast,List.getElem?_eq_getElem hi,Option.bind_some,tz _ (h4 _ (List.getElem_mem hi)),Dp]
   rw[Dq x _ (by rw[ah];omega)]
   unfold qe
   by_cases hc:tw (x.2.1)[i]=0
   ·simp only[hc,decide_true,Bool.not_true,cond_false,if_true,Option.bind_some]
    cases dm x.2.2.2.1 (tB (x.2.1)[i]) <;> rfl
   ·simp only[hc,decide_false,Bool.not_false,cond_true,if_false])
  (fun _ _ _ _ _ _=>trivial) (fun s self _=>by
   show fQ.b0 _ _ _ _=_
   unfold fQ.b0
   simp only[Int.lt_irrefl,decide_false,cond_false]
   rfl) () trivial k (by omega)
 rw[nM (qe x.2.2.2.1) (fun c=>(c,())) (fun _=>((0:Int),()))] at this
 refine Eq.trans this ?_
 unfold sG
 split
 ·rename_i h0;rw[h0]
 ·rfl
theorem KN {m last n:Int} (h:0<=last):(ci m 0 n&&decide (last<=m))=ci m last n:=by
 unfold ci
 by_cases h1:last<=m
 ·have:(0:Int)<=m:=by omega
  simp[h1,this]
 ·simp[h1]
theorem Ds (x:Tx) (h:tl x):bb.ab (x,())=some (mQ x,()):=by
 obtain ⟨h1,Y,h3,h4⟩:=h
 refine ag (k:=20) fun k hk=>(bb.aa k _).trans ?_
 unfold bb.p mQ
 by_cases hm:8 < List.length x.2.2.1
 ·have:(8:Int) < (List.length x.2.2.1:Int):=by omega
  simp only[this,hm,decide_true,cond_true,Bool.true_or,if_true]
  (try rfl)
 have xn:¬ (8:Int) < (List.length x.2.2.1:Int):=by omega
 by_cases gH:12 < List.length x.2.2.2.1
 ·have:(12:Int) < (List.length x.2.2.2.1:Int):=by omega
  simp only[this,hm,xn,gH,decide_true,decide_false,cond_true,cond_false,Bool.false_or,if_true]
  (try rfl)
 have tn:¬ (12:Int) < (List.length x.2.2.2.1:Int):=by omega
 simp only[hm,xn,tn,gH,decide_false,cond_false,Bool.or_self,Bool.false_eq_true,if_false]
 have second:bb.r1 k (x,()) (x,(0:Int))=some (pv x.2.2.2.1,()):=by
  have inner:∀ (self:(Tx×Int)->Option bb.Out) (e2:Unit->Option bb.Out) (i:Nat) (hi:i < List.length x.2.2.2.1),bb.r2 k self e2 (x,()) x (i:Int) (0:Int)=if dm (x.2.2.2.1.take i) (x.2.2.2.1)[i] then some ((6:Int),()) else self (x,ae ((i:Int)+1)):=fun self e2 i hi=>by
   have eu:(x.2.2.2.1.take i).length=i:=by simp;omega
   have:=bL (B:=fun cw v=>bb.B2 k cw (fun z=>bb.Q1 k self e2 (x,()) x (i:Int) z) (x,()) x (i:Int) v) (x.2.2.2.1.take i) (fun (_:Unit) (j:Int)=>j) (fun _ _ y=>if decide (y=(x.2.2.2.1)[i]) then .inl (some ((6:Int),())) else .inr ()) (fun _=>self (x,ae ((i:Int)+1))) (fun _ _=>True) (by rw[ah];omega)
    (fun j hj s cw _=>by
     show bb.b2 _ _ _ _ _ _=_
     unfold bb.b2
     rw[eu] at hj
     have aj:(j:Int) < (i:Int):=by omega
     have FG:j < List.length x.2.2.2.1:=by omega
     simp only[aj,decide_true,cond_true,Int.natCast_nonneg,if_true,Int.toNat_natCast,List.getElem?_eq_getElem FG,List.getElem?_eq_getElem hi,Option.bind_some,uF,List.getElem_take]
     by_cases hh:(x.2.2.2.1)[j]=(x.2.2.2.1)[i]
     ·simp only[hh,decide_true,cond_true,if_true]
     ·simp only[hh,decide_false,cond_false,Bool.false_eq_true,if_false])
    (fun _ _ _ _ _ _=>trivial) (fun s cw _=>by
     show bb.b2 _ _ _ _ _ _=_
     unfold bb.b2
     simp only[eu,Int.lt_irrefl,decide_false,cond_false]
     rfl) () trivial k (by omega)
   rw[pT] at this
   exact this
  have:=bc (B:=fun self v=>bb.B1 k self (fun z=>bb.Q2 k (x,()) z) (x,()) v) x.2.2.2.1 (fun (_:Unit) (i:Int)=>(x,i)) (fun i _ y=>if kE x.2.2.2.1 i y=0 then .inr () else .inl (kE x.2.2.2.1 i y,())) (fun _=>(0,())) (fun _ _=>True) (by rw[ah];omega)
   (fun i hi s self _=>by
    show bb.b1 _ _ _ _ _=_
    unfold bb.b1 kE
    have aj:(i:Int) < (List.length x.2.2.2.1:Int):=by omega
    simp only[aj,decide_true,cond_true,Int.natCast_nonneg,if_true,Int.toNat_natCast,List.getElem?_eq_getElem hi,Option.bind_some,EB]
    rw[inner self _ i hi]
    cases qd (x.2.2.2.1)[i] <;> cases dm (x.2.2.2.1.take i) (x.2.2.2.1)[i] <;> rfl)
   (fun _ _ _ _ _ _=>trivial) (fun s self _=>by
    show bb.b1 _ _ _ _ _=_
    unfold bb.b1
    simp only[Int.lt_irrefl,decide_false,cond_false]
    rfl) () trivial k (by omega)
  refine Eq.trans this ?_
  unfold pv
  generalize Mg:x.2.2.2.1=ks
  have gen:∀ (f:Nat->Key->Int) (ys:List Key) (i:Nat),aV (fun i (_:Unit) y=>if f i y=0 then .inr () else .inl (f i y,())) (fun _=>((0:Int),())) i ys ()=(aV (fun i (_:Unit) y=>if f i y=0 then .inr () else .inl (f i y)) (fun _=>(0:Int)) i ys (),()):=by
   intro f ys
   induction ys with
   | nil=>intro i;rfl
   | cons y ys ih=>intro i;simp only[aV];by_cases h0:f i y=0 <;> simp[h0,ih]
  rw[gen (kE ks)]
 have:=bL (B:=fun self v=>bb.B0 k self (fun z=>bb.Q0 k (x,()) z) (x,()) v) x.2.2.1 (fun (_:Int) (i:Int)=>i) (fun i last m=>if ci m last (List.length x.2.1:Int) then .inr m else .inl (some ((3:Int),()))) (fun _=>some (pv x.2.2.2.1,()))
  (fun i last=>0<=last/\(i=0->last=0)/\∀ y,0 < i->x.2.2.1[i - 1]?=some y->last=y) (by rw[ah];omega)
  (fun i hi last self hI=>by
   obtain ⟨i1,i2,i3⟩:=hI
   show bb.b0 _ _ _ _=_
   unfold bb.b0
   have aj:(i:Int) < (List.length x.2.2.1:Int):=by omega
   simp only[aj,decide_true,cond_true,Int.natCast_nonneg,if_true,Int.toNat_natCast,List.getElem?_eq_getElem hi,Option.bind_some,gC]
   generalize Oc:(x.2.2.1)[i]=m
   rw[<-KN i1]
   show (bif !ci m 0 (List.length x.2.1:Int) then _ else _)=_
   cases Cn:ci m 0 (List.length x.2.1:Int) with
   | false=>rfl
   | true=>
    have wh:0<=m:=by
     simp only[ci,Bool.and_eq_true,decide_eq_true_eq] at Cn
     exact Cn.1
    simp only[Bool.not_true,cond_false,Bool.true_and]
    by_cases h0:i=0
    ·subst h0
     have:=i2 rfl
     subst this
     have hz:¬ (0:Int) < ((0:Nat):Int):=by omega
     simp only[hz,wh,decide_true,decide_false,cond_false,if_true]
    ·have zp:i - 1 < List.length x.2.2.1:=by omega
     have hl:=i3 (x.2.2.1)[i - 1] (by omega) (List.getElem?_eq_getElem zp)
     have hp:(0:Int) < (i:Int):=by omega
     simp only[hp,decide_true,cond_true,uE (show 0 < i by omega) (by rw[ah];omega),Int.natCast_nonneg,if_true,Int.toNat_natCast,List.getElem?_eq_getElem zp,Option.bind_some]
     rw[<-hl]
     by_cases hc:last<=m
     ·have:¬ m < last:=by omega
      simp only[hc,this,decide_true,decide_false,cond_false,if_true]
     ·have:m < last:=by omega
      simp only[hc,this,decide_true,decide_false,cond_true,Bool.false_eq_true,if_false])
  (fun i hi last TW hI hs=>by
   split at hs
   ·rename_i hb
    injection hs with hs
    subst hs
    simp only[ci,Bool.and_eq_true,decide_eq_true_eq] at hb
    refine ⟨by omega,fun e=>by omega,fun y _ hy=>?_⟩
    rw[Nat.add_sub_cancel,List.getElem?_eq_getElem hi] at hy
    injection hy
   ·cases hs)
  (fun last self hI=>by
   show bb.b0 _ _ _ _=_
   unfold bb.b0
   simp only[Int.lt_irrefl,decide_false,cond_false]
   exact second) 0 ⟨Int.le_refl _,fun _=>rfl,fun _ h=>by omega⟩ k (by omega)
 refine Eq.trans this ?_
 unfold zo
 rw[Dr]
 cases aV (fun _ last m=>if ci m last (List.length x.2.1:Int) then .inr m else .inl false) (fun _=>true) 0 x.2.2.1 0 <;> rfl
end OT
set_option linter.unusedVariables false
set_option linter.unusedSimpArgs false
namespace OT
open Go
def pb (D:List UInt8) (i:Nat):Nat:=(D.getD i 0).toNat
theorem gK (D:List UInt8) (i:Nat):pb D i < 256:=UInt8.toNat_lt _
theorem ed {D:List UInt8} {i:Nat} (h:i < D.length):D[i]?=some D[i]/\(D[i]).toNat=pb D i:=⟨List.getElem?_eq_getElem h,by simp[pb,h]⟩
theorem Jj {A B:List UInt8} (h:A.length=B.length) (Y:∀ j,j < A.length->pb A j=pb B j):A=B:=by
 refine List.ext_getElem h fun i h1 h3=>?_
 have:=Y i h1
 rw[<-(ed h1).2,<- (ed h3).2] at this
 exact UInt8.toNat_inj.1 this
theorem KO (D:List UInt8) (a n j:Nat) (h:j < n):pb ((D.drop a).take n) j=pb D (a+j):=by
 unfold pb
 simp only[List.getD_eq_getElem?_getD,List.getElem?_take,h,if_true,List.getElem?_drop]
def pn (p:List UInt8):Nat:=pb p 0
def gD (p:List UInt8):Nat:=pb p 1
def pat (p:List UInt8) (i:Nat):Nat:=pb p (2+2*i)
def aP (p:List UInt8) (i:Nat):Nat:=pb p (3+2*i)
def oy (p:List UInt8) (i:Nat):Bool:=if pat p i=0\/aP p i=0 then decide (pat p i=aP p i) else decide (gD p<=pat p i)&&decide (pat p i+aP p i<=64)
def k_ (p:List UInt8) (i k:Nat):Bool:=(decide (aP p i=0)||decide (aP p k=0))||(decide (pat p i+aP p i<=pat p k)||decide (pat p k+aP p k<=pat p i))
def pw (p:List UInt8):Int:=
 if p.length=64 then
  if pn p<=16/\2+2*pn p<=gD p/\gD p<=64 then
   if (List.range (pn p)).all (oy p) then
    if (List.range (pn p)).all (fun i=>(List.range i).all (k_ p i)) then
     if 0 < pn p/\aP p (pn p - 1)=0 then 8 else 0
    else 8
   else 3
  else 3
 else 1
structure lG (p:List UInt8):Prop where
 len:p.length=64
 n:pn p<=16
 lo:2+2*pn p<=gD p
 hi:gD p<=64
 slot:∀ i,i < pn p->aP p i≠0->gD p<=pat p i/\pat p i+aP p i<=64
 zero:∀ i,i < pn p->aP p i=0->pat p i=0
 apart:∀ i k,i < pn p->k < pn p->i≠k->aP p i≠0->aP p k≠0->pat p i+aP p i<=pat p k\/pat p k+aP p k<=pat p i
 last:0 < pn p->aP p (pn p - 1)≠0
theorem wk {p:List UInt8} {i:Nat} (tm:2<=gD p):oy p i=true↔(aP p i≠0->gD p<=pat p i/\pat p i+aP p i<=64)/\(aP p i=0->pat p i=0):=by
 unfold oy
 by_cases h1:aP p i=0
 ·simp[h1]
 ·by_cases Y:pat p i=0
  ·simp[h1,Y]
   omega
  ·simp[h1,Y]
theorem q_ {p:List UInt8} {i k:Nat}:k_ p i k=true↔(aP p i≠0->aP p k≠0->pat p i+aP p i<=pat p k\/pat p k+aP p k<=pat p i):=by
 unfold k_
 by_cases h1:aP p i=0
 ·simp[h1]
 ·by_cases Y:aP p k=0
  ·simp[Y]
  ·simp[h1,Y]
theorem wl {p:List UInt8}:pw p=0↔lG p:=by
 constructor
 ·intro h
  unfold pw at h
  split at h
  ·rename_i h1
   split at h
   ·rename_i Y
    split at h
    ·rename_i h3
     split at h
     ·rename_i h4
      split at h
      ·cases h
      ·rename_i h5
       have hs:∀ i,i < pn p->(aP p i≠0->gD p<=pat p i/\pat p i+aP p i<=64)/\(aP p i=0->pat p i=0):=fun i hi=>(wk (by omega)).1 (List.all_eq_true.1 h3 i (List.mem_range.2 hi))
       have ha:∀ i k,i < pn p->k < i->aP p i≠0->aP p k≠0->pat p i+aP p i<=pat p k\/pat p k+aP p k<=pat p i:=fun i k hi hk=>q_.1 (List.all_eq_true.1 (List.all_eq_true.1 h4 i (List.mem_range.2 hi)) k (List.mem_range.2 hk))
       refine ⟨h1,Y.1,Y.2.1,Y.2.2,fun i hi=>(hs i hi).1,fun i hi=>(hs i hi).2,fun i k hi hk Mh z1 z2=>?_,fun hn hz=>h5 ⟨hn,hz⟩⟩
       rcases Nat.lt_or_gt_of_ne Mh with h6 | h6
       ·exact (ha k i hk h6 z2 z1).symm
       ·exact ha i k hi h6 z1 z2
     ·cases h
    ·cases h
   ·cases h
  ·cases h
 ·intro h
  unfold pw
  rw[if_pos h.len,if_pos ⟨h.n,h.lo,h.hi⟩,if_pos,if_pos,if_neg]
  ·intro ⟨h1,Y⟩
   exact h.last h1 Y
  ·refine List.all_eq_true.2 fun i hi=>List.all_eq_true.2 fun k hk=>q_.2 ?_
   have:=List.mem_range.1 hi
   have:=List.mem_range.1 hk
   exact h.apart i k (by omega) (by omega) (by omega)
  ·exact List.all_eq_true.2 fun i hi=>(wk (by have:=h.lo;omega)).2 ⟨h.slot i (List.mem_range.1 hi),h.zero i (List.mem_range.1 hi)⟩
def ey (p:List UInt8) (i:Nat):List UInt8:=(p.drop (pat p i)).take (aP p i)
def cellOf (p:List UInt8) (i:Nat):List UInt8:=if i < pn p then ey p i else []
theorem sH {p:List UInt8} (h:lG p) {i:Nat} (hi:i < pn p):(ey p i).length=aP p i:=by
 unfold ey
 by_cases hz:aP p i=0
 ·simp[hz]
 ·have:=h.slot i hi hz
  have:=h.len
  simp only[List.length_take,List.length_drop]
  omega
theorem x_ (p:List UInt8) (i j:Nat) (h:j < aP p i):pb (ey p i) j=pb p (pat p i+j):=KO p _ _ j h
theorem KP {p q:List UInt8} {i k:Nat} (hp:(ey p i).length=aP p i) (hq:(ey q k).length=aP q k) (hs:aP p i=aP q k) (hb:∀ j,j < aP p i->pb p (pat p i+j)=pb q (pat q k+j)):ey p i=ey q k:=by
 refine Jj (by omega) fun j hj=>?_
 rw[x_ p i j (by omega),x_ q k j (by omega)]
 exact hb j (by omega)
theorem KQ {p c:List UInt8} {i:Nat} (hp:(ey p i).length=aP p i) (hs:aP p i=c.length) (hb:∀ j,j < c.length->pb p (pat p i+j)=pb c j):ey p i=c:=by
 refine Jj (by omega) fun j hj=>?_
 rw[x_ p i j (by omega)]
 exact hb j (by omega)
def TX (p:List UInt8) (s a:Nat) (c:List UInt8):List UInt8:=((lN p a c.length c).set (2+2*s) (UInt8.ofNat a)).set (3+2*s) (UInt8.ofNat c.length)
structure qs (p q:List UInt8) (s a m:Nat):Prop where
 len:q.length=64
 n:pn q=pn p\/(pn q=pn p+1/\s=pn p)
 Oz:s < pn q
 n16:pn q<=16
 lo:2+2*pn q<=gD q
 Tw:gD q<=gD p
 at_:pat q s=a
 sz:aP q s=m
 pos:0 < m
 Ry:gD q<=a
 Rz:a+m<=64
 Dt:∀ i,i < pn q->i≠s->pat q i=pat p i/\aP q i=aP p i
 free:∀ i,i < pn p->i≠s->aP p i≠0->a+m<=pat p i\/pat p i+aP p i<=a
 same:∀ j,gD p<=j->j < 64->(j < a\/a+m<=j)->pb q j=pb p j
theorem qs.ok {p q:List UInt8} {s a m:Nat} (t:qs p q s a m) (h:lG p):lG q:=by
 have aj:∀ i,i < pn q->i≠s->i < pn p:=fun i hi hs=>by rcases t.n with h1 | ⟨h1,Y⟩ <;> omega
 have ha:=t.at_
 have hm:=t.sz
 have Ad:=t.pos
 have tm:=t.Ry
 have NB:=t.Rz
 have T8:=t.Tw
 have hh:=h.hi
 refine ⟨t.len,t.n16,t.lo,by omega,fun i hi hz=>?_,fun i hi hz=>?_,fun i k hi hk Mh z1 z2=>?_,fun hn=>?_⟩
 ·by_cases hs:i=s
  ·subst hs;omega
  ·obtain ⟨h1,Y⟩:=t.Dt i hi hs
   have:=h.slot i (aj i hi hs) (by omega)
   omega
 ·by_cases hs:i=s
  ·subst hs;omega
  ·obtain ⟨h1,Y⟩:=t.Dt i hi hs
   have:=h.zero i (aj i hi hs) (by omega)
   omega
 ·by_cases hs:i=s
  ·subst hs
   have Mg:k≠i:=fun e=>Mh e.symm
   obtain ⟨h1,Y⟩:=t.Dt k hk Mg
   have:=t.free k (aj k hk Mg) Mg (by omega)
   omega
  ·obtain ⟨h1,Y⟩:=t.Dt i hi hs
   by_cases nW:k=s
   ·subst nW
    have:=t.free i (aj i hi hs) hs (by omega)
    omega
   ·obtain ⟨h3,h4⟩:=t.Dt k hk nW
    have:=h.apart i k (aj i hi hs) (aj k hk nW) Mh (by omega) (by omega)
    omega
 ·by_cases hs:pn q - 1=s
  ·rw[hs];omega
  ·obtain ⟨h1,Y⟩:=t.Dt (pn q - 1) (by omega) hs
   have hq:pn q=pn p:=by
    rcases t.n with h3 | ⟨h3,h4⟩
    ·exact h3
    ·omega
   rw[Y,hq]
   exact h.last (by omega)
theorem qs.Hq {p q:List UInt8} {s a m:Nat} (t:qs p q s a m) (h:lG p) {i:Nat} (hi:i < pn q) (hs:i≠s):ey q i=ey p i:=by
 have xk:i < pn p:=by rcases t.n with h1 | ⟨h1,Y⟩ <;> omega
 obtain ⟨h1,Y⟩:=t.Dt i hi hs
 refine KP (sH (t.ok h) hi) (sH h xk) Y fun j hj=>?_
 have hz:aP p i≠0:=by omega
 have h3:=h.slot i xk hz
 have h4:=t.free i xk hs hz
 rw[h1]
 exact t.same _ (by omega) (by omega) (by omega)
theorem qs.Jk {p q:List UInt8} {s a:Nat} {c:List UInt8} (t:qs p q s a c.length) (h:lG p) (hc:∀ j,j < c.length->pb q (a+j)=pb c j):ey q s=c:=
 KQ (sH (t.ok h) t.Oz) t.sz fun j hj=>by rw[t.at_];exact hc j hj
theorem qs.cells {p q:List UInt8} {s a:Nat} {c:List UInt8} (t:qs p q s a c.length) (h:lG p) (hc:∀ j,j < c.length->pb q (a+j)=pb c j) (i:Nat):cellOf q i=if i=s then c else cellOf p i:=by
 have hs:=t.Oz
 unfold cellOf
 by_cases vd:i=s
 ·subst vd
  rw[if_pos hs,if_pos rfl,t.Jk h hc]
 ·rw[if_neg vd]
  by_cases hi:i < pn q
  ·have xk:i < pn p:=by rcases t.n with h1 | ⟨h1,Y⟩ <;> omega
   rw[if_pos hi,if_pos xk,t.Hq h hi vd]
  ·have xk:¬ i < pn p:=by rcases t.n with h1 | ⟨h1,Y⟩ <;> omega
   rw[if_neg hi,if_neg xk]
end OT
set_option linter.unusedVariables false
set_option linter.unusedSimpArgs false
namespace OT
open Go
def Hr (p:List UInt8):Nat->Nat
 | 0=>0
 | m+1=>Hr p m+aP p m
def n8 (p:List UInt8):Nat->Nat->Bool
 | 0,_=>false
 | k+1,j=>n8 p k j||decide (pat p k<=j/\j < pat p k+aP p k)
structure TY (p:List UInt8) (k:Nat) (o:List UInt8) (a:Nat):Prop where
 len:o.length=64
 n:pb o 0=pn p
 a:a=64 - Hr p k
 sz:∀ i,i < pn p->aP o i=aP p i
 Un:∀ i,i < pn p->(k<=i\/aP p i=0)->pat o i=pat p i
 new:∀ i,i < k->aP p i≠0->pat o i=64 - Hr p (i+1)/\∀ j,j < aP p i->pb o (64 - Hr p (i+1)+j)=pb p (pat p i+j)
end OT
set_option linter.unusedVariables false
set_option linter.unusedSimpArgs false
namespace OT
open Go
theorem OA {i:Nat} (h:i < 1000):ae ((3:Int)+ae ((2:Int)*(i:Int)))=((3+2*i:Nat):Int):=by
 rw[aR (n:=(2:Int)*(i:Int)) (by omega),aR (by omega)];omega
theorem Mi {i:Nat} (h:i < 1000):ae ((2:Int)+ae ((2:Int)*(i:Int)))=((2+2*i:Nat):Int):=by
 rw[aR (n:=(2:Int)*(i:Int)) (by omega),aR (by omega)];omega
theorem vh (p:List UInt8) (i:Nat):ae ((pb p i:Nat):Int)=((pb p i:Nat):Int):=by
 have:=gK p i
 exact aR (by omega)
theorem dM {R:Type} {p:List UInt8} {i:Nat} (h:i < p.length) (K:UInt8->Option R):(p[i]?).bind K=K p[i]:=by rw[(ed h).1];rfl
section
variable {p:List UInt8} (hp:p.length=64)
include hp
theorem oY:dr.ab (p,())=some ((pn p:Int),()):=by
 refine ag (k:=0) fun k _=>(dr.aa k _).trans ?_
 show dr.p _=_
 unfold dr.p
 simp only[dM (show 0 < p.length by omega),(ed (show 0 < p.length by omega)).2,vh]
 rfl
theorem sI:eL.ab (p,())=some ((pn p:Int),()):=by
 refine ag (k:=0) fun k _=>(eL.aa k _).trans ?_
 show eL.p _=_
 unfold eL.p
 simp only[dM (show 0 < p.length by omega),(ed (show 0 < p.length by omega)).2,vh]
 rfl
theorem FL:hK.ab (p,())=some ((gD p:Int),()):=by
 refine ag (k:=0) fun k _=>(hK.aa k _).trans ?_
 show hK.p _=_
 unfold hK.p
 simp only[dM (show 1 < p.length by omega),(ed (show 1 < p.length by omega)).2,vh]
 rfl
theorem nB {i:Nat} (hi:i < 16):bE.ab (p,(i:Int),())=some ((aP p i:Int),()):=by
 refine ag (k:=0) fun k _=>(bE.aa k _).trans ?_
 show bE.p _=_
 unfold bE.p
 simp only[OA (show i < 1000 by omega),Int.natCast_nonneg,if_true,Int.toNat_natCast,dM (show 3+2*i < p.length by omega),(ed (show 3+2*i < p.length by omega)).2,vh]
 rfl
theorem sJ {i:Nat} (hi:i < 16):dt.ab (p,(i:Int),())=some ((pat p i:Int),()):=by
 refine ag (k:=0) fun k _=>(dt.aa k _).trans ?_
 show dt.p _=_
 unfold dt.p
 simp only[Mi (show i < 1000 by omega),Int.natCast_nonneg,if_true,Int.toNat_natCast,dM (show 2+2*i < p.length by omega),(ed (show 2+2*i < p.length by omega)).2,vh]
 rfl
theorem ya {i:Nat} (hi:i < 16):jf.ab (p,(i:Int),())=some ((pat p i:Int),(aP p i:Int),()):=by
 refine ag (k:=0) fun k _=>(jf.aa k _).trans ?_
 show jf.p _=_
 unfold jf.p
 simp only[Mi (show i < 1000 by omega),OA (show i < 1000 by omega),Int.natCast_nonneg,if_true,Int.toNat_natCast,dM (show 2+2*i < p.length by omega),(ed (show 2+2*i < p.length by omega)).2,dM (show 3+2*i < p.length by omega),(ed (show 3+2*i < p.length by omega)).2,vh]
 rfl
theorem KR {i:Nat} (hi:i < 16):kP.ab (p,(i:Int),())=some (oy p i,()):=by
 refine ag (k:=0) fun k _=>(kP.aa k _).trans ?_
 show kP.p _=_
 unfold kP.p oy
 have h1:=gK p (2+2*i)
 have Y:=gK p (3+2*i)
 have hw:ae ((pat p i:Int)+(aP p i:Int))=((pat p i+aP p i:Nat):Int):=by
  have:pat p i < 256:=h1
  have:aP p i < 256:=Y
  rw[aR (by omega)];omega
 simp only[sJ hp hi,nB hp hi,FL hp,Option.bind_some,hw]
 have e1:decide ((pat p i:Int)=0)=decide (pat p i=0):=by rw[decide_eq_decide];omega
 have e2:decide ((aP p i:Int)=0)=decide (aP p i=0):=by rw[decide_eq_decide];omega
 have e3:decide ((pat p i:Int)=(aP p i:Int))=decide (pat p i=aP p i):=by rw[decide_eq_decide];omega
 have e4:decide ((gD p:Int)<=(pat p i:Int))=decide (gD p<=pat p i):=by rw[decide_eq_decide];omega
 have e5:decide (((pat p i+aP p i:Nat):Int)<=64)=decide (pat p i+aP p i<=64):=by rw[decide_eq_decide];omega
 rw[e1,e2,e3,e4,e5]
 by_cases c1:pat p i=0
 ·simp[c1]
 ·by_cases c2:aP p i=0
  ·simp[c1,c2]
  ·simp only[c1,c2,decide_false,cond_false,or_self,if_false]
   cases decide (gD p<=pat p i) <;> rfl
theorem Jl {i j:Nat} (hi:i < 16) (hj:j < 16):jP.ab (p,(i:Int),(j:Int),())=some (k_ p i j,()):=by
 refine ag (k:=0) fun k _=>(jP.aa k _).trans ?_
 show jP.p _=_
 unfold jP.p k_
 have h1:pat p i < 256:=gK p _
 have Y:aP p i < 256:=gK p _
 have h3:pat p j < 256:=gK p _
 have h4:aP p j < 256:=gK p _
 have hw:ae ((pat p i:Int)+(aP p i:Int))=((pat p i+aP p i:Nat):Int):=by rw[aR (by omega)];omega
 have pj:ae ((pat p j:Int)+(aP p j:Int))=((pat p j+aP p j:Nat):Int):=by rw[aR (by omega)];omega
 simp only[sJ hp hi,nB hp hi,sJ hp hj,nB hp hj,Option.bind_some,hw,pj]
 have e1:decide ((aP p i:Int)=0)=decide (aP p i=0):=by rw[decide_eq_decide];omega
 have e2:decide ((aP p j:Int)=0)=decide (aP p j=0):=by rw[decide_eq_decide];omega
 have e3:decide (((pat p i+aP p i:Nat):Int)<=(pat p j:Int))=decide (pat p i+aP p i<=pat p j):=by rw[decide_eq_decide];omega
 have e4:decide (((pat p j+aP p j:Nat):Int)<=(pat p i:Int))=decide (pat p j+aP p j<=pat p i):=by rw[decide_eq_decide];omega
 rw[e1,e2,e3,e4]
 cases decide (aP p i=0) <;> cases decide (aP p j=0) <;> cases decide (pat p i+aP p i<=pat p j) <;> rfl
end
theorem mW {O:Type} (q:Nat->Bool) (bad e:O):∀ (xs:List Nat) (i:Nat),aV (fun _ (_:Unit) x=>if q x then .inr () else .inl bad) (fun _=>e) i xs ()=if xs.all q then e else bad:=fun xs i=>ls q bad (fun _=>e) xs i
theorem ED (p:List UInt8) (hl:p.length<=maxLen):aW.ab (p,())=some (pw p,()):=by
 refine ag (k:=100) fun k hk=>(aW.aa k _).trans ?_
 unfold aW.p pw
 have e0:decide ((p.length:Int)=64)=decide (p.length=64):=by rw[decide_eq_decide];omega
 rw[e0]
 by_cases hp:p.length=64
 rotate_left
 ·simp only[hp,decide_false,Bool.not_false,cond_true,if_false]
 have hn:pn p < 256:=gK p 0
 have tm:gD p < 256:=gK p 1
 have hw:ae ((2:Int)+ae ((2:Int)*(pn p:Int)))=((2+2*pn p:Nat):Int):=Mi (by omega)
 simp only[hp,decide_true,Bool.not_true,cond_false,oY hp,FL hp,Option.bind_some,hw,if_true]
 by_cases c1:pn p<=16
 rotate_left
 ·have:((16:Int) < (pn p:Int)):=by omega
  simp only[this,decide_true,cond_true,c1,false_and,if_false]
 have n1:¬ ((16:Int) < (pn p:Int)):=by omega
 simp only[n1,decide_false,cond_false,c1,true_and]
 by_cases c2:2+2*pn p<=gD p
 rotate_left
 ·have:((gD p:Int) < ((2+2*pn p:Nat):Int)):=by omega
  simp only[this,decide_true,cond_true,c2,false_and,if_false]
 have n2:¬ ((gD p:Int) < ((2+2*pn p:Nat):Int)):=by omega
 simp only[n2,decide_false,cond_false,c2,true_and]
 by_cases c3:gD p<=64
 rotate_left
 ·have:((64:Int) < (gD p:Int)):=by omega
  simp only[this,decide_true,cond_true,c3,if_false]
 have n3:¬ ((64:Int) < (gD p:Int)):=by omega
 simp only[n3,decide_false,cond_false,c3,if_true]
 have inner:∀ (self:((List UInt8)×Int×Int)->Option aW.Out) (e2:((List UInt8)×Int)->Option aW.Out) (i:Nat) (hi:i < pn p),aW.r2 k self e2 (p,()) p (pn p:Int) (i:Int) (0:Int)=if (List.range i).all (k_ p i) then self (p,(pn p:Int),ae ((i:Int)+1)) else some ((8:Int),()):=fun self e2 i hi=>by
  have:=bL (B:=fun cw v=>aW.B2 k cw (fun z=>aW.Q1 k self e2 (p,()) p (pn p:Int) (i:Int) z) (p,()) p (pn p:Int) (i:Int) v) (List.range i) (fun (_:Unit) (j:Int)=>j) (fun _ _ x=>if k_ p i x then .inr () else .inl (some ((8:Int),()))) (fun _=>self (p,(pn p:Int),ae ((i:Int)+1))) (fun _ _=>True) (by rw[ah,List.length_range];omega)
   (fun j hj s cw _=>by
    rw[List.length_range] at hj
    show aW.b2 _ _ _ _ _ _ _=_
    unfold aW.b2
    have aj:(j:Int) < (i:Int):=by omega
    simp only[aj,decide_true,cond_true,Jl hp (show i < 16 by omega) (show j < 16 by omega),Option.bind_some,List.getElem_range]
    cases k_ p i j <;> rfl)
   (fun _ _ _ _ _ _=>trivial) (fun s cw _=>by
    rw[List.length_range]
    show aW.b2 _ _ _ _ _ _ _=_
    unfold aW.b2
    simp only[Int.lt_irrefl,decide_false,cond_false]
    rfl) () trivial k (by rw[List.length_range];omega)
  rw[mW] at this
  exact this
 have outer:aW.r1 k (p,()) (pn p:Int) (p,(pn p:Int),(0:Int))=if (List.range (pn p)).all (fun i=>(List.range i).all (k_ p i)) then aW.Q2 k (p,()) (p,(pn p:Int)) else some ((8:Int),()):=by
  have:=bL (B:=fun self v=>aW.B1 k self (fun z=>aW.Q2 k (p,()) z) (p,()) v) (List.range (pn p)) (fun (_:Unit) (i:Int)=>(p,(pn p:Int),i)) (fun _ _ x=>if (List.range x).all (k_ p x) then .inr () else .inl (some ((8:Int),()))) (fun _=>aW.Q2 k (p,()) (p,(pn p:Int))) (fun _ _=>True) (by rw[ah,List.length_range];omega)
   (fun i hi s self _=>by
    rw[List.length_range] at hi
    show aW.b1 _ _ _ _ _=_
    unfold aW.b1
    have aj:(i:Int) < (pn p:Int):=by omega
    simp only[aj,decide_true,cond_true,inner self _ i hi,List.getElem_range]
    cases (List.range i).all (k_ p i) <;> rfl)
   (fun _ _ _ _ _ _=>trivial) (fun s self _=>by
    rw[List.length_range]
    show aW.b1 _ _ _ _ _=_
    unfold aW.b1
    simp only[Int.lt_irrefl,decide_false,cond_false]) () trivial k (by rw[List.length_range];omega)
  rw[mW] at this
  exact this
 have first:aW.r0 k (p,()) (pn p:Int) (0:Int)=if (List.range (pn p)).all (oy p) then aW.r1 k (p,()) (pn p:Int) (p,(pn p:Int),(0:Int)) else some ((3:Int),()):=by
  have:=bL (B:=fun self v=>aW.B0 k self (fun z=>aW.Q0 k (p,()) (pn p:Int) z) (p,()) (pn p:Int) v) (List.range (pn p)) (fun (_:Unit) (i:Int)=>i) (fun _ _ x=>if oy p x then .inr () else .inl (some ((3:Int),()))) (fun _=>aW.r1 k (p,()) (pn p:Int) (p,(pn p:Int),(0:Int))) (fun _ _=>True) (by rw[ah,List.length_range];omega)
   (fun i hi s self _=>by
    rw[List.length_range] at hi
    show aW.b0 _ _ _ _ _=_
    unfold aW.b0
    have aj:(i:Int) < (pn p:Int):=by omega
    simp only[aj,decide_true,cond_true,KR hp (show i < 16 by omega),Option.bind_some,List.getElem_range]
    cases oy p i <;> rfl)
   (fun _ _ _ _ _ _=>trivial) (fun s self _=>by
    rw[List.length_range]
    show aW.b0 _ _ _ _ _=_
    unfold aW.b0
    simp only[Int.lt_irrefl,decide_false,cond_false]
    rfl) () trivial k (by rw[List.length_range];omega)
  rw[mW] at this
  exact this
 rw[first]
 split
 ·rw[outer]
  split
  ·show aW.q2 _ _=_
   unfold aW.q2
   by_cases h0:0 < pn p
   ·have aj:(0:Int) < (pn p:Int):=by omega
    have OB:ae ((pn p:Int) - 1)=((pn p - 1:Nat):Int):=by rw[aR (by omega)];omega
    simp only[aj,decide_true,cond_true,OB,nB hp (show pn p - 1 < 16 by omega),Option.bind_some,h0,true_and]
    by_cases hz:aP p (pn p - 1)=0
    ·simp[hz]
    ·have:¬ ((aP p (pn p - 1):Int)=0):=by omega
     simp only[this,decide_false,cond_false,hz,if_false]
   ·have aj:¬ ((0:Int) < (pn p:Int)):=by omega
    simp only[aj,decide_false,cond_false,h0,false_and,if_false]
  ·rfl
 ·rfl
theorem wm {S O:Type} (q:Nat->Bool) (g:Nat->S) (bad e:O):∀ (xs:List Nat) (i:Nat) (s:S),aV (fun _ s x=>if q x then .inl bad else .inr (g x)) (fun _=>e) i xs s=if xs.any q then bad else e
 | [],_,_=>rfl
 | x::xs,i,s=>by
  simp only[aV,List.any_cons]
  by_cases h:q x=true
  ·simp[h]
  ·simp[h,wm q g bad e xs (i+1)]
def oJ (p:List UInt8) (i t:Nat):List Bool:=(List.range 64).map fun j=>n8 p i j||decide (pat p i<=j/\j < pat p i+t)
def uG (p:List UInt8) (i:Nat):Bool:=(List.range (aP p i)).any fun t=>n8 p i (pat p i+t)
theorem Jm (p:List UInt8) (i:Nat):oJ p i 0=(List.range 64).map (n8 p i):=by
 unfold oJ
 refine List.map_congr_left fun j _=>?_
 have:¬ (pat p i<=j/\j < pat p i+0):=by omega
 simp only[this,decide_false,Bool.or_false]
theorem Jn (p:List UInt8) (i:Nat):oJ p i (aP p i)=(List.range 64).map (n8 p (i+1)):=rfl
theorem yc (p:List UInt8) (i t j:Nat) (h:j < 64):(oJ p i t)[j]?=some (n8 p i j||decide (pat p i<=j/\j < pat p i+t)):=by
 unfold oJ
 simp[h]
theorem uH (p:List UInt8) (i t:Nat):(oJ p i t).length=64:=by simp[oJ]
theorem Jo (p:List UInt8) (i t:Nat) (h:pat p i+t < 64):(oJ p i t).set (pat p i+t) true=oJ p i (t+1):=by
 refine List.ext_getElem? fun j=>?_
 rw[List.getElem?_set,uH]
 by_cases hj:j < 64
 ·rw[yc p i t j hj,yc p i (t+1) j hj]
  by_cases e:pat p i+t=j
  ·subst e
   have:pat p i<=pat p i+t/\pat p i+t < pat p i+(t+1):=by omega
   simp[h,this]
  ·rw[if_neg e]
   have:(pat p i<=j/\j < pat p i+t)↔(pat p i<=j/\j < pat p i+(t+1)):=by omega
   simp only[this]
 ·have h1:(oJ p i t)[j]?=none:=List.getElem?_eq_none (by rw[uH];omega)
  have Y:(oJ p i (t+1))[j]?=none:=List.getElem?_eq_none (by rw[uH];omega)
  rw[h1,Y,if_neg (by omega)]
theorem Du {p:List UInt8}:∀ {k j:Nat},n8 p k j=true↔∃ i,i < k/\pat p i<=j/\j < pat p i+aP p i
 | 0,j=>by simp[n8]
 | k+1,j=>by
  simp only[n8,Bool.or_eq_true,decide_eq_true_eq,Du (k:=k)]
  constructor
  ·rintro (⟨i,h1,Y⟩ | h)
   ·exact ⟨i,by omega,Y⟩
   ·exact ⟨k,by omega,h⟩
  ·rintro ⟨i,h1,Y⟩
   by_cases e:i=k
   ·subst e;exact .inr Y
   ·exact .inl ⟨i,by omega,Y⟩
theorem Hs (p:List UInt8) (i:Nat):uG p i=!(List.range i).all (k_ p i):=by
 rw[Bool.eq_iff_iff]
 simp only[uG,List.any_eq_true,List.mem_range,Du,Bool.not_eq_true',List.all_eq_false,Bool.not_eq_true]
 constructor
 ·rintro ⟨t,ht,k,hk,h1,Y⟩
  refine ⟨k,hk,?_⟩
  cases h:k_ p i k with
  | false=>rfl
  | true=>have:=q_.1 h (by omega) (by omega);omega
 ·rintro ⟨k,hk,h⟩
  have hn:¬ (aP p i≠0->aP p k≠0->pat p i+aP p i<=pat p k\/pat p k+aP p k<=pat p i):=fun Y=>by rw[q_.2 Y] at h;cases h
  by_cases c1:aP p i=0
  ·exact absurd (fun h=>absurd c1 h) hn
  ·by_cases c2:aP p k=0
   ·exact absurd (fun _ h=>absurd c2 h) hn
   ·have c3:¬ (pat p i+aP p i<=pat p k):=fun h3=>hn fun _ _=>.inl h3
    have c4:¬ (pat p k+aP p k<=pat p i):=fun h3=>hn fun _ _=>.inr h3
    exact ⟨max (pat p i) (pat p k) - pat p i,by omega,k,hk,by omega,by omega⟩
theorem KS (p:List UInt8) (n:Nat):(List.range n).any (uG p)=!(List.range n).all (fun i=>(List.range i).all (k_ p i)):=by
 rw[List.not_all_eq_any_not]
 congr 1
 funext i
 exact Hs p i
theorem EE (p:List UInt8) (hl:p.length<=maxLen):aK.ab (p,())=some (pw p,()):=by
 refine ag (k:=300) fun k hk=>(aK.aa k _).trans ?_
 unfold aK.p pw
 have e0:decide ((p.length:Int)=64)=decide (p.length=64):=by rw[decide_eq_decide];omega
 rw[e0]
 by_cases hp:p.length=64
 rotate_left
 ·simp only[hp,decide_false,Bool.not_false,cond_true,if_false]
 have hn:pn p < 256:=gK p 0
 have tm:gD p < 256:=gK p 1
 have hw:ae ((2:Int)+ae ((2:Int)*(pn p:Int)))=((2+2*pn p:Nat):Int):=Mi (by omega)
 have Ni:((p[1]'(by omega)).toNat)=gD p:=(ed (show 1 < p.length by omega)).2
 have Tz:ae (gD p:Int)=(gD p:Int):=vh p 1
 simp only[hp,decide_true,Bool.not_true,cond_false,dM (show 1 < p.length by omega),Ni,Tz,sI hp,Option.bind_some,hw,if_true]
 by_cases c1:pn p<=16
 rotate_left
 ·have:((16:Int) < (pn p:Int)):=by omega
  simp only[this,decide_true,cond_true,c1,false_and,if_false]
 have n1:¬ ((16:Int) < (pn p:Int)):=by omega
 simp only[n1,decide_false,cond_false,c1,true_and]
 by_cases c2:2+2*pn p<=gD p
 rotate_left
 ·have:((gD p:Int) < ((2+2*pn p:Nat):Int)):=by omega
  simp only[this,decide_true,cond_true,c2,false_and,if_false]
 have n2:¬ ((gD p:Int) < ((2+2*pn p:Nat):Int)):=by omega
 simp only[n2,decide_false,cond_false,c2,true_and]
 by_cases c3:gD p<=64
 rotate_left
 ·have:((64:Int) < (gD p:Int)):=by omega
  simp only[this,decide_true,cond_true,c3,if_false]
 have n3:¬ ((64:Int) < (gD p:Int)):=by omega
 simp only[n3,decide_false,cond_false,c3,if_true]
 have first:aK.r0 k (p,()) (pn p:Int) (gD p:Int) (0:Int)=if (List.range (pn p)).all (oy p) then aK.Q0 k (p,()) (pn p:Int) (gD p:Int) () else some ((3:Int),()):=by
  have:=bL (B:=fun self v=>aK.B0 k self (fun z=>aK.Q0 k (p,()) (pn p:Int) (gD p:Int) z) (p,()) (pn p:Int) (gD p:Int) v) (List.range (pn p)) (fun (_:Unit) (i:Int)=>i) (fun _ _ x=>if oy p x then .inr () else .inl (some ((3:Int),()))) (fun _=>aK.Q0 k (p,()) (pn p:Int) (gD p:Int) ()) (fun _ _=>True) (by rw[ah,List.length_range];omega)
   (fun i hi s self _=>by
    rw[List.length_range] at hi
    show aK.b0 _ _ _ _ _ _=_
    unfold aK.b0
    have aj:(i:Int) < (pn p:Int):=by omega
    have h1:pat p i < 256:=gK p _
    have Y:aP p i < 256:=gK p _
    have pj:ae ((pat p i:Int)+(aP p i:Int))=((pat p i+aP p i:Nat):Int):=by rw[aR (by omega)];omega
    simp only[aj,decide_true,cond_true,ya hp (show i < 16 by omega),Option.bind_some,List.getElem_range,pj]
    have e1:decide ((pat p i:Int)=0)=decide (pat p i=0):=by rw[decide_eq_decide];omega
    have e2:decide ((aP p i:Int)=0)=decide (aP p i=0):=by rw[decide_eq_decide];omega
    have e4:decide ((pat p i:Int) < (gD p:Int))=decide (pat p i < gD p):=by rw[decide_eq_decide];omega
    have e5:decide ((64:Int) < ((pat p i+aP p i:Nat):Int))=decide (64 < pat p i+aP p i):=by rw[decide_eq_decide];omega
    rw[e1,e2,e4,e5]
    unfold oy
    by_cases d1:pat p i=0
    ·by_cases d2:aP p i=0
     ·simp[d1,d2]
     ·have:¬ (0=aP p i):=fun e=>d2 e.symm
      simp[d1,d2,this]
    ·by_cases d2:aP p i=0
     ·simp[d1,d2]
     ·by_cases d3:pat p i < gD p
      ·have OC:¬ (gD p<=pat p i):=by omega
       simp[d1,d2,d3,OC]
      ·by_cases d4:64 < pat p i+aP p i
       ·have OD:¬ (pat p i+aP p i<=64):=by omega
        simp[d1,d2,d3,d4,OD]
       ·have OC:gD p<=pat p i:=by omega
        have OD:pat p i+aP p i<=64:=by omega
        simp[d1,d2,d3,d4,OC,OD])
   (fun _ _ _ _ _ _=>trivial) (fun s self _=>by
    rw[List.length_range]
    show aK.b0 _ _ _ _ _ _=_
    unfold aK.b0
    simp only[Int.lt_irrefl,decide_false,cond_false]) () trivial k (by rw[List.length_range];omega)
  rw[mW] at this
  exact this
 rw[first]
 by_cases ir:(List.range (pn p)).all (oy p)=true
 rotate_left
 ·simp only[ir,Bool.false_eq_true,if_false]
 simp only[ir,if_true]
 have hs:∀ i,i < pn p->aP p i≠0->gD p<=pat p i/\pat p i+aP p i<=64:=fun i hi=>((wk (by omega)).1 (List.all_eq_true.1 ir i (List.mem_range.2 hi))).1
 have inner:∀ (self:((List UInt8)×Int×(List Bool)×Int×Int)->Option aK.Out) (e2:((List UInt8)×Int)->Option aK.Out) (i:Nat) (hi:i < pn p),aK.r2 k self e2 (p,()) p (pn p:Int) (pat p i:Int) (aP p i:Int) (pn p:Int) (i:Int) ((List.range 64).map (n8 p i),(pat p i:Int))=if uG p i then some ((8:Int),()) else self (p,(pn p:Int),(List.range 64).map (n8 p (i+1)),(pn p:Int),ae ((i:Int)+1)):=fun self e2 i hi=>by
  have h1:pat p i < 256:=gK p _
  have Y:aP p i < 256:=gK p _
  have pj:ae ((pat p i:Int)+(aP p i:Int))=((pat p i+aP p i:Nat):Int):=by rw[aR (by omega)];omega
  have:=bL (B:=fun cw v=>aK.B2 k cw (fun z=>aK.Q1 k self e2 (p,()) p (pn p:Int) (pat p i:Int) (aP p i:Int) (pn p:Int) (i:Int) z) (p,()) p (pn p:Int) (pat p i:Int) (aP p i:Int) (pn p:Int) (i:Int) v) (List.range (aP p i)) (fun (s:List Bool) (t:Int)=>(s,(pat p i:Int)+t)) (fun _ s t=>if n8 p i (pat p i+t) then .inl (some ((8:Int),())) else .inr (oJ p i (t+1))) (fun _=>self (p,(pn p:Int),(List.range 64).map (n8 p (i+1)),(pn p:Int),ae ((i:Int)+1))) (fun t s=>s=oJ p i t) (by rw[ah,List.length_range];omega)
   (fun t ht s cw hI=>by
    rw[List.length_range] at ht
    subst hI
    obtain ⟨g1,g2⟩:=hs i hi (by omega)
    show aK.b2 _ _ _ _ _ _ _ _ _ _=_
    unfold aK.b2
    have aj:(pat p i:Int)+(t:Int) < ((pat p i+aP p i:Nat):Int):=by omega
    have wo:(0:Int)<=(pat p i:Int)+(t:Int):=by omega
    have hlen:(pat p i:Int)+(t:Int) < ((oJ p i t).length:Int):=by rw[uH];omega
    have OE:((pat p i:Int)+(t:Int)).toNat=pat p i+t:=by omega
    have Kl:¬ (pat p i<=pat p i+t/\pat p i+t < pat p i+t):=by omega
    have TA:ae ((pat p i:Int)+(t:Int)+1)=(pat p i:Int)+ae ((t:Int)+1):=by rw[aR (by omega),aR (by omega)];omega
    simp only[pj,aj,decide_true,cond_true,wo,hlen,and_self,if_true,OE,yc p i t (pat p i+t) (by omega),Kl,decide_false,Bool.or_false,Option.bind_some,List.getElem_range,Jo p i t (by omega),TA]
    cases n8 p i (pat p i+t) <;> rfl)
   (fun t ht s s' hI hf=>by
    simp only[List.getElem_range] at hf
    split at hf
    ·cases hf
    ·injection hf with hf;exact hf.symm) (fun s cw hI=>by
    rw[List.length_range] at hI ⊢
    show aK.b2 _ _ _ _ _ _ _ _ _ _=_
    unfold aK.b2
    have aj:¬ ((pat p i:Int)+(aP p i:Int) < ((pat p i+aP p i:Nat):Int)):=by omega
    simp only[pj,aj,decide_false,cond_false]
    rw[hI,Jn]
    rfl) (oJ p i 0) rfl k (by rw[List.length_range];omega)
  rw[wm] at this
  rw[<-Jm]
  simp only[Int.add_zero] at this
  exact this
 have outer:aK.r1 k (p,()) (pn p:Int) (gD p:Int) (p,(pn p:Int),List.replicate 64 false,(pn p:Int),(0:Int))=if (List.range (pn p)).any (uG p) then some ((8:Int),()) else aK.Q2 k (p,()) (p,(pn p:Int)):=by
  have:=bL (B:=fun self v=>aK.B1 k self (fun z=>aK.Q2 k (p,()) z) (p,()) v) (List.range (pn p)) (fun (s:List Bool) (i:Int)=>(p,(pn p:Int),s,(pn p:Int),i)) (fun _ s x=>if uG p x then .inl (some ((8:Int),())) else .inr ((List.range 64).map (n8 p (x+1)))) (fun _=>aK.Q2 k (p,()) (p,(pn p:Int))) (fun i s=>s=(List.range 64).map (n8 p i)) (by rw[ah,List.length_range];omega)
   (fun i hi s self hI=>by
    rw[List.length_range] at hi
    subst hI
    show aK.b1 _ _ _ _ _=_
    unfold aK.b1
    have aj:(i:Int) < (pn p:Int):=by omega
    simp only[aj,decide_true,cond_true,ya hp (show i < 16 by omega),Option.bind_some,inner self _ i hi,List.getElem_range]
    cases uG p i <;> rfl)
   (fun i hi s s' hI hf=>by
    simp only[List.getElem_range] at hf
    split at hf
    ·cases hf
    ·injection hf with hf;exact hf.symm) (fun s self _=>by
    rw[List.length_range]
    show aK.b1 _ _ _ _ _=_
    unfold aK.b1
    simp only[Int.lt_irrefl,decide_false,cond_false]) (List.replicate 64 false) (by show _=(List.range 64).map (fun _=>false);decide) k (by rw[List.length_range];omega)
  rw[wm] at this
  exact this
 show aK.q0 _ _ _ _ _=_
 unfold aK.q0
 rw[outer,KS]
 by_cases IM:(List.range (pn p)).all (fun i=>(List.range i).all (k_ p i))=true
 rotate_left
 ·simp only[IM,Bool.not_false,if_true,Bool.false_eq_true,if_false]
 simp only[IM,Bool.not_true,Bool.false_eq_true,if_false,if_true]
 show aK.q2 _ _=_
 unfold aK.q2
 by_cases h0:0 < pn p
 ·have aj:(0:Int) < (pn p:Int):=by omega
  have OB:ae (ae ((2:Int)*(pn p:Int))+1)=((2*pn p+1:Nat):Int):=by rw[aR (n:=(2:Int)*(pn p:Int)) (by omega),aR (by omega)];omega
  have hz:((p[2*pn p+1]'(by omega)).toNat)=aP p (pn p - 1):=by
   rw[(ed (show 2*pn p+1 < p.length by omega)).2]
   show pb p _=pb p _
   congr 1;omega
  simp only[aj,decide_true,cond_true,OB,Int.natCast_nonneg,if_true,Int.toNat_natCast,dM (show 2*pn p+1 < p.length by omega),hz,h0,true_and]
  by_cases hz:aP p (pn p - 1)=0
  ·simp[hz]
  ·have:¬ ((aP p (pn p - 1):Int)=0):=by omega
   simp only[this,decide_false,cond_false,hz,if_false]
 ·have aj:¬ ((0:Int) < (pn p:Int)):=by omega
  simp only[aj,decide_false,cond_false,h0,false_and,if_false]
end OT
set_option linter.unusedVariables false
set_option linter.unusedSimpArgs false
namespace OT
open Go
theorem rf {V S O:Type} {B:(V->Option O)->V->Option O} (n:Nat) (enc:S->Int->V) (f:Nat->S->Sum (Option O) S) (fin:S->Option O) (I:Nat->S->Prop) (hn:n<=1048576)
  (et:∀ (i:Nat),i < n->∀ (s:S) self,I i s->B self (enc s (i:Int))=match f i s with | .inl o=>o | .inr s'=>self (enc s' (ae ((i:Int)+1))))
  (hI:∀ (i:Nat),i < n->∀ (s s':S),I i s->f i s=.inr s'->I (i+1) s')
  (kA:∀ (s:S) self,I n s->B self (enc s (n:Int))=fin s) (s:S) (h0:I 0 s) (k:Nat) (hk:n < k):al B k (enc s 0)=aV (fun _ s x=>f x s) fin 0 (List.range n) s:=
 bL (List.range n) enc (fun _ s x=>f x s) fin I (by rw[ah,List.length_range];omega)
  (fun i hi s self h=>by rw[List.length_range] at hi;simp only[List.getElem_range];exact et i hi s self h)
  (fun i hi s s' h hf=>by rw[List.length_range] at hi;simp only[List.getElem_range] at hf;exact hI i hi s s' h hf)
  (fun s self h=>by rw[List.length_range] at h ⊢;exact kA s self h) s h0 k (by rw[List.length_range];exact hk)
theorem uI {O α β:Type} (g:α->List β) (fin:List β->O):∀ (xs:List α) (i:Nat) (s:List β),aV (fun _ s x=>.inr (s++g x)) fin i xs s=fin (s++xs.flatMap g)
 | [],_,s=>by simp[aV]
 | x::xs,i,s=>by simp only[aV];rw[uI g fin xs (i+1)];simp[List.append_assoc]
abbrev s8:Row:=((0:Int),(0:Int),(0:Int),([]:List UInt8),())
abbrev w9:lu:=((0:Int),(0:Int),(0:Int),(0:Int),s8,())
abbrev uJ:lu:=((5:Int),(0:Int),(0:Int),(0:Int),s8,())
def mC (d:List UInt8):Row:=((pb d 1:Int),(pb d 2:Int),(pb d 3:Int)*256+(pb d 4:Int),d.drop 6,())
def c9 (d:List UInt8):lu×Bool:=
 if d.length=3/\pb d 0=1 then (((0:Int),(1:Int),(pb d 1:Int),(pb d 2:Int),s8,()),decide (pb d 1<=11)&&decide (pb d 2<=15))
 else if d.length < 6\/pb d 0=1\/2 < pb d 0\/d.length≠6+pb d 5 then (w9,false)
 else (((0:Int),(pb d 0:Int),(0:Int),(0:Int),mC d,()),decide (ip (mC d)=0))
theorem KU {a b:Nat} (ha:a < 256) (hb:b < 256):((BitVec.ofInt 64 (ae ((a:Int)*2 ^ 8)) ||| BitVec.ofInt 64 (b:Int)).toNat:Int)=(a:Int)*256+(b:Int):=by
 have e1:ae ((a:Int)*2 ^ 8)=((2 ^ 8*a:Nat):Int):=by rw[aR (by omega)];omega
 rw[e1,BitVec.toNat_or]
 have e2:(BitVec.ofInt 64 ((2 ^ 8*a:Nat):Int)).toNat=2 ^ 8*a:=by
  rw[BitVec.toNat_ofInt];omega
 have e3:(BitVec.ofInt 64 (b:Int)).toNat=b:=by
  rw[BitVec.toNat_ofInt];omega
 rw[e2,e3,<- Nat.two_pow_add_eq_or_of_lt (by omega) a]
 omega
theorem sg (d:List UInt8) (hd:d.length<=100):fx.ab (d,())=some ((c9 d).1,(c9 d).2,()):=by
 refine ag (k:=0) fun k _=>(fx.aa k _).trans ?_
 show fx.p _=_
 unfold fx.p c9
 have b0:=gK d 0
 have b1:=gK d 1
 have b2:=gK d 2
 have b3:=gK d 3
 have b4:=gK d 4
 have b5:=gK d 5
 by_cases h3:d.length=3
 ·have e3:decide ((d.length:Int)=3)=true:=decide_eq_true (by omega)
  have e6:decide ((d.length:Int) < 6)=true:=decide_eq_true (by omega)
  have OF:d.length < 6:=by omega
  simp only[e3,e6,cond_true,dM (show 0 < d.length by omega),(ed (show 0 < d.length by omega)).2]
  by_cases h1:pb d 0=1
  ·have e1:decide ((pb d 0:Int)=1)=true:=decide_eq_true (by omega)
   rw[if_pos ⟨h3,h1⟩]
   simp only[e1,cond_true,dM (show 1 < d.length by omega),(ed (show 1 < d.length by omega)).2,dM (show 2 < d.length by omega),(ed (show 2 < d.length by omega)).2,vh]
   have dQ:jQ.ab ((pb d 1:Int),(pb d 2:Int),())=some (decide (pb d 1<=11)&&decide (pb d 2<=15),()):=by
    refine ag (k:=0) fun k _=>(jQ.aa k _).trans ?_
    show jQ.p _=_
    unfold jQ.p
    simp only[gC,Option.bind_some]
    have g1:decide ((0:Int)<=(pb d 1:Int))=true:=decide_eq_true (by omega)
    have g2:decide ((0:Int)<=(pb d 2:Int))=true:=decide_eq_true (by omega)
    have g3:decide ((pb d 1:Int)<=11)=decide (pb d 1<=11):=by rw[decide_eq_decide];omega
    have g4:decide ((pb d 2:Int)<=15)=decide (pb d 2<=15):=by rw[decide_eq_decide];omega
    rw[g1,g2,g3,g4]
    cases decide (pb d 1<=11) <;> rfl
   simp only[dQ,Option.bind_some]
  ·have e1:decide ((pb d 0:Int)=1)=false:=decide_eq_false (by omega)
   rw[if_neg (fun h=>h1 h.2),if_pos (Or.inl OF)]
   simp only[e1,cond_false]
 ·have e3:decide ((d.length:Int)=3)=false:=decide_eq_false (by omega)
  simp only[e3,cond_false,h3,false_and,if_false]
  by_cases h6:d.length < 6
  ·have e6:decide ((d.length:Int) < 6)=true:=decide_eq_true (by omega)
   simp only[e6,cond_true,h6,true_or,if_true]
  ·have e6:decide ((d.length:Int) < 6)=false:=decide_eq_false (by omega)
   simp only[e6,cond_false,dM (show 0 < d.length by omega),(ed (show 0 < d.length by omega)).2,h6,false_or]
   by_cases h1:pb d 0=1
   ·have e1:decide ((pb d 0:Int)=1)=true:=decide_eq_true (by omega)
    rw[if_pos (Or.inl h1)]
    simp only[e1,cond_true]
   have e1:decide ((pb d 0:Int)=1)=false:=decide_eq_false (by omega)
   simp only[e1,cond_false,h1,false_or]
   by_cases Y:2 < pb d 0
   ·have e2:decide ((2:Int) < (pb d 0:Int))=true:=decide_eq_true (by omega)
    simp only[e2,cond_true,Y,true_or,if_true]
   have e2:decide ((2:Int) < (pb d 0:Int))=false:=decide_eq_false (by omega)
   have w6:ae ((6:Int)+(pb d 5:Int))=((6+pb d 5:Nat):Int):=by rw[aR (by omega)];omega
   simp only[e2,cond_false,Y,false_or,dM (show 5 < d.length by omega),(ed (show 5 < d.length by omega)).2,vh,w6]
   by_cases h5:d.length=6+pb d 5
   rotate_left
   ·have e5:decide ((d.length:Int)=((6+pb d 5:Nat):Int))=false:=decide_eq_false (by omega)
    simp only[e5,Bool.not_false,cond_true,h5,ne_eq,not_false_eq_true,if_true]
   have e5:decide ((d.length:Int)=((6+pb d 5:Nat):Int))=true:=decide_eq_true (by omega)
   have QF:(0:Int)<=6/\(6:Int)<=(d.length:Int):=by omega
   have w3:ae (ae ((pb d 3:Int)*256)+(pb d 4:Int))=(pb d 3:Int)*256+(pb d 4:Int):=by rw[aR (n:=(pb d 3:Int)*256) (by omega),aR (by omega)]
   have ht:(d.take d.length).drop 6=d.drop 6:=by rw[List.take_length]
   have hr:du.ab (mC d,())=some (ip (mC d),()):=qX (mC d) (by rw[ah];simp only[mC,List.length_drop];omega)
   unfold mC at hr
   rw[if_neg (fun h=>h h5)]
   simp only[e5,Bool.not_true,cond_false,dM (show 1 < d.length by omega),(ed (show 1 < d.length by omega)).2,dM (show 2 < d.length by omega),(ed (show 2 < d.length by omega)).2,
    dM (show 3 < d.length by omega),(ed (show 3 < d.length by omega)).2,dM (show 4 < d.length by omega),(ed (show 4 < d.length by omega)).2,vh,w3,ht,hr,Option.bind_some]
   rw[if_pos (by omega)]
   rfl
theorem vj (d:List UInt8) (hd:d.length<=100):dX.ab (d,())=some (if (c9 d).2 then (c9 d).1 else uJ,()):=by
 refine ag (k:=0) fun k _=>(dX.aa k _).trans ?_
 show dX.p _=_
 unfold dX.p
 have b0:=gK d 0
 have b1:=gK d 1
 have b2:=gK d 2
 have b3:=gK d 3
 have b4:=gK d 4
 have b5:=gK d 5
 by_cases h3:d.length=3
 ·have e3:decide ((d.length:Int)=3)=true:=decide_eq_true (by omega)
  have e6:decide ((d.length:Int) < 6)=true:=decide_eq_true (by omega)
  have OF:d.length < 6:=by omega
  simp only[e3,e6,cond_true,dM (show 0 < d.length by omega),(ed (show 0 < d.length by omega)).2]
  by_cases h1:pb d 0=1
  ·have e1:decide ((pb d 0:Int)=1)=true:=decide_eq_true (by omega)
   have hc:c9 d=(((0:Int),(1:Int),(pb d 1:Int),(pb d 2:Int),s8,()),decide (pb d 1<=11)&&decide (pb d 2<=15)):=by unfold c9;rw[if_pos ⟨h3,h1⟩]
   rw[hc]
   simp only[e1,cond_true,dM (show 1 < d.length by omega),(ed (show 1 < d.length by omega)).2,dM (show 2 < d.length by omega),(ed (show 2 < d.length by omega)).2,vh]
   by_cases c1:pb d 1<=11
   ·have d1:decide ((pb d 1:Int) < 12)=true:=decide_eq_true (by omega)
    by_cases c2:pb d 2<=15
    ·have d2:decide ((pb d 2:Int) < 16)=true:=decide_eq_true (by omega)
     simp[d1,d2,c1,c2]
    ·have d2:decide ((pb d 2:Int) < 16)=false:=decide_eq_false (by omega)
     simp[d1,d2,c1,c2]
   ·have d1:decide ((pb d 1:Int) < 12)=false:=decide_eq_false (by omega)
    simp[d1,c1]
  ·have e1:decide ((pb d 0:Int)=1)=false:=decide_eq_false (by omega)
   have hc:c9 d=(w9,false):=by unfold c9;rw[if_neg (fun h=>h1 h.2),if_pos (Or.inl OF)]
   rw[hc]
   simp only[e1,cond_false,Bool.false_eq_true,if_false]
 ·have e3:decide ((d.length:Int)=3)=false:=decide_eq_false (by omega)
  simp only[e3,cond_false]
  by_cases h6:d.length < 6
  ·have e6:decide ((d.length:Int) < 6)=true:=decide_eq_true (by omega)
   have hc:c9 d=(w9,false):=by unfold c9;rw[if_neg (fun h=>h3 h.1),if_pos (Or.inl h6)]
   rw[hc]
   simp only[e6,cond_true,Bool.false_eq_true,if_false]
  ·have e6:decide ((d.length:Int) < 6)=false:=decide_eq_false (by omega)
   have hc:c9 d=if pb d 0=1\/2 < pb d 0\/d.length≠6+pb d 5 then (w9,false) else (((0:Int),(pb d 0:Int),(0:Int),(0:Int),mC d,()),decide (ip (mC d)=0)):=by
    unfold c9
    rw[if_neg (fun h=>h3 h.1)]
    simp only[h6,false_or]
   have hlen:∀ i,i < 6->i < d.length:=fun i hi=>by omega
   have w6:ae ((6:Int)+(pb d 5:Int))=((6+pb d 5:Nat):Int):=by rw[aR (by omega)];omega
   have QF:(0:Int)<=6/\(6:Int)<=(d.length:Int):=by omega
   have w3:ae ((BitVec.ofInt 64 (ae ((pb d 3:Int)*2 ^ 8)) ||| BitVec.ofInt 64 (pb d 4:Int)).toNat:Int)=(pb d 3:Int)*256+(pb d 4:Int):=by rw[KU b3 b4,aR (by omega)]
   have ht:(d.take d.length).drop 6=d.drop 6:=by rw[List.take_length]
   have hr:bv.ab (mC d,())=some (ip (mC d),()):=qY (mC d) (by rw[ah];simp only[mC,List.length_drop];omega)
   unfold mC at hr
   simp only[e6,cond_false,dM (show 0 < d.length by omega),(ed (show 0 < d.length by omega)).2,dM (show 5 < d.length by omega),(ed (show 5 < d.length by omega)).2,dM (show 1 < d.length by omega),(ed (show 1 < d.length by omega)).2,dM (show 2 < d.length by omega),(ed (show 2 < d.length by omega)).2,
    dM (show 3 < d.length by omega),(ed (show 3 < d.length by omega)).2,dM (show 4 < d.length by omega),(ed (show 4 < d.length by omega)).2,vh,w6,QF.2,show (0:Int)<=6 by omega,and_self,if_true,w3,ht,hr,Option.bind_some]
   have e5:decide ((d.length:Int)=((6+pb d 5:Nat):Int))=decide (d.length=6+pb d 5):=by rw[decide_eq_decide];omega
   have e0:decide ((pb d 0:Int)=0)=decide (pb d 0=0):=by rw[decide_eq_decide];omega
   have e2:decide ((pb d 0:Int)=2)=decide (pb d 0=2):=by rw[decide_eq_decide];omega
   rw[e5,e0,e2]
   have fin:∀ (c5:d.length=6+pb d 5) (c0:¬ (pb d 0=1\/2 < pb d 0\/d.length≠6+pb d 5)),(bif !decide (ip ((pb d 1:Int),(pb d 2:Int),(pb d 3:Int)*256+(pb d 4:Int),d.drop 6,())=0) then some (uJ,()) else some (((0:Int),(pb d 0:Int),(0:Int),(0:Int),((pb d 1:Int),(pb d 2:Int),(pb d 3:Int)*256+(pb d 4:Int),d.drop 6,()),()),()))=some (if (c9 d).2 then (c9 d).1 else uJ,()):=fun c5 c0=>by
    rw[hc,if_neg c0]
    show (bif !decide (ip (mC d)=0) then some (uJ,()) else some (((0:Int),(pb d 0:Int),(0:Int),(0:Int),mC d,()),()))=some (if decide (ip (mC d)=0)=true then ((0:Int),(pb d 0:Int),(0:Int),(0:Int),mC d,()) else uJ,())
    cases decide (ip (mC d)=0) <;> rfl
   have bad:(pb d 0=1\/2 < pb d 0\/d.length≠6+pb d 5)->(some (uJ,()):Option dX.Out)=some (if (c9 d).2 then (c9 d).1 else uJ,()):=fun h=>by
    rw[hc,if_pos h];rfl
   by_cases c5:d.length=6+pb d 5
   ·rw[decide_eq_true c5]
    by_cases c0:pb d 0=0
    ·rw[decide_eq_true c0]
     exact fin c5 (by omega)
    ·rw[decide_eq_false c0]
     by_cases c2:pb d 0=2
     ·rw[decide_eq_true c2]
      exact fin c5 (by omega)
     ·rw[decide_eq_false c2]
      exact bad (by omega)
   ·rw[decide_eq_false c5]
    have hb:=bad (.inr (.inr c5))
    cases decide (pb d 0=0) <;> cases decide (pb d 0=2) <;> exact hb
section
variable {p:List UInt8} (hp:lG p)
include hp
theorem zq (s:Nat):gz.ab (p,(s:Int),())=some (decide (s < pn p)&&!decide (aP p s=0),()):=by
 refine ag (k:=0) fun k _=>(gz.aa k _).trans ?_
 show gz.p _=_
 unfold gz.p
 have h0:(0:Int)<=(s:Int):=by omega
 have hn:=hp.n
 have hl:=hp.len
 simp only[h0,decide_true,cond_true,sI hl,Option.bind_some]
 by_cases hs:s < pn p
 ·have e1:(s:Int) < (pn p:Int):=by omega
  have e2:decide ((aP p s:Int)=0)=decide (aP p s=0):=by rw[decide_eq_decide];omega
  have e3:(p[3+2*s]'(by omega)).toNat=aP p s:=(ed (show 3+2*s < p.length by omega)).2
  simp only[e1,hs,decide_true,cond_true,OA (show s < 1000 by omega),Int.natCast_nonneg,if_true,Int.toNat_natCast,dM (show 3+2*s < p.length by omega),e3,e2,Bool.true_and]
 ·have e1:¬ ((s:Int) < (pn p:Int)):=by omega
  simp only[e1,hs,decide_false,cond_false,Bool.false_and]
theorem Ht (s:Nat):lA.ab (p,(s:Int),())=some (decide (s < pn p)&&!decide (aP p s=0),()):=by
 refine ag (k:=0) fun k _=>(lA.aa k _).trans ?_
 show lA.p _=_
 unfold lA.p
 have hn:=hp.n
 have hl:=hp.len
 have hw:ae ((pn p:Int) - 1)=(pn p:Int) - 1:=aR (by omega)
 have h0:decide ((0:Int)<=(s:Int))=true:=decide_eq_true (by omega)
 have h1:decide ((s:Int)<=(pn p:Int) - 1)=decide (s < pn p):=by rw[decide_eq_decide];omega
 simp only[oY hl,Option.bind_some,hw,gC,h0,h1,Bool.true_and]
 by_cases hs:s < pn p
 ·have e2:decide ((0:Int) < (aP p s:Int))=!decide (aP p s=0):=by
   by_cases hz:aP p s=0
   ·simp[hz]
   ·have:(0:Int) < (aP p s:Int):=by omega
    rw[decide_eq_true this,decide_eq_false hz];rfl
  simp only[hs,decide_true,cond_true,nB hl (show s < 16 by omega),Option.bind_some,e2,Bool.true_and]
 ·simp only[hs,decide_false,cond_false,Bool.false_and]
theorem Aq {s:Nat} (hs:s < pn p):pat p s+aP p s<=64:=by
 by_cases hz:aP p s=0
 ·have:=hp.zero s hs hz;omega
 ·exact (hp.slot s hs hz).2
theorem vk {s:Nat} (hs:s < pn p):hJ.ab (p,(s:Int),())=some (ey p s,()):=by
 refine ag (k:=0) fun k _=>(hJ.aa k _).trans ?_
 show hJ.p _=_
 unfold hJ.p ey
 have hn:=hp.n
 have hl:=hp.len
 have hc:=Aq hp hs
 have hw:ae ((pat p s:Int)+(aP p s:Int))=((pat p s+aP p s:Nat):Int):=by rw[aR (by omega)];omega
 have hb:(0:Int)<=(pat p s:Int)/\(pat p s:Int)<=((pat p s+aP p s:Nat):Int)/\((pat p s+aP p s:Nat):Int)<=(p.length:Int):=by omega
 simp only[ya hl (show s < 16 by omega),Option.bind_some,hw]
 rw[if_pos hb]
 simp only[Int.toNat_natCast,List.drop_take]
 rw[show pat p s+aP p s - pat p s=aP p s by omega]
theorem qD {s:Nat} (hs:s < pn p):fy.ab (p,(s:Int),())=some (ey p s,()):=by
 refine ag (k:=0) fun k _=>(fy.aa k _).trans ?_
 show fy.p _=_
 unfold fy.p ey
 have hn:=hp.n
 have hl:=hp.len
 have hc:=Aq hp hs
 have hw:ae ((pat p s:Int)+(aP p s:Int))=((pat p s+aP p s:Nat):Int):=by rw[aR (by omega)];omega
 have hb:(0:Int)<=(pat p s:Int)/\(pat p s:Int)<=((pat p s+aP p s:Nat):Int)/\((pat p s+aP p s:Nat):Int)<=(p.length:Int):=by omega
 simp only[sJ hl (show s < 16 by omega),nB hl (show s < 16 by omega),Option.bind_some,hw]
 rw[if_pos hb,if_pos (cQ (by simp only[List.length_nil,List.length_drop,List.length_take];omega))]
 simp only[Int.toNat_natCast,List.drop_take,List.nil_append]
 rw[show pat p s+aP p s - pat p s=aP p s by omega]
end
theorem oq {p:List UInt8} (hp:lG p) {s:Nat} (hs:s < pn p):(ey p s).length<=64:=by
 have:=sH hp hs
 have:=Aq hp hs
 omega
end OT
set_option linter.unusedVariables false
set_option linter.unusedSimpArgs false
namespace OT
open Go
def rk (x:Row):Int×Int:=(x.1,x.2.1)
theorem sh (a b:Int×Int):bS a b=true↔a.1 < b.1\/(a.1=b.1/\a.2 < b.2):=by unfold bS;simp
theorem lH {a b c:Int×Int} (h1:bS a b=true) (Y:bS b c=true):bS a c=true:=by
 rw[sh] at *;omega
theorem nC (a:Int×Int):bS a a=false:=by
 cases h:bS a a with
 | false=>rfl
 | true=>rw[sh] at h;omega
theorem Jp {a b:Int×Int} (h:bS a b=true):bS b a=false:=by
 cases Y:bS b a with
 | false=>rfl
 | true=>rw[sh] at h Y;omega
theorem pU {a b:Int×Int} (h1:bS a b=false) (Y:bS b a=false):a=b:=by
 have n1:¬ (a.1 < b.1\/(a.1=b.1/\a.2 < b.2)):=fun h=>by rw[(sh a b).2 h] at h1;cases h1
 have n2:¬ (b.1 < a.1\/(b.1=a.1/\b.2 < a.2)):=fun h=>by rw[(sh b a).2 h] at Y;cases Y
 have e1:a.1=b.1:=by omega
 have e2:a.2=b.2:=by omega
 obtain ⟨a1,a2⟩:=a
 obtain ⟨b1,b2⟩:=b
 simp only at e1 e2
 rw[e1,e2]
def up (xs:List Row):Prop:=xs.Pairwise (fun a b=>bS (rk a) (rk b)=true)
theorem tC {x:Row} {xs:List Row}:up (x::xs)↔(∀ y ∈ xs,bS (rk x) (rk y)=true)/\up xs:=List.pairwise_cons
def pos:List Row->Int×Int->Nat
 | [],_=>0
 | x::xs,k=>if bS (rk x) k then pos xs k+1 else 0
theorem tD:∀ (xs:List Row) (k:Int×Int),pos xs k<=xs.length
 | [],_=>Nat.le_refl _
 | x::xs,k=>by simp only[pos];split <;> simp[tD xs k]
theorem Dv:∀ (xs:List Row) (k:Int×Int) (i:Nat) (h:i < xs.length),i < pos xs k->bS (rk xs[i]) k=true
 | x::xs,k,i,h,hp=>by
  simp only[pos] at hp
  split at hp
  ·rename_i hx
   cases i with
   | zero=>exact hx
   | succ i=>exact Dv xs k i (by simpa using h) (by omega)
  ·omega
theorem tE:∀ (xs:List Row) (k:Int×Int) (i:Nat) (h:i < xs.length),up xs->pos xs k<=i->bS (rk xs[i]) k=false
 | x::xs,k,i,h,hu,hp=>by
  simp only[pos] at hp
  split at hp
  ·cases i with
   | zero=>omega
   | succ i=>exact tE xs k i (by simpa using h) (tC.1 hu).2 (by omega)
  ·rename_i hx
   have hx:bS (rk x) k=false:=by simpa using hx
   cases i with
   | zero=>exact hx
   | succ i=>
    have eF:i < xs.length:=by simpa using h
    have hm:bS (rk x) (rk xs[i])=true:=(tC.1 hu).1 _ (List.getElem_mem _)
    show bS (rk xs[i]) k=false
    cases hb:bS (rk xs[i]) k with
    | false=>rfl
    | true=>rw[lH hm hb] at hx;cases hx
def jX (xs:List Row) (k:Int×Int):Bool:=match xs[pos xs k]? with
 | some x=>decide (rk x=k)
 | none=>false
theorem tF {xs:List Row} {k:Int×Int} (h:jX xs k=true):∃ hp:pos xs k < xs.length,rk xs[pos xs k]=k:=by
 unfold jX at h
 split at h
 ·rename_i x hx
  obtain ⟨hp,e⟩:=List.getElem?_eq_some_iff.1 hx
  subst e
  exact ⟨hp,by simpa using h⟩
 ·cases h
theorem Jq (a b:Row):decide ((if bS (a.1,a.2.1) (b.1,b.2.1) then (-1:Int) else if bS (b.1,b.2.1) (a.1,a.2.1) then 1 else 0) < 0)=bS (rk a) (rk b):=by
 unfold rk
 cases bS (a.1,a.2.1) (b.1,b.2.1) <;> cases bS (b.1,b.2.1) (a.1,a.2.1) <;> rfl
theorem uK (a b:Row):sameKey a b=decide (rk a=rk b):=by
 unfold sameKey rk
 by_cases h1:a.1=b.1 <;> by_cases Y:a.2.1=b.2.1 <;> simp[h1,Y]
theorem half (lo hi:Nat) (h:lo+hi<=4611686018427387904):ae ((IntKind.wrap .u64 (ae ((lo:Int)+(hi:Int)))).fdiv (2 ^ 1))=(((lo+hi) / 2:Nat):Int):=by
 have e1:ae ((lo:Int)+(hi:Int))=((lo+hi:Nat):Int):=by rw[aR (by omega)];omega
 rw[e1]
 have e2:IntKind.wrap .u64 ((lo+hi:Nat):Int)=((lo+hi:Nat):Int):=by
  simp only[IntKind.wrap]
  first | rfl | (simp[IntKind.bits,IntKind.signed];omega) | omega
 rw[e2]
 have e3:(((lo+hi:Nat):Int)).fdiv (2 ^ 1)=(((lo+hi) / 2:Nat):Int):=by
  rw[Int.fdiv_eq_ediv_of_nonneg _ (by omega)]
  omega
 rw[e3,aR (by omega)]
theorem AY (xs:List Row) (key:Row) (f:Nat×Int) (hu:up xs) (hl:xs.length<=2000000):aG.ab (xs,key,f,())=some ((pos xs (rk key):Int),jX xs (rk key),()):=by
 have hp:=tD xs (rk key)
 have hq:aG.Q0 0 (xs,key,f,()) (pos xs (rk key):Int)=some ((pos xs (rk key):Int),jX xs (rk key),()):=by
  show aG.q0 _ _=_
  unfold aG.q0 jX
  by_cases aj:pos xs (rk key) < xs.length
  ·have h1:((pos xs (rk key):Nat):Int) < (xs.length:Int):=by omega
   simp only[h1,decide_true,cond_true,Int.natCast_nonneg,if_true,Int.toNat_natCast,List.getElem?_eq_getElem aj,Option.bind_some,uC,zn,uK]
  ·have h1:¬ ((pos xs (rk key):Nat):Int) < (xs.length:Int):=by omega
   simp only[h1,decide_false,cond_false]
   rw[List.getElem?_eq_none (by omega)]
 refine ag (k:=xs.length+1) fun k hk=>(aG.aa k _).trans ?_
 refine qR (B:=fun self v=>aG.B0 0 self (fun z=>aG.Q0 0 (xs,key,f,()) z) (xs,key,f,()) v) (fun _=>((pos xs (rk key):Int),jX xs (rk key),()))
  (fun v=>∃ lo hi:Nat,v=((lo:Int),(hi:Int))/\lo<=pos xs (rk key)/\pos xs (rk key)<=hi/\hi<=xs.length) (fun v=>(v.2 - v.1).toNat) (fun v hv self=>?_) k (0,(xs.length:Int)) ⟨0,xs.length,rfl,by omega,hp,by omega⟩ (by simp;omega)
 obtain ⟨lo,hi,rfl,h1,Y,h3⟩:=hv
 by_cases aj:lo < hi
 ·right
  have oD:(lo:Int) < (hi:Int):=by omega
  have hm:(lo+hi) / 2 < xs.length:=by omega
  have hb:∀ self,aG.B0 0 self (fun z=>aG.Q0 0 (xs,key,f,()) z) (xs,key,f,()) ((lo:Int),(hi:Int))=if bS (rk xs[(lo+hi) / 2]) (rk key) then self (ae ((((lo+hi) / 2:Nat):Int)+1),(hi:Int)) else self ((lo:Int),(((lo+hi) / 2:Nat):Int)):=fun self=>by
   show aG.b0 _ _ _ _=_
   unfold aG.b0
   simp only[oD,decide_true,cond_true,half lo hi (by omega),Int.natCast_nonneg,if_true,Int.toNat_natCast,List.getElem?_eq_getElem hm,Option.bind_some,uC,Jq]
   cases bS (rk xs[(lo+hi) / 2]) (rk key) <;> rfl
  cases hc:bS (rk xs[(lo+hi) / 2]) (rk key) with
  | true=>
   refine ⟨((((lo+hi) / 2+1:Nat):Int),(hi:Int)),?_,rfl,⟨_,_,rfl,?_,Y,h3⟩,by simp only;omega⟩
   ·rw[hb,hc,if_pos rfl,aR (by omega)];rfl
   ·rcases Nat.lt_or_ge ((lo+hi) / 2) (pos xs (rk key)) with h | h
    ·omega
    ·rw[tE xs _ _ hm hu h] at hc;cases hc
  | false=>
   refine ⟨((lo:Int),(((lo+hi) / 2:Nat):Int)),?_,rfl,⟨_,_,rfl,h1,?_,by omega⟩,by simp only;omega⟩
   ·rw[hb,hc];rfl
   ·rcases Nat.lt_or_ge ((lo+hi) / 2) (pos xs (rk key)) with h | h
    ·rw[Dv xs _ _ hm h] at hc;cases hc
    ·exact h
 ·left
  have e:lo=pos xs (rk key):=by omega
  have oD:¬ (lo:Int) < (hi:Int):=by omega
  show aG.b0 _ _ _ _=_
  unfold aG.b0
  simp only[oD,decide_false,cond_false]
  rw[e]
  exact hq
def oz (xs:List Row) (c:Change):Bool:=(jX xs (ck c) == c.1)&&(!jX xs (ck c)||(match xs[pos xs (ck c)]? with | some x=>Ty.eq aF x c.2.1 | none=>true))
def mD (xs:List Row) (c:Change):List Row:=xs.take (pos xs (ck c))++(if c.2.2.1 then [c.2.2.2.1] else [])++xs.drop (pos xs (ck c)+if jX xs (ck c) then 1 else 0)
theorem Jr (c:Change):rk (tA c)=ck c:=wj c
theorem Js (c:Change) (xs:List Row) (hu:up xs) (hl:xs.length<=2000000):fE.ab (c,xs,())=some (oz xs c,()):=by
 refine ag (k:=0) fun k _=>(fE.aa k _).trans ?_
 show fE.p _=_
 unfold fE.p oz
 simp only[qZ,AY xs _ _ hu hl,Jr,Option.bind_some]
 cases hf:jX xs (ck c) with
 | false=>cases c.1 <;> rfl
 | true=>
  obtain ⟨hp,hk⟩:=tF hf
  simp only[Int.natCast_nonneg,if_true,Int.toNat_natCast,List.getElem?_eq_getElem hp,Option.bind_some]
  cases c.1 <;> rfl
theorem Hu (xs:List Row) (c:Change) (hu:up xs) (hl:xs.length<=2000000):jU.ab (xs,c,())=some (mD xs c,()):=by
 refine ag (k:=0) fun k _=>(jU.aa k _).trans ?_
 show jU.p _=_
 unfold jU.p mD
 have hp:=tD xs (ck c)
 have pp:0<=((pos xs (ck c):Nat):Int)/\((pos xs (ck c):Nat):Int)<=(xs.length:Int):=by omega
 have c1:([]:List Row).length+(List.take (pos xs (ck c)) xs).length<=bk:=cQ (by simp;omega)
 simp only[qZ,AY xs _ _ hu hl,Jr,Option.bind_some,pp,and_self,if_true,Int.toNat_natCast,c1,List.drop_zero,List.nil_append,List.take_length]
 have c2:(List.take (pos xs (ck c)) xs).length+[c.2.2.2.1].length<=bk:=cQ (by simp;omega)
 have hd:∀ (p7:List Row) (n:Nat),p7.length<=2000001->p7.length+(List.drop n xs).length<=bk:=fun p7 n h=>cQ (by rw[List.length_drop];omega)
 have hw:ae (((pos xs (ck c):Nat):Int)+1)=((pos xs (ck c)+1:Nat):Int):=by rw[aR (by omega)];rfl
 have c3:=hd (List.take (pos xs (ck c)) xs++[c.2.2.2.1])
 have c4:=hd (List.take (pos xs (ck c)) xs)
 have l3:(List.take (pos xs (ck c)) xs++[c.2.2.2.1]).length<=2000001:=by simp;omega
 have l4:(List.take (pos xs (ck c)) xs).length<=2000001:=by simp;omega
 cases hf:jX xs (ck c) with
 | false=>
  cases c.2.2.1 with
  | false=>simp only[cond_false,pp,and_self,if_true,Int.toNat_natCast,c4 _ l4,Bool.false_eq_true,if_false,List.append_nil,Nat.add_zero]
  | true=>simp only[cond_true,cond_false,c2,pp,and_self,if_true,Int.toNat_natCast,c3 _ l3,Bool.false_eq_true,if_false,Nat.add_zero]
 | true=>
  obtain ⟨dQ,_⟩:=tF hf
  have OG:0<=((pos xs (ck c)+1:Nat):Int)/\((pos xs (ck c)+1:Nat):Int)<=(xs.length:Int):=by omega
  cases c.2.2.1 with
  | false=>simp only[cond_true,cond_false,hw,OG,and_self,if_true,Int.toNat_natCast,c4 _ l4,Bool.false_eq_true,if_false,List.append_nil]
  | true=>simp only[cond_true,cond_false,c2,hw,OG,and_self,if_true,Int.toNat_natCast,c3 _ l3]
theorem vl (a b:Row):fO.ab (a,b,())=some (bS (rk a) (rk b),()):=by
 refine ag (k:=0) fun k _=>(fO.aa k _).trans ?_
 show fO.p _=_
 unfold fO.p bS rk
 by_cases h1:a.1 < b.1 <;> by_cases Y:a.1=b.1 <;> simp[h1,Y]
theorem EF {x:Row} {xs:List Row} {k:Int×Int} (h:bS (rk x) k=true):jX (x::xs) k=jX xs k:=by
 unfold jX
 simp only[pos,h,if_true,List.getElem?_cons_succ]
theorem MZ {xs:List Row} {k:Int×Int} (h:jX xs k=true):∃ y ∈ xs,rk y=k:=by
 obtain ⟨hp,hk⟩:=tF h
 exact ⟨_,List.getElem_mem hp,hk⟩
theorem FM (k:Int×Int):∀ (xs:List Row) (j:Nat),up xs->aV (fun i (_:Unit) x=>if rk x=k then .inl ((i:Int),()) else .inr ()) (fun _=>((-1:Int),())) j xs ()=if jX xs k then (((j+pos xs k:Nat):Int),()) else (-1,())
 | [],j,_=>by simp[aV,jX]
 | x::xs,j,hu=>by
  have hu:=tC.1 hu
  simp only[aV]
  by_cases hx:rk x=k
  ·have hb:bS (rk x) k=false:=by rw[hx];exact nC k
   have hf:jX (x::xs) k=true:=by
    have TB:pos (x::xs) k=0:=by simp only[pos,hb,Bool.false_eq_true,if_false]
    unfold jX
    rw[TB]
    simp[hx]
   simp[hx,hf,pos,nC]
  ·simp only[hx,if_false]
   rw[FM k xs (j+1) hu.2]
   cases hb:bS (rk x) k with
   | true=>
    rw[EF hb]
    simp only[pos,hb,if_true]
    have:j+1+pos xs k=j+(pos xs k+1):=by omega
    rw[this]
   | false=>
    have h1:jX (x::xs) k=false:=by simp[jX,pos,hb,hx]
    have Y:jX xs k=false:=by
     cases h:jX xs k with
     | false=>rfl
     | true=>
      obtain ⟨y,hy,e⟩:=MZ h
      have:=hu.1 y hy
      rw[e,hb] at this;cases this
    simp[h1,Y]
def oZ (xs:List Row) (k:Int×Int):Int:=if jX xs k then (pos xs k:Int) else -1
theorem Jt (xs:List Row) (t k:Int) (hu:up xs) (hl:xs.length<=2000000):fW.ab (xs,t,k,())=some (oZ xs (t,k),()):=by
 refine ag (k:=xs.length+1) fun f hf=>(fW.aa f _).trans ?_
 have:=bc (B:=fun self v=>fW.B0 0 self (fun z=>fW.Q0 0 (xs,t,k,()) z) (xs,t,k,()) v) xs (fun (_:Unit) (i:Int)=>i) (fun i _ x=>if rk x=(t,k) then .inl ((i:Int),()) else .inr ()) (fun _=>((-1:Int),())) (fun _ _=>True) (by rw[ah];omega)
  (fun i hi _ self _=>by
   show fW.b0 _ _ _ _=_
   unfold fW.b0 rk
   have aj:(i:Int) < (xs.length:Int):=by omega
   simp only[aj,decide_true,cond_true,Int.natCast_nonneg,if_true,Int.toNat_natCast,List.getElem?_eq_getElem hi,Option.bind_some]
   by_cases h1:xs[i].1=t <;> by_cases Y:xs[i].2.1=k <;> simp[h1,Y]) (fun _ _ _ _ _ _=>trivial) (fun _ self _=>by
   show fW.b0 _ _ _ _=_
   unfold fW.b0
   simp[fW.Q0,fW.q0]) () trivial f (by omega)
 rw[FM (t,k) xs 0 hu] at this
 have this:fW.r0 f (xs,t,k,()) 0=_:=this
 unfold fW.p
 rw[this]
 unfold oZ
 cases jX xs (t,k) <;> simp <;> rfl
theorem Dw {O:Type} (k:Int×Int) (g:Nat->O) (n:Nat):∀ (xs:List Row) (j:Nat),j+xs.length=n->aV (fun i (_:Unit) x=>if bS (rk x) k then .inr () else .inl (g i)) (fun _=>g n) j xs ()=g (j+pos xs k)
 | [],j,h=>by simp[aV,pos] at *;rw[h]
 | x::xs,j,h=>by
  simp only[aV,pos]
  cases hb:bS (rk x) k with
  | true=>
   simp only[if_true]
   rw[Dw k g n xs (j+1) (by simp at h;omega)]
   congr 1;omega
  | false=>simp
def ko (xs:List Row) (r:Row):List Row:=xs.take (pos xs (rk r))++[r]++xs.drop (pos xs (rk r))
theorem zr (xs:List Row) (r:Row) (hl:xs.length<=2000000):eg.ab (xs,r,())=some (ko xs r,()):=by
 refine ag (k:=xs.length+1) fun f hf=>(eg.aa f _).trans ?_
 have hq:∀ i:Nat,i<=xs.length->eg.Q0 0 (xs,r,()) (i:Int)=some (xs.take i++[r]++xs.drop i,()):=fun i hi=>by
  show eg.q0 _ _=_
  unfold eg.q0
  have pp:0<=(i:Int)/\(i:Int)<=(xs.length:Int):=by omega
  have c1:([]:List Row).length+(List.take i xs).length<=bk:=cQ (by simp;omega)
  have c2:(List.take i xs).length+[r].length<=bk:=cQ (by simp;omega)
  have c3:(List.take i xs++[r]).length+(List.drop i xs).length<=bk:=cQ (by simp;omega)
  simp only[pp,and_self,if_true,Int.toNat_natCast,c1,List.drop_zero,List.nil_append,List.take_length,c2,c3]
 have:=bc (B:=fun self v=>eg.B0 0 self (fun z=>eg.Q0 0 (xs,r,()) z) (xs,r,()) v) xs (fun (_:Unit) (i:Int)=>i) (fun i _ x=>if bS (rk x) (rk r) then .inr () else .inl (xs.take i++[r]++xs.drop i,())) (fun _=>(xs.take xs.length++[r]++xs.drop xs.length,())) (fun _ _=>True) (by rw[ah];omega)
  (fun i hi _ self _=>by
   show eg.b0 _ _ _ _=_
   unfold eg.b0
   have aj:(i:Int) < (xs.length:Int):=by omega
   simp only[aj,decide_true,cond_true,Int.natCast_nonneg,if_true,Int.toNat_natCast,List.getElem?_eq_getElem hi,Option.bind_some,vl]
   cases bS (rk xs[i]) (rk r) with
   | true=>rfl
   | false=>exact hq i (by omega)) (fun _ _ _ _ _ _=>trivial) (fun _ self _=>by
   show eg.b0 _ _ _ _=_
   unfold eg.b0
   have aj:¬ (xs.length:Int) < (xs.length:Int):=by omega
   simp only[aj,decide_false,cond_false]
   exact hq _ (Nat.le_refl _)) () trivial f (by omega)
 rw[Dw (rk r) (fun i=>(xs.take i++[r]++xs.drop i,())) xs.length xs 0 (by omega)] at this
 refine this.trans ?_
 simp[ko]
theorem yd (t:Int):∀ (xs:List Row) (j:Nat) (s:List Row),aV (O:=List Row×Unit) (fun i s x=>if (i:Int)=t then .inr s else .inr (s++[x])) (fun s=>(s,())) j xs s=(s++(if (j:Int)<=t/\t < j+xs.length then xs.take (t - j).toNat++xs.drop ((t - j).toNat+1) else xs),())
 | [],j,s=>by
  have:¬ ((j:Int)<=t/\t < j+(([]:List Row).length:Int)):=fun h=>by
   have Y:(([]:List Row).length:Int)=0:=rfl
   omega
  simp only[aV,this,if_false,List.append_nil]
 | x::xs,j,s=>by
  simp only[aV]
  by_cases h:(j:Int)=t
  ·have h1:¬ (((j+1:Nat):Int)<=t/\t < ((j+1:Nat):Int)+(xs.length:Int)):=by omega
   have Y:(j:Int)<=t/\t < (j:Int)+((x::xs).length:Int):=by simp;omega
   have h3:(t - j).toNat=0:=by omega
   simp only[h,if_true]
   rw[yd t xs (j+1) s,if_neg h1]
   rw[<-h] at Y ⊢
   have h3:((j:Int) - j).toNat=0:=by omega
   rw[if_pos Y,h3]
   simp
  ·simp only[h,if_false]
   rw[yd t xs (j+1) (s++[x])]
   by_cases hc:(j:Int)<=t/\t < (j:Int)+((x::xs).length:Int)
   ·have vX:((j+1:Nat):Int)<=t/\t < ((j+1:Nat):Int)+(xs.length:Int):=by simp at hc;omega
    have h3:(t - j).toNat=(t - ((j+1:Nat):Int)).toNat+1:=by omega
    rw[if_pos hc,if_pos vX,h3]
    simp
   ·have vX:¬ (((j+1:Nat):Int)<=t/\t < ((j+1:Nat):Int)+(xs.length:Int)):=by simp at hc;omega
    rw[if_neg hc,if_neg vX]
    simp
def ye (xs:List Row) (k:Int×Int):List Row:=if jX xs k then xs.take (pos xs k)++xs.drop (pos xs k+1) else xs
theorem zs (k:Int×Int):∀ (l1 l2:List Row),(∀ x ∈ l1,bS (rk x) k=true)->pos (l1++l2) k=l1.length+pos l2 k
 | [],l2,_=>by simp
 | x::l1,l2,h=>by
  simp only[List.cons_append,pos,h x List.mem_cons_self,if_true,List.length_cons]
  rw[zs k l1 l2 fun y hy=>h y (List.mem_cons_of_mem _ hy)]
  omega
theorem uL {xs:List Row} {k:Int×Int} {x:Row} (h:x ∈ xs.take (pos xs k)):bS (rk x) k=true:=by
 obtain ⟨i,hi,e⟩:=List.mem_iff_getElem.1 h
 have hp:=tD xs k
 rw[List.length_take] at hi
 rw[List.getElem_take] at e
 rw[<-e]
 exact Dv xs k i (by omega) (by omega)
theorem KV {xs:List Row} {k:Int×Int} (hu:up xs) {n:Nat} (hn:pos xs k<=n):pos (xs.drop n) k=0:=by
 cases hd:xs.drop n with
 | nil=>rfl
 | cons y ys=>
  have aj:n < xs.length:=by
   rcases Nat.lt_or_ge n xs.length with h | h
   ·exact h
   ·rw[List.drop_eq_nil_of_le h] at hd;cases hd
  rw[List.drop_eq_getElem_cons aj] at hd
  injection hd with h1 Y
  simp only[pos]
  rw[<-h1,tE xs k n aj hu hn]
  rfl
theorem M0 {xs:List Row} {k:Int×Int} {r:Row} (hu:up xs) (hk:rk r=k):ko (ye xs k) r=xs.take (pos xs k)++[r]++xs.drop (pos xs k+if jX xs k then 1 else 0):=by
 have hp:=tD xs k
 have key:∀ n,pos xs k<=n->pos (xs.take (pos xs k)++xs.drop n) k=pos xs k:=fun n hn=>by
  rw[zs k _ _ fun x hx=>uL hx,KV hu hn,List.length_take]
  omega
 have hl:(xs.take (pos xs k)).length=pos xs k:=by rw[List.length_take];omega
 unfold ko ye
 rw[hk]
 cases jX xs k with
 | true=>
  simp only[if_true]
  rw[key _ (by omega),List.take_left' hl,List.drop_left' hl]
 | false=>
  simp
theorem Ju (xs:List Row) (c:Change) (hu:up xs) (hl:xs.length<=2000000) (hc:c.2.2.1=true->rk c.2.2.2.1=ck c):fX.ab (xs,c,())=some (if oz xs c then (mD xs c,true,()) else ([],false,())):=by
 refine ag (k:=xs.length+1) fun f hf=>(fX.aa f _).trans ?_
 have hp:=tD xs (ck c)
 have Jv:=bc (B:=fun self v=>fX.B0 0 self (fun z=>fX.Q0 0 (xs,c,()) (oZ xs (ck c)) z) (xs,c,()) (oZ xs (ck c)) v) (O:=List Row×Bool×Unit) xs (fun (s:List Row) (i:Int)=>(s,i)) (fun i s x=>if (i:Int)=oZ xs (ck c) then .inr s else .inr (s++[x]))
  (fun s=>(if c.2.2.1 then ko s c.2.2.2.1 else s,true,())) (fun i s=>s.length<=i) (by rw[ah];omega)
  (fun i hi s self hI=>by
   show fX.b0 _ _ _ _ _=_
   unfold fX.b0
   have aj:(i:Int) < (xs.length:Int):=by omega
   simp only[aj,decide_true,cond_true,Int.natCast_nonneg,if_true,Int.toNat_natCast,List.getElem?_eq_getElem hi,Option.bind_some]
   have c2:s.length+[xs[i]].length<=bk:=cQ (by simp;omega)
   by_cases h:(i:Int)=oZ xs (ck c)
   ·simp[h]
   ·simp only[h,decide_false,Bool.not_false,cond_true,c2,if_true,if_false]) (fun i hi s s' hI hf=>by
   split at hf <;> (injection hf with hf;rw[<-hf];first | omega | (simp;omega))) (fun s self hI=>by
   show fX.b0 _ _ _ _ _=_
   unfold fX.b0
   have aj:¬ (xs.length:Int) < (xs.length:Int):=by omega
   simp only[aj,decide_false,cond_false,fX.Q0,fX.q0,zr s _ (by omega),Option.bind_some]
   cases c.2.2.1 <;> rfl) [] (Nat.le_refl _) f (by omega)
 have De:∀ (Jw:List Row) (j:Nat) (s:List Row),aV (O:=List Row×Bool×Unit) (fun i s x=>if (i:Int)=oZ xs (ck c) then .inr s else .inr (s++[x])) (fun s=>(if c.2.2.1 then ko s c.2.2.2.1 else s,true,())) j Jw s
   = (fun s=>(if c.2.2.1 then ko s c.2.2.2.1 else s,true,())) (aV (O:=List Row×Unit) (fun i s x=>if (i:Int)=oZ xs (ck c) then .inr s else .inr (s++[x])) (fun s=>(s,())) j Jw s).1:=by
  intro Jw
  induction Jw with
  | nil=>intro j s;rfl
  | cons x Jw ih=>
   intro j s
   simp only[aV]
   by_cases h:(j:Int)=oZ xs (ck c)
   ·simp only[h,if_true];exact ih _ _
   ·simp only[h,if_false];exact ih _ _
 rw[De,yd (oZ xs (ck c)) xs 0 []] at Jv
 have RA:([]++(if ((0:Nat):Int)<=oZ xs (ck c)/\oZ xs (ck c) < ((0:Nat):Int)+(xs.length:Int) then xs.take (oZ xs (ck c) - ((0:Nat):Int)).toNat++xs.drop ((oZ xs (ck c) - ((0:Nat):Int)).toNat+1) else xs))=ye xs (ck c):=by
  unfold oZ ye
  cases Jx:jX xs (ck c) with
  | true=>
   obtain ⟨dQ,_⟩:=tF Jx
   simp only[if_true]
   rw[if_pos (by omega)]
   have:(((pos xs (ck c):Nat):Int) - ((0:Nat):Int)).toNat=pos xs (ck c):=by omega
   rw[this];rfl
  | false=>simp
 simp only[RA] at Jv
 have Jv:fX.r0 f (xs,c,()) (oZ xs (ck c)) (([]:List Row),(0:Int))=_:=Jv
 unfold fX.p oz
 simp only[uD,Jt xs _ _ hu hl,Option.bind_some,Jv]
 have PB:(if c.2.2.1 then ko (ye xs (ck c)) c.2.2.2.1 else ye xs (ck c))=mD xs c:=by
  unfold mD
  cases hi:c.2.2.1 with
  | true=>simp only[if_true];exact M0 hu (hc hi)
  | false=>
   simp only[Bool.false_eq_true,if_false,List.append_nil]
   unfold ye
   cases jX xs (ck c) with
   | true=>simp
   | false=>simp
 rw[PB]
 cases Jx:jX xs (ck c) with
 | true=>
  obtain ⟨dQ,hk⟩:=tF Jx
  have ha:oZ xs (ck c)=(pos xs (ck c):Int):=by unfold oZ;rw[Jx];rfl
  simp only[ha,Int.natCast_nonneg,decide_true,cond_true,if_true,Int.toNat_natCast,List.getElem?_eq_getElem dQ,Option.bind_some]
  cases c.1 with
  | true=>cases Ty.eq aF xs[pos xs (ck c)] c.2.1 <;> rfl
  | false=>rfl
 | false=>
  have ha:oZ xs (ck c)=-1:=by unfold oZ;rw[Jx];rfl
  simp only[ha]
  cases c.1 <;> rfl
end OT
set_option linter.unusedVariables false
set_option linter.unusedSimpArgs false
namespace OT
open Go
def lS (xs:List Row) (i:Nat) (x:Row):Sum (Int×Unit) Unit:=
 if ip x=0 then (if 0 < i then (match xs[i - 1]? with | some y=>if bS (rk y) (rk x) then .inr () else .inl (1,()) | none=>.inl (1,())) else .inr ()) else .inl (ip x,())
def mE (xs:List Row):Int:=if 60 < xs.length then 2 else (aV (fun i (_:Unit) x=>lS xs i x) (fun _=>((0:Int),())) 0 xs ()).1
theorem EG (xs:List Row) (hl:xs.length<=maxLen) (h:∀ c ∈ xs,rl c):ep.ab (xs,())=some (mE xs,()):=by
 refine ag (k:=xs.length+1) fun k hk=>(ep.aa k _).trans ?_
 have:=bc (B:=fun self v=>ep.B0 0 self (fun z=>ep.Q0 0 (xs,()) z) (xs,()) v) xs (fun (_:Unit) (i:Int)=>i) (fun i _ x=>lS xs i x) (fun _=>(0,())) (fun _ _=>True) hl
  (fun i hi _ self _=>by
   show ep.b0 _ _ _ _=_
   unfold ep.b0 lS
   have aj:(i:Int) < (xs.length:Int):=by omega
   simp only[aj,decide_true,cond_true,Int.natCast_nonneg,if_true,Int.toNat_natCast,List.getElem?_eq_getElem hi,Option.bind_some,qX _ (h _ (List.getElem_mem hi))]
   by_cases h1:ip xs[i]=0
   ·simp only[h1,decide_true,Bool.not_true,cond_false,if_true]
    by_cases h0:0 < i
    ·have mg:(0:Int) < (i:Int):=by omega
     have eF:i - 1 < xs.length:=by omega
     simp only[h0,mg,decide_true,cond_true,if_true,uE h0 (by omega),Int.natCast_nonneg,Int.toNat_natCast,List.getElem?_eq_getElem eF,Option.bind_some,vl]
     cases bS (rk xs[i - 1]) (rk xs[i]) <;> rfl
    ·have mg:¬ (0:Int) < (i:Int):=by omega
     simp[h0,mg]
   ·simp[h1]) (fun _ _ _ _ _ _=>trivial) (fun _ self _=>by
   show ep.b0 _ _ _ _=_
   unfold ep.b0
   simp[ep.Q0,ep.q0]) () trivial k (by omega)
 have this:ep.r0 k (xs,()) 0=_:=this
 unfold ep.p mE
 rw[this,show (60:Int)=((60:Nat):Int) from rfl]
 simp only[w8]
 by_cases h1:60 < xs.length <;> simp[h1] <;> rfl
theorem xo (xs:List Row) (hl:xs.length<=maxLen) (h:∀ c ∈ xs,rl c):cg.ab (xs,())=some (mE xs,()):=by
 refine ag (k:=xs.length+1) fun k hk=>(cg.aa k _).trans ?_
 have:=bc (B:=fun self v=>cg.B0 0 self (fun z=>cg.Q0 0 (xs,()) z) (xs,()) v) xs (fun (_:Unit) (i:Int)=>i) (fun i _ x=>lS xs i x) (fun _=>(0,())) (fun _ _=>True) hl
  (fun i hi _ self _=>by
   show cg.b0 _ _ _ _=_
   unfold cg.b0 lS rk
   have aj:(i:Int) < (xs.length:Int):=by omega
   simp only[aj,decide_true,cond_true,Int.natCast_nonneg,if_true,Int.toNat_natCast,List.getElem?_eq_getElem hi,Option.bind_some,qY _ (h _ (List.getElem_mem hi))]
   by_cases h1:ip xs[i]=0
   ·simp only[h1,decide_true,Bool.not_true,cond_false,if_true]
    by_cases h0:0 < i
    ·have mg:(0:Int) < (i:Int):=by omega
     have eF:i - 1 < xs.length:=by omega
     simp only[h0,mg,decide_true,cond_true,if_true,uE h0 (by omega),Int.natCast_nonneg,Int.toNat_natCast,List.getElem?_eq_getElem eF,Option.bind_some,qc]
     cases bS (xs[i - 1].1,xs[i - 1].2.1) (xs[i].1,xs[i].2.1) <;> rfl
    ·have mg:¬ (0:Int) < (i:Int):=by omega
     simp[h0,mg]
   ·simp[h1]) (fun _ _ _ _ _ _=>trivial) (fun _ self _=>by
   show cg.b0 _ _ _ _=_
   unfold cg.b0
   simp[cg.Q0,cg.q0]) () trivial k (by omega)
 have this:cg.r0 k (xs,()) 0=_:=this
 unfold cg.p mE
 rw[this,show (60:Int)=((60:Nat):Int) from rfl]
 simp only[w8]
 by_cases h1:60 < xs.length <;> simp[h1] <;> rfl
theorem AZ {α:Type} {f:Nat->Unit->α->Sum (Int×Unit) Unit} (hf:∀ i s x o,f i s x=.inl o->o.1≠0):∀ (xs:List α) (j:Nat),(aV f (fun _=>((0:Int),())) j xs ()).1=0->∀ i (hi:i < xs.length),f (j+i) () xs[i]=.inr ()
 | x::xs,j,h,i,hi=>by
  simp only[aV] at h
  cases hx:f j () x with
  | inl o=>rw[hx] at h;exact absurd h (hf _ _ _ _ hx)
  | inr u=>
   rw[hx] at h
   cases i with
   | zero=>exact hx
   | succ i=>
    have:=AZ hf xs (j+1) h i (by simpa using hi)
    rw[show j+(i+1)=j+1+i by omega]
    exact this
theorem Jy:∀ (xs:List Row),(∀ i (hi:i < xs.length),0 < i->bS (rk (xs[i - 1]'(by omega))) (rk xs[i])=true)->up xs
 | [],_=>List.Pairwise.nil
 | [x],_=>List.pairwise_singleton _ _
 | x::y::xs,h=>by
  have hu:up (y::xs):=Jy (y::xs) fun i hi h0=>by
   have:=h (i+1) (by simp at hi ⊢;omega) (by omega)
   simp only[Nat.add_sub_cancel] at this
   have e:(x::y::xs)[i]'(by simp at hi ⊢;omega)=(y::xs)[i - 1]'(by simp at hi ⊢;omega):=by
    cases i with
    | zero=>omega
    | succ i=>rfl
   rw[e] at this
   exact this
  have qF:bS (rk x) (rk y)=true:=h 1 (by simp) (by omega)
  refine tC.2 ⟨fun z hz=>?_,hu⟩
  rcases List.mem_cons.1 hz with rfl | hz
  ·exact qF
  ·exact lH qF ((tC.1 hu).1 z hz)
theorem Jz {x:Row} (h:ip x=0):List.length x.2.2.2.1<=8:=by
 unfold ip at h
 split at h
 ·split at h
  ·rename_i ht
   unfold w7 at ht
   simp only[Bool.and_eq_true,decide_eq_true_eq] at ht
   exact ht.2
  ·cases h
 ·cases h
structure Good (xs:List Row):Prop where
 up:up xs
 ok:∀ x ∈ xs,ip x=0
theorem uM {xs:List Row} (h:mE xs=0):Good xs/\xs.length<=60:=by
 unfold mE at h
 split at h
 ·cases h
 ·rename_i hl
  have hn:=AZ (f:=fun i (_:Unit) x=>lS xs i x) (fun i s x o ho=>by
   unfold lS at ho
   split at ho
   ·split at ho
    ·split at ho
     ·split at ho
      ·cases ho
      ·injection ho with ho;rw[<-ho];decide
     ·injection ho with ho;rw[<-ho];decide
    ·cases ho
   ·rename_i hx
    injection ho with ho;rw[<-ho];exact hx) xs 0 h
  have h1:∀ i (hi:i < xs.length),ip xs[i]=0:=fun i hi=>by
   have:=hn i hi
   unfold lS at this
   split at this
   ·assumption
   ·cases this
  refine ⟨⟨Jy xs fun i hi h0=>?_,fun x hx=>?_⟩,by omega⟩
  ·have:=hn i hi
   unfold lS at this
   rw[if_pos (h1 i hi),Nat.zero_add,if_pos h0,List.getElem?_eq_getElem (show i - 1 < xs.length by omega)] at this
   simp only at this
   split at this
   ·assumption
   ·cases this
  ·obtain ⟨i,hi,rfl⟩:=List.mem_iff_getElem.1 hx
   exact h1 i hi
theorem FN {c:Change} (h:nc c=0):(c.2.2.1=true->rk c.2.2.2.1=ck c)/\(c.2.2.1=true->ip c.2.2.2.1=0):=by
 refine ⟨fun hi=>by unfold rk ck;rw[hi];rfl,fun hi=>?_⟩
 unfold nc at h
 split at h
 ·cases h
 ·split at h
  ·rename_i Y
   simp only[Bool.and_eq_true,Bool.not_eq_true',decide_eq_false_iff_not] at Y
   exact absurd h Y.2
  ·first | exact h | (rw[if_pos hi] at h;exact h)
theorem sK {xs:List Row} {c:Change} (h:Good xs) (hc:nc c=0):Good (mD xs c):=by
 obtain ⟨hk,hr⟩:=FN hc
 have hb:=h.up
 constructor
 ·unfold mD up
  have h1:(xs.take (pos xs (ck c))).Pairwise (fun a b=>bS (rk a) (rk b)=true):=hb.sublist (List.take_sublist _ _)
  have u7:∀ n,(xs.drop n).Pairwise (fun a b=>bS (rk a) (rk b)=true):=fun n=>hb.sublist (List.drop_sublist _ _)
  have JA:∀ y ∈ xs.drop (pos xs (ck c)+if jX xs (ck c) then 1 else 0),bS (ck c) (rk y)=true:=fun y hy=>by
   obtain ⟨i,e⟩:=List.mem_iff_getElem?.1 hy
   rw[List.getElem?_drop] at e
   obtain ⟨aj,e1⟩:=List.getElem?_eq_some_iff.1 e
   have hn:=tE xs (ck c) _ aj hb (by omega)
   rw[e1] at hn
   clear e1 aj
   cases qH:bS (ck c) (rk y) with
   | true=>rfl
   | false=>
    have he:=pU qH hn
    exfalso
    cases hf:jX xs (ck c) with
    | true=>
     obtain ⟨hp,Az⟩:=tF hf
     rw[hf] at e
     simp only[if_true] at e
     obtain ⟨aj,e⟩:=List.getElem?_eq_some_iff.1 e
     have:=List.pairwise_iff_getElem.1 hb (pos xs (ck c)) (pos xs (ck c)+1+i) hp aj (by omega)
     rw[e,Az,he] at this
     rw[nC] at this;cases this
    | false=>
     rw[hf] at e
     simp only[Bool.false_eq_true,if_false,Nat.add_zero] at e
     obtain ⟨aj,e⟩:=List.getElem?_eq_some_iff.1 e
     have hp:pos xs (ck c) < xs.length:=by omega
     have yR:=tE xs (ck c) _ hp hb (Nat.le_refl _)
     have eB:rk xs[pos xs (ck c)]≠ck c:=fun e2=>by
      unfold jX at hf
      rw[List.getElem?_eq_getElem hp] at hf
      simp[e2] at hf
     have KW:bS (ck c) (rk xs[pos xs (ck c)])=true:=by
      cases Cn:bS (ck c) (rk xs[pos xs (ck c)]) with
      | true=>rfl
      | false=>exact absurd (pU Cn yR).symm eB
     cases i with
     | zero=>
      simp only[Nat.add_zero] at e
      rw[e,<- he,nC] at KW;cases KW
     | succ i=>
      have:=List.pairwise_iff_getElem.1 hb (pos xs (ck c)) (pos xs (ck c)+(i+1)) hp aj (by omega)
      rw[e] at this
      have:=lH KW this
      rw[<-he,nC] at this;cases this
  have JB:∀ a ∈ xs.take (pos xs (ck c)),∀ y ∈ xs.drop (pos xs (ck c)+if jX xs (ck c) then 1 else 0),bS (rk a) (rk y)=true:=fun a ha y hy=>lH (uL ha) (JA y hy)
  cases hi:c.2.2.1 with
  | true=>
   have QG:=hk hi
   simp only[if_true]
   refine List.pairwise_append.2 ⟨List.pairwise_append.2 ⟨h1,List.pairwise_singleton _ _,fun a ha b hb=>?_⟩,u7 _,fun a ha y hy=>?_⟩
   ·rw[List.mem_singleton] at hb;subst hb;rw[QG];exact uL ha
   ·rcases List.mem_append.1 ha with ha | ha
    ·exact JB a ha y hy
    ·rw[List.mem_singleton] at ha;subst ha;rw[QG];exact JA y hy
  | false=>
   simp only[Bool.false_eq_true,if_false,List.append_nil]
   exact List.pairwise_append.2 ⟨h1,u7 _,JB⟩
 ·intro x hx
  unfold mD at hx
  rcases List.mem_append.1 hx with hx | hx
  ·rcases List.mem_append.1 hx with hx | hx
   ·exact h.ok x (List.mem_of_mem_take hx)
   ·split at hx
    ·rename_i hi
     rw[List.mem_singleton] at hx
     rw[hx];exact hr hi
    ·cases hx
  ·exact h.ok x (List.mem_of_mem_drop hx)
theorem uN (xs:List Row) (c:Change):(mD xs c).length<=xs.length+1:=by
 unfold mD
 rw[List.length_append,List.length_append,List.length_take,List.length_drop]
 have:(if c.2.2.1=true then [c.2.2.2.1] else []).length<=1:=by split <;> simp
 omega
def nD (i:Nat) (s:List Row) (c:Change):Sum (qS×Unit) (List Row):=if nc c=0 then (if oz s c then .inr (mD s c) else .inl ((8,[],()),())) else .inl ((nc c,[],()),())
def si (s:List Row):qS×Unit:=if 60 < s.length then ((2,[],()),()) else ((0,s,()),())
def zt (xs:List Row) (cs:List Change):qS:=if mE xs=0 then (aV nD si 0 cs xs).1 else (mE xs,[],())
theorem KX (n i:Nat) (s s':List Row) (c:Change) (h:Good s/\s.length<=60+i) (hf:nD n s c=.inr s'):Good s'/\s'.length<=60+(i+1):=by
 unfold nD at hf
 split at hf
 ·rename_i hc
  split at hf
  ·injection hf with hf
   subst hf
   exact ⟨sK h.1 hc,by have:=uN s c;omega⟩
  ·cases hf
 ·cases hf
theorem xp (xs:List Row) (h:xs.length<=1048576):eb.ab (xs,())=some (xs,()):=by
 refine ag (k:=0) fun k _=>(eb.aa k _).trans ?_
 show eb.p _=_
 unfold eb.p
 have c1:([]:List Row).length+xs.length<=bk:=cQ (by simp only[List.length_nil];omega)
 exact FJ (fun e=>by have e:xs=[]:=e;subst e;rfl) (by rw[if_pos c1];rfl)
theorem Dx (xs:List Row) (cs:List Change) (hl:xs.length<=maxLen) (h:∀ x ∈ xs,rl x) (LD:cs.length<=1048576) (hc:∀ c ∈ cs,cl c):cn.ab (xs,cs,())=some (zt xs cs,()):=by
 refine ag (k:=cs.length+1) fun k hk=>(cn.aa k _).trans ?_
 unfold cn.p zt
 simp only[xo xs hl h,Option.bind_some]
 by_cases h0:mE xs=0
 ·obtain ⟨hg,hn⟩:=uM h0
  simp only[h0,decide_true,Bool.not_true,cond_false,if_true,xp xs (by omega),Option.bind_some]
  exact bc (B:=fun self v=>cn.B0 0 self (fun z=>cn.Q0 0 (xs,cs,()) z) (xs,cs,()) v) cs (fun (s:List Row) (i:Int)=>(s,i)) nD si (fun i s=>Good s/\s.length<=60+i) (by rw[ah];omega)
   (fun i hi s self hI=>by
    show cn.b0 _ _ _ _=_
    unfold cn.b0 nD
    have aj:(i:Int) < (cs.length:Int):=by omega
    simp only[aj,decide_true,cond_true,Int.natCast_nonneg,if_true,Int.toNat_natCast,List.getElem?_eq_getElem hi,Option.bind_some,vg _ (hc _ (List.getElem_mem hi)),Js _ s hI.1.up (by omega),Hu s _ hI.1.up (by omega)]
    by_cases h1:nc cs[i]=0
    ·simp only[h1,decide_true,Bool.not_true,cond_false,if_true]
     cases oz s cs[i] <;> rfl
    ·simp[h1]) (fun i hi s s' hI hf=>KX _ i s s' _ hI hf) (fun s self hI=>by
    show cn.b0 _ _ _ _=_
    unfold cn.b0 si
    have aj:¬ (cs.length:Int) < (cs.length:Int):=by omega
    simp only[aj,decide_false,cond_false,cn.Q0,cn.q0]
    rw[show (60:Int)=((60:Nat):Int) from rfl,w8]
    by_cases h1:60 < s.length <;> simp[h1]) xs ⟨hg,by omega⟩ k (by omega)
 ·simp[h0];(try rfl)
end OT
set_option linter.unusedVariables false
set_option linter.unusedSimpArgs false
namespace OT
open Go
theorem Dy {α β O:Type} [DecidableEq β] (g:α->Option β) (bad:O) (fin:Unit->O) (p:α->α->Bool) (hp:∀ x y,p x y=true↔∃ b,g x=some b/\g y=some b) (all:List α):∀ (xs pre:List α),all=pre++xs->(pre.filterMap g).Nodup->aV (fun i _ x=>if (all.take i).any (p x) then .inl bad else .inr ()) fin pre.length xs ()=if (all.filterMap g).Nodup then fin () else bad
 | [],pre,h,hn=>by
  rw[List.append_nil] at h
  subst h
  simp only[aV,hn,if_true]
 | x::xs,pre,h,hn=>by
  have ht:all.take pre.length=pre:=by rw[h];exact List.take_left
  simp only[aV,ht]
  have jy:all.filterMap g=pre.filterMap g++([x].filterMap g++xs.filterMap g):=by rw[h,<- List.singleton_append (x:=x),List.filterMap_append,List.filterMap_append]
  cases hc:pre.any (p x) with
  | true=>
   simp only[if_true]
   obtain ⟨y,hy,TC⟩:=List.any_eq_true.1 hc
   obtain ⟨b,h1,Y⟩:=(hp x y).1 TC
   rw[if_neg]
   intro mj
   rw[jy,List.nodup_append] at mj
   exact mj.2.2 b (List.mem_filterMap.2 ⟨y,hy,Y⟩) b (by simp[h1]) rfl
  | false=>
   simp only[Bool.false_eq_true,if_false]
   have:=Dy g bad fin p hp all xs (pre++[x]) (by rw[h];simp) (by
    rw[List.filterMap_append,List.nodup_append]
    refine ⟨hn,?_,fun a ha b hb e=>?_⟩
    ·cases hg:g x with
     | none=>simp[hg]
     | some b=>simp[hg]
    ·subst e
     obtain ⟨y,hy,TD⟩:=List.mem_filterMap.1 ha
     obtain ⟨z,hz,TE⟩:=List.mem_filterMap.1 hb
     rw[List.mem_singleton] at hz
     subst hz
     have:pre.any (p z)=true:=List.any_eq_true.2 ⟨y,hy,(hp z y).2 ⟨a,TE,TD⟩⟩
     rw[this] at hc;cases hc)
   rw[List.length_append] at this
   exact this
theorem wr {α β O:Type} [DecidableEq β] (g:α->Option β) (bad:O) (fin:Unit->O) (p:α->α->Bool) (hp:∀ x y,p x y=true↔∃ b,g x=some b/\g y=some b) (xs:List α):aV (fun i _ x=>if (xs.take i).any (p x) then .inl bad else .inr ()) fin 0 xs ()=if (xs.filterMap g).Nodup then fin () else bad:=
 Dy g bad fin p hp xs xs [] rfl List.nodup_nil
theorem vm {α:Type} {lt:α->α->Prop} (has:∀ a b,lt a b->¬ lt b a):∀ (xs ys:List α),xs.Perm ys->xs.Pairwise lt->ys.Pairwise lt->xs=ys
 | [],ys,h,_,_=>(List.nil_perm.1 h).symm
 | x::xs,[],h,_,_=>by have:=h.length_eq;cases this
 | x::xs,y::ys,h,h1,Y=>by
  obtain ⟨a1,a2⟩:=List.pairwise_cons.1 h1
  obtain ⟨b1,b2⟩:=List.pairwise_cons.1 Y
  by_cases qF:x=y
  ·subst qF
   rw[vm has xs ys ((List.perm_cons x).1 h) a2 b2]
  ·have hx:x ∈ ys:=by
    have:=h.mem_iff.1 (List.mem_cons_self (a:=x) (l:=xs))
    rcases List.mem_cons.1 this with e | e
    ·exact absurd e qF
    ·exact e
   have hy:y ∈ xs:=by
    have:=h.mem_iff.2 (List.mem_cons_self (a:=y) (l:=ys))
    rcases List.mem_cons.1 this with e | e
    ·exact absurd e.symm qF
    ·exact e
   exact absurd (b1 x hx) (has _ _ (a1 y hy))
theorem A4 (xs:List Row) (r:Row):(ko xs r).Perm (r::xs):=by
 unfold ko
 rw[List.append_assoc]
 have:=List.perm_middle (a:=r) (l₁:=xs.take (pos xs (rk r))) (l₂:=xs.drop (pos xs (rk r)))
 rw[List.take_append_drop] at this
 exact this
theorem FO {xs:List Row} {k:Int×Int} {x:Row} (hu:up xs) (h:x ∈ xs.drop (pos xs k)):bS (rk x) k=false:=by
 obtain ⟨i,hi,e⟩:=List.mem_iff_getElem.1 h
 rw[List.length_drop] at hi
 rw[List.getElem_drop] at e
 rw[<-e]
 exact tE xs k _ _ hu (by omega)
theorem M1 {xs:List Row} {r:Row} (hu:up xs) (hn:∀ x ∈ xs,rk x≠rk r):up (ko xs r):=by
 unfold ko up
 rw[List.append_assoc,List.pairwise_append]
 have hd:=hu.drop (i:=pos xs (rk r))
 refine ⟨hu.take,?_,fun a ha b hb=>?_⟩
 ·rw[List.singleton_append,List.pairwise_cons]
  refine ⟨fun b hb=>?_,hd⟩
  have h1:=FO hu hb
  have Y:=hn b (List.mem_of_mem_drop hb)
  cases h3:bS (rk r) (rk b) with
  | true=>rfl
  | false=>exact absurd (pU h1 h3) Y
 ·have h1:=uL ha
  rw[List.singleton_append] at hb
  rcases List.mem_cons.1 hb with e | e
  ·subst e;exact h1
  ·have Y:=FO hu e
   have h3:=hn b (List.mem_of_mem_drop e)
   cases h4:bS (rk a) (rk b) with
   | true=>rfl
   | false=>
    cases h5:bS (rk b) (rk a) with
    | true=>rw[lH h5 h1] at Y;cases Y
    | false=>
     have:=pU h4 h5
     rw[this] at h1
     rw[h1] at Y;cases Y
def zu (l:List Row):List Row:=l.foldl ko []
theorem zw:∀ (l acc:List Row),(l.foldl ko acc).Perm (l++acc)
 | [],acc=>List.Perm.refl _
 | r::l,acc=>by
  have h1:=zw l (ko acc r)
  have Y:(l++ko acc r).Perm (l++r::acc):=(List.Perm.refl l).append (A4 acc r)
  exact h1.trans (Y.trans List.perm_middle)
theorem Hv (l:List Row):(zu l).Perm l:=by
 have:=zw l []
 rw[List.append_nil] at this
 exact this
theorem Dz:∀ (l acc:List Row),up acc->(l.map rk++acc.map rk).Nodup->up (l.foldl ko acc)
 | [],acc,h,_=>h
 | r::l,acc,h,hn=>by
  simp only[List.map_cons,List.cons_append,List.nodup_cons,List.mem_append,not_or] at hn
  refine Dz l (ko acc r) (M1 h fun x hx e=>hn.1.2 (List.mem_map.2 ⟨x,hx,e⟩)) ?_
  have:(l.map rk++(ko acc r).map rk).Perm (rk r::(l.map rk++acc.map rk)):=by
   refine ((List.Perm.refl _).append ((A4 acc r).map rk)).trans ?_
   rw[List.map_cons]
   exact List.perm_middle
  rw[this.nodup_iff,List.nodup_cons,List.mem_append,not_or]
  exact hn
theorem KY {l:List Row} (h:(l.map rk).Nodup):up (zu l):=Dz l [] List.Pairwise.nil (by simpa using h)
theorem KZ {a b:Int×Int} (h:bS a b=true):¬ bS b a=true:=by rw[Jp h];exact fun h=>by cases h
theorem K1 {xs:List Row} (h:up xs):(xs.map rk).Nodup:=by
 unfold List.Nodup
 rw[List.pairwise_map]
 refine h.imp fun h1 e=>?_
 rw[e,nC] at h1
 cases h1
end OT
set_option linter.unusedVariables false
set_option linter.unusedSimpArgs false
namespace OT
open Go
abbrev fL:Type:=List (List UInt8)
def wt {α β:Type} (g:Nat->α->List β):Nat->List α->List β
 | _,[]=>[]
 | i,x::xs=>g i x++wt g (i+1) xs
theorem wu {O α β:Type} (g:Nat->α->List β) (fin:List β->O):∀ (xs:List α) (i:Nat) (s:List β),aV (fun i s x=>.inr (s++g i x)) fin i xs s=fin (s++wt g i xs)
 | [],_,s=>by simp[aV,wt]
 | x::xs,i,s=>by simp only[aV,wt];rw[wu g fin xs (i+1)];simp[List.append_assoc]
theorem FQ {α β:Type} {g:Nat->α->List β} {n:Nat}:∀ (xs:List α) (i:Nat),(∀ i x,x ∈ xs->(g i x).length<=n)->(wt g i xs).length<=n*xs.length
 | [],_,_=>by simp[wt]
 | x::xs,i,h=>by
  have h1:=h i x List.mem_cons_self
  have Y:=FQ xs (i+1) fun i y hy=>h i y (List.mem_cons_of_mem _ hy)
  simp only[wt,List.length_append,List.length_cons,Nat.mul_add]
  omega
theorem FR {α β:Type} {g:Nat->α->List β} {y:β}:∀ {xs:List α} {i:Nat},y ∈ wt g i xs↔∃ (j:Nat) (x:α),xs[j]?=some x/\y ∈ g (i+j) x
 | [],i=>by simp[wt]
 | x::xs,i=>by
  simp only[wt,List.mem_append,FR (xs:=xs)]
  constructor
  ·rintro (h | ⟨j,z,h1,Y⟩)
   ·exact ⟨0,x,rfl,h⟩
   ·exact ⟨j+1,z,h1,by rw[show i+(j+1)=i+1+j by omega];exact Y⟩
  ·rintro ⟨j,z,h1,Y⟩
   cases j with
   | zero=>injection h1 with h1;subst h1;exact .inl Y
   | succ j=>exact .inr ⟨j,z,h1,by rw[show i+1+j=i+(j+1) by omega];exact Y⟩
def c_ (x:ax):Int:=x.2.2.1.2.1
def ju (x:ax):Int:=x.2.2.1.2.2.1
def jv (x:ax):Int:=x.2.2.1.2.2.2.1
def fZ (x:ax):Row:=x.2.2.1.2.2.2.2.1
def lh (P:Nat) (p:List UInt8) (s:Nat):List ax:=if aP p s=0 then [] else [((P:Int),(s:Int),(c9 (ey p s)).1,())]
def mX (P:Nat) (p:List UInt8):List ax:=(List.range (pn p)).flatMap (lh P p)
def aT (ps:fL):List ax:=wt mX 0 ps
def iS (ps:fL) (a b:Int):lu×Bool:=match ps[a.toNat]? with
 | some p=>if b.toNat < pn p/\aP p b.toNat≠0 then c9 (ey p b.toNat) else (w9,false)
 | none=>(w9,false)
def ot (p:List UInt8) (s:Nat):Bool:=decide (aP p s=0)||(c9 (ey p s)).2
def px (p:List UInt8):Int:=if pw p=0 then (if (List.range (pn p)).all (ot p) then 0 else 5) else pw p
def lc (ps:fL) (x:ax):Bool:=!decide (c_ x=1)||((iS ps (ju x) (jv x)).2&&decide ((iS ps (ju x) (jv x)).1.2.1=2))
def py (x:ax):Option (Int×Int):=if c_ x=1 then some (ju x,jv x) else none
def FS (x:ax) (r:Row):ax:=(x.1,x.2.1,(x.2.2.1.1,x.2.2.1.2.1,x.2.2.1.2.2.1,x.2.2.1.2.2.2.1,r,x.2.2.1.2.2.2.2.2),x.2.2.2)
def rg (ps:fL) (x:ax):ax:=if c_ x=1 then FS x (iS ps (ju x) (jv x)).1.2.2.2.2.1 else x
def lI (ps:fL) (x:ax):List ax:=if c_ x=2 then [] else [rg ps x]
def jo (ps:fL):List ax:=(aT ps).flatMap (lI ps)
def uO (ps:fL):Int:=
 if (aT ps).all (lc ps) then
  if ((aT ps).filterMap py).Nodup then (if ((jo ps).map fun x=>rk (fZ x)).Nodup then 0 else 8) else 6
 else 4
def jp (ps:fL):Int:=if 12 < ps.length then 2 else if gM px ps=0 then uO ps else gM px ps
def nE (ps:fL):Prop:=ps.length<=12/\∀ p ∈ ps,lG p
theorem zx {p:List UInt8} (h:px p=0):lG p/\∀ s,s < pn p->aP p s≠0->(c9 (ey p s)).2=true:=by
 unfold px at h
 split at h
 ·rename_i h1
  split at h
  ·rename_i Y
   refine ⟨wl.1 h1,fun s hs hz=>?_⟩
   have:=List.all_eq_true.1 Y s (List.mem_range.2 hs)
   simpa [ot,hz] using this
  ·cases h
 ·rename_i h1;exact absurd h h1
theorem pz {α:Type} {c:α->Int}:∀ {xs:List α},gM c xs=0->∀ x ∈ xs,c x=0
 | [],_,_,hx=>by cases hx
 | y::xs,h,x,hx=>by
  simp only[gM] at h
  split at h
  ·rename_i hy
   rcases List.mem_cons.1 hx with rfl | hx
   ·exact hy
   ·exact pz h x hx
  ·rename_i hy;exact absurd h hy
theorem uP {ps:fL} (h:jp ps=0):nE ps/\gM px ps=0/\uO ps=0:=by
 unfold jp at h
 split at h
 ·cases h
 ·rename_i h1
  split at h
  ·rename_i Y
   exact ⟨⟨by omega,fun p hp=>(zx (pz Y p hp)).1⟩,Y,h⟩
  ·rename_i Y;exact absurd h Y
theorem s9 {p:List UInt8} (h:lG p) (P:Nat):(mX P p).length<=16:=by
 have:∀ n,((List.range n).flatMap (lh P p)).length<=n:=by
  intro n
  induction n with
  | zero=>simp
  | succ n ih=>
   rw[List.range_succ,List.flatMap_append,List.length_append]
   have:(([n]:List Nat).flatMap (lh P p)).length<=1:=by
    simp only[List.flatMap_cons,List.flatMap_nil,List.append_nil,lh]
    split <;> simp
   omega
 have h1:=this (pn p)
 have Y:=h.n
 unfold mX;omega
theorem sL {ps:fL} (h:nE ps):(aT ps).length<=192:=by
 have:=FQ (g:=mX) (n:=16) ps 0 fun i p hp=>s9 (h.2 p hp) i
 unfold aT;have:=h.1;omega
theorem uQ {ps:fL} (h:nE ps):(jo ps).length<=192:=by
 have:∀ xs:List ax,(xs.flatMap (lI ps)).length<=xs.length:=by
  intro xs
  induction xs with
  | nil=>simp
  | cons x xs ih=>
   have:(lI ps x).length<=1:=by unfold lI;split <;> simp
   simp only[List.flatMap_cons,List.length_append,List.length_cons];omega
 have h1:=this (aT ps)
 have Y:=sL h
 unfold jo;omega
theorem DA (d:List UInt8):0<=(c9 d).1.2.2.1/\0<=(c9 d).1.2.2.2.1:=by
 unfold c9
 split
 ·exact ⟨Int.natCast_nonneg _,Int.natCast_nonneg _⟩
 ·split
  ·exact ⟨Int.le_refl _,Int.le_refl _⟩
  ·exact ⟨Int.le_refl _,Int.le_refl _⟩
theorem sj {ps:fL} {x:ax}:x ∈ aT ps↔∃ (P:Nat) (p:List UInt8) (s:Nat),ps[P]?=some p/\s < pn p/\aP p s≠0/\x=((P:Int),(s:Int),(c9 (ey p s)).1,()):=by
 unfold aT
 rw[FR]
 constructor
 ·rintro ⟨j,p,h1,Y⟩
  obtain ⟨s,h3,h4⟩:=List.mem_flatMap.1 Y
  unfold lh at h4
  split at h4
  ·cases h4
  ·rename_i hz
   rw[List.mem_singleton] at h4
   rw[Nat.zero_add] at h4
   exact ⟨j,p,s,h1,List.mem_range.1 h3,hz,h4⟩
 ·rintro ⟨P,p,s,h1,Y,h3,rfl⟩
  refine ⟨P,p,h1,List.mem_flatMap.2 ⟨s,List.mem_range.2 Y,?_⟩⟩
  unfold lh
  rw[if_neg h3,Nat.zero_add]
  exact List.mem_singleton.2 rfl
theorem qf {ps:fL} {x:ax} (h:x ∈ aT ps):0<=ju x/\0<=jv x:=by
 obtain ⟨P,p,s,_,_,_,rfl⟩:=sj.1 h
 exact DA _
theorem wv (ps:fL) (h:nE ps):bU.ab (ps,())=some (aT ps,()):=by
 obtain ⟨hl,hp⟩:=h
 refine ag (k:=100) fun k hk=>(bU.aa k _).trans ?_
 have inner:∀ (self:(fL×(List ax)×Int)->Option bU.Out) (e0:(List ax)->Option bU.Out) (i:Nat) (hi:i < ps.length) (s:List ax),s.length<=1000->bU.r1 k self e0 (ps,()) ps (i:Int) (s,(0:Int))=self (ps,s++mX i ps[i],ae ((i:Int)+1)):=fun self e0 i hi s0 Ql=>by
  have aA:=hp _ (List.getElem_mem hi)
  have hn:=aA.n
  have hlen:=aA.len
  have:=rf (B:=fun cw v=>bU.B1 k cw (fun z=>bU.Q0 k self e0 (ps,()) ps (i:Int) z) (ps,()) ps (i:Int) v) (pn ps[i]) (fun (s:List ax) (j:Int)=>(s,j)) (fun j s=>.inr (s++lh i ps[i] j)) (fun s=>self (ps,s,ae ((i:Int)+1))) (fun j s=>s.length<=1000+j) (by omega)
   (fun j hj s cw hI=>by
    show bU.b1 _ _ _ _ _ _=_
    unfold bU.b1 lh
    have aj:(j:Int) < (pn ps[i]:Int):=by omega
    simp only[Int.natCast_nonneg,if_true,Int.toNat_natCast,List.getElem?_eq_getElem hi,Option.bind_some,oY hlen,aj,decide_true,cond_true,nB hlen (show j < 16 by omega)]
    by_cases hz:aP ps[i] j=0
    ·have:¬ ((0:Int) < (aP ps[i] j:Int)):=by omega
     rw[decide_eq_false this]
     simp only[cond_false,hz,if_true,List.append_nil]
    ·have:((0:Int) < (aP ps[i] j:Int)):=by omega
     rw[decide_eq_true this]
     simp only[cond_true,qD aA hj,sg _ (Nat.le_trans (oq aA hj) (by omega)),Option.bind_some,hz,if_false]
     rw[if_pos (cQ (by simp only[List.length_cons,List.length_nil];omega))])
   (fun j hj s s' hI hf=>by
    injection hf with hf
    subst hf
    have:(lh i ps[i] j).length<=1:=by unfold lh;split <;> simp
    rw[List.length_append];omega) (fun s cw hI=>by
    show bU.b1 _ _ _ _ _ _=_
    unfold bU.b1
    simp only[Int.natCast_nonneg,if_true,Int.toNat_natCast,List.getElem?_eq_getElem hi,Option.bind_some,oY hlen,Int.lt_irrefl,decide_false,cond_false]
    rfl) s0 (by omega) k (by omega)
  rw[uI (lh i ps[i])] at this
  exact this
 have:=bL (B:=fun self v=>bU.B0 k self (fun z=>bU.Q1 k (ps,()) z) (ps,()) v) ps (fun (s:List ax) (i:Int)=>(ps,s,i)) (fun i s p=>.inr (s++mX i p)) (fun s=>some (s,())) (fun i s=>s.length<=16*i) (by rw[ah];omega)
  (fun i hi s self hI=>by
   show bU.b0 _ _ _ _ _=_
   unfold bU.b0
   have aj:(i:Int) < (ps.length:Int):=by omega
   simp only[aj,decide_true,cond_true,inner self _ i hi s (by omega)])
  (fun i hi s s' hI hf=>by
   injection hf with hf
   subst hf
   have:=s9 (hp _ (List.getElem_mem hi)) i
   rw[List.length_append];omega) (fun s self _=>by
   show bU.b0 _ _ _ _ _=_
   unfold bU.b0
   simp only[Int.lt_irrefl,decide_false,cond_false]
   rfl) [] (by simp) k (by omega)
 rw[wu] at this
 exact this
theorem DB (ps:fL) (hl:ps.length<=12) (hp:∀ p ∈ ps,p.length<=maxLen):cx.ab (ps,())=some (gM px ps,()):=by
 refine ag (k:=100) fun k hk=>(cx.aa k _).trans ?_
 have inner:∀ (self:(fL×Int)->Option cx.Out) (e0:Unit->Option cx.Out) (i:Nat) (hi:i < ps.length),lG ps[i]->cx.r1 k self e0 (ps,()) ps (i:Int) (0:Int)=if (List.range (pn ps[i])).all (ot ps[i]) then self (ps,ae ((i:Int)+1)) else some ((5:Int),()):=fun self e0 i hi aA=>by
  have hn:=aA.n
  have hlen:=aA.len
  have:=rf (B:=fun cw v=>cx.B1 k cw (fun z=>cx.Q0 k self e0 (ps,()) ps (i:Int) z) (ps,()) ps (i:Int) v) (pn ps[i]) (fun (_:Unit) (j:Int)=>j) (fun j _=>if ot ps[i] j then .inr () else .inl (some ((5:Int),()))) (fun s=>self (ps,ae ((i:Int)+1))) (fun _ _=>True) (by omega)
   (fun j hj s cw hI=>by
    show cx.b1 _ _ _ _ _ _=_
    unfold cx.b1 ot
    have aj:(j:Int) < (pn ps[i]:Int):=by omega
    simp only[Int.natCast_nonneg,if_true,Int.toNat_natCast,List.getElem?_eq_getElem hi,Option.bind_some,oY hlen,aj,decide_true,cond_true,nB hlen (show j < 16 by omega)]
    by_cases hz:aP ps[i] j=0
    ·have:¬ ((0:Int) < (aP ps[i] j:Int)):=by omega
     rw[decide_eq_false this]
     simp only[cond_false,hz,decide_true,Bool.true_or,if_true]
    ·have:((0:Int) < (aP ps[i] j:Int)):=by omega
     rw[decide_eq_true this]
     simp only[cond_true,qD aA hj,sg _ (Nat.le_trans (oq aA hj) (by omega)),Option.bind_some,hz,decide_false,Bool.false_or]
     cases (c9 (ey ps[i] j)).2 <;> rfl)
   (fun _ _ _ _ _ _=>trivial) (fun s cw hI=>by
    show cx.b1 _ _ _ _ _ _=_
    unfold cx.b1
    simp only[Int.natCast_nonneg,if_true,Int.toNat_natCast,List.getElem?_eq_getElem hi,Option.bind_some,oY hlen,Int.lt_irrefl,decide_false,cond_false]
    rfl) () trivial k (by omega)
  rw[mW] at this
  exact this
 have:=bL (B:=fun self v=>cx.B0 k self (fun z=>cx.Q1 k (ps,()) z) (ps,()) v) ps (fun (_:Unit) (i:Int)=>(ps,i)) (fun i _ p=>if px p=0 then .inr () else .inl (some (px p,()))) (fun _=>some ((0:Int),())) (fun _ _=>True) (by rw[ah];omega)
  (fun i hi s self hI=>by
   show cx.b0 _ _ _ _ _=_
   unfold cx.b0 px
   have aj:(i:Int) < (ps.length:Int):=by omega
   simp only[aj,decide_true,cond_true,Int.natCast_nonneg,if_true,Int.toNat_natCast,List.getElem?_eq_getElem hi,Option.bind_some,ED _ (hp _ (List.getElem_mem hi))]
   by_cases h0:pw ps[i]=0
   ·rw[decide_eq_true h0]
    simp only[Bool.not_true,cond_false,inner self _ i hi (wl.1 h0),h0,if_true]
    by_cases hc:(List.range (pn ps[i])).all (ot ps[i])=true
    ·simp only[hc,if_true]
    ·simp only[hc,Bool.false_eq_true,if_false]
     rfl
   ·rw[decide_eq_false h0]
    simp only[Bool.not_false,cond_true,h0,if_false])
  (fun _ _ _ _ _ _=>trivial) (fun s self _=>by
   show cx.b0 _ _ _ _ _=_
   unfold cx.b0
   simp only[Int.lt_irrefl,decide_false,cond_false]
   rfl) () trivial k (by omega)
 rw[nM px (fun c=>some (c,())) (fun _=>some ((0:Int),()))] at this
 refine Eq.trans this ?_
 split
 ·rename_i h;rw[h]
 ·rfl
theorem ww (ps:fL) (h:nE ps) (a b:Int) (ha:0<=a) (hb:0<=b):fV.ab (ps,a,b,())=some ((iS ps a b).1,(iS ps a b).2,()):=by
 obtain ⟨hl,hp⟩:=h
 obtain ⟨a,rfl⟩:=Int.eq_ofNat_of_zero_le ha
 obtain ⟨b,rfl⟩:=Int.eq_ofNat_of_zero_le hb
 refine ag (k:=0) fun k hk=>(fV.aa k _).trans ?_
 show fV.p _=_
 unfold fV.p iS
 have hw:ae ((ps.length:Int) - 1)=(ps.length:Int) - 1:=aR (by omega)
 have h0:decide ((0:Int)<=(a:Int))=true:=decide_eq_true (by omega)
 have h1:decide ((a:Int)<=(ps.length:Int) - 1)=decide (a < ps.length):=by rw[decide_eq_decide];omega
 simp only[gC,hw,h0,h1,Option.bind_some,Bool.true_and,Int.toNat_natCast]
 by_cases Mj:a < ps.length
 rotate_left
 ·rw[decide_eq_false Mj,List.getElem?_eq_none (by omega)]
  rfl
 rw[decide_eq_true Mj]
 have aA:=hp _ (List.getElem_mem Mj)
 simp only[Bool.not_true,cond_false,Int.natCast_nonneg,if_true,List.getElem?_eq_getElem Mj,Option.bind_some,Ht aA]
 by_cases hc:b < pn ps[a]/\aP ps[a] b≠0
 ·rw[decide_eq_true hc.1,decide_eq_false hc.2,if_pos hc]
  simp only[Bool.not_false,Bool.and_self,Bool.not_true,cond_false,qD aA hc.1,sg _ (Nat.le_trans (oq aA hc.1) (by omega)),Option.bind_some]
 ·rw[if_neg hc]
  have:(decide (b < pn ps[a])&&!decide (aP ps[a] b=0))=false:=by
   rw[Bool.and_eq_false_iff]
   by_cases Y:b < pn ps[a]
   ·right
    have:aP ps[a] b=0:=by
     by_cases h3:aP ps[a] b=0
     ·exact h3
     ·exact absurd ⟨Y,h3⟩ hc
    rw[decide_eq_true this];rfl
   ·left;exact decide_eq_false Y
  rw[this]
  rfl
theorem DC (ps:fL) (h:nE ps):bg.ab (aT ps,ps,())=some (if (aT ps).all (lc ps) then (if ((aT ps).filterMap py).Nodup then 0 else 6) else 4,()):=by
 have ir:=sL h
 have wo:∀ x ∈ aT ps,0<=ju x/\0<=jv x:=fun x hx=>qf hx
 generalize aT ps=xs at ir wo ⊢
 refine ag (k:=300) fun k hk=>(bg.aa k _).trans ?_
 have inner:∀ (self:(List ax×Int)->Option bg.Out) (e2:Unit->Option bg.Out) (i:Nat) (hi:i < xs.length),bg.r2 k self e2 (xs,ps,()) xs (i:Int) (0:Int)=if (xs.take i).any (fun y=>decide (c_ xs[i]=1)&&(decide (c_ y=1)&&(decide (ju xs[i]=ju y)&&decide (jv xs[i]=jv y)))) then some ((6:Int),()) else self (xs,ae ((i:Int)+1)):=fun self e2 i hi=>by
  have eu:(xs.take i).length=i:=by rw[List.length_take];omega
  have:=bL (B:=fun cw v=>bg.B2 k cw (fun z=>bg.Q1 k self e2 (xs,ps,()) xs (i:Int) z) (xs,ps,()) xs (i:Int) v) (xs.take i) (fun (_:Unit) (j:Int)=>j) (fun _ _ y=>if decide (c_ xs[i]=1)&&(decide (c_ y=1)&&(decide (ju xs[i]=ju y)&&decide (jv xs[i]=jv y))) then .inl (some ((6:Int),())) else .inr ()) (fun _=>self (xs,ae ((i:Int)+1))) (fun _ _=>True) (by rw[ah];omega)
   (fun j hj s cw _=>by
    have gi:j < i:=by omega
    have IT:j < xs.length:=by omega
    show bg.b2 _ _ _ _ _ _=_
    unfold bg.b2
    have aj:(j:Int) < (i:Int):=by omega
    have hg:(xs.take i)[j]=xs[j]:=List.getElem_take
    rw[hg]
    simp only[aj,decide_true,cond_true,Int.natCast_nonneg,if_true,Int.toNat_natCast,List.getElem?_eq_getElem hi,List.getElem?_eq_getElem IT,Option.bind_some]
    show (bif decide (c_ xs[i]=1) then bif decide (c_ xs[j]=1) then bif decide (ju xs[i]=ju xs[j]) then bif decide (jv xs[i]=jv xs[j]) then _ else _ else _ else _ else _)=_
    cases decide (c_ xs[i]=1) <;> cases decide (c_ xs[j]=1) <;> cases decide (ju xs[i]=ju xs[j]) <;> cases decide (jv xs[i]=jv xs[j]) <;> rfl)
   (fun _ _ _ _ _ _=>trivial) (fun s cw _=>by
    rw[eu]
    show bg.b2 _ _ _ _ _ _=_
    unfold bg.b2
    simp only[Int.lt_irrefl,decide_false,cond_false]
    rfl) () trivial k (by omega)
  rw[pT] at this
  exact this
 have second:bg.r1 k (xs,ps,()) (xs,(0:Int))=if (xs.filterMap py).Nodup then some ((0:Int),()) else some ((6:Int),()):=by
  have:=bL (B:=fun self v=>bg.B1 k self (fun z=>bg.Q2 k (xs,ps,()) z) (xs,ps,()) v) xs (fun (_:Unit) (i:Int)=>(xs,i)) (fun i _ x=>if (xs.take i).any (fun y=>decide (c_ x=1)&&(decide (c_ y=1)&&(decide (ju x=ju y)&&decide (jv x=jv y)))) then .inl (some ((6:Int),())) else .inr ()) (fun _=>some ((0:Int),())) (fun _ _=>True) (by rw[ah];omega)
   (fun i hi s self _=>by
    show bg.b1 _ _ _ _ _=_
    unfold bg.b1
    have aj:(i:Int) < (xs.length:Int):=by omega
    simp only[aj,decide_true,cond_true,inner self _ i hi]
    split <;> rfl)
   (fun _ _ _ _ _ _=>trivial) (fun s self _=>by
    show bg.b1 _ _ _ _ _=_
    unfold bg.b1
    simp only[Int.lt_irrefl,decide_false,cond_false]
    rfl) () trivial k (by omega)
  rw[wr py (some ((6:Int),())) (fun _=>some ((0:Int),())) (fun x y=>decide (c_ x=1)&&(decide (c_ y=1)&&(decide (ju x=ju y)&&decide (jv x=jv y)))) (fun x y=>?_) xs] at this
  ·exact this
  ·unfold py
   simp only[Bool.and_eq_true,decide_eq_true_eq]
   constructor
   ·rintro ⟨h1,Y,h3,h4⟩
    exact ⟨(ju x,jv x),by rw[if_pos h1],by rw[if_pos Y,h3,h4]⟩
   ·rintro ⟨b,h1,Y⟩
    by_cases c1:c_ x=1
    ·by_cases c2:c_ y=1
     ·rw[if_pos c1] at h1
      rw[if_pos c2] at Y
      injection h1 with h1
      injection Y with Y
      rw[<-Y] at h1
      injection h1 with h3 h4
      exact ⟨c1,c2,h3,h4⟩
     ·rw[if_neg c2] at Y;cases Y
    ·rw[if_neg c1] at h1;cases h1
 have:=bL (B:=fun self v=>bg.B0 k self (fun z=>bg.Q0 k (xs,ps,()) z) (xs,ps,()) v) xs (fun (_:Unit) (i:Int)=>i) (fun i _ x=>if lc ps x then .inr () else .inl (some ((4:Int),()))) (fun _=>bg.r1 k (xs,ps,()) (xs,(0:Int))) (fun _ _=>True) (by rw[ah];omega)
  (fun i hi s self _=>by
   show bg.b0 _ _ _ _=_
   unfold bg.b0 lc
   have aj:(i:Int) < (xs.length:Int):=by omega
   obtain ⟨g1,g2⟩:=wo _ (List.getElem_mem hi)
   have zd:fV.ab (ps,(xs[i]).2.2.1.2.2.1,(xs[i]).2.2.1.2.2.2.1,())=some ((iS ps (ju xs[i]) (jv xs[i])).1,(iS ps (ju xs[i]) (jv xs[i])).2,()):=ww ps h _ _ g1 g2
   simp only[aj,decide_true,cond_true,Int.natCast_nonneg,if_true,Int.toNat_natCast,List.getElem?_eq_getElem hi,Option.bind_some,zd]
   show (bif !decide (c_ xs[i]=1) then _ else _)=_
   cases decide (c_ xs[i]=1) <;> cases (iS ps (ju xs[i]) (jv xs[i])).2 <;> cases decide ((iS ps (ju xs[i]) (jv xs[i])).1.2.1=2) <;> rfl)
  (fun _ _ _ _ _ _=>trivial) (fun s self _=>by
   show bg.b0 _ _ _ _=_
   unfold bg.b0
   simp only[Int.lt_irrefl,decide_false,cond_false]
   rfl) () trivial k (by omega)
 rw[ls (lc ps) (some ((4:Int),())) (fun _=>bg.r1 k (xs,ps,()) (xs,(0:Int)))] at this
 refine Eq.trans this ?_
 rw[second]
 split
 ·split <;> rfl
 ·rfl
theorem xq (ps:fL) (h:nE ps):eo.ab (ps,())=some (jo ps,()):=by
 refine ag (k:=300) fun k hk=>(eo.aa k _).trans ?_
 unfold eo.p
 rw[wv ps h]
 simp only[Option.bind_some]
 have ir:=sL h
 have wo:∀ x ∈ aT ps,0<=ju x/\0<=jv x:=fun x hx=>qf hx
 unfold jo
 generalize aT ps=xs at ir wo ⊢
 have:=bL (B:=fun self v=>eo.B0 k self (fun z=>eo.Q0 k (ps,()) xs z) (ps,()) xs v) xs (fun (s:List ax) (i:Int)=>(s,i)) (fun i s x=>.inr (s++lI ps x)) (fun s=>some (s,())) (fun i s=>s.length<=i) (by rw[ah];omega)
  (fun i hi s self hI=>by
   show eo.b0 _ _ _ _ _=_
   unfold eo.b0 lI
   have aj:(i:Int) < (xs.length:Int):=by omega
   obtain ⟨g1,g2⟩:=wo _ (List.getElem_mem hi)
   have zd:fV.ab (ps,(xs[i]).2.2.1.2.2.1,(xs[i]).2.2.1.2.2.2.1,())=some ((iS ps (ju xs[i]) (jv xs[i])).1,(iS ps (ju xs[i]) (jv xs[i])).2,()):=ww ps h _ _ g1 g2
   have kZ:∀ y:ax,s.length+[y].length<=bk:=fun y=>cQ (by simp only[List.length_cons,List.length_nil];omega)
   simp only[aj,decide_true,cond_true,Int.natCast_nonneg,and_self,if_true,Int.toNat_natCast,List.getElem?_eq_getElem hi,Option.bind_some,zd,kZ]
   show (bif decide (c_ xs[i]=2) then _ else bif decide (c_ xs[i]=1) then _ else _)=_
   unfold rg
   by_cases c2:c_ xs[i]=2
   ·simp only[c2,decide_true,cond_true,if_true,List.append_nil]
   ·by_cases c1:c_ xs[i]=1
    ·simp only[c1,c2,decide_true,decide_false,cond_true,cond_false,if_true,if_false]
     rfl
    ·simp only[c1,c2,decide_false,cond_false,if_false])
  (fun i hi s s' hI hf=>by
   injection hf with hf
   subst hf
   have:(lI ps xs[i]).length<=1:=by unfold lI;split <;> simp
   rw[List.length_append];omega) (fun s self _=>by
   show eo.b0 _ _ _ _ _=_
   unfold eo.b0
   simp only[Int.lt_irrefl,decide_false,cond_false]
   rfl) [] (by simp) k (by omega)
 rw[uI (lI ps)] at this
 exact this
def Hw (x:ax):Option (Int×Int):=some (rk (fZ x))
theorem xr (ps:fL) (hp:∀ p ∈ ps,p.length<=maxLen):bN.ab (ps,())=some (jp ps,()):=by
 refine ag (k:=300) fun k hk=>(bN.aa k _).trans ?_
 unfold bN.p jp
 by_cases hl:12 < ps.length
 ·have:(12:Int) < (ps.length:Int):=by omega
  simp only[this,decide_true,cond_true,hl,if_true]
 have gk:¬ ((12:Int) < (ps.length:Int)):=by omega
 simp only[gk,decide_false,cond_false,hl,if_false,DB ps (by omega) hp,Option.bind_some]
 by_cases hc:gM px ps=0
 rotate_left
 ·simp only[hc,decide_false,Bool.not_false,cond_true,if_false]
 have h:nE ps:=⟨by omega,fun p hp=>(zx (pz hc p hp)).1⟩
 simp only[hc,decide_true,Bool.not_true,cond_false,if_true,wv ps h,DC ps h,xq ps h,Option.bind_some]
 unfold uO
 by_cases h1:(aT ps).all (lc ps)=true
 rotate_left
 ·simp only[h1,Bool.false_eq_true,if_false]
  rfl
 by_cases Y:((aT ps).filterMap py).Nodup
 rotate_left
 ·simp only[h1,Y,if_true,if_false]
  rfl
 simp only[h1,Y,if_true,decide_true,Bool.not_true,cond_false]
 have ir:=uQ h
 generalize jo ps=xs at ir ⊢
 have inner:∀ (self:(List ax×Int)->Option bN.Out) (e0:Unit->Option bN.Out) (i:Nat) (hi:i < xs.length),bN.r1 k self e0 (ps,()) xs (i:Int) (0:Int)=if (xs.take i).any (fun y=>decide ((fZ xs[i]).1=(fZ y).1)&&decide ((fZ xs[i]).2.1=(fZ y).2.1)) then some ((8:Int),()) else self (xs,ae ((i:Int)+1)):=fun self e0 i hi=>by
  have eu:(xs.take i).length=i:=by rw[List.length_take];omega
  have:=bL (B:=fun cw v=>bN.B1 k cw (fun z=>bN.Q0 k self e0 (ps,()) xs (i:Int) z) (ps,()) xs (i:Int) v) (xs.take i) (fun (_:Unit) (j:Int)=>j) (fun _ _ y=>if decide ((fZ xs[i]).1=(fZ y).1)&&decide ((fZ xs[i]).2.1=(fZ y).2.1) then .inl (some ((8:Int),())) else .inr ()) (fun _=>self (xs,ae ((i:Int)+1))) (fun _ _=>True) (by rw[ah];omega)
   (fun j hj s cw _=>by
    have gi:j < i:=by omega
    have IT:j < xs.length:=by omega
    show bN.b1 _ _ _ _ _ _=_
    unfold bN.b1
    have aj:(j:Int) < (i:Int):=by omega
    have RB:(i:Int) < (xs.length:Int):=by omega
    have lR:(j:Int) < (xs.length:Int):=by omega
    have hg:(xs.take i)[j]=xs[j]:=List.getElem_take
    rw[hg]
    simp only[aj,RB,lR,decide_true,cond_true,Int.natCast_nonneg,and_self,if_true,Int.toNat_natCast,List.getElem?_eq_getElem hi,List.getElem?_eq_getElem IT,Option.bind_some]
    show (bif decide ((fZ xs[i]).1=(fZ xs[j]).1) then bif decide ((fZ xs[i]).2.1=(fZ xs[j]).2.1) then _ else _ else _)=_
    cases decide ((fZ xs[i]).1=(fZ xs[j]).1) <;> cases decide ((fZ xs[i]).2.1=(fZ xs[j]).2.1) <;> rfl)
   (fun _ _ _ _ _ _=>trivial) (fun s cw _=>by
    rw[eu]
    show bN.b1 _ _ _ _ _ _=_
    unfold bN.b1
    simp only[Int.lt_irrefl,decide_false,cond_false]
    rfl) () trivial k (by omega)
  rw[pT] at this
  exact this
 have:=bL (B:=fun self v=>bN.B0 k self (fun z=>bN.Q1 k (ps,()) z) (ps,()) v) xs (fun (_:Unit) (i:Int)=>(xs,i)) (fun i _ x=>if (xs.take i).any (fun y=>decide ((fZ x).1=(fZ y).1)&&decide ((fZ x).2.1=(fZ y).2.1)) then .inl (some ((8:Int),())) else .inr ()) (fun _=>some ((0:Int),())) (fun _ _=>True) (by rw[ah];omega)
  (fun i hi s self _=>by
   show bN.b0 _ _ _ _ _=_
   unfold bN.b0
   have aj:(i:Int) < (xs.length:Int):=by omega
   simp only[aj,decide_true,cond_true,inner self _ i hi]
   split <;> rfl)
  (fun _ _ _ _ _ _=>trivial) (fun s self _=>by
   show bN.b0 _ _ _ _ _=_
   unfold bN.b0
   simp only[Int.lt_irrefl,decide_false,cond_false]
   rfl) () trivial k (by omega)
 rw[wr Hw (some ((8:Int),())) (fun _=>some ((0:Int),())) (fun x y=>decide ((fZ x).1=(fZ y).1)&&decide ((fZ x).2.1=(fZ y).2.1)) (fun x y=>?_) xs] at this
 ·refine Eq.trans this ?_
  have:xs.filterMap Hw=xs.map fun x=>rk (fZ x):=by
   unfold Hw
   rw[<-List.filterMap_eq_map]
   rfl
  rw[this]
  split <;> rfl
 ·unfold Hw rk
  simp only[Bool.and_eq_true,decide_eq_true_eq]
  constructor
  ·rintro ⟨h1,Y⟩;exact ⟨_,rfl,by rw[h1,Y]⟩
  ·rintro ⟨b,h1,Y⟩
   injection h1 with h1
   injection Y with Y
   rw[<-Y] at h1
   injection h1 with h3 h4
   exact ⟨h3,h4⟩
end OT
set_option linter.unusedVariables false
set_option linter.unusedSimpArgs false
namespace OT
open Go Go.Sort
abbrev pA:Ty:=.arr 2 i64
theorem tG (a b c d:Int):Ty.eq pA [a,b] [c,d]=(decide (a=c)&&decide (b=d)):=by
 show ([(a,c),(b,d)]:List (Int×Int)).all (fun p=>Ty.eq i64 p.1 p.2)=_
 simp only[List.all_cons,List.all_nil,Bool.and_true]
 rfl
theorem yf (a b:Int):((List.replicate 2 (0:Int)).set 0 a).set 1 b=[a,b]:=rfl
theorem wx {α:Type} (k:Ty) (m:List (k.den×α)) (x:k.den) (y:α) (h:∀ e ∈ m,k.eq x e.1=false):gZ k m x y=m++[(x,y)]:=by
 have:m.findIdx? (fun e=>k.eq x e.1)=none:=by
  rw[List.findIdx?_eq_none_iff]
  exact h
 unfold gZ
 rw[this]
def cV (x:ax):List Seen:=if c_ x=0 then [(fZ x,x.1,x.2.1,false,x.1,x.2.1,())] else []
def bZ (x:ax):List Seen:=if c_ x=1 then [(s8,x.1,x.2.1,true,ju x,jv x,())] else []
def eN (x:ax):List (List Int×Row):=if c_ x=2 then [([x.1,x.2.1],fZ x)] else []
theorem uR (d:List UInt8):(c9 d).2=true->(c9 d).1.1=0/\((c9 d).1.2.1=0\/(c9 d).1.2.1=1\/(c9 d).1.2.1=2):=by
 unfold c9
 split
 ·intro _;exact ⟨rfl,.inr (.inl rfl)⟩
 ·split
  ·intro h;cases h
  ·rename_i h
   intro _
   refine ⟨rfl,?_⟩
   show ((pb d 0:Int)=0\/(pb d 0:Int)=1\/(pb d 0:Int)=2)
   omega
def rr (ps:fL):Prop:=nE ps/\∀ p ∈ ps,∀ s,s < pn p->aP p s≠0->(c9 (ey p s)).2=true
theorem DD {ps:fL} (hl:ps.length<=12) (h:gM px ps=0):rr ps:=
 ⟨⟨hl,fun p hp=>(zx (pz h p hp)).1⟩,fun p hp=>(zx (pz h p hp)).2⟩
theorem JC {ps:fL} (h:rr ps) {x:ax} (hx:x ∈ aT ps):c_ x=0\/c_ x=1\/c_ x=2:=by
 obtain ⟨P,p,s,h1,Y,h3,rfl⟩:=sj.1 hx
 exact (uR _ (h.2 p (List.mem_of_getElem? h1) s Y h3)).2
theorem zy (S:List ax):(S.flatMap cV).length<=S.length/\(S.flatMap bZ).length<=S.length:=by
 induction S with
 | nil=>exact ⟨Nat.le_refl _,Nat.le_refl _⟩
 | cons x S ih=>
  have h1:(cV x).length<=1:=by unfold cV;split <;> simp
  have Y:(bZ x).length<=1:=by unfold bZ;split <;> simp
  simp only[List.flatMap_cons,List.length_append,List.length_cons]
  omega
theorem FT {ps:fL} (h:rr ps) (a b:Int) (ha:0<=a) (hb:0<=b):dA pA ((aT ps).flatMap eN) [a,b]=if (iS ps a b).2&&decide ((iS ps a b).1.2.1=2) then some (iS ps a b).1.2.2.2.2.1 else none:=by
 obtain ⟨a,rfl⟩:=Int.eq_ofNat_of_zero_le ha
 obtain ⟨b,rfl⟩:=Int.eq_ofNat_of_zero_le hb
 unfold dA
 have at_:∀ x ∈ aT ps,x.1=(a:Int)->x.2.1=(b:Int)->iS ps (a:Int) (b:Int)=(x.2.2.1,true):=fun x hx e1 e2=>by
  obtain ⟨P,p,s,h1,Y,h3,rfl⟩:=sj.1 hx
  have e1:(P:Int)=(a:Int):=e1
  have e2:(s:Int)=(b:Int):=e2
  have e1:P=a:=by omega
  have e2:s=b:=by omega
  subst e1;subst e2
  unfold iS
  simp only[Int.toNat_natCast,h1]
  rw[if_pos ⟨Y,h3⟩]
  have:=h.2 p (List.mem_of_getElem? h1) s Y h3
  rw[<-this]
 cases hf:((aT ps).flatMap eN).find? (fun e=>Ty.eq pA [(a:Int),(b:Int)] e.1) with
 | some e=>
  have hm:=List.mem_of_find?_eq_some hf
  have hp:=List.find?_some hf
  obtain ⟨x,hx,AM⟩:=List.mem_flatMap.1 hm
  unfold eN at AM
  split at AM
  ·rename_i Y
   rw[List.mem_singleton] at AM
   subst AM
   rw[tG,Bool.and_eq_true,decide_eq_true_eq,decide_eq_true_eq] at hp
   have hg:=at_ x hx hp.1.symm hp.2.symm
   rw[hg]
   have:(x.2.2.1).2.1=2:=Y
   simp only[this,decide_true,Bool.and_self,if_true,Option.map_some]
   rfl
  ·cases AM
 | none=>
  rw[if_neg]
  ·rfl
  ·intro hc
   rw[Bool.and_eq_true,decide_eq_true_eq] at hc
   obtain ⟨c1,c2⟩:=hc
   have:∃ x ∈ aT ps,x.1=(a:Int)/\x.2.1=(b:Int)/\c_ x=2:=by
    unfold iS at c1 c2
    simp only[Int.toNat_natCast] at c1 c2
    cases OH:ps[a]? with
    | none=>rw[OH] at c1;cases c1
    | some p=>
     rw[OH] at c1 c2
     simp only at c1 c2
     by_cases hc:b < pn p/\aP p b≠0
     ·rw[if_pos hc] at c2
      exact ⟨_,sj.2 ⟨a,p,b,OH,hc.1,hc.2,rfl⟩,rfl,rfl,c2⟩
     ·rw[if_neg hc] at c1;cases c1
   obtain ⟨x,hx,e1,e2,e3⟩:=this
   have hm:([x.1,x.2.1],fZ x) ∈ (aT ps).flatMap eN:=List.mem_flatMap.2 ⟨x,hx,by unfold eN;rw[if_pos e3];exact List.mem_singleton.2 rfl⟩
   have:=List.find?_eq_none.1 hf _ hm
   rw[tG,e1,e2] at this
   simp at this
def pB (x:ax):Seen:=(fZ x,x.1,x.2.1,decide (c_ x=1),(if c_ x=1 then ju x else x.1),(if c_ x=1 then jv x else x.2.1),())
def pC (ps:fL) (y:Seen):Seen:=(rA (dA pA ((aT ps).flatMap eN) [y.2.2.2.2.1,y.2.2.2.2.2.1]) s8,y.2)
def w_ (ps:fL):List Seen:=(aT ps).flatMap cV++((aT ps).flatMap bZ).map (pC ps)
theorem Hx {ps:fL} (h:rr ps) (hs:(aT ps).all (lc ps)=true):(w_ ps).Perm ((jo ps).map pB):=by
 unfold w_ jo
 have jy:=List.all_eq_true.1 hs
 have A5:∀ x ∈ aT ps,c_ x=0\/c_ x=1\/c_ x=2:=fun x hx=>JC h hx
 have wo:∀ x ∈ aT ps,0<=ju x/\0<=jv x:=fun x hx=>qf hx
 have key:∀ S:List ax,(∀ x ∈ S,x ∈ aT ps)->(S.flatMap cV++(S.flatMap bZ).map (pC ps)).Perm ((S.flatMap (lI ps)).map pB):=by
  intro S
  induction S with
  | nil=>intro _;exact List.Perm.refl _
  | cons x S ih=>
   intro hS
   have ih:=ih fun y hy=>hS y (List.mem_cons_of_mem _ hy)
   have hx:=hS x List.mem_cons_self
   simp only[List.flatMap_cons,List.map_append]
   rcases A5 x hx with h0 | h1 | Y
   ·have e1:cV x=[pB (rg ps x)]:=by
     unfold cV pB rg
     have n1:¬ c_ x=1:=by omega
     rw[if_pos h0,if_neg n1,if_neg n1,if_neg n1,decide_eq_false n1]
    have e2:bZ x=[]:=by unfold bZ;rw[if_neg (by omega)]
    have e3:lI ps x=[rg ps x]:=by unfold lI;rw[if_neg (by omega)]
    rw[e1,e2,e3]
    simp only[List.map_nil,List.nil_append,List.map_cons,List.cons_append]
    exact List.Perm.cons _ ih
   ·have e1:cV x=[]:=by unfold cV;rw[if_neg (by omega)]
    have e3:lI ps x=[rg ps x]:=by unfold lI;rw[if_neg (by omega)]
    have e2:(bZ x).map (pC ps)=[pB (rg ps x)]:=by
     unfold bZ
     rw[if_pos h1]
     simp only[List.map_cons,List.map_nil]
     obtain ⟨g1,g2⟩:=wo x hx
     have bf:=jy x hx
     unfold lc at bf
     rw[decide_eq_true h1] at bf
     simp only[Bool.not_true,Bool.false_or] at bf
     have hg:=FT h (ju x) (jv x) g1 g2
     rw[if_pos bf] at hg
     unfold pC
     simp only[hg,rA]
     unfold rg
     rw[if_pos h1]
     have K3:c_ (FS x (iS ps (ju x) (jv x)).1.2.2.2.2.1)=1:=h1
     unfold pB
     rw[if_pos K3,if_pos K3,decide_eq_true K3]
     rfl
    rw[e1,e2,e3]
    simp only[List.nil_append,List.map_cons,List.map_nil,List.cons_append]
    exact (List.perm_middle).trans (List.Perm.cons _ ih)
   ·have e1:cV x=[]:=by unfold cV;rw[if_neg (by omega)]
    have e2:bZ x=[]:=by unfold bZ;rw[if_neg (by omega)]
    have e3:lI ps x=[]:=by unfold lI;rw[if_pos Y]
    rw[e1,e2,e3]
    simpa using ih
 exact key (aT ps) fun x hx=>hx
def qK (x y:Seen):Bool:=bS (rk x.1) (rk y.1)
def FU (x y:Seen):Int:=if bS (x.1.1,x.1.2.1) (y.1.1,y.1.2.1) then -1 else if bS (y.1.1,y.1.2.1) (x.1.1,x.1.2.1) then 1 else 0
theorem JD:Go.Proofs.ltOf FU=qK:=by
 funext x y
 exact Jq x.1 y.1
theorem K4 (x y:Seen):iB.ab (x,y,())=some (FU x y,()):=by
 refine ag (k:=0) fun k hk=>(iB.aa k _).trans ?_
 show iB.p _=_
 unfold iB.p
 rw[uC]
 rfl
theorem RD:SWO qK where
 irrefl x:=nC _
 trans x y z h1 Y:=lH h1 Y
 ntrans x y z h1 Y:=by
  cases h3:qK x z with
  | false=>rfl
  | true=>
   unfold qK at h1 Y h3
   cases h4:bS (rk y.1) (rk x.1) with
   | true=>
    have:=lH h4 h3
    rw[this] at Y;cases Y
   | false=>
    have:=pU h1 h4
    rw[this] at h3
    rw[h3] at Y;cases Y
def wy (xs:List Seen) (x:Seen):List Seen:=xs.take (pos (xs.map (·.1)) (rk x.1))++[x]++xs.drop (pos (xs.map (·.1)) (rk x.1))
def uS (l:List Seen):List Seen:=l.foldl wy []
theorem K5 (xs:List Seen) (x:Seen):(wy xs x).map (·.1)=ko (xs.map (·.1)) x.1:=by
 unfold wy ko
 simp only[List.map_append,List.map_take,List.map_drop,List.map_cons,List.map_nil]
theorem JE (xs:List Seen) (x:Seen):(wy xs x).Perm (x::xs):=by
 unfold wy
 rw[List.append_assoc]
 have:=List.perm_middle (a:=x) (l₁:=xs.take (pos (xs.map (·.1)) (rk x.1))) (l₂:=xs.drop (pos (xs.map (·.1)) (rk x.1)))
 rw[List.take_append_drop] at this
 exact this
theorem A6 (l:List Seen):(uS l).map (·.1)=zu (l.map (·.1)):=by
 have main:∀ (l acc:List Seen),(l.foldl wy acc).map (·.1)=(l.map (·.1)).foldl ko (acc.map (·.1)):=by
  intro l
  induction l with
  | nil=>intro acc;rfl
  | cons x l ih=>intro acc;simp only[List.foldl_cons,List.map_cons,ih,K5]
 exact main l []
theorem zA (l:List Seen):(uS l).Perm l:=by
 have main:∀ (l acc:List Seen),(l.foldl wy acc).Perm (l++acc):=by
  intro l
  induction l with
  | nil=>intro acc;exact List.Perm.refl _
  | cons x l ih=>
   intro acc
   exact (ih (wy acc x)).trans (((List.Perm.refl l).append (JE acc x)).trans List.perm_middle)
 have:=main l []
 rw[List.append_nil] at this
 exact this
def A7 (xs:List Seen):Prop:=xs.Pairwise fun x y=>qK x y=true
theorem FV {xs:List Seen}:A7 xs↔up (xs.map (·.1)):=by
 unfold A7 up
 rw[List.pairwise_map]
 rfl
theorem DE {l r:List Seen} (hp:r.Perm l) (hr:A7 r) (hn:(l.map fun x=>rk x.1).Nodup):r=uS l:=by
 refine vm (lt:=fun x y=>qK x y=true) (fun a b h=>KZ h) r (uS l) (hp.trans (zA l).symm) hr (FV.2 ?_)
 rw[A6]
 refine KY ?_
 rw[List.map_map]
 exact hn
theorem JF {r:List Seen} (h:A7 r):(r.map fun x=>rk x.1).Nodup:=by
 have:=K1 (FV.1 h)
 rw[List.map_map] at this
 exact this
def s_:List Seen->Bool
 | x::y::l=>qK x y&&s_ (y::l)
 | _=>true
theorem JG:∀ (l:List Seen),s_ l=true->A7 l
 | [],_=>List.Pairwise.nil
 | [x],_=>List.pairwise_singleton _ _
 | x::y::l,h=>by
  simp only[s_,Bool.and_eq_true] at h
  have ih:=JG (y::l) h.2
  refine List.pairwise_cons.2 ⟨fun z hz=>?_,ih⟩
  rcases List.mem_cons.1 hz with rfl | hz
  ·exact h.1
  ·exact lH h.1 ((List.pairwise_cons.1 ih).1 z hz)
theorem FW:∀ (l:List Seen),A7 l->s_ l=true
 | [],_=>rfl
 | [x],_=>rfl
 | x::y::l,h=>by
  obtain ⟨h1,Y⟩:=List.pairwise_cons.1 h
  simp only[s_,Bool.and_eq_true]
  exact ⟨h1 y List.mem_cons_self,FW (y::l) Y⟩
theorem JH {r:List Seen} (h:r.Pairwise fun x y=>qK y x=false) (hn:(r.map fun x=>rk x.1).Nodup):A7 r:=by
 unfold A7
 have Y:r.Pairwise fun x y=>rk x.1≠rk y.1:=by
  unfold List.Nodup at hn
  rw[List.pairwise_map] at hn
  exact hn
 refine (h.and Y).imp fun {x y} ⟨g1,g2⟩=>?_
 cases h3:qK x y with
 | true=>rfl
 | false=>exact absurd (pU h3 g1) g2
end OT
