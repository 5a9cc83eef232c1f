/- The proof's parts, merged: Printed by px.py, a program of this claim  what the helpers of the laws compute.. No conditions but those that each states. -/
import Derived.Test.YtljankkghppaiaaGreatYf
set_option linter.unusedVariables false
set_option linter.unusedSimpArgs false
namespace OT
open Go
theorem Fy (x:Row) (n:Int) (hx:sG au x) (h0:0<=n) (h1:n<=1048576):nU.aa (x,n,())=some (ef n (zz au x),()):=by
 have hz:zz au x=(0+(0+(0+(List.length x.2.2.2.1+0)))):=rfl;refine ah (k:=0) fun k _=>(nU.ae k _).trans ?_;show nU.p _=_;unfold nU.p;have hw:af (n - (List.length x.2.2.2.1:Int))=n - (List.length x.2.2.2.1:Int):=bt (by have h9:=hx.2.2.2.1;simp only[sG] at h9;rw[ai] at h9;omega);simp only[hw];by_cases hc:((List.length x.2.2.2.1:Nat):Int)<=n;rotate_left
 ·have n1:n - ((List.length x.2.2.2.1:Nat):Int) < 0:=by omega
  have e2:ef n (zz au x)=-1:=bA (by omega);rw[e2];simp only[n1,aC,aJ]
 have n1:¬ (n - ((List.length x.2.2.2.1:Nat):Int) < 0):=by omega
 simp only[n1,aD,aE];clear n1 hw;have e2:ef n (zz au x)=(n - ((List.length x.2.2.2.1:Nat):Int)):=by unfold ef;rw[aU (by omega)];omega
 rw[e2]
theorem R2 (x:List Row) (n:Int) (hx:sG (.U au) x) (h0:0<=n) (h1:n<=1048576):kg.aa (x,n,())=some (ef n (zz (.U au) x),()):=by
 obtain ⟨hl,ox⟩:=hx;have nH:=hl;rw[ai] at nH;have nH:List.length x<=9223372036854775807:=nH;have hw:af (n - (List.length x:Int))=n - (List.length x:Int):=bt (by omega);have hz:zz (.U au) x=List.length x+pp (zz au) x:=rfl;by_cases hc:n - (List.length x:Int) < 0
 ·have e1:ef n (zz (.U au) x)=-1:=bA (by omega);rw[e1];refine ah (k:=0) fun k _=>(kg.ae k _).trans ?_;unfold kg.p;simp only[hw,hc,aC,aJ]
  try rfl
 ·have e1:ef n (zz (.U au) x)=ef (n - (List.length x:Int)) (pp (zz au) x):=by rw[hz,Ek (by omega)]
  rw[e1];refine ah (k:=List.length x+1) fun k hk=>(kg.ae k _).trans ?_;unfold kg.p;simp only[hw,hc,aD,aE]
  exact Ej (B:=fun self v=>kg.b0 self (fun z=>kg.q0 (x,n,()) z) (x,n,()) v) (xs:=x) hl (zz au) (fun i hi m self GZ vK=>by
    show kg.b0 _ _ _ _=_;unfold kg.b0;have aj:(i:Int) < (List.length x:Int):=by omega
    simp only[aj,aC,aJ,aK,aI,aH,aA hi,aB,Fy x[i] m (ox _ (aQ hi)) GZ vK]
    by_cases hs:ef m (zz au x[i]) < 0 <;> simp[hs]) (fun m self=>by
    show kg.b0 _ _ _ _=_;unfold kg.b0
    simp[kg.q0,kg.q0]) _ (by omega) (by omega) k (by omega)
theorem MG (x:Change) (n:Int) (hx:sG ap x) (h0:0<=n) (h1:n<=1048576):o8.aa (x,n,())=some (ef n (zz ap x),()):=by
 have hz:zz ap x=(0+((0+(0+(0+(List.length x.2.1.2.2.2.1+0))))+(0+((0+(0+(0+(List.length x.2.2.2.1.2.2.2.1+0))))+0)))):=rfl;refine ah (k:=0) fun k _=>(o8.ae k _).trans ?_;show o8.p _=_;unfold o8.p;have wT:zz au x.2.1=(0+(0+(0+(List.length x.2.1.2.2.2.1+0)))):=rfl;simp only[Fy x.2.1 (n) hx.2.1 (by omega) (by omega),aB];by_cases hc:((zz au x.2.1:Nat):Int)<=n;rotate_left
 ·have e1:ef (n) (zz au x.2.1)=-1:=bA hc;have e2:ef n (zz ap x)=-1:=bA (by omega);rw[e1,e2];rfl
 have e1:ef (n) (zz au x.2.1)=n - ((zz au x.2.1:Nat):Int):=aU hc;have n1:¬ (n - ((zz au x.2.1:Nat):Int) < 0):=by omega
 simp only[e1,n1,aD,aE];clear e1 n1;have XO:zz au x.2.2.2.1=(0+(0+(0+(List.length x.2.2.2.1.2.2.2.1+0)))):=rfl;simp only[Fy x.2.2.2.1 ((n - ((zz au x.2.1:Nat):Int))) hx.2.2.2.1 (by omega) (by omega),aB]
 by_cases hc:((zz au x.2.2.2.1:Nat):Int)<=(n - ((zz au x.2.1:Nat):Int))
 rotate_left
 ·have e1:ef ((n - ((zz au x.2.1:Nat):Int))) (zz au x.2.2.2.1)=-1:=bA hc;have e2:ef n (zz ap x)=-1:=bA (by omega);rw[e1,e2];rfl
 have e1:ef ((n - ((zz au x.2.1:Nat):Int))) (zz au x.2.2.2.1)=(n - ((zz au x.2.1:Nat):Int)) - ((zz au x.2.2.2.1:Nat):Int):=aU hc;have n1:¬ ((n - ((zz au x.2.1:Nat):Int)) - ((zz au x.2.2.2.1:Nat):Int) < 0):=by omega
 simp only[e1,n1,aD,aE];clear e1 n1;have e2:ef n (zz ap x)=((n - ((zz au x.2.1:Nat):Int)) - ((zz au x.2.2.2.1:Nat):Int)):=by unfold ef;rw[aU (by omega)];omega
 rw[e2]
theorem Lk (x:List Change) (n:Int) (hx:sG (.U ap) x) (h0:0<=n) (h1:n<=1048576):f8.aa (x,n,())=some (ef n (zz (.U ap) x),()):=by
 obtain ⟨hl,ox⟩:=hx;have nH:=hl;rw[ai] at nH;have nH:List.length x<=9223372036854775807:=nH;have hw:af (n - (List.length x:Int))=n - (List.length x:Int):=bt (by omega);have hz:zz (.U ap) x=List.length x+pp (zz ap) x:=rfl;by_cases hc:n - (List.length x:Int) < 0
 ·have e1:ef n (zz (.U ap) x)=-1:=bA (by omega);rw[e1];refine ah (k:=0) fun k _=>(f8.ae k _).trans ?_;unfold f8.p;simp only[hw,hc,aC,aJ]
  try rfl
 ·have e1:ef n (zz (.U ap) x)=ef (n - (List.length x:Int)) (pp (zz ap) x):=by rw[hz,Ek (by omega)]
  rw[e1];refine ah (k:=List.length x+1) fun k hk=>(f8.ae k _).trans ?_;unfold f8.p;simp only[hw,hc,aD,aE]
  exact Ej (B:=fun self v=>f8.b0 self (fun z=>f8.q0 (x,n,()) z) (x,n,()) v) (xs:=x) hl (zz ap) (fun i hi m self GZ vK=>by
    show f8.b0 _ _ _ _=_;unfold f8.b0;have aj:(i:Int) < (List.length x:Int):=by omega
    simp only[aj,aC,aJ,aK,aI,aH,aA hi,aB,MG x[i] m (ox _ (aQ hi)) GZ vK]
    by_cases hs:ef m (zz ap x[i]) < 0 <;> simp[hs]) (fun m self=>by
    show f8.b0 _ _ _ _=_;unfold f8.b0
    simp[f8.q0,f8.q0]) _ (by omega) (by omega) k (by omega)
theorem MH (x:List Int) (n:Int) (hx:sG (.U i64) x) (h0:0<=n) (h1:n<=1048576):o9.aa (x,n,())=some (ef n (zz (.U i64) x),()):=by
 obtain ⟨hl,ox⟩:=hx;have nH:=hl;rw[ai] at nH;have nH:List.length x<=9223372036854775807:=nH;have hw:af (n - (List.length x:Int))=n - (List.length x:Int):=bt (by omega);have hz:zz (.U i64) x=List.length x+0:=by show List.length x+pp _ _=_;exact dB (List.length x+·) (xH _ (fun _=>rfl) x)
 refine ah (k:=0) fun k _=>(o9.ae k _).trans ?_;show o9.p _=_;unfold o9.p;simp only[hw,hz,cY];by_cases hc:(List.length x:Int)<=n
 ·have e1:ef n (List.length x)=n - (List.length x:Int):=aU hc;have n1:¬ (n - (List.length x:Int) < 0):=by omega
  simp[e1,n1]
 ·have e1:ef n (List.length x)=-1:=bA hc;have n1:n - (List.length x:Int) < 0:=by omega
  simp[e1,n1]
theorem R3 (x:List Key) (n:Int) (hx:sG (.U bq) x) (h0:0<=n) (h1:n<=1048576):qM.aa (x,n,())=some (ef n (zz (.U bq) x),()):=by
 obtain ⟨hl,ox⟩:=hx;have nH:=hl;rw[ai] at nH;have nH:List.length x<=9223372036854775807:=nH;have hw:af (n - (List.length x:Int))=n - (List.length x:Int):=bt (by omega);have hz:zz (.U bq) x=List.length x+0:=by show List.length x+pp _ _=_;exact dB (List.length x+·) (xH _ (fun _=>rfl) x)
 refine ah (k:=0) fun k _=>(qM.ae k _).trans ?_;show qM.p _=_;unfold qM.p;simp only[hw,hz,cY];by_cases hc:(List.length x:Int)<=n
 ·have e1:ef n (List.length x)=n - (List.length x:Int):=aU hc;have n1:¬ (n - (List.length x:Int) < 0):=by omega
  simp[e1,n1]
 ·have e1:ef n (List.length x)=-1:=bA hc;have n1:n - (List.length x:Int) < 0:=by omega
  simp[e1,n1]
theorem Wp (x:Tx) (n:Int) (hx:sG ct x) (h0:0<=n) (h1:n<=1048576):sH.aa (x,n,())=some (ef n (zz ct x),()):=by
 have hz:zz ct x=(0+(zz (.U ap) x.2.1+(zz (.U i64) x.2.2.1+(zz (.U bq) x.2.2.2.1+0)))):=rfl;refine ah (k:=0) fun k _=>(sH.ae k _).trans ?_;show sH.p _=_;unfold sH.p;simp only[Lk x.2.1 (n) hx.2.1 (by omega) (by omega),aB];by_cases hc:((zz (.U ap) x.2.1:Nat):Int)<=n;rotate_left
 ·have e1:ef (n) (zz (.U ap) x.2.1)=-1:=bA hc;have e2:ef n (zz ct x)=-1:=bA (by omega);rw[e1,e2];rfl
 have e1:ef (n) (zz (.U ap) x.2.1)=n - ((zz (.U ap) x.2.1:Nat):Int):=aU hc;have n1:¬ (n - ((zz (.U ap) x.2.1:Nat):Int) < 0):=by omega
 simp only[e1,n1,aD,aE];clear e1 n1;simp only[MH x.2.2.1 ((n - ((zz (.U ap) x.2.1:Nat):Int))) hx.2.2.1 (by omega) (by omega),aB]
 by_cases hc:((zz (.U i64) x.2.2.1:Nat):Int)<=(n - ((zz (.U ap) x.2.1:Nat):Int))
 rotate_left
 ·have e1:ef ((n - ((zz (.U ap) x.2.1:Nat):Int))) (zz (.U i64) x.2.2.1)=-1:=bA hc;have e2:ef n (zz ct x)=-1:=bA (by omega);rw[e1,e2];rfl
 have e1:ef ((n - ((zz (.U ap) x.2.1:Nat):Int))) (zz (.U i64) x.2.2.1)=(n - ((zz (.U ap) x.2.1:Nat):Int)) - ((zz (.U i64) x.2.2.1:Nat):Int):=aU hc;have n1:¬ ((n - ((zz (.U ap) x.2.1:Nat):Int)) - ((zz (.U i64) x.2.2.1:Nat):Int) < 0):=by omega
 simp only[e1,n1,aD,aE];clear e1 n1;simp only[R3 x.2.2.2.1 (((n - ((zz (.U ap) x.2.1:Nat):Int)) - ((zz (.U i64) x.2.2.1:Nat):Int))) hx.2.2.2.1 (by omega) (by omega),aB]
 by_cases hc:((zz (.U bq) x.2.2.2.1:Nat):Int)<=((n - ((zz (.U ap) x.2.1:Nat):Int)) - ((zz (.U i64) x.2.2.1:Nat):Int))
 rotate_left
 ·have e1:ef (((n - ((zz (.U ap) x.2.1:Nat):Int)) - ((zz (.U i64) x.2.2.1:Nat):Int))) (zz (.U bq) x.2.2.2.1)=-1:=bA hc;have e2:ef n (zz ct x)=-1:=bA (by omega);rw[e1,e2];rfl
 have e1:ef (((n - ((zz (.U ap) x.2.1:Nat):Int)) - ((zz (.U i64) x.2.2.1:Nat):Int))) (zz (.U bq) x.2.2.2.1)=((n - ((zz (.U ap) x.2.1:Nat):Int)) - ((zz (.U i64) x.2.2.1:Nat):Int)) - ((zz (.U bq) x.2.2.2.1:Nat):Int):=aU hc;have n1:¬ (((n - ((zz (.U ap) x.2.1:Nat):Int)) - ((zz (.U i64) x.2.2.1:Nat):Int)) - ((zz (.U bq) x.2.2.2.1:Nat):Int) < 0):=by omega
 simp only[e1,n1,aD,aE];clear e1 n1;have e2:ef n (zz ct x)=(((n - ((zz (.U ap) x.2.1:Nat):Int)) - ((zz (.U i64) x.2.2.1:Nat):Int)) - ((zz (.U bq) x.2.2.2.1:Nat):Int)):=by unfold ef;rw[aU (by omega)];omega
 rw[e2]
theorem Ll (x:List Tx) (n:Int) (hx:sG (.U ct) x) (h0:0<=n) (h1:n<=1048576):jn.aa (x,n,())=some (ef n (zz (.U ct) x),()):=by
 obtain ⟨hl,ox⟩:=hx;have nH:=hl;rw[ai] at nH;have nH:List.length x<=9223372036854775807:=nH;have hw:af (n - (List.length x:Int))=n - (List.length x:Int):=bt (by omega);have hz:zz (.U ct) x=List.length x+pp (zz ct) x:=rfl;by_cases hc:n - (List.length x:Int) < 0
 ·have e1:ef n (zz (.U ct) x)=-1:=bA (by omega);rw[e1];refine ah (k:=0) fun k _=>(jn.ae k _).trans ?_;unfold jn.p;simp only[hw,hc,aC,aJ]
  try rfl
 ·have e1:ef n (zz (.U ct) x)=ef (n - (List.length x:Int)) (pp (zz ct) x):=by rw[hz,Ek (by omega)]
  rw[e1];refine ah (k:=List.length x+1) fun k hk=>(jn.ae k _).trans ?_;unfold jn.p;simp only[hw,hc,aD,aE]
  exact Ej (B:=fun self v=>jn.b0 self (fun z=>jn.q0 (x,n,()) z) (x,n,()) v) (xs:=x) hl (zz ct) (fun i hi m self GZ vK=>by
    show jn.b0 _ _ _ _=_;unfold jn.b0;have aj:(i:Int) < (List.length x:Int):=by omega
    simp only[aj,aC,aJ,aK,aI,aH,aA hi,aB,Wp x[i] m (ox _ (aQ hi)) GZ vK]
    by_cases hs:ef m (zz ct x[i]) < 0 <;> simp[hs]) (fun m self=>by
    show jn.b0 _ _ _ _=_;unfold jn.b0
    simp[jn.q0,jn.q0]) _ (by omega) (by omega) k (by omega)
theorem PE (x:Plain) (n:Int) (hx:sG jZ x) (h0:0<=n) (h1:n<=1048576):pX.aa (x,n,())=some (ef n (zz jZ x),()):=by
 have hz:zz jZ x=(zz (.U au) x.1+(zz (.U ct) x.2.1+(0+0))):=rfl;refine ah (k:=0) fun k _=>(pX.ae k _).trans ?_;show pX.p _=_;unfold pX.p;simp only[R2 x.1 (n) hx.1 (by omega) (by omega),aB];by_cases hc:((zz (.U au) x.1:Nat):Int)<=n;rotate_left
 ·have e1:ef (n) (zz (.U au) x.1)=-1:=bA hc;have e2:ef n (zz jZ x)=-1:=bA (by omega);rw[e1,e2];rfl
 have e1:ef (n) (zz (.U au) x.1)=n - ((zz (.U au) x.1:Nat):Int):=aU hc;have n1:¬ (n - ((zz (.U au) x.1:Nat):Int) < 0):=by omega
 simp only[e1,n1,aD,aE];clear e1 n1;simp only[Ll x.2.1 ((n - ((zz (.U au) x.1:Nat):Int))) hx.2.1 (by omega) (by omega),aB]
 by_cases hc:((zz (.U ct) x.2.1:Nat):Int)<=(n - ((zz (.U au) x.1:Nat):Int))
 rotate_left
 ·have e1:ef ((n - ((zz (.U au) x.1:Nat):Int))) (zz (.U ct) x.2.1)=-1:=bA hc;have e2:ef n (zz jZ x)=-1:=bA (by omega);rw[e1,e2];rfl
 have e1:ef ((n - ((zz (.U au) x.1:Nat):Int))) (zz (.U ct) x.2.1)=(n - ((zz (.U au) x.1:Nat):Int)) - ((zz (.U ct) x.2.1:Nat):Int):=aU hc;have n1:¬ ((n - ((zz (.U au) x.1:Nat):Int)) - ((zz (.U ct) x.2.1:Nat):Int) < 0):=by omega
 simp only[e1,n1,aD,aE];clear e1 n1;have e2:ef n (zz jZ x)=((n - ((zz (.U au) x.1:Nat):Int)) - ((zz (.U ct) x.2.1:Nat):Int)):=by unfold ef;rw[aU (by omega)];omega
 rw[e2]
theorem Fz (x:Row) (h:zz au x<=1048576):nV.aa (x,())=some (x,()):=by
 have hz:zz au x=(0+(0+(0+(List.length x.2.2.2.1+0)))):=rfl;refine ah (k:=0) fun k _=>(nV.ae k _).trans ?_;show nV.p _=_;unfold nV.p;rfl
theorem R4 (x:List Row) (h:zz (.U au) x<=1048576):lB.aa (x,())=some (x,()):=by
 have hl:x.length<=1048576:=bJ (mp (e:=au) x) h;refine ah (k:=x.length+1) fun k hk=>(lB.ae k _).trans ?_;unfold lB.p;have hc:0<=(x.length:Int)/\(x.length:Int)<=(x.length:Int)/\(x.length:Int)<=(bz:Int):=by simp only[bz];omega
 simp only[hc,cU,aI,aH]
 exact uo (B:=fun self v=>lB.b0 self (fun z=>lB.q0 (x,()) z) (x,()) v) (xs:=x) (by rw[ai];omega) (fun i hi acc self ha=>by
  show lB.b0 _ _ _ _=_;unfold lB.b0;have aj:(i:Int) < (x.length:Int):=by omega
  have ru:(i:Int) < (acc.length:Int):=by omega
  simp only[aj,ru,aC,aJ,aK,cU,aI,aH,aA hi,aA (show i < acc.length by omega),aB,Fz x[i] (by have:=tr (e:=au) (aQ hi);omega)]) (fun acc self=>by
  show lB.b0 _ _ _ _=_;unfold lB.b0
  simp[lB.q0,lB.q0]) _ k (by omega)
theorem MI (x:Change) (h:zz ap x<=1048576):pa.aa (x,())=some (x,()):=by
 have hz:zz ap x=(0+((0+(0+(0+(List.length x.2.1.2.2.2.1+0))))+(0+((0+(0+(0+(List.length x.2.2.2.1.2.2.2.1+0))))+0)))):=rfl;have wT:zz au x.2.1=(0+(0+(0+(List.length x.2.1.2.2.2.1+0)))):=rfl;have XO:zz au x.2.2.2.1=(0+(0+(0+(List.length x.2.2.2.1.2.2.2.1+0)))):=rfl;refine ah (k:=0) fun k _=>(pa.ae k _).trans ?_;show pa.p _=_;unfold pa.p;simp only[Fz x.2.1 (by omega),Fz x.2.2.2.1 (by omega),aB]
theorem Lm (x:List Change) (h:zz (.U ap) x<=1048576):iu.aa (x,())=some (x,()):=by
 have hl:x.length<=1048576:=bJ (mp (e:=ap) x) h;refine ah (k:=x.length+1) fun k hk=>(iu.ae k _).trans ?_;unfold iu.p;have hc:0<=(x.length:Int)/\(x.length:Int)<=(x.length:Int)/\(x.length:Int)<=(bz:Int):=by simp only[bz];omega
 simp only[hc,cU,aI,aH]
 exact uo (B:=fun self v=>iu.b0 self (fun z=>iu.q0 (x,()) z) (x,()) v) (xs:=x) (by rw[ai];omega) (fun i hi acc self ha=>by
  show iu.b0 _ _ _ _=_;unfold iu.b0;have aj:(i:Int) < (x.length:Int):=by omega
  have ru:(i:Int) < (acc.length:Int):=by omega
  simp only[aj,ru,aC,aJ,aK,cU,aI,aH,aA hi,aA (show i < acc.length by omega),aB,MI x[i] (by have:=tr (e:=ap) (aQ hi);omega)]) (fun acc self=>by
  show iu.b0 _ _ _ _=_;unfold iu.b0
  simp[iu.q0,iu.q0]) _ k (by omega)
theorem MJ (x:List Int) (h:zz (.U i64) x<=1048576):jv.aa (x,())=some (x,()):=by
 have hl:x.length<=1048576:=bJ (mp (e:=i64) x) h;refine ah (k:=x.length+1) fun k hk=>(jv.ae k _).trans ?_;unfold jv.p;have hc:0<=(x.length:Int)/\(x.length:Int)<=(x.length:Int)/\(x.length:Int)<=(bz:Int):=by simp only[bz];omega
 simp only[hc,cU,aI,aH]
 exact uo (B:=fun self v=>jv.b0 self (fun z=>jv.q0 (x,()) z) (x,()) v) (xs:=x) (by rw[ai];omega) (fun i hi acc self ha=>by
  show jv.b0 _ _ _ _=_;unfold jv.b0;have aj:(i:Int) < (x.length:Int):=by omega
  have ru:(i:Int) < (acc.length:Int):=by omega
  simp only[aj,ru,aC,aJ,aK,cU,aI,aH,aA hi,aA (show i < acc.length by omega),aB]) (fun acc self=>by
  show jv.b0 _ _ _ _=_;unfold jv.b0
  simp[jv.q0,jv.q0]) _ k (by omega)
theorem TW (x:Key) (h:zz bq x<=1048576):rH.aa (x,())=some (x,()):=by
 have hz:zz bq x=(0+(0+0)):=rfl;refine ah (k:=0) fun k _=>(rH.ae k _).trans ?_;show rH.p _=_;unfold rH.p;rfl
theorem R5 (x:List Key) (h:zz (.U bq) x<=1048576):lC.aa (x,())=some (x,()):=by
 have hl:x.length<=1048576:=bJ (mp (e:=bq) x) h;refine ah (k:=x.length+1) fun k hk=>(lC.ae k _).trans ?_;unfold lC.p;have hc:0<=(x.length:Int)/\(x.length:Int)<=(x.length:Int)/\(x.length:Int)<=(bz:Int):=by simp only[bz];omega
 simp only[hc,cU,aI,aH]
 exact uo (B:=fun self v=>lC.b0 self (fun z=>lC.q0 (x,()) z) (x,()) v) (xs:=x) (by rw[ai];omega) (fun i hi acc self ha=>by
  show lC.b0 _ _ _ _=_;unfold lC.b0;have aj:(i:Int) < (x.length:Int):=by omega
  have ru:(i:Int) < (acc.length:Int):=by omega
  simp only[aj,ru,aC,aJ,aK,cU,aI,aH,aA hi,aA (show i < acc.length by omega),aB,TW x[i] (by have:=tr (e:=bq) (aQ hi);omega)]) (fun acc self=>by
  show lC.b0 _ _ _ _=_;unfold lC.b0
  simp[lC.q0,lC.q0]) _ k (by omega)
theorem Wq (x:Tx) (h:zz ct x<=1048576):sI.aa (x,())=some (x,()):=by
 have hz:zz ct x=(0+(zz (.U ap) x.2.1+(zz (.U i64) x.2.2.1+(zz (.U bq) x.2.2.2.1+0)))):=rfl;refine ah (k:=0) fun k _=>(sI.ae k _).trans ?_;show sI.p _=_;unfold sI.p;simp only[Lm x.2.1 (by omega),MJ x.2.2.1 (by omega),R5 x.2.2.2.1 (by omega),aB]
theorem Ln (x:List Tx) (h:zz (.U ct) x<=1048576):kJ.aa (x,())=some (x,()):=by
 have hl:x.length<=1048576:=bJ (mp (e:=ct) x) h;refine ah (k:=x.length+1) fun k hk=>(kJ.ae k _).trans ?_;unfold kJ.p;have hc:0<=(x.length:Int)/\(x.length:Int)<=(x.length:Int)/\(x.length:Int)<=(bz:Int):=by simp only[bz];omega
 simp only[hc,cU,aI,aH]
 exact uo (B:=fun self v=>kJ.b0 self (fun z=>kJ.q0 (x,()) z) (x,()) v) (xs:=x) (by rw[ai];omega) (fun i hi acc self ha=>by
  show kJ.b0 _ _ _ _=_;unfold kJ.b0;have aj:(i:Int) < (x.length:Int):=by omega
  have ru:(i:Int) < (acc.length:Int):=by omega
  simp only[aj,ru,aC,aJ,aK,cU,aI,aH,aA hi,aA (show i < acc.length by omega),aB,Wq x[i] (by have:=tr (e:=ct) (aQ hi);omega)]) (fun acc self=>by
  show kJ.b0 _ _ _ _=_;unfold kJ.b0
  simp[kJ.q0,kJ.q0]) _ k (by omega)
theorem PG (x:Plain) (h:zz jZ x<=1048576):nR.aa (x,())=some (x,()):=by
 have hz:zz jZ x=(zz (.U au) x.1+(zz (.U ct) x.2.1+(0+0))):=rfl;refine ah (k:=0) fun k _=>(nR.ae k _).trans ?_;show nR.p _=_;unfold nR.p;simp only[R4 x.1 (by omega),Ln x.2.1 (by omega),aB]
theorem BV (x:Row) (h:zz au x<=4611686018427387904):nX.aa (x,x,())=some (true,()):=by
 have hz:zz au x=(0+(0+(0+(List.length x.2.2.2.1+0)))):=rfl;refine ah (k:=0) fun k _=>(nX.ae k _).trans ?_;show nX.p _=_;unfold nX.p;simp[]
theorem MK (x:List Row) (h:zz (.U au) x<=4611686018427387904):lD.aa (x,x,())=some (true,()):=by
 have hl:x.length<=4611686018427387904:=bJ (mp (e:=au) x) h;refine ah (k:=x.length+1) fun k hk=>(lD.ae k _).trans ?_;unfold lD.p;simp only[aC,aO,aE]
 have:=qX (B:=fun self v=>lD.b0 self (fun z=>lD.q0 (x,x,()) z) (x,x,()) v) (xs:=x) (ys:=x) (fun _ _=>true) rfl (by rw[ai];omega) (fun i hi hj self=>by
   show lD.b0 _ _ _ _=_;unfold lD.b0;have aj:(i:Int) < (x.length:Int):=by omega
   simp only[aj,aC,aJ,aK,aI,aH,aA hi,aB,aO,aE,BV x[i] (by have:=tr (e:=au) (aQ hi);omega)]) (fun self=>by
   show lD.b0 _ _ _ _=_;unfold lD.b0
   simp[lD.q0,lD.q0]) k (by omega)
 rw[show qz (fun _ _=>true) x x=true by simp[qz]] at this;exact this
theorem Jn (x:List Int) (h:zz (.U i64) x<=4611686018427387904):jx.aa (x,x,())=some (true,()):=by
 have hl:x.length<=4611686018427387904:=bJ (mp (e:=i64) x) h;refine ah (k:=x.length+1) fun k hk=>(jx.ae k _).trans ?_;unfold jx.p;simp only[aC,aO,aE]
 have:=qX (B:=fun self v=>jx.b0 self (fun z=>jx.q0 (x,x,()) z) (x,x,()) v) (xs:=x) (ys:=x) (fun _ _=>true) rfl (by rw[ai];omega) (fun i hi hj self=>by
   show jx.b0 _ _ _ _=_;unfold jx.b0;have aj:(i:Int) < (x.length:Int):=by omega
   simp only[aj,aC,aJ,aK,aI,aH,aA hi,aB,aO,aE]) (fun self=>by
   show jx.b0 _ _ _ _=_;unfold jx.b0
   simp[jx.q0,jx.q0]) k (by omega)
 rw[show qz (fun _ _=>true) x x=true by simp[qz]] at this;exact this
theorem Jo (x:Change) (h:zz ap x<=4611686018427387904):pc.aa (x,x,())=some (true,()):=by
 have hz:zz ap x=(0+((0+(0+(0+(List.length x.2.1.2.2.2.1+0))))+(0+((0+(0+(0+(List.length x.2.2.2.1.2.2.2.1+0))))+0)))):=rfl;have wT:zz au x.2.1=(0+(0+(0+(List.length x.2.1.2.2.2.1+0)))):=rfl;have XO:zz au x.2.2.2.1=(0+(0+(0+(List.length x.2.2.2.1.2.2.2.1+0)))):=rfl;refine ah (k:=0) fun k _=>(pc.ae k _).trans ?_;show pc.p _=_;unfold pc.p;have q0:=BV x.2.1 (by omega);have q1:=BV x.2.2.2.1 (by omega);simp[q0,q1]
theorem Ia (x:List Change) (h:zz (.U ap) x<=4611686018427387904):iv.aa (x,x,())=some (true,()):=by
 have hl:x.length<=4611686018427387904:=bJ (mp (e:=ap) x) h;refine ah (k:=x.length+1) fun k hk=>(iv.ae k _).trans ?_;unfold iv.p;simp only[aC,aO,aE]
 have:=qX (B:=fun self v=>iv.b0 self (fun z=>iv.q0 (x,x,()) z) (x,x,()) v) (xs:=x) (ys:=x) (fun _ _=>true) rfl (by rw[ai];omega) (fun i hi hj self=>by
   show iv.b0 _ _ _ _=_;unfold iv.b0;have aj:(i:Int) < (x.length:Int):=by omega
   simp only[aj,aC,aJ,aK,aI,aH,aA hi,aB,aO,aE,Jo x[i] (by have:=tr (e:=ap) (aQ hi);omega)]) (fun self=>by
   show iv.b0 _ _ _ _=_;unfold iv.b0
   simp[iv.q0,iv.q0]) k (by omega)
 rw[show qz (fun _ _=>true) x x=true by simp[qz]] at this;exact this
theorem PH (x:Key) (h:zz bq x<=4611686018427387904):rJ.aa (x,x,())=some (true,()):=by
 have hz:zz bq x=(0+(0+0)):=rfl;refine ah (k:=0) fun k _=>(rJ.ae k _).trans ?_;show rJ.p _=_;unfold rJ.p;simp[]
theorem ML (x:List Key) (h:zz (.U bq) x<=4611686018427387904):lE.aa (x,x,())=some (true,()):=by
 have hl:x.length<=4611686018427387904:=bJ (mp (e:=bq) x) h;refine ah (k:=x.length+1) fun k hk=>(lE.ae k _).trans ?_;unfold lE.p;simp only[aC,aO,aE]
 have:=qX (B:=fun self v=>lE.b0 self (fun z=>lE.q0 (x,x,()) z) (x,x,()) v) (xs:=x) (ys:=x) (fun _ _=>true) rfl (by rw[ai];omega) (fun i hi hj self=>by
   show lE.b0 _ _ _ _=_;unfold lE.b0;have aj:(i:Int) < (x.length:Int):=by omega
   simp only[aj,aC,aJ,aK,aI,aH,aA hi,aB,aO,aE,PH x[i] (by have:=tr (e:=bq) (aQ hi);omega)]) (fun self=>by
   show lE.b0 _ _ _ _=_;unfold lE.b0
   simp[lE.q0,lE.q0]) k (by omega)
 rw[show qz (fun _ _=>true) x x=true by simp[qz]] at this;exact this
theorem R6 (x:Tx) (h:zz ct x<=4611686018427387904):sJ.aa (x,x,())=some (true,()):=by
 have hz:zz ct x=(0+(zz (.U ap) x.2.1+(zz (.U i64) x.2.2.1+(zz (.U bq) x.2.2.2.1+0)))):=rfl;refine ah (k:=0) fun k _=>(sJ.ae k _).trans ?_;show sJ.p _=_;unfold sJ.p;have q0:=Ia x.2.1 (by omega);have q1:=Jn x.2.2.1 (by omega);have q2:=ML x.2.2.2.1 (by omega);simp[q0,q1,q2]
theorem G0 (x:List Tx) (h:zz (.U ct) x<=4611686018427387904):kL.aa (x,x,())=some (true,()):=by
 have hl:x.length<=4611686018427387904:=bJ (mp (e:=ct) x) h;refine ah (k:=x.length+1) fun k hk=>(kL.ae k _).trans ?_;unfold kL.p;simp only[aC,aO,aE]
 have:=qX (B:=fun self v=>kL.b0 self (fun z=>kL.q0 (x,x,()) z) (x,x,()) v) (xs:=x) (ys:=x) (fun _ _=>true) rfl (by rw[ai];omega) (fun i hi hj self=>by
   show kL.b0 _ _ _ _=_;unfold kL.b0;have aj:(i:Int) < (x.length:Int):=by omega
   simp only[aj,aC,aJ,aK,aI,aH,aA hi,aB,aO,aE,R6 x[i] (by have:=tr (e:=ct) (aQ hi);omega)]) (fun self=>by
   show kL.b0 _ _ _ _=_;unfold kL.b0
   simp[kL.q0,kL.q0]) k (by omega)
 rw[show qz (fun _ _=>true) x x=true by simp[qz]] at this;exact this
theorem Lo (x:Plain) (h:zz jZ x<=4611686018427387904):pZ.aa (x,x,())=some (true,()):=by
 have hz:zz jZ x=(zz (.U au) x.1+(zz (.U ct) x.2.1+(0+0))):=rfl;refine ah (k:=0) fun k _=>(pZ.ae k _).trans ?_;show pZ.p _=_;unfold pZ.p;have q0:=MK x.1 (by omega);have q1:=G0 x.2.1 (by omega);simp[q0,q1]
theorem BW (x:List UInt8) (n:Int) (hx:sG (.U u8) x) (h0:0<=n) (h1:n<=1048576):mJ.aa (x,n,())=some (ef n (zz (.U u8) x),()):=by
 obtain ⟨hl,ox⟩:=hx;have nH:=hl;rw[ai] at nH;have nH:List.length x<=9223372036854775807:=nH;have hw:af (n - (List.length x:Int))=n - (List.length x:Int):=bt (by omega);have hz:zz (.U u8) x=List.length x+0:=by show List.length x+pp _ _=_;exact dB (List.length x+·) (xH _ (fun _=>rfl) x)
 refine ah (k:=0) fun k _=>(mJ.ae k _).trans ?_;show mJ.p _=_;unfold mJ.p;simp only[hw,hz,cY];by_cases hc:(List.length x:Int)<=n
 ·have e1:ef n (List.length x)=n - (List.length x:Int):=aU hc;have n1:¬ (n - (List.length x:Int) < 0):=by omega
  simp[e1,n1]
 ·have e1:ef n (List.length x)=-1:=bA hc;have n1:n - (List.length x:Int) < 0:=by omega
  simp[e1,n1]
theorem MM (x:List (List UInt8)) (n:Int) (hx:sG (.U (.U u8)) x) (h0:0<=n) (h1:n<=1048576):gz.aa (x,n,())=some (ef n (zz (.U (.U u8)) x),()):=by
 obtain ⟨hl,ox⟩:=hx;have nH:=hl;rw[ai] at nH;have nH:List.length x<=9223372036854775807:=nH;have hw:af (n - (List.length x:Int))=n - (List.length x:Int):=bt (by omega);have hz:zz (.U (.U u8)) x=List.length x+pp (zz (.U u8)) x:=rfl;by_cases hc:n - (List.length x:Int) < 0
 ·have e1:ef n (zz (.U (.U u8)) x)=-1:=bA (by omega);rw[e1];refine ah (k:=0) fun k _=>(gz.ae k _).trans ?_;unfold gz.p;simp only[hw,hc,aC,aJ]
  try rfl
 ·have e1:ef n (zz (.U (.U u8)) x)=ef (n - (List.length x:Int)) (pp (zz (.U u8)) x):=by rw[hz,Ek (by omega)]
  rw[e1];refine ah (k:=List.length x+1) fun k hk=>(gz.ae k _).trans ?_;unfold gz.p;simp only[hw,hc,aD,aE]
  exact Ej (B:=fun self v=>gz.b0 self (fun z=>gz.q0 (x,n,()) z) (x,n,()) v) (xs:=x) hl (zz (.U u8)) (fun i hi m self GZ vK=>by
    show gz.b0 _ _ _ _=_;unfold gz.b0;have aj:(i:Int) < (List.length x:Int):=by omega
    simp only[aj,aC,aJ,aK,aI,aH,aA hi,aB,BW x[i] m (ox _ (aQ hi)) GZ vK]
    by_cases hs:ef m (zz (.U u8) x[i]) < 0 <;> simp[hs]) (fun m self=>by
    show gz.b0 _ _ _ _=_;unfold gz.b0
    simp[gz.q0,gz.q0]) _ (by omega) (by omega) k (by omega)
theorem BX (x:List UInt8) (h:zz (.U u8) x<=1048576):gv.aa (x,())=some (x,()):=by
 have hl:x.length<=1048576:=bJ (mp (e:=u8) x) h;refine ah (k:=x.length+1) fun k hk=>(gv.ae k _).trans ?_;unfold gv.p;have hc:0<=(x.length:Int)/\(x.length:Int)<=(x.length:Int)/\(x.length:Int)<=(bz:Int):=by simp only[bz];omega
 simp only[hc,cU,aI,aH]
 exact uo (B:=fun self v=>gv.b0 self (fun z=>gv.q0 (x,()) z) (x,()) v) (xs:=x) (by rw[ai];omega) (fun i hi acc self ha=>by
  show gv.b0 _ _ _ _=_;unfold gv.b0;have aj:(i:Int) < (x.length:Int):=by omega
  have ru:(i:Int) < (acc.length:Int):=by omega
  simp only[aj,ru,aC,aJ,aK,cU,aI,aH,aA hi,aA (show i < acc.length by omega),aB]) (fun acc self=>by
  show gv.b0 _ _ _ _=_;unfold gv.b0
  simp[gv.q0,gv.q0]) _ k (by omega)
theorem MN (x:List (List UInt8)) (h:zz (.U (.U u8)) x<=1048576):jy.aa (x,())=some (x,()):=by
 have hl:x.length<=1048576:=bJ (mp (e:=(.U u8)) x) h;refine ah (k:=x.length+1) fun k hk=>(jy.ae k _).trans ?_;unfold jy.p;have hc:0<=(x.length:Int)/\(x.length:Int)<=(x.length:Int)/\(x.length:Int)<=(bz:Int):=by simp only[bz];omega
 simp only[hc,cU,aI,aH]
 exact uo (B:=fun self v=>jy.b0 self (fun z=>jy.q0 (x,()) z) (x,()) v) (xs:=x) (by rw[ai];omega) (fun i hi acc self ha=>by
  show jy.b0 _ _ _ _=_;unfold jy.b0;have aj:(i:Int) < (x.length:Int):=by omega
  have ru:(i:Int) < (acc.length:Int):=by omega
  simp only[aj,ru,aC,aJ,aK,cU,aI,aH,aA hi,aA (show i < acc.length by omega),aB,BX x[i] (by have:=tr (e:=(.U u8)) (aQ hi);omega)]) (fun acc self=>by
  show jy.b0 _ _ _ _=_;unfold jy.b0
  simp[jy.q0,jy.q0]) _ k (by omega)
theorem zE (x:List UInt8) (h:zz (.U u8) x<=4611686018427387904):gx.aa (x,x,())=some (true,()):=by
 have hl:x.length<=4611686018427387904:=bJ (mp (e:=u8) x) h;refine ah (k:=x.length+1) fun k hk=>(gx.ae k _).trans ?_;unfold gx.p;simp only[aC,aO,aE]
 have:=qX (B:=fun self v=>gx.b0 self (fun z=>gx.q0 (x,x,()) z) (x,x,()) v) (xs:=x) (ys:=x) (fun _ _=>true) rfl (by rw[ai];omega) (fun i hi hj self=>by
   show gx.b0 _ _ _ _=_;unfold gx.b0;have aj:(i:Int) < (x.length:Int):=by omega
   simp only[aj,aC,aJ,aK,aI,aH,aA hi,aB,aO,aE]) (fun self=>by
   show gx.b0 _ _ _ _=_;unfold gx.b0
   simp[gx.q0,gx.q0]) k (by omega)
 rw[show qz (fun _ _=>true) x x=true by simp[qz]] at this;exact this
theorem Jp (x:List (List UInt8)) (h:zz (.U (.U u8)) x<=4611686018427387904):jz.aa (x,x,())=some (true,()):=by
 have hl:x.length<=4611686018427387904:=bJ (mp (e:=(.U u8)) x) h;refine ah (k:=x.length+1) fun k hk=>(jz.ae k _).trans ?_;unfold jz.p;simp only[aC,aO,aE]
 have:=qX (B:=fun self v=>jz.b0 self (fun z=>jz.q0 (x,x,()) z) (x,x,()) v) (xs:=x) (ys:=x) (fun _ _=>true) rfl (by rw[ai];omega) (fun i hi hj self=>by
   show jz.b0 _ _ _ _=_;unfold jz.b0;have aj:(i:Int) < (x.length:Int):=by omega
   simp only[aj,aC,aJ,aK,aI,aH,aA hi,aB,aO,aE,zE x[i] (by have:=tr (e:=(.U u8)) (aQ hi);omega)]) (fun self=>by
   show jz.b0 _ _ _ _=_;unfold jz.b0
   simp[jz.q0,jz.q0]) k (by omega)
 rw[show qz (fun _ _=>true) x x=true by simp[qz]] at this;exact this
theorem TX (x:Log) (n:Int) (hx:sG lN x) (h0:0<=n) (h1:n<=1048576):rL.aa (x,n,())=some (ef n (zz lN x),()):=by
 have hz:zz lN x=(zz (.U u8) x.1+(zz (.U u8) x.2.1+0)):=rfl;refine ah (k:=0) fun k _=>(rL.ae k _).trans ?_;show rL.p _=_;unfold rL.p;simp only[BW x.1 (n) hx.1 (by omega) (by omega),aB];by_cases hc:((zz (.U u8) x.1:Nat):Int)<=n;rotate_left
 ·have e1:ef (n) (zz (.U u8) x.1)=-1:=bA hc;have e2:ef n (zz lN x)=-1:=bA (by omega);rw[e1,e2];rfl
 have e1:ef (n) (zz (.U u8) x.1)=n - ((zz (.U u8) x.1:Nat):Int):=aU hc;have n1:¬ (n - ((zz (.U u8) x.1:Nat):Int) < 0):=by omega
 simp only[e1,n1,aD,aE];clear e1 n1;simp only[BW x.2.1 ((n - ((zz (.U u8) x.1:Nat):Int))) hx.2.1 (by omega) (by omega),aB]
 by_cases hc:((zz (.U u8) x.2.1:Nat):Int)<=(n - ((zz (.U u8) x.1:Nat):Int))
 rotate_left
 ·have e1:ef ((n - ((zz (.U u8) x.1:Nat):Int))) (zz (.U u8) x.2.1)=-1:=bA hc;have e2:ef n (zz lN x)=-1:=bA (by omega);rw[e1,e2];rfl
 have e1:ef ((n - ((zz (.U u8) x.1:Nat):Int))) (zz (.U u8) x.2.1)=(n - ((zz (.U u8) x.1:Nat):Int)) - ((zz (.U u8) x.2.1:Nat):Int):=aU hc;have n1:¬ ((n - ((zz (.U u8) x.1:Nat):Int)) - ((zz (.U u8) x.2.1:Nat):Int) < 0):=by omega
 simp only[e1,n1,aD,aE];clear e1 n1;have e2:ef n (zz lN x)=((n - ((zz (.U u8) x.1:Nat):Int)) - ((zz (.U u8) x.2.1:Nat):Int)):=by unfold ef;rw[aU (by omega)];omega
 rw[e2]
theorem PI (x:kT) (n:Int) (hx:sG gq x) (h0:0<=n) (h1:n<=1048576):qb.aa (x,n,())=some (ef n (zz gq x),()):=by
 have hz:zz gq x=(0+(zz (.U (.U u8)) x.2.1+((zz (.U u8) x.2.2.1.1+(zz (.U u8) x.2.2.1.2.1+0))+(zz (.U ct) x.2.2.2.1+(0+0))))):=rfl;refine ah (k:=0) fun k _=>(qb.ae k _).trans ?_;show qb.p _=_;unfold qb.p;simp only[MM x.2.1 (n) hx.2.1 (by omega) (by omega),aB];by_cases hc:((zz (.U (.U u8)) x.2.1:Nat):Int)<=n;rotate_left
 ·have e1:ef (n) (zz (.U (.U u8)) x.2.1)=-1:=bA hc;have e2:ef n (zz gq x)=-1:=bA (by omega);rw[e1,e2];rfl
 have e1:ef (n) (zz (.U (.U u8)) x.2.1)=n - ((zz (.U (.U u8)) x.2.1:Nat):Int):=aU hc;have n1:¬ (n - ((zz (.U (.U u8)) x.2.1:Nat):Int) < 0):=by omega
 simp only[e1,n1,aD,aE];clear e1 n1;have A5:zz lN x.2.2.1=(zz (.U u8) x.2.2.1.1+(zz (.U u8) x.2.2.1.2.1+0)):=rfl;simp only[TX x.2.2.1 ((n - ((zz (.U (.U u8)) x.2.1:Nat):Int))) hx.2.2.1 (by omega) (by omega),aB]
 by_cases hc:((zz lN x.2.2.1:Nat):Int)<=(n - ((zz (.U (.U u8)) x.2.1:Nat):Int))
 rotate_left
 ·have e1:ef ((n - ((zz (.U (.U u8)) x.2.1:Nat):Int))) (zz lN x.2.2.1)=-1:=bA hc;have e2:ef n (zz gq x)=-1:=bA (by omega);rw[e1,e2];rfl
 have e1:ef ((n - ((zz (.U (.U u8)) x.2.1:Nat):Int))) (zz lN x.2.2.1)=(n - ((zz (.U (.U u8)) x.2.1:Nat):Int)) - ((zz lN x.2.2.1:Nat):Int):=aU hc;have n1:¬ ((n - ((zz (.U (.U u8)) x.2.1:Nat):Int)) - ((zz lN x.2.2.1:Nat):Int) < 0):=by omega
 simp only[e1,n1,aD,aE];clear e1 n1;simp only[Ll x.2.2.2.1 (((n - ((zz (.U (.U u8)) x.2.1:Nat):Int)) - ((zz lN x.2.2.1:Nat):Int))) hx.2.2.2.1 (by omega) (by omega),aB]
 by_cases hc:((zz (.U ct) x.2.2.2.1:Nat):Int)<=((n - ((zz (.U (.U u8)) x.2.1:Nat):Int)) - ((zz lN x.2.2.1:Nat):Int))
 rotate_left
 ·have e1:ef (((n - ((zz (.U (.U u8)) x.2.1:Nat):Int)) - ((zz lN x.2.2.1:Nat):Int))) (zz (.U ct) x.2.2.2.1)=-1:=bA hc;have e2:ef n (zz gq x)=-1:=bA (by omega);rw[e1,e2];rfl
 have e1:ef (((n - ((zz (.U (.U u8)) x.2.1:Nat):Int)) - ((zz lN x.2.2.1:Nat):Int))) (zz (.U ct) x.2.2.2.1)=((n - ((zz (.U (.U u8)) x.2.1:Nat):Int)) - ((zz lN x.2.2.1:Nat):Int)) - ((zz (.U ct) x.2.2.2.1:Nat):Int):=aU hc;have n1:¬ (((n - ((zz (.U (.U u8)) x.2.1:Nat):Int)) - ((zz lN x.2.2.1:Nat):Int)) - ((zz (.U ct) x.2.2.2.1:Nat):Int) < 0):=by omega
 simp only[e1,n1,aD,aE];clear e1 n1;have e2:ef n (zz gq x)=(((n - ((zz (.U (.U u8)) x.2.1:Nat):Int)) - ((zz lN x.2.2.1:Nat):Int)) - ((zz (.U ct) x.2.2.2.1:Nat):Int)):=by unfold ef;rw[aU (by omega)];omega
 rw[e2]
theorem TY (x:Log) (h:zz lN x<=1048576):rM.aa (x,())=some (x,()):=by
 have hz:zz lN x=(zz (.U u8) x.1+(zz (.U u8) x.2.1+0)):=rfl;refine ah (k:=0) fun k _=>(rM.ae k _).trans ?_;show rM.p _=_;unfold rM.p;simp only[BX x.1 (by omega),BX x.2.1 (by omega),aB]
theorem PJ (x:kT) (h:zz gq x<=1048576):nT.aa (x,())=some (x,()):=by
 have hz:zz gq x=(0+(zz (.U (.U u8)) x.2.1+((zz (.U u8) x.2.2.1.1+(zz (.U u8) x.2.2.1.2.1+0))+(zz (.U ct) x.2.2.2.1+(0+0))))):=rfl;have A5:zz lN x.2.2.1=(zz (.U u8) x.2.2.1.1+(zz (.U u8) x.2.2.1.2.1+0)):=rfl;refine ah (k:=0) fun k _=>(nT.ae k _).trans ?_;show nT.p _=_;unfold nT.p;simp only[MN x.2.1 (by omega),TY x.2.2.1 (by omega),Ln x.2.2.2.1 (by omega),aB]
theorem PK (x:Log) (h:zz lN x<=4611686018427387904):rN.aa (x,x,())=some (true,()):=by
 have hz:zz lN x=(zz (.U u8) x.1+(zz (.U u8) x.2.1+0)):=rfl;refine ah (k:=0) fun k _=>(rN.ae k _).trans ?_;show rN.p _=_;unfold rN.p;have q0:=zE x.1 (by omega);have q1:=zE x.2.1 (by omega);simp[q0,q1]
theorem Lp (x:kT) (h:zz gq x<=4611686018427387904):qe.aa (x,x,())=some (true,()):=by
 have hz:zz gq x=(0+(zz (.U (.U u8)) x.2.1+((zz (.U u8) x.2.2.1.1+(zz (.U u8) x.2.2.1.2.1+0))+(zz (.U ct) x.2.2.2.1+(0+0))))):=rfl;have A5:zz lN x.2.2.1=(zz (.U u8) x.2.2.1.1+(zz (.U u8) x.2.2.1.2.1+0)):=rfl;refine ah (k:=0) fun k _=>(qe.ae k _).trans ?_;show qe.p _=_;unfold qe.p;have q0:=Jp x.2.1 (by omega);have q1:=PK x.2.2.1 (by omega);have q2:=G0 x.2.2.2.1 (by omega);simp[q0,q1,q2]
end OT
namespace OT
open Go
theorem nq (a b c:Int):bj.aa (a,b,c,())=some (decide (b<=a)&&decide (a<=c),()):=by
 refine ah (k:=0) fun k _=>(bj.ae k _).trans ?_;show bj.p _=_;unfold bj.p;by_cases h:b<=a <;> simp[h]
theorem rO (a b c:Int):fb.aa (a,b,c,())=some (decide (b<=a)&&decide (a<=c),()):=by
 refine ah (k:=0) fun k _=>(fb.ae k _).trans ?_;show fb.p _=_;unfold fb.p;by_cases h:b<=a <;> simp[h]
theorem Ib (a:Int):nJ.aa (a,())=some (decide (1<=a)&&decide (a<=99),()):=by
 refine ah (k:=0) fun k _=>(nJ.ae k _).trans ?_;show nJ.p _=_;unfold nJ.p;simp[rO]
def fi (a b c:Int):Bool:=decide (b<=a)&&decide (a<=c)
theorem vv (s:List UInt8) (h:s.length<=200000000000):kj.aa (s,())=some (s,()):=by
 refine ah (k:=0) fun k _=>(kj.ae k _).trans ?_;show kj.p _=_;unfold kj.p;have:([]:List UInt8).length+s.length<=bz:=da (by simpa using h);rw[aU this,bP]
theorem xo (s:List UInt8) (h:s.length<=200000000000):gj.aa (s,())=some (s,()):=by
 refine ah (k:=0) fun k _=>(gj.ae k _).trans ?_;show gj.p _=_;unfold gj.p;have:([]:List UInt8).length+s.length<=bz:=da (by simpa using h);rw[aU this,bP]
theorem h_ {S O α:Type} {g:S->α->S} {fin:S->O}:∀ (xs:List α) (i:Nat) (s:S),bn (fun _ s x=>.inr (g s x)) fin i xs s=fin (xs.foldl g s)
 | [],_,_=>rfl
 | x::xs,i,s=>by simp only[bn,eE];exact h_ xs _ _
theorem xJ {α:Type}:∀ (xs s:List α),xs.foldl (fun s x=>s++[x]) s=s++xs
 | [],s=>by simp
 | x::xs,s=>by rw[eE,xJ];simp
abbrev mn:Type:=List (List UInt8)
def gp (ps:mn):Prop:=ps.length<=12/\∀ p ∈ ps,p.length=64
def BY:List UInt8:=((List.replicate 64 (0:UInt8)).set 0 0).set 1 64
theorem FA:BY.length=64:=by simp[BY]
theorem CH (ps:mn) (h:gp ps):lH.aa (ps,())=some (ps,()):=by
 obtain ⟨h1,h2⟩:=h;refine ah (k:=14) fun k hk=>(lH.ae k _).trans ?_
 have:=b9 (B:=fun self v=>lH.b0 self (fun z=>lH.q0 (ps,()) z) (ps,()) v) ps (fun (s:mn) (i:Int)=>(s,i)) (fun _ s x=>.inr (s++[x])) (fun s=>(s,())) (fun i s=>s.length=i) (by rw[ai];omega)
  (fun i hi s self hI=>by
   show lH.b0 _ _ _ _=_;unfold lH.b0;have aj:(i:Int) < (ps.length:Int):=by omega
   have hx:=h2 ps[i] (aQ hi);simp only[aj,aC,aJ,aK,aI,aH,aA hi,aB];rw[vv _ (by omega)];have hc:s.length+[ps[i]].length<=bz:=da (by simp only[aP,bB];omega)
   simp only[aB,hc,aI])
  (fun i hi s s' hI hs=>by injection hs with hs;rw[<-hs];simp[hI]) (fun s self hI=>by
   show lH.b0 _ _ _ _=_;unfold lH.b0;simp only[bC,aD,aE]
   rfl) [] rfl k (by omega)
 rw[h_,xJ] at this;exact this
theorem CI (ps:mn) (h:gp ps):lF.aa (ps,())=some (ps,()):=by
 obtain ⟨h1,h2⟩:=h;refine ah (k:=14) fun k hk=>(lF.ae k _).trans ?_
 have:=b9 (B:=fun self v=>lF.b0 self (fun z=>lF.q0 (ps,()) z) (ps,()) v) ps (fun (s:mn) (i:Int)=>(s,i)) (fun _ s x=>.inr (s++[x])) (fun s=>(s,())) (fun i s=>s.length=i) (by rw[ai];omega)
  (fun i hi s self hI=>by
   show lF.b0 _ _ _ _=_;unfold lF.b0;have aj:(i:Int) < (ps.length:Int):=by omega
   have hx:=h2 ps[i] (aQ hi);simp only[aj,aC,aJ,aK,aI,aH,aA hi,aB];rw[xo _ (by omega)];have hc:s.length+[ps[i]].length<=bz:=da (by simp only[aP,bB];omega)
   simp only[aB,hc,aI])
  (fun i hi s s' hI hs=>by injection hs with hs;rw[<-hs];simp[hI]) (fun s self hI=>by
   show lF.b0 _ _ _ _=_;unfold lF.b0;simp only[bC,aD,aE]
   rfl) [] rfl k (by omega)
 rw[h_,xJ] at this;exact this
end OT
namespace OT
open Go
def wB (c:UInt8):Bool:=!decide ((c.toNat:Int) < 97)&&!decide ((122:Int) < (c.toNat:Int))
def En (s:List UInt8):Bool:=s.all wB&&decide (s.length<=8)
def nz (x:Row):Int:=if fi x.1 0 3&&(fi x.2.1 1 99&&fi x.2.2.1 0 999) then (if En x.2.2.2.1 then 0 else 5) else 3
theorem len8 (s:List UInt8):decide ((s.length:Int)<=8)=decide (s.length<=8):=by
 by_cases h:s.length<=8
 ·have:(s.length:Int)<=8:=by omega
  simp[h,this]
 ·have:¬ (s.length:Int)<=8:=by omega
  simp[h,this]
theorem MO (s:List UInt8) (h:s.length<=maxLen):mg.aa (s,())=some (En s,()):=by
 refine ah (k:=s.length+1) fun k hk=>(mg.ae k _).trans ?_
 have:=b9 (B:=fun self v=>mg.b0 self (fun z=>mg.q0 (s,()) z) (s,()) v) s (fun (_:Unit) (i:Int)=>i) (fun _ _ x=>if wB x then .inr () else .inl (false,())) (fun _=>(decide (s.length<=8),())) (fun _ _=>True) h
  (fun i hi _ self _=>by
   show mg.b0 _ _ _ _=_;unfold mg.b0;have aj:(i:Int) < (s.length:Int):=by omega
   simp only[aj,aC,aJ,aK,aI,aH,aA hi,aB];unfold wB
   by_cases h1:((s[i].toNat:Int) < 97) <;> by_cases h2:((122:Int) < (s[i].toNat:Int)) <;> simp[h1,h2]) (fun _ _ _ _ _ _=>trivial) (fun _ self _=>by
   show mg.b0 _ _ _ _=_;unfold mg.b0
   simp[mg.q0,mg.q0,len8]) () trivial k (by omega)
 refine this.trans ?_;rw[rE wB (false,()) (fun _=>(decide (s.length<=8),()))];unfold En;cases s.all wB <;> rfl
theorem yz (x:Row) (h:List.length x.2.2.2.1<=maxLen):jg.aa (x,())=some (nz x,()):=by
 refine ah (k:=0) fun k _=>(jg.ae k _).trans ?_;show jg.p _=_;unfold jg.p nz fi;simp only[nq,MO _ h,aB];cases decide ((0:Int)<=x.1) <;> cases decide (x.1<=3) <;> cases decide ((1:Int)<=x.2.1) <;> cases decide (x.2.1<=99) <;> cases decide ((0:Int)<=x.2.2.1) <;> cases decide (x.2.2.1<=999) <;> cases En x.2.2.2.1 <;> rfl
theorem yA (x:Row) (h:List.length x.2.2.2.1<=maxLen):dp.aa (x,())=some (nz x,()):=by
 refine ah (k:=List.length x.2.2.2.1+1) fun k hk=>(dp.ae k _).trans ?_
 have:=b9 (B:=fun self v=>dp.b0 self (fun z=>dp.q0 (x,()) z) (x,()) v) x.2.2.2.1 (fun (_:Unit) (i:Int)=>i) (fun _ _ c=>if wB c then .inr () else .inl (5,())) (fun _=>(0,())) (fun _ _=>True) h
  (fun i hi _ self _=>by
   show dp.b0 _ _ _ _=_;unfold dp.b0;have aj:(i:Int) < (List.length x.2.2.2.1:Int):=by omega
   simp only[aj,aC,aJ,aK,aI,aH,aA hi,aB];unfold wB
   by_cases h1:(((x.2.2.2.1)[i].toNat:Int) < 97) <;> by_cases h2:((122:Int) < ((x.2.2.2.1)[i].toNat:Int)) <;> simp[h1,h2]) (fun _ _ _ _ _ _=>trivial) (fun _ self _=>by
   show dp.b0 _ _ _ _=_;unfold dp.b0
   simp[dp.q0,dp.q0]) () trivial k (by omega)
 rw[rE wB (5,()) (fun _=>(0,()))] at this;have this:dp.r0 k (x,()) 0=_:=this;unfold dp.p nz fi En;simp only[rO,this,aB]
 have h8:decide ((8:Int) < (List.length x.2.2.2.1:Int))=!decide (List.length x.2.2.2.1<=8):=by
  by_cases hc:List.length x.2.2.2.1<=8
  ·have:¬ (8:Int) < (List.length x.2.2.2.1:Int):=by omega
   simp[hc,this]
  ·have:(8:Int) < (List.length x.2.2.2.1:Int):=by omega
   simp[hc,this]
 rw[h8];cases decide ((0:Int)<=x.1) <;> cases decide (x.1<=3) <;> cases decide ((1:Int)<=x.2.1) <;> cases decide (x.2.1<=99) <;> cases decide ((0:Int)<=x.2.2.1) <;> cases decide (x.2.2.1<=999) <;> cases decide (List.length x.2.2.2.1<=8) <;> cases (x.2.2.2.1).all wB <;> rfl
def rl (x:Row):Prop:=List.length x.2.2.2.1<=maxLen
def cl (c:Change):Prop:=rl c.2.1/\rl c.2.2.2.1
def sameKey (a b:Row):Bool:=decide (a.1=b.1)&&decide (a.2.1=b.2.1)
def bi (a b:Int×Int):Bool:=decide (a.1 < b.1)||(decide (a.1=b.1)&&decide (a.2 < b.2))
def tw (c:Change):Int:=if (!c.1&&!c.2.2.1)||(c.1&&c.2.2.1&&!sameKey c.2.1 c.2.2.2.1) then 1 else if c.1&&!decide (nz c.2.1=0) then nz c.2.1 else if c.2.2.1 then nz c.2.2.2.1 else 0
def wC (c:Change):Int:=if tw c=0 then (if c.1&&c.2.2.1&&Ty.eq au c.2.1 c.2.2.2.1 then 1 else 0) else tw c
def ck (c:Change):Int×Int:=if c.2.2.1 then (c.2.2.2.1.1,c.2.2.2.1.2.1) else (c.2.1.1,c.2.1.2.1)
theorem CJ (c:Change) (h:cl c):mE.aa (c,())=some (tw c,()):=by
 refine ah (k:=0) fun k _=>(mE.ae k _).trans ?_;show mE.p _=_;unfold mE.p tw sameKey;simp only[yz _ h.1,yz _ h.2,aB];cases c.1 <;> cases c.2.2.1 <;> by_cases h1:c.2.1.1=c.2.2.2.1.1 <;> by_cases h2:c.2.1.2.1=c.2.2.2.1.2.1 <;> by_cases h3:nz c.2.1=0 <;> simp[h1,h2,h3]
theorem xp (a b:Row):gb.aa (a,b,())=some (bi (a.1,a.2.1) (b.1,b.2.1),()):=by
 refine ah (k:=0) fun k _=>(gb.ae k _).trans ?_;show gb.p _=_;unfold gb.p bi;by_cases h1:a.1 < b.1 <;> by_cases h2:a.1=b.1 <;> simp[h1,h2]
theorem sY (a b:Row):ii.aa (a,b,())=some (if bi (a.1,a.2.1) (b.1,b.2.1) then -1 else if bi (b.1,b.2.1) (a.1,a.2.1) then 1 else 0,()):=by
 refine ah (k:=0) fun k _=>(ii.ae k _).trans ?_;show ii.p _=_;unfold ii.p;simp only[xp,aB];cases bi (a.1,a.2.1) (b.1,b.2.1) <;> cases bi (b.1,b.2.1) (a.1,a.2.1) <;> rfl
theorem G3 (a b:Row):decide ((if bi (a.1,a.2.1) (b.1,b.2.1) then (-1:Int) else if bi (b.1,b.2.1) (a.1,a.2.1) then 1 else 0)=0)=sameKey a b:=by
 unfold bi sameKey;by_cases h1:a.1 < b.1
 ·have:¬ a.1=b.1:=by omega
  simp[h1,this]
 ·by_cases h2:a.1=b.1
  ·by_cases h3:a.2.1 < b.2.1
   ·have:¬ a.2.1=b.2.1:=by omega
    simp[h2,h3,this]
   ·by_cases h4:b.2.1 < a.2.1
    ·have:¬ a.2.1=b.2.1:=by omega
     simp[h2,h3,h4,this]
    ·have:a.2.1=b.2.1:=by omega
     simp[h2,this]
  ·have:b.1 < a.1:=by omega
   simp[h1,h2,this]
theorem CK (c:Change) (h:cl c):kF.aa (c,())=some (tw c,()):=by
 refine ah (k:=0) fun k _=>(kF.ae k _).trans ?_;show kF.p _=_;unfold kF.p tw;simp only[yA _ h.1,yA _ h.2,sY,aB,G3];cases c.1 <;> cases c.2.2.1 <;> cases sameKey c.2.1 c.2.2.2.1 <;> by_cases h3:nz c.2.1=0 <;> simp[h3]
theorem xe (c:Change) (h:cl c):kw.aa (c,())=some (wC c,()):=by
 refine ah (k:=0) fun k _=>(kw.ae k _).trans ?_;show kw.p _=_;unfold kw.p wC;simp only[CJ c h,aB];by_cases h1:tw c=0
 ·simp only[h1,aC,aO,aE,aI];cases c.1 <;> cases c.2.2.1 <;> cases Ty.eq au c.2.1 c.2.2.2.1 <;> rfl
 ·simp[h1]
theorem Dz (c:Change) (h:cl c):gu.aa (c,())=some (wC c,()):=by
 refine ah (k:=0) fun k _=>(gu.ae k _).trans ?_;show gu.p _=_;unfold gu.p wC;simp only[CK c h,aB];by_cases h1:tw c=0
 ·simp only[h1,aC,aO,aE,aI];cases c.1 <;> cases c.2.2.1 <;> cases Ty.eq au c.2.1 c.2.2.2.1 <;> rfl
 ·simp[h1]
theorem BZ (c:Change):mt.aa (c,())=some ((ck c).1,(ck c).2,()):=by
 refine ah (k:=0) fun k _=>(mt.ae k _).trans ?_;show mt.p _=_;unfold mt.p ck;cases c.2.2.1 <;> rfl
def nr (c:Change):Row:=if c.2.2.1 then c.2.2.2.1 else c.2.1
theorem Ag (c:Change):((nr c).1,(nr c).2.1)=ck c:=by unfold nr ck;cases c.2.2.1 <;> rfl
theorem uN (c:Change):cx.aa (c,())=some (nr c,()):=by
 refine ah (k:=0) fun k _=>(cx.ae k _).trans ?_;show cx.p _=_;unfold cx.p nr;cases c.2.2.1 <;> rfl
theorem Eo (n:Nat) (m:Nat):decide ((m:Int) < (n:Int))=decide (m < n):=by
 by_cases h:m < n
 ·have:(m:Int) < (n:Int):=by omega
  simp[h,this]
 ·have:¬ (m:Int) < (n:Int):=by omega
  simp[h,this]
theorem B5 {i:Nat} (hi:0 < i) (h:i<=maxLen):af ((i:Int) - 1)=((i - 1:Nat):Int):=by
 rw[ai] at h;rw[bt (by omega)];omega
theorem PL {x:Row} (h:sG au x):rl x:=h.2.2.2.1
theorem ZI {c:Change} (h:sG ap c):cl c:=⟨PL h.2.1,PL h.2.2.2.1⟩
end OT
namespace OT
open Go
def rk (x:Row):Int×Int:=(x.1,x.2.1)
theorem zF (a b:Int×Int):bi a b=true↔a.1 < b.1\/(a.1=b.1/\a.2 < b.2):=by unfold bi;simp
theorem oV {a b c:Int×Int} (h1:bi a b=true) (h2:bi b c=true):bi a c=true:=by
 rw[zF] at *;omega
theorem jU (a:Int×Int):bi a a=false:=by
 cases h:bi a a with
 | false=>rfl
 | true=>rw[zF] at h;omega
theorem vU {a b:Int×Int} (h:bi a b=true):bi b a=false:=by
 cases h2:bi b a with
 | false=>rfl
 | true=>rw[zF] at h h2;omega
theorem r_ {a b:Int×Int} (h1:bi a b=false) (h2:bi b a=false):a=b:=by
 have n1:¬ (a.1 < b.1\/(a.1=b.1/\a.2 < b.2)):=fun h=>by rw[(zF a b).2 h] at h1;cases h1
 have n2:¬ (b.1 < a.1\/(b.1=a.1/\b.2 < a.2)):=fun h=>by rw[(zF b a).2 h] at h2;cases h2
 have e1:a.1=b.1:=by omega
 have e2:a.2=b.2:=by omega
 obtain ⟨a1,a2⟩:=a;obtain ⟨b1,b2⟩:=b;simp only at e1 e2;rw[e1,e2]
def up (xs:List Row):Prop:=xs.Pairwise (fun a b=>bi (rk a) (rk b)=true)
theorem tJ {x:Row} {xs:List Row}:up (x::xs)↔(∀ y ∈ xs,bi (rk x) (rk y)=true)/\up xs:=eB
def pos:List Row->Int×Int->Nat
 | [],_=>0
 | x::xs,k=>if bi (rk x) k then pos xs k+1 else 0
theorem ur:∀ (xs:List Row) (k:Int×Int),pos xs k<=xs.length
 | [],_=>aN _
 | x::xs,k=>by simp only[pos];split <;> simp[ur xs k]
theorem DA:∀ (xs:List Row) (k:Int×Int) (i:Nat) (h:i < xs.length),i < pos xs k->bi (rk xs[i]) k=true
 | x::xs,k,i,h,hp=>by
  simp only[pos] at hp;split at hp
  ·rename_i hx
   cases i with
   | zero=>exact hx
   | succ i=>exact DA xs k i (by simpa using h) (by omega)
  ·omega
theorem wD:∀ (xs:List Row) (k:Int×Int) (i:Nat) (h:i < xs.length),up xs->pos xs k<=i->bi (rk xs[i]) k=false
 | x::xs,k,i,h,hu,hp=>by
  simp only[pos] at hp;split at hp
  ·cases i with
   | zero=>omega
   | succ i=>exact wD xs k i (by simpa using h) (tJ.1 hu).2 (by omega)
  ·rename_i hx;have hx:bi (rk x) k=false:=by simpa using hx
   cases i with
   | zero=>exact hx
   | succ i=>
    have k8:i < xs.length:=by simpa using h
    have hm:bi (rk x) (rk xs[i])=true:=(tJ.1 hu).1 _ (aQ _);show bi (rk xs[i]) k=false
    cases hb:bi (rk xs[i]) k with
    | false=>rfl
    | true=>rw[oV hm hb] at hx;cases hx
def ls (xs:List Row) (k:Int×Int):Bool:=match xs[pos xs k]? with
 | some x=>decide (rk x=k)
 | none=>false
theorem xK {xs:List Row} {k:Int×Int} (h:ls xs k=true):∃ hp:pos xs k < xs.length,rk xs[pos xs k]=k:=by
 unfold ls at h;split at h
 ·rename_i x hx;obtain ⟨hp,e⟩:=aM.1 hx;subst e;exact ⟨hp,by simpa using h⟩
 ·cases h
theorem R7 (a b:Row):decide ((if bi (a.1,a.2.1) (b.1,b.2.1) then (-1:Int) else if bi (b.1,b.2.1) (a.1,a.2.1) then 1 else 0) < 0)=bi (rk a) (rk b):=by
 unfold rk;cases bi (a.1,a.2.1) (b.1,b.2.1) <;> cases bi (b.1,b.2.1) (a.1,a.2.1) <;> rfl
theorem B6 (a b:Row):sameKey a b=decide (rk a=rk b):=by
 unfold sameKey rk;by_cases h1:a.1=b.1 <;> by_cases h2:a.2.1=b.2.1 <;> simp[h1,h2]
theorem half (lo hi:Nat) (h:lo+hi<=4611686018427387904):af ((IntKind.wrap .u64 (af ((lo:Int)+(hi:Int)))).fdiv (2 ^ 1))=(((lo+hi) / 2:Nat):Int):=by
 have e1:af ((lo:Int)+(hi:Int))=((lo+hi:Nat):Int):=by rw[bt (by omega)];omega
 rw[e1]
 have e2:IntKind.wrap .u64 ((lo+hi:Nat):Int)=((lo+hi:Nat):Int):=by
  simp only[IntKind.wrap]
  first | rfl | (simp[IntKind.bits,IntKind.signed];omega) | omega
 rw[e2]
 have e3:(((lo+hi:Nat):Int)).fdiv (2 ^ 1)=(((lo+hi) / 2:Nat):Int):=by
  rw[gS _ (by omega)];omega
 rw[e3,bt (by omega)]
theorem IU (xs:List Row) (key:Row) (f:Nat×Int) (hu:up xs) (hl:xs.length<=2000000):bg.aa (xs,key,f,())=some ((pos xs (rk key):Int),ls xs (rk key),()):=by
 have hp:=ur xs (rk key)
 have hq:bg.q0 (xs,key,f,()) (pos xs (rk key):Int)=some ((pos xs (rk key):Int),ls xs (rk key),()):=by
  show bg.q0 _ _=_;unfold bg.q0 ls;by_cases aj:pos xs (rk key) < xs.length
  ·have h1:((pos xs (rk key):Nat):Int) < (xs.length:Int):=by omega
   simp only[h1,aC,aJ,aK,aI,aH,aA aj,aB,sY,G3,B6]
  ·have h1:¬ ((pos xs (rk key):Nat):Int) < (xs.length:Int):=by omega
   simp only[h1,aD,aE];rw[cW (by omega)]
 refine ah (k:=xs.length+1) fun k hk=>(bg.ae k _).trans ?_
 refine uG (B:=fun self v=>bg.b0 self (fun z=>bg.q0 (xs,key,f,()) z) (xs,key,f,()) v) (fun _=>((pos xs (rk key):Int),ls xs (rk key),()))
  (fun v=>∃ lo hi:Nat,v=((lo:Int),(hi:Int))/\lo<=pos xs (rk key)/\pos xs (rk key)<=hi/\hi<=xs.length) (fun v=>(v.2 - v.1).toNat) (fun v hv self=>?_) k (0,(xs.length:Int)) ⟨0,xs.length,rfl,by omega,hp,by omega⟩ (by simp;omega)
 obtain ⟨lo,hi,rfl,h1,h2,h3⟩:=hv;by_cases aj:lo < hi
 ·right;have sN:(lo:Int) < (hi:Int):=by omega
  have hm:(lo+hi) / 2 < xs.length:=by omega
  have hb:∀ self,bg.b0 self (fun z=>bg.q0 (xs,key,f,()) z) (xs,key,f,()) ((lo:Int),(hi:Int))=if bi (rk xs[(lo+hi) / 2]) (rk key) then self (af ((((lo+hi) / 2:Nat):Int)+1),(hi:Int)) else self ((lo:Int),(((lo+hi) / 2:Nat):Int)):=fun self=>by
   show bg.b0 _ _ _ _=_;unfold bg.b0;simp only[sN,aC,aJ,half lo hi (by omega),aK,aI,aH,aA hm,aB,sY,R7];cases bi (rk xs[(lo+hi) / 2]) (rk key) <;> rfl
  cases hc:bi (rk xs[(lo+hi) / 2]) (rk key) with
  | true=>
   refine ⟨((((lo+hi) / 2+1:Nat):Int),(hi:Int)),?_,rfl,⟨_,_,rfl,?_,h2,h3⟩,by simp only;omega⟩
   ·rw[hb,hc,aU rfl,bt (by omega)];rfl
   ·rcases bZ ((lo+hi) / 2) (pos xs (rk key)) with h | h
    ·omega
    ·rw[wD xs _ _ hm hu h] at hc;cases hc
  | false=>
   refine ⟨((lo:Int),(((lo+hi) / 2:Nat):Int)),?_,rfl,⟨_,_,rfl,h1,?_,by omega⟩,by simp only;omega⟩
   ·rw[hb,hc];rfl
   ·rcases bZ ((lo+hi) / 2) (pos xs (rk key)) with h | h
    ·rw[DA xs _ _ hm h] at hc;cases hc
    ·exact h
 ·left;have e:lo=pos xs (rk key):=by omega
  have sN:¬ (lo:Int) < (hi:Int):=by omega
  show bg.b0 _ _ _ _=_;unfold bg.b0;simp only[sN,aD,aE];rw[e];exact hq
def uO (xs:List Row) (c:Change):Bool:=(ls xs (ck c) == c.1)&&(!ls xs (ck c)||(match xs[pos xs (ck c)]? with | some x=>Ty.eq au x c.2.1 | none=>true))
def sZ (xs:List Row) (c:Change):List Row:=xs.take (pos xs (ck c))++(if c.2.2.1 then [c.2.2.2.1] else [])++xs.drop (pos xs (ck c)+if ls xs (ck c) then 1 else 0)
theorem vl (c:Change):rk (nr c)=ck c:=Ag c
theorem R8 (c:Change) (xs:List Row) (hu:up xs) (hl:xs.length<=2000000):mq.aa (c,xs,())=some (uO xs c,()):=by
 refine ah (k:=0) fun k _=>(mq.ae k _).trans ?_;show mq.p _=_;unfold mq.p uO;simp only[uN,IU xs _ _ hu hl,vl,aB]
 cases hf:ls xs (ck c) with
 | false=>cases c.1 <;> rfl
 | true=>
  obtain ⟨hp,hk⟩:=xK hf;simp only[aK,aI,aH,aA hp,aB];cases c.1 <;> rfl
theorem PN (xs:List Row) (c:Change) (hu:up xs) (hl:xs.length<=2000000):pY.aa (xs,c,())=some (sZ xs c,()):=by
 refine ah (k:=0) fun k _=>(pY.ae k _).trans ?_;show pY.p _=_;unfold pY.p sZ;have hp:=ur xs (ck c);have wv:0<=((pos xs (ck c):Nat):Int)/\((pos xs (ck c):Nat):Int)<=(xs.length:Int):=by omega
 have c1:([]:List Row).length+(List.take (pos xs (ck c)) xs).length<=bz:=da (by simp;omega);simp only[uN,IU xs _ _ hu hl,vl,aB,wv,cU,aI,aH,c1,eD,bP,dV];have c2:(List.take (pos xs (ck c)) xs).length+[c.2.2.2.1].length<=bz:=da (by simp;omega);have hd:∀ (p7:List Row) (n:Nat),p7.length<=2000001->p7.length+(List.drop n xs).length<=bz:=fun p7 n h=>da (by rw[bI];omega);have hw:af (((pos xs (ck c):Nat):Int)+1)=((pos xs (ck c)+1:Nat):Int):=by rw[bt (by omega)];rfl
 have c3:=hd (List.take (pos xs (ck c)) xs++[c.2.2.2.1]);have c4:=hd (List.take (pos xs (ck c)) xs);have l3:(List.take (pos xs (ck c)) xs++[c.2.2.2.1]).length<=2000001:=by simp;omega
 have l4:(List.take (pos xs (ck c)) xs).length<=2000001:=by simp;omega
 cases hf:ls xs (ck c) with
 | false=>
  cases c.2.2.1 with
  | false=>simp only[aE,wv,cU,aI,aH,c4 _ l4,aG,aL,cH,cY]
  | true=>simp only[aJ,aE,c2,wv,cU,aI,aH,c3 _ l3,aG,aL,cY]
 | true=>
  obtain ⟨ip,_⟩:=xK hf;have Yj:0<=((pos xs (ck c)+1:Nat):Int)/\((pos xs (ck c)+1:Nat):Int)<=(xs.length:Int):=by omega
  cases c.2.2.1 with
  | false=>simp only[aJ,aE,hw,Yj,cU,aI,aH,c4 _ l4,aG,aL,cH]
  | true=>simp only[aJ,aE,c2,hw,Yj,cU,aI,aH,c3 _ l3]
theorem CL (a b:Row):mD.aa (a,b,())=some (bi (rk a) (rk b),()):=by
 refine ah (k:=0) fun k _=>(mD.ae k _).trans ?_;show mD.p _=_;unfold mD.p bi rk;by_cases h1:a.1 < b.1 <;> by_cases h2:a.1=b.1 <;> simp[h1,h2]
theorem AE {x:Row} {xs:List Row} {k:Int×Int} (h:bi (rk x) k=true):ls (x::xs) k=ls xs k:=by
 unfold ls;simp only[pos,h,aI,fJ]
theorem Ep {xs:List Row} {k:Int×Int} (h:ls xs k=true):∃ y ∈ xs,rk y=k:=by
 obtain ⟨hp,hk⟩:=xK h;exact ⟨_,aQ hp,hk⟩
theorem N2 (k:Int×Int):∀ (xs:List Row) (j:Nat),up xs->bn (fun i (_:Unit) x=>if rk x=k then .inl ((i:Int),()) else .inr ()) (fun _=>((-1:Int),())) j xs ()=if ls xs k then (((j+pos xs k:Nat):Int),()) else (-1,())
 | [],j,_=>by simp[bn,ls]
 | x::xs,j,hu=>by
  have hu:=tJ.1 hu;simp only[bn];by_cases hx:rk x=k
  ·have hb:bi (rk x) k=false:=by rw[hx];exact jU k
   have hf:ls (x::xs) k=true:=by
    have hp0:pos (x::xs) k=0:=by simp only[pos,hb,aG,aL]
    unfold ls;rw[hp0];simp[hx]
   simp[hx,hf,pos,jU]
  ·simp only[hx,aL];rw[N2 k xs (j+1) hu.2]
   cases hb:bi (rk x) k with
   | true=>
    rw[AE hb];simp only[pos,hb,aI];have:j+1+pos xs k=j+(pos xs k+1):=by omega
    rw[this]
   | false=>
    have h1:ls (x::xs) k=false:=by simp[ls,pos,hb,hx]
    have h2:ls xs k=false:=by
     cases h:ls xs k with
     | false=>rfl
     | true=>
      obtain ⟨y,hy,e⟩:=Ep h;have:=hu.1 y hy;rw[e,hb] at this;cases this
    simp[h1,h2]
def ut (xs:List Row) (k:Int×Int):Int:=if ls xs k then (pos xs k:Int) else -1
theorem DB (xs:List Row) (t k:Int) (hu:up xs) (hl:xs.length<=2000000):jW.aa (xs,t,k,())=some (ut xs (t,k),()):=by
 refine ah (k:=xs.length+1) fun f hf=>(jW.ae f _).trans ?_
 have:=b9 (B:=fun self v=>jW.b0 self (fun z=>jW.q0 (xs,t,k,()) z) (xs,t,k,()) v) xs (fun (_:Unit) (i:Int)=>i) (fun i _ x=>if rk x=(t,k) then .inl ((i:Int),()) else .inr ()) (fun _=>((-1:Int),())) (fun _ _=>True) (by rw[ai];omega)
  (fun i hi _ self _=>by
   show jW.b0 _ _ _ _=_;unfold jW.b0 rk;have aj:(i:Int) < (xs.length:Int):=by omega
   simp only[aj,aC,aJ,aK,aI,aH,aA hi,aB]
   by_cases h1:xs[i].1=t <;> by_cases h2:xs[i].2.1=k <;> simp[h1,h2]) (fun _ _ _ _ _ _=>trivial) (fun _ self _=>by
   show jW.b0 _ _ _ _=_;unfold jW.b0
   simp[jW.q0,jW.q0]) () trivial f (by omega)
 rw[N2 (t,k) xs 0 hu] at this;have this:jW.r0 f (xs,t,k,()) 0=_:=this;unfold jW.p;rw[this];unfold ut;cases ls xs (t,k) <;> simp <;> rfl
theorem Lq {O:Type} (k:Int×Int) (g:Nat->O) (n:Nat):∀ (xs:List Row) (j:Nat),j+xs.length=n->bn (fun i (_:Unit) x=>if bi (rk x) k then .inr () else .inl (g i)) (fun _=>g n) j xs ()=g (j+pos xs k)
 | [],j,h=>by simp[bn,pos] at *;rw[h]
 | x::xs,j,h=>by
  simp only[bn,pos]
  cases hb:bi (rk x) k with
  | true=>
   simp only[aI];rw[Lq k g n xs (j+1) (by simp at h;omega)];congr 1;omega
  | false=>simp
def my (xs:List Row) (r:Row):List Row:=xs.take (pos xs (rk r))++[r]++xs.drop (pos xs (rk r))
theorem B7 (xs:List Row) (r:Row) (hl:xs.length<=2000000):i7.aa (xs,r,())=some (my xs r,()):=by
 refine ah (k:=xs.length+1) fun f hf=>(i7.ae f _).trans ?_
 have hq:∀ i:Nat,i<=xs.length->i7.q0 (xs,r,()) (i:Int)=some (xs.take i++[r]++xs.drop i,()):=fun i hi=>by
  show i7.q0 _ _=_;unfold i7.q0;have wv:0<=(i:Int)/\(i:Int)<=(xs.length:Int):=by omega
  have c1:([]:List Row).length+(List.take i xs).length<=bz:=da (by simp;omega);have c2:(List.take i xs).length+[r].length<=bz:=da (by simp;omega);have c3:(List.take i xs++[r]).length+(List.drop i xs).length<=bz:=da (by simp;omega);simp only[wv,cU,aI,aH,c1,eD,bP,dV,c2,c3]
 have:=b9 (B:=fun self v=>i7.b0 self (fun z=>i7.q0 (xs,r,()) z) (xs,r,()) v) xs (fun (_:Unit) (i:Int)=>i) (fun i _ x=>if bi (rk x) (rk r) then .inr () else .inl (xs.take i++[r]++xs.drop i,())) (fun _=>(xs.take xs.length++[r]++xs.drop xs.length,())) (fun _ _=>True) (by rw[ai];omega)
  (fun i hi _ self _=>by
   show i7.b0 _ _ _ _=_;unfold i7.b0;have aj:(i:Int) < (xs.length:Int):=by omega
   simp only[aj,aC,aJ,aK,aI,aH,aA hi,aB,CL]
   cases bi (rk xs[i]) (rk r) with
   | true=>rfl
   | false=>exact hq i (by omega)) (fun _ _ _ _ _ _=>trivial) (fun _ self _=>by
   show i7.b0 _ _ _ _=_;unfold i7.b0;have aj:¬ (xs.length:Int) < (xs.length:Int):=by omega
   simp only[aj,aD,aE]
   exact hq _ (aN _)) () trivial f (by omega)
 rw[Lq (rk r) (fun i=>(xs.take i++[r]++xs.drop i,())) xs.length xs 0 (by omega)] at this;refine this.trans ?_;simp[my]
theorem FB (t:Int):∀ (xs:List Row) (j:Nat) (s:List Row),bn (O:=List Row×Unit) (fun i s x=>if (i:Int)=t then .inr s else .inr (s++[x])) (fun s=>(s,())) j xs s=(s++(if (j:Int)<=t/\t < j+xs.length then xs.take (t - j).toNat++xs.drop ((t - j).toNat+1) else xs),())
 | [],j,s=>by
  have:¬ ((j:Int)<=t/\t < j+(([]:List Row).length:Int)):=fun h=>by
   have h2:(([]:List Row).length:Int)=0:=rfl;omega
  simp only[bn,this,aL,cH]
 | x::xs,j,s=>by
  simp only[bn];by_cases h:(j:Int)=t
  ·have h1:¬ (((j+1:Nat):Int)<=t/\t < ((j+1:Nat):Int)+(xs.length:Int)):=by omega
   have h2:(j:Int)<=t/\t < (j:Int)+((x::xs).length:Int):=by simp;omega
   have h3:(t - j).toNat=0:=by omega
   simp only[h,aI];rw[FB t xs (j+1) s,bA h1];rw[<-h] at h2 ⊢;have h3:((j:Int) - j).toNat=0:=by omega
   rw[aU h2,h3];simp
  ·simp only[h,aL];rw[FB t xs (j+1) (s++[x])]
   by_cases hc:(j:Int)<=t/\t < (j:Int)+((x::xs).length:Int)
   ·have vQ:((j+1:Nat):Int)<=t/\t < ((j+1:Nat):Int)+(xs.length:Int):=by simp at hc;omega
    have h3:(t - j).toNat=(t - ((j+1:Nat):Int)).toNat+1:=by omega
    rw[aU hc,aU vQ,h3];simp
   ·have vQ:¬ (((j+1:Nat):Int)<=t/\t < ((j+1:Nat):Int)+(xs.length:Int)):=by simp at hc;omega
    rw[bA hc,bA vQ];simp
def FC (xs:List Row) (k:Int×Int):List Row:=if ls xs k then xs.take (pos xs k)++xs.drop (pos xs k+1) else xs
theorem G4 (k:Int×Int):∀ (l1 l2:List Row),(∀ x ∈ l1,bi (rk x) k=true)->pos (l1++l2) k=l1.length+pos l2 k
 | [],l2,_=>by simp
 | x::l1,l2,h=>by
  simp only[cO,pos,h x bG,aI,aP];rw[G4 k l1 l2 fun y hy=>h y (aZ _ hy)];omega
theorem zG {xs:List Row} {k:Int×Int} {x:Row} (h:x ∈ xs.take (pos xs k)):bi (rk x) k=true:=by
 obtain ⟨i,hi,e⟩:=dD.1 h;have hp:=ur xs k;rw[bQ] at hi;rw[gP] at e;rw[<-e];exact DA xs k i (by omega) (by omega)
theorem TZ {xs:List Row} {k:Int×Int} (hu:up xs) {n:Nat} (hn:pos xs k<=n):pos (xs.drop n) k=0:=by
 cases hd:xs.drop n with
 | nil=>rfl
 | cons y ys=>
  have aj:n < xs.length:=by
   rcases bZ n xs.length with h | h
   ·exact h
   ·rw[List.drop_eq_nil_of_le h] at hd;cases hd
  rw[cZ aj] at hd;injection hd with h1 h2;simp only[pos];rw[<-h1,wD xs k n aj hu hn];rfl
theorem Wr {xs:List Row} {k:Int×Int} {r:Row} (hu:up xs) (hk:rk r=k):my (FC xs k) r=xs.take (pos xs k)++[r]++xs.drop (pos xs k+if ls xs k then 1 else 0):=by
 have hp:=ur xs k
 have key:∀ n,pos xs k<=n->pos (xs.take (pos xs k)++xs.drop n) k=pos xs k:=fun n hn=>by
  rw[G4 k _ _ fun x hx=>zG hx,TZ hu hn,bQ];omega
 have hl:(xs.take (pos xs k)).length=pos xs k:=by rw[bQ];omega
 unfold my FC;rw[hk]
 cases ls xs k with
 | true=>
  simp only[aI];rw[key _ (by omega),fK hl,fL hl]
 | false=>
  simp
theorem IV (xs:List Row) (c:Change) (hu:up xs) (hl:xs.length<=2000000) (hc:c.2.2.1=true->rk c.2.2.2.1=ck c):lh.aa (xs,c,())=some (if uO xs c then (sZ xs c,true,()) else ([],false,())):=by
 refine ah (k:=xs.length+1) fun f hf=>(lh.ae f _).trans ?_;have hp:=ur xs (ck c)
 have R9:=b9 (B:=fun self v=>lh.b0 self (fun z=>lh.q0 (xs,c,()) (ut xs (ck c)) z) (xs,c,()) (ut xs (ck c)) v) (O:=List Row×Bool×Unit) xs (fun (s:List Row) (i:Int)=>(s,i)) (fun i s x=>if (i:Int)=ut xs (ck c) then .inr s else .inr (s++[x]))
  (fun s=>(if c.2.2.1 then my s c.2.2.2.1 else s,true,())) (fun i s=>s.length<=i) (by rw[ai];omega)
  (fun i hi s self hI=>by
   show lh.b0 _ _ _ _ _=_;unfold lh.b0;have aj:(i:Int) < (xs.length:Int):=by omega
   simp only[aj,aC,aJ,aK,aI,aH,aA hi,aB];have c2:s.length+[xs[i]].length<=bz:=da (by simp;omega);by_cases h:(i:Int)=ut xs (ck c)
   ·simp[h]
   ·simp only[h,aD,aV,aJ,c2,aI,aL]) (fun i hi s s' hI hf=>by
   split at hf <;> (injection hf with hf;rw[<-hf];first | omega | (simp;omega))) (fun s self hI=>by
   show lh.b0 _ _ _ _ _=_;unfold lh.b0;have aj:¬ (xs.length:Int) < (xs.length:Int):=by omega
   simp only[aj,aD,aE,lh.q0,lh.q0,B7 s _ (by omega),aB]
   cases c.2.2.1 <;> rfl) [] (aN _) f (by omega)
 have w_:∀ (R_:List Row) (j:Nat) (s:List Row),bn (O:=List Row×Bool×Unit) (fun i s x=>if (i:Int)=ut xs (ck c) then .inr s else .inr (s++[x])) (fun s=>(if c.2.2.1 then my s c.2.2.2.1 else s,true,())) j R_ s
   = (fun s=>(if c.2.2.1 then my s c.2.2.2.1 else s,true,())) (bn (O:=List Row×Unit) (fun i s x=>if (i:Int)=ut xs (ck c) then .inr s else .inr (s++[x])) (fun s=>(s,())) j R_ s).1:=by
  intro R_
  induction R_ with
  | nil=>intro j s;rfl
  | cons x R_ ih=>
   intro j s;simp only[bn];by_cases h:(j:Int)=ut xs (ck c)
   ·simp only[h,aI];exact ih _ _
   ·simp only[h,aL];exact ih _ _
 rw[w_,FB (ut xs (ck c)) xs 0 []] at R9
 have aa1:([]++(if ((0:Nat):Int)<=ut xs (ck c)/\ut xs (ck c) < ((0:Nat):Int)+(xs.length:Int) then xs.take (ut xs (ck c) - ((0:Nat):Int)).toNat++xs.drop ((ut xs (ck c) - ((0:Nat):Int)).toNat+1) else xs))=FC xs (ck c):=by
  unfold ut FC
  cases Sa:ls xs (ck c) with
  | true=>
   obtain ⟨ip,_⟩:=xK Sa;simp only[aI];rw[aU (by omega)];have:(((pos xs (ck c):Nat):Int) - ((0:Nat):Int)).toNat=pos xs (ck c):=by omega
   rw[this];rfl
  | false=>simp
 simp only[aa1] at R9;have R9:lh.r0 f (xs,c,()) (ut xs (ck c)) (([]:List Row),(0:Int))=_:=R9;unfold lh.p uO;simp only[BZ,DB xs _ _ hu hl,aB,R9]
 have ZJ:(if c.2.2.1 then my (FC xs (ck c)) c.2.2.2.1 else FC xs (ck c))=sZ xs c:=by
  unfold sZ
  cases hi:c.2.2.1 with
  | true=>simp only[aI];exact Wr hu (hc hi)
  | false=>
   simp only[aG,aL,cH];unfold FC
   cases ls xs (ck c) with
   | true=>simp
   | false=>simp
 rw[ZJ]
 cases Sa:ls xs (ck c) with
 | true=>
  obtain ⟨ip,hk⟩:=xK Sa;have ha:ut xs (ck c)=(pos xs (ck c):Int):=by unfold ut;rw[Sa];rfl
  simp only[ha,aK,aC,aJ,aI,aH,aA ip,aB]
  cases c.1 with
  | true=>cases Ty.eq au xs[pos xs (ck c)] c.2.1 <;> rfl
  | false=>rfl
 | false=>
  have ha:ut xs (ck c)=-1:=by unfold ut;rw[Sa];rfl
  simp only[ha];cases c.1 <;> rfl
end OT
set_option linter.unusedSectionVars false
namespace OT
open Go
theorem pF {α β:Type} {f g:α->Option β}:∀ {l:List α},(∀ x ∈ l,f x=g x)->l.filterMap f=l.filterMap g
 | [],_=>rfl
 | x::l,h=>by
  rw[dC,dC,h x bG,pF fun y hy=>h y (aZ _ hy)]
abbrev uu:Row:=((0:Int),(0:Int),(0:Int),([]:List UInt8),())
def look (xs:List Row) (k:Int×Int):Option Row:=if ls xs k then xs[pos xs k]? else none
theorem yQ {x:Row} {xs:List Row} {k:Int×Int} (h:bi (rk x) k=true):look (x::xs) k=look xs k:=by
 unfold look;rw[AE h];simp only[pos,h,aI,fJ]
theorem vV {x:Row} {xs:List Row}:look (x::xs) (rk x)=some x:=by
 have h:pos (x::xs) (rk x)=0:=by simp[pos,jU]
 have h2:ls (x::xs) (rk x)=true:=by simp[ls,h]
 rw[look,h2,h];rfl
theorem Sb {xs:List Row} {k:Int×Int} (h:∀ y ∈ xs,rk y≠k):look xs k=none:=by
 unfold look
 cases hf:ls xs k with
 | false=>rfl
 | true=>obtain ⟨y,h1,h2⟩:=Ep hf;exact absurd h2 (h y h1)
theorem N3 {x:Row} {xs:List Row} {k:Int×Int} (hu:up (x::xs)) (h:bi k (rk x)=true):look (x::xs) k=none:=by
 refine Sb fun y hy e=>?_;subst e;rcases aY.1 hy with rfl | hy
 ·rw[jU] at h;cases h
 ·have:=(tJ.1 hu).1 y hy;rw[vU this] at h;cases h
def ye:Option Row->Option Row->Option Change
 | some a,some b=>if Ty.eq au a b then none else some (true,a,true,b,())
 | some a,none=>some (true,a,false,uu,())
 | none,some b=>some (false,uu,true,b,())
 | none,none=>none
theorem PO (a:Row):ye (some a) none=some (true,a,false,uu,()):=rfl
theorem PP (b:Row):ye none (some b)=some (false,uu,true,b,()):=rfl
theorem ZK (a b:Row):ye (some a) (some b)=if Ty.eq au a b then none else some (true,a,true,b,()):=rfl
def tz:Nat->List Row->List Row->List Change
 | 0,_,_=>[]
 | n+1,[],[]=>[]
 | n+1,[],b::bs=>(false,uu,true,b,())::tz n [] bs
 | n+1,a::al,[]=>(true,a,false,uu,())::tz n al []
 | n+1,a::al,b::bs=>if bi (rk a) (rk b) then (true,a,false,uu,())::tz n al (b::bs) else
  if bi (rk b) (rk a) then (false,uu,true,b,())::tz n (a::al) bs else
  if Ty.eq au a b then tz n al bs else (true,a,true,b,())::tz n al bs
def VG (ks:List (Int×Int)):Prop:=ks.Pairwise (fun a b=>bi a b=true)
def yR (B A:List Row) (k:Int×Int):Prop:=(∃ x ∈ B,rk x=k)\/∃ y ∈ A,rk y=k
theorem zH {ks:List (Int×Int)} {m:Int×Int} (hu:VG ks) (hm:m ∈ ks) (Ta:∀ k ∈ ks,k=m\/bi m k=true):∃ sx,ks=m::sx/\VG sx/\∀ k,k ∈ sx↔k ∈ ks/\k≠m:=by
 cases ks with
 | nil=>cases hm
 | cons k sx=>
  have hp:=eB.1 hu
  have e:k=m:=by
   rcases Ta k bG with e | h
   ·exact e
   ·rcases aY.1 hm with e | hm
    ·exact e.symm
    ·have:=hp.1 m hm;rw[vU h] at this;cases this
  subst e;refine ⟨sx,rfl,hp.2,fun q=>⟨fun hq=>⟨aZ _ hq,fun e=>?_⟩,fun ⟨hq,fw⟩=>?_⟩⟩
  ·subst e;have:=hp.1 q hq;rw[jU] at this;cases this
  ·rcases aY.1 hq with e | hq
   ·exact absurd e fw
   ·exact hq
theorem Yk:∀ (n:Nat) (B A:List Row) (ks:List (Int×Int)),up B->up A->VG ks->(∀ k,k ∈ ks↔yR B A k)->B.length+A.length<=n->tz n B A=ks.filterMap fun k=>ye (look B k) (look A k):=by
 intro n
 induction n with
 | zero=>
  intro B A ks _ _ _ hk hl;obtain rfl:B=[]:=bH (by omega);obtain rfl:A=[]:=bH (by omega)
  cases ks with
  | nil=>rfl
  | cons k ks=>rcases (hk k).1 bG with ⟨_,h,_⟩ | ⟨_,h,_⟩ <;> cases h
 | succ n ih=>
  intro B A ks hB hA EK hk hl
  cases B with
  | nil=>
   cases A with
   | nil=>
    cases ks with
    | nil=>rfl
    | cons k ks=>rcases (hk k).1 bG with ⟨_,h,_⟩ | ⟨_,h,_⟩ <;> cases h
   | cons b bs=>
    have uT:=tJ.1 hA
    obtain ⟨sx,rfl,g1,g2⟩:=zH (m:=rk b) EK ((hk _).2 (.inr ⟨b,bG,rfl⟩)) (fun k o7=>by
     rcases (hk k).1 o7 with ⟨_,h,_⟩ | ⟨y,h,rfl⟩
     ·cases h
     ·rcases aY.1 h with rfl | h
      ·exact .inl rfl
      ·exact .inr (uT.1 y h))
    have o7:∀ k,k ∈ sx↔yR [] bs k:=fun k=>by
     rw[g2,hk];constructor
     ·rintro ⟨⟨_,h,_⟩ | ⟨y,h,rfl⟩,fw⟩
      ·cases h
      ·rcases aY.1 h with rfl | h
       ·exact absurd rfl fw
       ·exact .inr ⟨y,h,rfl⟩
     ·rintro (⟨_,h,_⟩ | ⟨y,h,rfl⟩)
      ·cases h
      ·exact ⟨.inr ⟨y,aZ _ h,rfl⟩,fun e=>by have:=uT.1 y h;rw[e,jU] at this;cases this⟩
    have aj:∀ k ∈ sx,bi (rk b) k=true:=fun k hm=>by
     rcases (o7 k).1 hm with ⟨_,h,_⟩ | ⟨y,h,rfl⟩
     ·cases h
     ·exact uT.1 y h
    simp only[tz,dC,vV];rw[show look ([]:List Row) (rk b)=none from rfl];simp only[PO,PP];rw[ih [] bs sx hB uT.2 g1 o7 (by simp at hl ⊢;omega)];congr 1;refine pF fun k h=>?_;rw[yQ (aj k h)]
  | cons a al=>
   have zn:=tJ.1 hB
   cases A with
   | nil=>
    obtain ⟨sx,rfl,g1,g2⟩:=zH (m:=rk a) EK ((hk _).2 (.inl ⟨a,bG,rfl⟩)) (fun k o7=>by
     rcases (hk k).1 o7 with ⟨y,h,rfl⟩ | ⟨_,h,_⟩
     ·rcases aY.1 h with rfl | h
      ·exact .inl rfl
      ·exact .inr (zn.1 y h)
     ·cases h)
    have o7:∀ k,k ∈ sx↔yR al [] k:=fun k=>by
     rw[g2,hk];constructor
     ·rintro ⟨⟨y,h,rfl⟩ | ⟨_,h,_⟩,fw⟩
      ·rcases aY.1 h with rfl | h
       ·exact absurd rfl fw
       ·exact .inl ⟨y,h,rfl⟩
      ·cases h
     ·rintro (⟨y,h,rfl⟩ | ⟨_,h,_⟩)
      ·exact ⟨.inl ⟨y,aZ _ h,rfl⟩,fun e=>by have:=zn.1 y h;rw[e,jU] at this;cases this⟩
      ·cases h
    have aj:∀ k ∈ sx,bi (rk a) k=true:=fun k hm=>by
     rcases (o7 k).1 hm with ⟨y,h,rfl⟩ | ⟨_,h,_⟩
     ·exact zn.1 y h
     ·cases h
    simp only[tz,dC,vV];rw[show look ([]:List Row) (rk a)=none from rfl];simp only[PO,PP];rw[ih al [] sx zn.2 hA g1 o7 (by simp at hl ⊢;omega)];congr 1;refine pF fun k h=>?_;rw[yQ (aj k h)]
   | cons b bs=>
    have uT:=tJ.1 hA;by_cases h1:bi (rk a) (rk b)=true
    ·have yk:∀ y ∈ b::bs,bi (rk a) (rk y)=true:=fun y h=>by
      rcases aY.1 h with rfl | h
      ·exact h1
      ·exact oV h1 (uT.1 y h)
     obtain ⟨sx,rfl,g1,g2⟩:=zH (m:=rk a) EK ((hk _).2 (.inl ⟨a,bG,rfl⟩)) (fun k o7=>by
      rcases (hk k).1 o7 with ⟨y,h,rfl⟩ | ⟨y,h,rfl⟩
      ·rcases aY.1 h with rfl | h
       ·exact .inl rfl
       ·exact .inr (zn.1 y h)
      ·exact .inr (yk y h))
     have o7:∀ k,k ∈ sx↔yR al (b::bs) k:=fun k=>by
      rw[g2,hk];constructor
      ·rintro ⟨⟨y,h,rfl⟩ | ⟨y,h,rfl⟩,fw⟩
       ·rcases aY.1 h with rfl | h
        ·exact absurd rfl fw
        ·exact .inl ⟨y,h,rfl⟩
       ·exact .inr ⟨y,h,rfl⟩
      ·rintro (⟨y,h,rfl⟩ | ⟨y,h,rfl⟩)
       ·exact ⟨.inl ⟨y,aZ _ h,rfl⟩,fun e=>by have:=zn.1 y h;rw[e,jU] at this;cases this⟩
       ·exact ⟨.inr ⟨y,h,rfl⟩,fun e=>by have:=yk y h;rw[e,jU] at this;cases this⟩
     have aj:∀ k ∈ sx,bi (rk a) k=true:=fun k hm=>by
      rcases (o7 k).1 hm with ⟨y,h,rfl⟩ | ⟨y,h,rfl⟩
      ·exact zn.1 y h
      ·exact yk y h
     simp only[tz,h1,aI,dC,vV,N3 hA h1,PO];rw[ih al (b::bs) sx zn.2 hA g1 o7 (by simp at hl ⊢;omega)];congr 1;refine pF fun k h=>?_;rw[yQ (aj k h)]
    ·have Yl:bi (rk a) (rk b)=false:=by simpa using h1
     by_cases h2:bi (rk b) (rk a)=true
     ·have yk:∀ y ∈ a::al,bi (rk b) (rk y)=true:=fun y h=>by
       rcases aY.1 h with rfl | h
       ·exact h2
       ·exact oV h2 (zn.1 y h)
      obtain ⟨sx,rfl,g1,g2⟩:=zH (m:=rk b) EK ((hk _).2 (.inr ⟨b,bG,rfl⟩)) (fun k o7=>by
       rcases (hk k).1 o7 with ⟨y,h,rfl⟩ | ⟨y,h,rfl⟩
       ·exact .inr (yk y h)
       ·rcases aY.1 h with rfl | h
        ·exact .inl rfl
        ·exact .inr (uT.1 y h))
      have o7:∀ k,k ∈ sx↔yR (a::al) bs k:=fun k=>by
       rw[g2,hk];constructor
       ·rintro ⟨⟨y,h,rfl⟩ | ⟨y,h,rfl⟩,fw⟩
        ·exact .inl ⟨y,h,rfl⟩
        ·rcases aY.1 h with rfl | h
         ·exact absurd rfl fw
         ·exact .inr ⟨y,h,rfl⟩
       ·rintro (⟨y,h,rfl⟩ | ⟨y,h,rfl⟩)
        ·exact ⟨.inl ⟨y,h,rfl⟩,fun e=>by have:=yk y h;rw[e,jU] at this;cases this⟩
        ·exact ⟨.inr ⟨y,aZ _ h,rfl⟩,fun e=>by have:=uT.1 y h;rw[e,jU] at this;cases this⟩
      have aj:∀ k ∈ sx,bi (rk b) k=true:=fun k hm=>by
       rcases (o7 k).1 hm with ⟨y,h,rfl⟩ | ⟨y,h,rfl⟩
       ·exact yk y h
       ·exact uT.1 y h
      simp only[tz,Yl,h2,aI,aG,aL,dC,vV,N3 hB h2,PP];rw[ih (a::al) bs sx hB uT.2 g1 o7 (by simp at hl ⊢;omega)];congr 1;refine pF fun k h=>?_;rw[yQ (x:=b) (aj k h)]
     ·have IH:bi (rk b) (rk a)=false:=by simpa using h2
      have IW:rk a=rk b:=r_ Yl IH;have yk:∀ y ∈ bs,bi (rk a) (rk y)=true:=fun y h=>by rw[IW];exact uT.1 y h
      obtain ⟨sx,rfl,g1,g2⟩:=zH (m:=rk a) EK ((hk _).2 (.inl ⟨a,bG,rfl⟩)) (fun k o7=>by
       rcases (hk k).1 o7 with ⟨y,h,rfl⟩ | ⟨y,h,rfl⟩
       ·rcases aY.1 h with rfl | h
        ·exact .inl rfl
        ·exact .inr (zn.1 y h)
       ·rcases aY.1 h with rfl | h
        ·exact .inl IW.symm
        ·exact .inr (yk y h))
      have o7:∀ k,k ∈ sx↔yR al bs k:=fun k=>by
       rw[g2,hk];constructor
       ·rintro ⟨⟨y,h,rfl⟩ | ⟨y,h,rfl⟩,fw⟩
        ·rcases aY.1 h with rfl | h
         ·exact absurd rfl fw
         ·exact .inl ⟨y,h,rfl⟩
        ·rcases aY.1 h with rfl | h
         ·exact absurd IW.symm fw
         ·exact .inr ⟨y,h,rfl⟩
       ·rintro (⟨y,h,rfl⟩ | ⟨y,h,rfl⟩)
        ·exact ⟨.inl ⟨y,aZ _ h,rfl⟩,fun e=>by have:=zn.1 y h;rw[e,jU] at this;cases this⟩
        ·exact ⟨.inr ⟨y,aZ _ h,rfl⟩,fun e=>by have:=yk y h;rw[e,jU] at this;cases this⟩
      have aj:∀ k ∈ sx,bi (rk a) k=true:=fun k hm=>by
       rcases (o7 k).1 hm with ⟨y,h,rfl⟩ | ⟨y,h,rfl⟩
       ·exact zn.1 y h
       ·exact yk y h
      have hih:=ih al bs sx zn.2 uT.2 g1 o7 (by simp at hl ⊢;omega)
      have z7:(sx.filterMap fun k=>ye (look (a::al) k) (look (b::bs) k))=sx.filterMap fun k=>ye (look al k) (look bs k):=pF fun k h=>by
       rw[yQ (aj k h),yQ (by rw[<-IW];exact aj k h)]
      have VH:look (b::bs) (rk a)=some b:=by rw[IW];exact vV
      simp only[tz,Yl,IH,aG,aL,dC,vV,VH,ZK];rw[z7,<- hih];by_cases h3:Ty.eq au a b=true
      ·simp[h3]
      ·simp[h3]
theorem xf:∀ (n m:Nat) (B A:List Row),B.length+A.length<=n->B.length+A.length<=m->tz n B A=tz m B A:=by
 intro n
 induction n with
 | zero=>
  intro m B A h _;obtain rfl:B=[]:=bH (by omega);obtain rfl:A=[]:=bH (by omega);cases m <;> rfl
 | succ n ih=>
  intro m B A h1 h2
  cases m with
  | zero=>
   obtain rfl:B=[]:=bH (by omega);obtain rfl:A=[]:=bH (by omega);rfl
  | succ m=>
   cases B with
   | nil=>
    cases A with
    | nil=>rfl
    | cons b bs=>simp only[tz];rw[ih m [] bs (by simp at h1 ⊢;omega) (by simp at h2 ⊢;omega)]
   | cons a al=>
    cases A with
    | nil=>simp only[tz];rw[ih m al [] (by simp at h1 ⊢;omega) (by simp at h2 ⊢;omega)]
    | cons b bs=>
     simp only[tz];rw[ih m al (b::bs) (by simp at h1 ⊢;omega) (by simp at h2 ⊢;omega),ih m (a::al) bs (by simp at h1 ⊢;omega) (by simp at h2 ⊢;omega),ih m al bs (by simp at h1 ⊢;omega) (by simp at h2 ⊢;omega)]
def pt (B A:List Row):List Change:=tz (B.length+A.length) B A
theorem T5:pt [] []=[]:=rfl
theorem Ym (b:Row) (bs:List Row):pt [] (b::bs)=(false,uu,true,b,())::pt [] bs:=by
 unfold pt;rw[xf _ (([]:List Row).length+bs.length+1) [] (b::bs) (aN _) (by simp)];rfl
theorem Yn (a:Row) (al:List Row):pt (a::al) []=(true,a,false,uu,())::pt al []:=by
 unfold pt;rw[xf _ (al.length+([]:List Row).length+1) (a::al) [] (aN _) (by simp)];rfl
theorem G5 (a b:Row) (al bs:List Row):pt (a::al) (b::bs)=if bi (rk a) (rk b) then (true,a,false,uu,())::pt al (b::bs) else
  if bi (rk b) (rk a) then (false,uu,true,b,())::pt (a::al) bs else if Ty.eq au a b then pt al bs else (true,a,true,b,())::pt al bs:=by
 unfold pt;rw[xf _ (al.length+bs.length+1+1) (a::al) (b::bs) (aN _) (by simp;omega)];simp only[tz];rw[xf (al.length+bs.length+1) (al.length+(b::bs).length) al (b::bs) (by simp;omega) (aN _),xf (al.length+bs.length+1) ((a::al).length+bs.length) (a::al) bs (by simp;omega) (aN _),xf (al.length+bs.length+1) (al.length+bs.length) al bs (by omega) (aN _)]
theorem xg:∀ (n:Nat) (B A:List Row),(tz n B A).length<=n
 | 0,_,_=>aN _
 | n+1,[],[]=>aW _
 | n+1,[],b::bs=>by simp only[tz,aP];have:=xg n [] bs;omega
 | n+1,a::al,[]=>by simp only[tz,aP];have:=xg n al [];omega
 | n+1,a::al,b::bs=>by
  simp only[tz];have h1:=xg n al (b::bs);have h2:=xg n (a::al) bs;have h3:=xg n al bs
  split
  ·simp only[aP];omega
  ·split
   ·simp only[aP];omega
   ·split
    ·omega
    ·simp only[aP];omega
theorem vD {q:Row->Prop} (h0:q uu):∀ (n:Nat) (B A:List Row),(∀ x ∈ B,q x)->(∀ x ∈ A,q x)->∀ c ∈ tz n B A,q c.2.1/\q c.2.2.2.1
 | 0,_,_,_,_=>fun _ h=>by cases h
 | n+1,[],[],_,_=>fun _ h=>by cases h
 | n+1,[],b::bs,hB,hA=>fun c h=>by
  rcases aY.1 h with rfl | h
  ·exact ⟨h0,hA b bG⟩
  ·exact vD h0 n [] bs hB (fun x hx=>hA x (aZ _ hx)) c h
 | n+1,a::al,[],hB,hA=>fun c h=>by
  rcases aY.1 h with rfl | h
  ·exact ⟨hB a bG,h0⟩
  ·exact vD h0 n al [] (fun x hx=>hB x (aZ _ hx)) hA c h
 | n+1,a::al,b::bs,hB,hA=>fun c h=>by
  have ha:=hB a bG;have hb:=hA b bG
  have Yo:∀ x ∈ al,q x:=fun x hx=>hB x (aZ _ hx);have Yp:∀ x ∈ bs,q x:=fun x hx=>hA x (aZ _ hx);simp only[tz] at h;split at h
  ·rcases aY.1 h with rfl | h
   ·exact ⟨ha,h0⟩
   ·exact vD h0 n al (b::bs) Yo hA c h
  ·split at h
   ·rcases aY.1 h with rfl | h
    ·exact ⟨h0,hb⟩
    ·exact vD h0 n (a::al) bs hB Yp c h
   ·split at h
    ·exact vD h0 n al bs Yo Yp c h
    ·rcases aY.1 h with rfl | h
     ·exact ⟨ha,hb⟩
     ·exact vD h0 n al bs Yo Yp c h
theorem Ic (B A:List Row) (hB:B.length<=1000) (hA:A.length<=1000):ec.aa (B,A,())=some (pt B A,()):=by
 refine ah (k:=2001) fun k hk=>(ec.ae k _).trans ?_
 have:=uG (B:=fun self v=>ec.b0 self (fun z=>ec.q0 (B,A,()) z) (B,A,()) v) (fun v=>(v.2.2++pt v.1 v.2.1,()))
  (fun v=>v.2.2.length+(v.1.length+v.2.1.length)<=2000) (fun v=>v.1.length+v.2.1.length) (fun v hv self=>?_) k (B,A,[]) (by simp;omega) (by simp;omega)
 ·exact this
 obtain ⟨al,bs,out⟩:=v;simp only at hv;have k_:out.length+1<=bz:=da (by omega)
 cases al with
 | nil=>
  cases bs with
  | nil=>left;show ec.b0 _ _ _ _=_;simp[ec.b0,ec.q0,ec.q0,T5]
  | cons b bs=>
   right;refine ⟨([],bs,out++[(false,uu,true,b,())]),?_,?_,?_,by simp⟩
   ·show ec.b0 _ _ _ _=_;have h1:(0:Int) < (bs.length:Int)+1:=by omega
    have h2:(1:Int)<=(bs.length:Int)+1:=by omega
    simp[ec.b0,k_,h1,h2]
   ·simp[Ym]
   ·simp at hv ⊢;omega
 | cons a al=>
  have h1:(0:Int) < (al.length:Int)+1:=by omega
  have h2:(1:Int)<=(al.length:Int)+1:=by omega
  have h3:¬ ((al.length:Int)+1=0):=by omega
  cases bs with
  | nil=>
   right;refine ⟨(al,[],out++[(true,a,false,uu,())]),?_,?_,?_,by simp⟩
   ·show ec.b0 _ _ _ _=_;simp[ec.b0,k_,h1,h2,h3]
   ·simp[Yn]
   ·simp at hv ⊢;omega
  | cons b bs=>
   have h4:(0:Int) < (bs.length:Int)+1:=by omega
   have h5:(1:Int)<=(bs.length:Int)+1:=by omega
   have h6:¬ ((bs.length:Int)+1=0):=by omega
   right;have CC:bi (a.1,a.2.1) (b.1,b.2.1)=bi (rk a) (rk b):=rfl;have mB:bi (b.1,b.2.1) (a.1,a.2.1)=bi (rk b) (rk a):=rfl
   cases zV:bi (rk a) (rk b) with
   | true=>
    refine ⟨(al,b::bs,out++[(true,a,false,uu,())]),?_,?_,?_,by simp⟩
    ·show ec.b0 _ _ _ _=_;simp[ec.b0,sY,CC,mB,zV,k_,h1,h2,h3,h4,h5,h6]
    ·simp[G5,zV]
    ·simp at hv ⊢;omega
   | false=>
    cases vQ:bi (rk b) (rk a) with
    | true=>
     refine ⟨(a::al,bs,out++[(false,uu,true,b,())]),?_,?_,?_,by simp⟩
     ·show ec.b0 _ _ _ _=_;simp[ec.b0,sY,CC,mB,zV,vQ,k_,h1,h2,h3,h4,h5,h6]
     ·simp[G5,zV,vQ]
     ·simp at hv ⊢;omega
    | false=>
     cases VI:Ty.eq au a b with
     | true=>
      refine ⟨(al,bs,out),?_,?_,?_,by simp;omega⟩
      ·show ec.b0 _ _ _ _=_;simp[ec.b0,sY,CC,mB,zV,vQ,VI,k_,h1,h2,h3,h4,h5,h6]
      ·simp[G5,zV,vQ,VI]
      ·simp at hv ⊢;omega
     | false=>
      refine ⟨(al,bs,out++[(true,a,true,b,())]),?_,?_,?_,by simp;omega⟩
      ·show ec.b0 _ _ _ _=_;simp[ec.b0,sY,CC,mB,zV,vQ,VI,k_,h1,h2,h3,h4,h5,h6]
      ·simp[G5,zV,vQ,VI]
      ·simp at hv ⊢;omega
def DC (B A:List Row):List Row:=A.foldl (fun ks x=>if ls B (rk x) then ks else my ks x) B
theorem zI (ks:List Row) (r y:Row):y ∈ my ks r↔y=r\/y ∈ ks:=by
 unfold my;simp only[cJ,bU];have h:y ∈ ks↔y ∈ ks.take (pos ks (rk r))\/y ∈ ks.drop (pos ks (rk r)):=by rw[<-cJ,cQ]
 rw[h];constructor
 ·rintro ((h | h) | h)
  ·exact .inr (.inl h)
  ·exact .inl h
  ·exact .inr (.inr h)
 ·rintro (h | h | h)
  ·exact .inl (.inr h)
  ·exact .inl (.inl h)
  ·exact .inr h
theorem Ws {ks:List Row} {r:Row} (hu:up ks) (hn:∀ y ∈ ks,rk y≠rk r):up (my ks r):=by
 have hp:=ur ks (rk r);have h1:∀ y ∈ ks.take (pos ks (rk r)),bi (rk y) (rk r)=true:=fun y hy=>zG hy
 have h2:∀ y ∈ ks.drop (pos ks (rk r)),bi (rk r) (rk y)=true:=fun y hy=>by
  obtain ⟨i,hi,rfl⟩:=dD.1 hy;rw[bI] at hi;have h3:=wD ks (rk r) (pos ks (rk r)+i) (by omega) hu (by omega);rw[jJ]
  cases hb:bi (rk r) (rk ks[pos ks (rk r)+i]) with
  | true=>rfl
  | false=>exact absurd (r_ h3 hb) (hn _ (aQ _))
 unfold my up;have QW:(ks.take (pos ks (rk r))++ks.drop (pos ks (rk r))).Pairwise (fun a b=>bi (rk a) (rk b)=true):=by rw[cQ];exact hu
 obtain ⟨p1,p2,p3⟩:=eZ.1 QW;refine eZ.2 ⟨eZ.2 ⟨p1,gA _ _,fun a ha b hb=>?_⟩,p2,fun a ha b hb=>?_⟩
 ·rw[bU] at hb;subst hb;exact h1 a ha
 ·rcases cJ.1 ha with ha | ha
  ·exact p3 a ha b hb
  ·rw[bU] at ha;subst ha;exact h2 b hb
theorem Id {xs:List Row} {k:Int×Int} (hu:up xs):ls xs k=true↔∃ y ∈ xs,rk y=k:=by
 constructor
 ·exact Ep
 ·rintro ⟨y,hy,hk⟩
  cases hf:ls xs k with
  | true=>rfl
  | false=>
   exfalso;obtain ⟨i,hi,rfl⟩:=dD.1 hy;have hle:=ur xs k;rcases bZ i (pos xs k) with h | h
   ·have:=DA xs k i hi h;rw[hk,jU] at this;cases this
   ·have h1:pos xs k < xs.length:=by omega
    have h2:=wD xs k (pos xs k) h1 hu (aN _);rcases bZ (pos xs k) i with h3 | h3
    ·have:=eA.1 hu _ _ h1 hi h3;rw[hk] at this;rw[this] at h2;cases h2
    ·have e:i=pos xs k:=by omega
     subst e;unfold ls at hf;rw[aA h1] at hf;simp[hk] at hf
theorem yB (B:List Row) (hB:up B):∀ (A:List Row) (ks:List Row),up ks->A.Pairwise (fun a b=>bi (rk a) (rk b)=true)->(∀ x ∈ B,x ∈ ks)->(∀ y ∈ A,∀ x ∈ ks,rk x=rk y->∃ z ∈ B,rk z=rk y) ->
  up (A.foldl (fun ks x=>if ls B (rk x) then ks else my ks x) ks)/\(A.foldl (fun ks x=>if ls B (rk x) then ks else my ks x) ks).length<=ks.length+A.length /\
  ∀ k,(∃ x ∈ A.foldl (fun ks x=>if ls B (rk x) then ks else my ks x) ks,rk x=k)↔((∃ x ∈ ks,rk x=k)\/∃ y ∈ A,rk y=k)
 | [],ks,hu,_,_,_=>⟨hu,by simp,fun k=>by simp⟩
 | y::A,ks,hu,hA,xP,fw=>by
  have uT:=eB.1 hA;rw[eE];by_cases hf:ls B (rk y)=true
  ·rw[aU hf];obtain ⟨h1,h2,h3⟩:=yB B hB A ks hu uT.2 xP (fun z hz=>fw z (aZ _ hz));refine ⟨h1,by rw[aP];omega,fun k=>?_⟩
   rw[h3];constructor
   ·rintro (h | ⟨z,h,e⟩)
    ·exact .inl h
    ·exact .inr ⟨z,aZ _ h,e⟩
   ·rintro (h | ⟨z,h,e⟩)
    ·exact .inl h
    ·rcases aY.1 h with rfl | h
     ·obtain ⟨x,hx,hxk⟩:=Ep hf;exact .inl ⟨x,xP x hx,by rw[hxk,e]⟩
     ·exact .inr ⟨z,h,e⟩
  ·rw[bA hf];have tM:∀ x ∈ ks,rk x≠rk y:=fun x hx e=>hf ((Id hB).2 (fw y bG x hx e))
   obtain ⟨h1,h2,h3⟩:=yB B hB A (my ks y) (Ws hu tM) uT.2 (fun x hx=>(zI ks y x).2 (.inr (xP x hx))) (fun z hz x hx e=>by
    rcases (zI ks y x).1 hx with rfl | hx
    ·have:=uT.1 z hz;rw[e,jU] at this;cases this
    ·exact fw z (aZ _ hz) x hx e)
   refine ⟨h1,?_,fun k=>?_⟩
   ·have:(my ks y).length=ks.length+1:=by unfold my;simp;have:=ur ks (rk y);omega
    rw[aP];omega
   ·rw[h3];constructor
    ·rintro (⟨x,h,e⟩ | ⟨z,h,e⟩)
     ·rcases (zI ks y x).1 h with rfl | h
      ·exact .inr ⟨x,bG,e⟩
      ·exact .inl ⟨x,h,e⟩
     ·exact .inr ⟨z,aZ _ h,e⟩
    ·rintro (⟨x,h,e⟩ | ⟨z,h,e⟩)
     ·exact .inl ⟨x,(zI ks y x).2 (.inr h),e⟩
     ·rcases aY.1 h with rfl | h
      ·exact .inl ⟨z,(zI ks z z).2 (.inl rfl),e⟩
      ·exact .inr ⟨z,h,e⟩
theorem T6 {B A:List Row} (hB:up B) (hA:up A):up (DC B A)/\(DC B A).length<=B.length+A.length/\(DC B A).filterMap (fun x=>ye (look B (rk x)) (look A (rk x)))=pt B A:=by
 obtain ⟨h1,h2,h3⟩:=yB B hB A B hB hA (fun _ h=>h) (fun y _ x hx e=>⟨x,hx,e⟩);refine ⟨h1,h2,?_⟩
 have hp:VG ((DC B A).map rk):=gQ.2 h1;unfold pt;rw[Yk _ B A ((DC B A).map rk) hB hA hp (fun k=>?_) (aN _),List.filterMap_map]
 ·rfl
 ·rw[fT];exact h3 k
theorem MP {α β:Type} (g:β->α->β) (xs:List α) (i:Nat) (hi:i < xs.length) (s:β):(xs.take (i+1)).foldl g s=g ((xs.take i).foldl g s) xs[i]:=by
 rw[eM hi,iH];rfl
def Ie {β:Type} (s:List β):Option β->List β
 | some y=>s++[y]
 | none=>s
theorem Lr {α β:Type} (f:α->Option β):∀ (xs:List α) (s:List β),xs.foldl (fun s x=>Ie s (f x)) s=s++xs.filterMap f
 | [],s=>by simp
 | x::xs,s=>by
  rw[eE,Lr f xs,dC];cases f x <;> simp[Ie]
theorem DD {xs:List Row} {k:Int×Int} (h:ls xs k=true):∃ hp:pos xs k < xs.length,look xs k=some xs[pos xs k]:=by
 obtain ⟨hp,_⟩:=xK h;exact ⟨hp,by rw[look,h,aU rfl,aA hp]⟩
theorem If (B A:List Row) (hB:up B) (hA:up A) (hBl:B.length<=1000) (hAl:A.length<=1000):ed.aa (B,A,())=some (pt B A,()):=by
 obtain ⟨hu,hlen,aa2⟩:=T6 hB hA;refine ah (k:=2001) fun k hk=>(ed.ae k _).trans ?_;unfold ed.p;rw[aU (da (by simp only[bB];omega)),bP]
 have h1:=b9 (B:=fun self v=>ed.b0 self (fun z=>ed.Q0 k (B,A,()) z) (B,A,()) v) A (fun (s:List Row) (i:Int)=>(s,i)) (fun _ s x=>.inr (if ls B (rk x) then s else my s x)) (fun s=>(s.filterMap (fun x=>ye (look B (rk x)) (look A (rk x))),()))
  (fun i s=>s=(A.take i).foldl (fun ks x=>if ls B (rk x) then ks else my ks x) B/\s.length<=B.length+i) (by rw[ai];omega)
  (fun i hi s self hI=>by
   show ed.b0 _ _ _ _=_;unfold ed.b0;have aj:(i:Int) < (A.length:Int):=by omega
   simp only[aj,aC,aJ,aK,aI,aH,aA hi,aB,DB B _ _ hB (by omega)];have hr:((A[i]).1,(A[i]).2.1)=rk A[i]:=rfl;rw[hr];unfold ut
   cases hf:ls B (rk A[i]) with
   | true=>
    have:¬ ((pos B (rk A[i]):Nat):Int) < 0:=by omega
    simp only[aI,this,aD,aE]
   | false=>
    simp only[aG,aL,show ((-1:Int) < 0) from by decide,aC,aJ,B7 s _ (by omega),aB])
  (fun i hi s s' hI hf=>by
   injection hf with hf;subst hf;obtain ⟨e,hl⟩:=hI;refine ⟨?_,?_⟩
   ·rw[MP _ A i hi,<- e]
   ·split
    ·omega
    ·unfold my;simp;have:=ur s (rk A[i]);omega) (fun s self hI=>by
   show ed.b0 _ _ _ _=_;unfold ed.b0;simp only[bC,aD,aE];obtain ⟨e,hl⟩:=hI;rw[dV] at e;have hs:s=DC B A:=e;show ed.r1 k (B,A,()) s ([],0)=_
   have h2:=b9 (B:=fun self v=>ed.b1 self (fun z=>ed.q1 (B,A,()) s z) (B,A,()) s v) s (fun (s:List Change) (i:Int)=>(s,i)) (fun _ s x=>.inr (Ie s (ye (look B (rk x)) (look A (rk x))))) (fun s=>(s,()))
    (fun i s=>s.length<=i) (by rw[ai];omega)
    (fun i hi t self hI=>by
     show ed.b1 _ _ _ _ _=_;unfold ed.b1;have aj:(i:Int) < (s.length:Int):=by omega
     have k_:∀ y:Change,t.length+[y].length<=bz:=fun y=>da (by simp only[aP,bB];omega);have uX:∀ xs:List Row,up xs->xs.length<=1000->jW.aa (xs,(s[i]).1,(s[i]).2.1,())=some (ut xs (rk s[i]),()):=fun xs h1 h2=>DB xs _ _ h1 (by omega);simp only[aj,aC,aJ,aK,dY,aI,aH,aA hi,aB,uX B hB hBl,uX A hA hAl];unfold ut
     cases Ls:ls B (rk s[i]) with
     | true=>
      obtain ⟨hp1,e1⟩:=DD Ls
      cases KL:ls A (rk s[i]) with
      | true=>
       obtain ⟨Lt,e2⟩:=DD KL;simp only[aI,aK,aC,aJ,aH,aA hp1,aA Lt,aB,e1,e2,ye,k_,Ie];cases Ty.eq au B[pos B (rk s[i])] A[pos A (rk s[i])] <;> rfl
      | false=>
       have e2:look A (rk s[i])=none:=by rw[look,KL];rfl
       simp only[aI,aG,aL,aK,aC,aJ,show ¬ ((0:Int)<=-1) from by decide,aD,aE,aH,aA hp1,aB,e1,e2,ye,k_,Ie]
     | false=>
      have e1:look B (rk s[i])=none:=by rw[look,Ls];rfl
      have KL:ls A (rk s[i])=true:=by
       have hm:=(yB B hB A B hB hA (fun _ h=>h) (fun y _ x hx e=>⟨x,hx,e⟩)).2.2 (rk s[i]);rcases hm.1 ⟨s[i],by show s[i] ∈ DC B A;rw[<-hs];exact aQ _,rfl⟩ with h | h
       ·rw[(Id hB).2 h] at Ls;cases Ls
       ·exact (Id hA).2 h
      obtain ⟨Lt,e2⟩:=DD KL
      simp only[KL,aI,aG,aL,aK,aC,aJ,show ¬ ((0:Int)<=-1) from by decide,aD,aE,aH,aA Lt,aB,e1,e2,ye,k_,Ie])
    (fun i hi t t' hI hf=>by
     injection hf with hf;subst hf
     cases ye (look B (rk s[i])) (look A (rk s[i])) with
     | none=>show t.length<=_;omega
     | some y=>show (t++[y]).length<=_;rw[aS,aP,bB];omega) (fun t self _=>by
     show ed.b1 _ _ _ _ _=_;unfold ed.b1;simp only[bC,aD,aE]
     rfl) [] (by simp) k (by rw[hs];omega)
   rw[h_,Lr,bP] at h2
   exact h2) B ⟨rfl,by omega⟩ k (by omega)
 rw[h_] at h1;have h1:ed.r0 k (B,A,()) (B,0)=some ((DC B A).filterMap (fun x=>ye (look B (rk x)) (look A (rk x))),()):=h1;rw[h1,aa2]
end OT
namespace OT
open Go
def sa (xs:List Row) (i:Nat) (x:Row):Sum (Int×Unit) Unit:=
 if nz x=0 then (if 0 < i then (match xs[i - 1]? with | some y=>if bi (rk y) (rk x) then .inr () else .inl (1,()) | none=>.inl (1,())) else .inr ()) else .inl (nz x,())
def pQ (xs:List Row):Int:=if 60 < xs.length then 2 else (bn (fun i (_:Unit) x=>sa xs i x) (fun _=>((0:Int),())) 0 xs ()).1
theorem AF (xs:List Row) (hl:xs.length<=maxLen) (h:∀ c ∈ xs,rl c):fy.aa (xs,())=some (pQ xs,()):=by
 refine ah (k:=xs.length+1) fun k hk=>(fy.ae k _).trans ?_
 have:=b9 (B:=fun self v=>fy.b0 self (fun z=>fy.q0 (xs,()) z) (xs,()) v) xs (fun (_:Unit) (i:Int)=>i) (fun i _ x=>sa xs i x) (fun _=>(0,())) (fun _ _=>True) hl
  (fun i hi _ self _=>by
   show fy.b0 _ _ _ _=_;unfold fy.b0 sa;have aj:(i:Int) < (xs.length:Int):=by omega
   simp only[aj,aC,aJ,aK,aI,aH,aA hi,aB,yz _ (h _ (aQ hi))];by_cases h1:nz xs[i]=0
   ·simp only[h1,aC,aO,aE,aI];by_cases h0:0 < i
    ·have sD:(0:Int) < (i:Int):=by omega
     have k8:i - 1 < xs.length:=by omega
     simp only[h0,sD,aC,aJ,aI,B5 h0 (by omega),aK,aH,aA k8,aB,CL];cases bi (rk xs[i - 1]) (rk xs[i]) <;> rfl
    ·have sD:¬ (0:Int) < (i:Int):=by omega
     simp[h0,sD]
   ·simp[h1]) (fun _ _ _ _ _ _=>trivial) (fun _ self _=>by
   show fy.b0 _ _ _ _=_;unfold fy.b0
   simp[fy.q0,fy.q0]) () trivial k (by omega)
 have this:fy.r0 k (xs,()) 0=_:=this;unfold fy.p pQ;rw[this,show (60:Int)=((60:Nat):Int) from rfl];simp only[Eo];by_cases h1:60 < xs.length <;> simp[h1] <;> rfl
theorem AG (xs:List Row) (hl:xs.length<=maxLen) (h:∀ c ∈ xs,rl c):d6.aa (xs,())=some (pQ xs,()):=by
 refine ah (k:=xs.length+1) fun k hk=>(d6.ae k _).trans ?_
 have:=b9 (B:=fun self v=>d6.b0 self (fun z=>d6.q0 (xs,()) z) (xs,()) v) xs (fun (_:Unit) (i:Int)=>i) (fun i _ x=>sa xs i x) (fun _=>(0,())) (fun _ _=>True) hl
  (fun i hi _ self _=>by
   show d6.b0 _ _ _ _=_;unfold d6.b0 sa rk;have aj:(i:Int) < (xs.length:Int):=by omega
   simp only[aj,aC,aJ,aK,aI,aH,aA hi,aB,yA _ (h _ (aQ hi))];by_cases h1:nz xs[i]=0
   ·simp only[h1,aC,aO,aE,aI];by_cases h0:0 < i
    ·have sD:(0:Int) < (i:Int):=by omega
     have k8:i - 1 < xs.length:=by omega
     simp only[h0,sD,aC,aJ,aI,B5 h0 (by omega),aK,aH,aA k8,aB,xp];cases bi (xs[i - 1].1,xs[i - 1].2.1) (xs[i].1,xs[i].2.1) <;> rfl
    ·have sD:¬ (0:Int) < (i:Int):=by omega
     simp[h0,sD]
   ·simp[h1]) (fun _ _ _ _ _ _=>trivial) (fun _ self _=>by
   show d6.b0 _ _ _ _=_;unfold d6.b0
   simp[d6.q0,d6.q0]) () trivial k (by omega)
 have this:d6.r0 k (xs,()) 0=_:=this;unfold d6.p pQ;rw[this,show (60:Int)=((60:Nat):Int) from rfl];simp only[Eo];by_cases h1:60 < xs.length <;> simp[h1] <;> rfl
theorem DE {α:Type} {f:Nat->Unit->α->Sum (Int×Unit) Unit} (hf:∀ i s x o,f i s x=.inl o->o.1≠0):∀ (xs:List α) (j:Nat),(bn f (fun _=>((0:Int),())) j xs ()).1=0->∀ i (hi:i < xs.length),f (j+i) () xs[i]=.inr ()
 | x::xs,j,h,i,hi=>by
  simp only[bn] at h
  cases hx:f j () x with
  | inl o=>rw[hx] at h;exact absurd h (hf _ _ _ _ hx)
  | inr u=>
   rw[hx] at h
   cases i with
   | zero=>exact hx
   | succ i=>
    have:=DE hf xs (j+1) h i (by simpa using hi);rw[show j+(i+1)=j+1+i by omega];exact this
theorem Lu:∀ (xs:List Row),(∀ i (hi:i < xs.length),0 < i->bi (rk (xs[i - 1]'(by omega))) (rk xs[i])=true)->up xs
 | [],_=>List.Pairwise.nil
 | [x],_=>gA _ _
 | x::y::xs,h=>by
  have hu:up (y::xs):=Lu (y::xs) fun i hi h0=>by
   have:=h (i+1) (by simp at hi ⊢;omega) (by omega);simp only[hU] at this
   have e:(x::y::xs)[i]'(by simp at hi ⊢;omega)=(y::xs)[i - 1]'(by simp at hi ⊢;omega):=by
    cases i with
    | zero=>omega
    | succ i=>rfl
   rw[e] at this;exact this
  have yd:bi (rk x) (rk y)=true:=h 1 (by simp) (by omega);refine tJ.2 ⟨fun z hz=>?_,hu⟩;rcases aY.1 hz with rfl | hz
  ·exact yd
  ·exact oV yd ((tJ.1 hu).1 z hz)
theorem DF {x:Row} (h:nz x=0):List.length x.2.2.2.1<=8:=by
 unfold nz at h;split at h
 ·split at h
  ·rename_i ht;unfold En at ht;simp only[aF,bO] at ht;exact ht.2
  ·cases h
 ·cases h
structure Good (xs:List Row):Prop where
 up:up xs
 ok:∀ x ∈ xs,nz x=0
theorem rP {xs:List Row} (h:pQ xs=0):Good xs/\xs.length<=60:=by
 unfold pQ at h;split at h
 ·cases h
 ·rename_i hl
  have hn:=DE (f:=fun i (_:Unit) x=>sa xs i x) (fun i s x o ho=>by
   unfold sa at ho;split at ho
   ·split at ho
    ·split at ho
     ·split at ho
      ·cases ho
      ·injection ho with ho;rw[<-ho];decide
     ·injection ho with ho;rw[<-ho];decide
    ·cases ho
   ·rename_i hx
    injection ho with ho;rw[<-ho];exact hx) xs 0 h
  have h1:∀ i (hi:i < xs.length),nz xs[i]=0:=fun i hi=>by
   have:=hn i hi;unfold sa at this;split at this
   ·assumption
   ·cases this
  refine ⟨⟨Lu xs fun i hi h0=>?_,fun x hx=>?_⟩,by omega⟩
  ·have:=hn i hi;unfold sa at this;rw[aU (h1 i hi),bE,aU h0,aA (show i - 1 < xs.length by omega)] at this;simp only at this;split at this
   ·assumption
   ·cases this
  ·obtain ⟨i,hi,rfl⟩:=dD.1 hx;exact h1 i hi
theorem Ig {c:Change} (h:tw c=0):(c.2.2.1=true->rk c.2.2.2.1=ck c)/\(c.2.2.1=true->nz c.2.2.2.1=0):=by
 refine ⟨fun hi=>by unfold rk ck;rw[hi];rfl,fun hi=>?_⟩
 unfold tw at h;split at h
 ·cases h
 ·split at h
  ·rename_i h2;simp only[aF,cM,eY] at h2;exact absurd h h2.2
  ·first | exact h | (rw[aU hi] at h;exact h)
theorem Ah {xs:List Row} {c:Change} (h:Good xs) (hc:tw c=0):Good (sZ xs c):=by
 obtain ⟨hk,hr⟩:=Ig hc;have hb:=h.up;constructor
 ·unfold sZ up;have h1:(xs.take (pos xs (ck c))).Pairwise (fun a b=>bi (rk a) (rk b)=true):=hb.sublist (List.take_sublist _ _);have zR:∀ n,(xs.drop n).Pairwise (fun a b=>bi (rk a) (rk b)=true):=fun n=>hb.sublist (List.drop_sublist _ _)
  have Sc:∀ y ∈ xs.drop (pos xs (ck c)+if ls xs (ck c) then 1 else 0),bi (ck c) (rk y)=true:=fun y hy=>by
   obtain ⟨i,e⟩:=gM.1 hy;rw[bM] at e;obtain ⟨aj,e1⟩:=aM.1 e;have hn:=wD xs (ck c) _ aj hb (by omega);rw[e1] at hn;clear e1 aj
   cases yg:bi (ck c) (rk y) with
   | true=>rfl
   | false=>
    have he:=r_ yg hn;exfalso
    cases hf:ls xs (ck c) with
    | true=>
     obtain ⟨hp,C_⟩:=xK hf;rw[hf] at e;simp only[aI] at e;obtain ⟨aj,e⟩:=aM.1 e;have:=eA.1 hb (pos xs (ck c)) (pos xs (ck c)+1+i) hp aj (by omega);rw[e,C_,he] at this;rw[jU] at this;cases this
    | false=>
     rw[hf] at e;simp only[aG,aL,cY] at e;obtain ⟨aj,e⟩:=aM.1 e;have hp:pos xs (ck c) < xs.length:=by omega
     have zm:=wD xs (ck c) _ hp hb (aN _)
     have fw:rk xs[pos xs (ck c)]≠ck c:=fun e2=>by
      unfold ls at hf;rw[aA hp] at hf;simp[e2] at hf
     have T7:bi (ck c) (rk xs[pos xs (ck c)])=true:=by
      cases Kd:bi (ck c) (rk xs[pos xs (ck c)]) with
      | true=>rfl
      | false=>exact absurd (r_ Kd zm).symm fw
     cases i with
     | zero=>
      simp only[cY] at e;rw[e,<- he,jU] at T7;cases T7
     | succ i=>
      have:=eA.1 hb (pos xs (ck c)) (pos xs (ck c)+(i+1)) hp aj (by omega);rw[e] at this;have:=oV T7 this;rw[<-he,jU] at this;cases this
  have Sd:∀ a ∈ xs.take (pos xs (ck c)),∀ y ∈ xs.drop (pos xs (ck c)+if ls xs (ck c) then 1 else 0),bi (rk a) (rk y)=true:=fun a ha y hy=>oV (zG ha) (Sc y hy)
  cases hi:c.2.2.1 with
  | true=>
   have hkc:=hk hi;simp only[aI];refine eZ.2 ⟨eZ.2 ⟨h1,gA _ _,fun a ha b hb=>?_⟩,zR _,fun a ha y hy=>?_⟩
   ·rw[bU] at hb;subst hb;rw[hkc];exact zG ha
   ·rcases cJ.1 ha with ha | ha
    ·exact Sd a ha y hy
    ·rw[bU] at ha;subst ha;rw[hkc];exact Sc y hy
  | false=>
   simp only[aG,aL,cH];exact eZ.2 ⟨h1,zR _,Sd⟩
 ·intro x hx;unfold sZ at hx;rcases cJ.1 hx with hx | hx
  ·rcases cJ.1 hx with hx | hx
   ·exact h.ok x (dZ hx)
   ·split at hx
    ·rename_i hi;rw[bU] at hx;rw[hx];exact hr hi
    ·cases hx
  ·exact h.ok x (dG hx)
theorem B8 (xs:List Row) (c:Change):(sZ xs c).length<=xs.length+1:=by
 unfold sZ;rw[aS,aS,bQ,bI];have:(if c.2.2.1=true then [c.2.2.2.1] else []).length<=1:=by split <;> simp
 omega
def pk (i:Nat) (s:List Row) (c:Change):Sum (dv×Unit) (List Row):=if tw c=0 then (if uO s c then .inr (sZ s c) else .inl ((8,[],()),())) else .inl ((tw c,[],()),())
def sb (s:List Row):dv×Unit:=if 60 < s.length then ((2,[],()),()) else ((0,s,()),())
def qg (xs:List Row) (cs:List Change):dv:=if pQ xs=0 then (bn pk sb 0 cs xs).1 else (pQ xs,[],())
theorem FE (n i:Nat) (s s':List Row) (c:Change) (h:Good s/\s.length<=60+i) (hf:pk n s c=.inr s'):Good s'/\s'.length<=60+(i+1):=by
 unfold pk at hf;split at hf
 ·rename_i hc;split at hf
  ·injection hf with hf;subst hf;exact ⟨Ah h.1 hc,by have:=B8 s c;omega⟩
  ·cases hf
 ·cases hf
theorem AH (xs:List Row) (h:xs.length<=1048576):gt.aa (xs,())=some (xs,()):=by
 refine ah (k:=0) fun k _=>(gt.ae k _).trans ?_;show gt.p _=_;unfold gt.p;have c1:([]:List Row).length+xs.length<=bz:=da (by simp only[bB];omega);exact HY (fun e=>by have e:xs=[]:=e;subst e;rfl) (by rw[aU c1];rfl)
theorem DG (xs:List Row) (cs:List Change) (hl:xs.length<=maxLen) (h:∀ x ∈ xs,rl x) (vh:cs.length<=1048576) (hc:∀ c ∈ cs,cl c):dO.aa (xs,cs,())=some (qg xs cs,()):=by
 refine ah (k:=cs.length+1) fun k hk=>(dO.ae k _).trans ?_;unfold dO.p qg;simp only[AG xs hl h,aB];by_cases h0:pQ xs=0
 ·obtain ⟨hg,hn⟩:=rP h0;simp only[h0,aC,aO,aE,aI,AH xs (by omega),aB]
  exact b9 (B:=fun self v=>dO.b0 self (fun z=>dO.q0 (xs,cs,()) z) (xs,cs,()) v) cs (fun (s:List Row) (i:Int)=>(s,i)) pk sb (fun i s=>Good s/\s.length<=60+i) (by rw[ai];omega)
   (fun i hi s self hI=>by
    show dO.b0 _ _ _ _=_;unfold dO.b0 pk;have aj:(i:Int) < (cs.length:Int):=by omega
    simp only[aj,aC,aJ,aK,aI,aH,aA hi,aB,CK _ (hc _ (aQ hi)),R8 _ s hI.1.up (by omega),PN s _ hI.1.up (by omega)];by_cases h1:tw cs[i]=0
    ·simp only[h1,aC,aO,aE,aI];cases uO s cs[i] <;> rfl
    ·simp[h1]) (fun i hi s s' hI hf=>FE _ i s s' _ hI hf) (fun s self hI=>by
    show dO.b0 _ _ _ _=_;unfold dO.b0 sb;have aj:¬ (cs.length:Int) < (cs.length:Int):=by omega
    simp only[aj,aD,aE,dO.q0,dO.q0];rw[show (60:Int)=((60:Nat):Int) from rfl,Eo]
    by_cases h1:60 < s.length <;> simp[h1]) xs ⟨hg,by omega⟩ k (by omega)
 ·simp[h0];(try rfl)
theorem N4:∀ {xs:List Row},(∀ x ∈ xs,nz x=0)->zz (.U au) xs<=9*xs.length
 | [],_=>aN _
 | x::xs,h=>by
  have h1:zz (.U au) (x::xs:List Row)=zz au x+1+zz (.U au) xs:=Ei (e:=au) x xs;have h2:=DF (h x bG);have h3:zz au x=0+(0+(0+(List.length x.2.2.2.1+0))):=rfl;have h4:=N4 fun y hy=>h y (aZ _ hy);simp only[aP];omega
theorem MQ (xs:List Row) (cs:List Change):(∀ x ∈ (qg xs cs).2.1,nz x=0)/\zz (.U au) (qg xs cs).2.1<=540:=by
 have main:∀ (cs:List Change) (j i:Nat) (s:List Row),Good s/\s.length<=60+i->(∀ x ∈ (bn pk sb j cs s).1.2.1,nz x=0)/\(bn pk sb j cs s).1.2.1.length<=60:=by
  intro cs
  induction cs with
  | nil=>
   intro j i s h;simp only[bn,sb];split
   ·exact ⟨(fun x hx=>by cases hx),aW _⟩
   ·exact ⟨h.1.ok,by show s.length<=60;omega⟩
  | cons c cs ih=>
   intro j i s h;simp only[bn];split
   ·rename_i o ho;unfold pk at ho;split at ho
    ·split at ho
     ·cases ho
     ·injection ho with ho;rw[<-ho];exact ⟨(fun x hx=>by cases hx),aW _⟩
    ·injection ho with ho;rw[<-ho];exact ⟨(fun x hx=>by cases hx),aW _⟩
   ·rename_i s' hs;exact ih (j+1) (i+1) s' (FE _ i s s' c h hs)
 unfold qg;split
 ·rename_i h0;obtain ⟨hg,hn⟩:=rP h0;obtain ⟨h1,h2⟩:=main cs 0 0 xs ⟨hg,by omega⟩;exact ⟨h1,by have:=N4 h1;omega⟩
 ·exact ⟨(fun x hx=>by cases hx),aW _⟩
end OT
namespace OT
open Go
theorem Lv (c d:Change):l7.aa (c,d,())=some (bi (ck c) (ck d),()):=by
 refine ah (k:=0) fun k _=>(l7.ae k _).trans ?_;show l7.p _=_;unfold l7.p bi;simp only[BZ,aB];by_cases h1:(ck c).1 < (ck d).1 <;> by_cases h2:(ck c).1=(ck d).1 <;> simp[h1,h2]
def s8 (xs:List Change) (i:Nat) (x:Change):Sum (Int×Unit) Unit:=
 if wC x=0 then (if 0 < i then (match xs[i - 1]? with | some y=>if bi (ck y) (ck x) then .inr () else .inl (1,()) | none=>.inl (1,())) else .inr ()) else .inl (wC x,())
def tU (xs:List Change):Int:=if 60 < xs.length then 2 else (bn (fun i (_:Unit) x=>s8 xs i x) (fun _=>((0:Int),())) 0 xs ()).1
theorem AI (xs:List Change) (hl:xs.length<=maxLen) (h:∀ c ∈ xs,cl c):f0.aa (xs,())=some (tU xs,()):=by
 refine ah (k:=xs.length+1) fun k hk=>(f0.ae k _).trans ?_
 have:=b9 (B:=fun self v=>f0.b0 self (fun z=>f0.q0 (xs,()) z) (xs,()) v) xs (fun (_:Unit) (i:Int)=>i) (fun i _ x=>s8 xs i x) (fun _=>(0,())) (fun _ _=>True) hl
  (fun i hi _ self _=>by
   show f0.b0 _ _ _ _=_;unfold f0.b0 s8;have aj:(i:Int) < (xs.length:Int):=by omega
   simp only[aj,aC,aJ,aK,aI,aH,aA hi,aB,xe _ (h _ (aQ hi))];by_cases h1:wC xs[i]=0
   ·simp only[h1,aC,aO,aE,aI];by_cases h0:0 < i
    ·have sD:(0:Int) < (i:Int):=by omega
     have k8:i - 1 < xs.length:=by omega
     simp only[h0,sD,aC,aJ,aI,B5 h0 (by omega),aK,aH,aA k8,aB,Lv];cases bi (ck xs[i - 1]) (ck xs[i]) <;> rfl
    ·have sD:¬ (0:Int) < (i:Int):=by omega
     simp[h0,sD]
   ·simp[h1]) (fun _ _ _ _ _ _=>trivial) (fun _ self _=>by
   show f0.b0 _ _ _ _=_;unfold f0.b0
   simp[f0.q0,f0.q0]) () trivial k (by omega)
 have this:f0.r0 k (xs,()) 0=_:=this;unfold f0.p tU;rw[this,show (60:Int)=((60:Nat):Int) from rfl];simp only[Eo];by_cases h1:60 < xs.length <;> simp[h1] <;> rfl
theorem IX (xs:List Change) (hl:xs.length<=maxLen) (h:∀ c ∈ xs,cl c):d8.aa (xs,())=some (tU xs,()):=by
 refine ah (k:=xs.length+1) fun k hk=>(d8.ae k _).trans ?_
 have:=b9 (B:=fun self v=>d8.b0 self (fun z=>d8.q0 (xs,()) z) (xs,()) v) xs (fun (_:Unit) (i:Int)=>i) (fun i _ x=>s8 xs i x) (fun _=>(0,())) (fun _ _=>True) hl
  (fun i hi _ self _=>by
   show d8.b0 _ _ _ _=_;unfold d8.b0 s8;have aj:(i:Int) < (xs.length:Int):=by omega
   simp only[aj,aC,aJ,aK,aI,aH,aA hi,aB,Dz _ (h _ (aQ hi))];by_cases h1:wC xs[i]=0
   ·simp only[h1,aC,aO,aE,aI];by_cases h0:0 < i
    ·have sD:(0:Int) < (i:Int):=by omega
     have k8:i - 1 < xs.length:=by omega
     simp only[h0,sD,aC,aJ,aI,B5 h0 (by omega),aK,aH,aA k8,aB,uN,xp,Ag];cases bi (ck xs[i - 1]) (ck xs[i]) <;> rfl
    ·have sD:¬ (0:Int) < (i:Int):=by omega
     simp[h0,sD]
   ·simp[h1]) (fun _ _ _ _ _ _=>trivial) (fun _ self _=>by
   show d8.b0 _ _ _ _=_;unfold d8.b0
   simp[d8.q0,d8.q0]) () trivial k (by omega)
 have this:d8.r0 k (xs,()) 0=_:=this;unfold d8.p tU;rw[this,show (60:Int)=((60:Nat):Int) from rfl];simp only[Eo];by_cases h1:60 < xs.length <;> simp[h1] <;> rfl
theorem A8 (xs:List Change) (h:xs.length<=1048576):ij.aa (xs,())=some (xs,()):=by
 refine ah (k:=0) fun k _=>(ij.ae k _).trans ?_;show ij.p _=_;unfold ij.p;have c1:([]:List Change).length+xs.length<=bz:=da (by simp only[bB];omega);exact HY (fun e=>by have e:xs=[]:=e;subst e;rfl) (by rw[aU c1];rfl)
end OT
namespace OT
open Go
theorem Se {a b:Row} (h:Ty.eq au a b=true):a=b:=by
 have e:Ty.eq au a b=(decide (a.1=b.1)&&(decide (a.2.1=b.2.1)&&(decide (a.2.2.1=b.2.2.1)&&(decide (a.2.2.2.1=b.2.2.2.1)&&true)))):=rfl;rw[e] at h;simp only[aF,bO,eJ] at h;obtain ⟨a1,a2,a3,a4,⟨⟩⟩:=a;obtain ⟨b1,b2,b3,b4,⟨⟩⟩:=b;obtain ⟨h1,h2,h3,h4⟩:=h;simp only at h1 h2 h3 h4;rw[h1,h2,h3,h4]
end OT
namespace OT
open Go
def pC (cs:List Change) (k:Int×Int):Nat:=pos (cs.map nr) k
def fC (cs:List Change) (k:Int×Int):Bool:=ls (cs.map nr) k
def Lw (cs:List Change):Prop:=up (cs.map nr)
theorem T8 {x:Change} {cs:List Change}:Lw (x::cs)↔(∀ y ∈ cs,bi (ck x) (ck y)=true)/\Lw cs:=by
 unfold Lw;rw[cR,tJ];simp only[fT,forall_exists_index,and_imp,forall_apply_eq_imp_iff₂,vl]
theorem VJ (cs:List Change) (k:Int×Int):pC cs k<=cs.length:=by
 have:=ur (cs.map nr) k
 rwa [fE] at this
theorem B9 {xs:List Change} (h:tU xs=0):Lw xs/\(∀ c ∈ xs,wC c=0)/\xs.length<=60:=by
 unfold tU at h;split at h
 ·cases h
 ·rename_i hl
  have hn:=DE (f:=fun i (_:Unit) x=>s8 xs i x) (fun i s x o ho=>by
   unfold s8 at ho;split at ho
   ·split at ho
    ·split at ho
     ·split at ho
      ·cases ho
      ·injection ho with ho;rw[<-ho];decide
     ·injection ho with ho;rw[<-ho];decide
    ·cases ho
   ·rename_i hx
    injection ho with ho;rw[<-ho];exact hx) xs 0 h
  have h1:∀ i (hi:i < xs.length),wC xs[i]=0:=fun i hi=>by
   have:=hn i hi;unfold s8 at this;split at this
   ·assumption
   ·cases this
  refine ⟨Lu _ fun i hi h0=>?_,fun x hx=>?_,by omega⟩
  ·rw[fE] at hi;have:=hn i hi;unfold s8 at this;rw[aU (h1 i hi),bE,aU h0,aA (show i - 1 < xs.length by omega)] at this;simp only at this;simp only[List.getElem_map,vl];split at this
   ·assumption
   ·cases this
  ·obtain ⟨i,hi,rfl⟩:=dD.1 hx;exact h1 i hi
def wE (x c:Change):Change:=(x.1,x.2.1,c.2.2.1,c.2.2.2.1,())
def Er (x:Change):Bool:=(!x.1&&!x.2.2.1)||(x.1&&(x.2.2.1&&Ty.eq au x.2.1 x.2.2.2.1))
def Ih (x c:Change):Bool:=!(c.1 == x.2.2.1)||(c.1&&!Ty.eq au c.2.1 x.2.2.2.1)
def pR (cs:List Change) (c:Change):Option (List Change):=
 match (if fC cs (ck c) then cs[pC cs (ck c)]? else none) with
 | none=>some (cs.take (pC cs (ck c))++[c]++cs.drop (pC cs (ck c)))
 | some x=>if Ih x c then none else if Er (wE x c) then some (cs.take (pC cs (ck c))++cs.drop (pC cs (ck c)+1)) else some (cs.set (pC cs (ck c)) (wE x c))
theorem ZL {x:Change} {cs:List Change} {k:Int×Int} (h:bi (ck x) k=true):pC (x::cs) k=pC cs k+1/\fC (x::cs) k=fC cs k:=by
 have h':bi (rk (nr x)) k=true:=by rw[vl];exact h
 refine ⟨?_,?_⟩
 ·unfold pC;rw[cR];simp only[pos,h',aI]
 ·unfold fC;rw[cR];exact AE h'
theorem VK {x:Change} {cs:List Change} {k:Int×Int} (h:bi (ck x) k=false):pC (x::cs) k=0/\fC (x::cs) k=decide (ck x=k):=by
 have h':bi (rk (nr x)) k=false:=by rw[vl];exact h
 have h0:pos ((x::cs).map nr) k=0:=by rw[cR];simp[pos,h']
 refine ⟨h0,?_⟩
 unfold fC ls;rw[h0];simp only[cR,eN,vl]
theorem T9 {x:Change} {cs:List Change} {c:Change} (h:bi (ck x) (ck c)=true):pR (x::cs) c=(pR cs c).map (x::·):=by
 obtain ⟨h1,h2⟩:=ZL (cs:=cs) h;unfold pR;rw[h1,h2];simp only[fJ,List.take_succ_cons,List.drop_succ_cons,List.set_cons_succ]
 cases (if fC cs (ck c)=true then cs[pC cs (ck c)]? else none) with
 | none=>rfl
 | some y=>
  simp only;split
  ·rfl
  ·split <;> rfl
theorem T_ {x:Change} {cs:List Change} {c:Change} (h:bi (ck c) (ck x)=true):pR (x::cs) c=some (c::x::cs):=by
 have fw:¬ ck x=ck c:=fun e=>by rw[e,jU] at h;cases h
 obtain ⟨h1,h2⟩:=VK (cs:=cs) (vU h);unfold pR;rw[h1,h2];simp[fw]
theorem Ua {x:Change} {cs:List Change} {c:Change} (h:ck x=ck c):pR (x::cs) c=if Ih x c then none else if Er (wE x c) then some cs else some (wE x c::cs):=by
 obtain ⟨h1,h2⟩:=VK (cs:=cs) (k:=ck c) (x:=x) (by rw[h];exact jU _);unfold pR;rw[h1,h2];simp[h]
theorem Sf (c:Change):pR [] c=some [c]:=by simp[pR,fC,ls,pC,pos]
theorem Sg {cs:List Change} {c:Change} {r:List Change} (h:pR cs c=some r):r.length<=cs.length+1:=by
 unfold pR at h;split at h
 ·injection h with h;subst h;simp only[aS,bQ,bI,aP,bB];omega
 ·split at h
  ·cases h
  ·split at h
   ·injection h with h;subst h;simp only[aS,bQ,bI];omega
   ·injection h with h;subst h;simp
theorem Sh {q:Change->Prop} {cs:List Change} {c:Change} {r:List Change} (h:pR cs c=some r) (h1:∀ x ∈ cs,q x) (h2:q c) (h3:∀ x ∈ cs,q (wE x c)):∀ x ∈ r,q x:=by
 unfold pR at h;split at h
 ·injection h with h;subst h;intro x hx;simp only[cJ,bU] at hx;rcases hx with (hx | rfl) | hx
  ·exact h1 x (dZ hx)
  ·exact h2
  ·exact h1 x (dG hx)
 ·rename_i y hy
  have AY:y ∈ cs:=by
   split at hy
   ·exact cB hy
   ·cases hy
  split at h
  ·cases h
  ·split at h
   ·injection h with h;subst h;intro x hx;rcases cJ.1 hx with hx | hx
    ·exact h1 x (dZ hx)
    ·exact h1 x (dG hx)
   ·injection h with h;subst h;intro x hx;rcases gX hx with hx | rfl
    ·exact h1 x hx
    ·exact h3 y AY
theorem EL (c:Change) (r:Row):n8.aa (c,r,())=some (if bi (ck c) (rk r) then -1 else if bi (rk r) (ck c) then 1 else 0,()):=by
 refine ah (k:=0) fun k _=>(n8.ae k _).trans ?_;show n8.p _=_;unfold n8.p;simp only[uN,sY,Ag,aB];rfl
theorem Wt (a b:Int×Int):decide ((if bi a b then (-1:Int) else if bi b a then 1 else 0) < 0)=bi a b:=by
 cases bi a b <;> cases bi b a <;> rfl
theorem Wu (a b:Int×Int):decide ((if bi a b then (-1:Int) else if bi b a then 1 else 0)=0)=decide (a=b):=by
 cases h1:bi a b with
 | true=>
  have:¬ a=b:=fun e=>by rw[e,jU] at h1;cases h1
  simp[this]
 | false=>
  cases h2:bi b a with
  | true=>
   have:¬ a=b:=fun e=>by rw[e,jU] at h2;cases h2
   simp[this]
  | false=>simp[r_ h1 h2]
theorem PR (xs:List Change) (key:Row) (f:Nat×Int) (hu:Lw xs) (hl:xs.length<=2000000):bp.aa (xs,key,f,())=some ((pC xs (rk key):Int),fC xs (rk key),()):=by
 have hp:=VJ xs (rk key)
 have hq:bp.q0 (xs,key,f,()) (pC xs (rk key):Int)=some ((pC xs (rk key):Int),fC xs (rk key),()):=by
  show bp.q0 _ _=_;unfold bp.q0;by_cases aj:pC xs (rk key) < xs.length
  ·have h1:((pC xs (rk key):Nat):Int) < (xs.length:Int):=by omega
   have h2:fC xs (rk key)=decide (ck xs[pC xs (rk key)]=rk key):=by
    unfold fC ls
    have h3:(xs.map nr)[pos (xs.map nr) (rk key)]?=some (nr xs[pC xs (rk key)]):=by
     rw[eK];show Option.map nr xs[pC xs (rk key)]?=_;rw[aA aj];rfl
    rw[h3];simp only[vl]
   simp only[h1,aC,aJ,aK,aI,aH,aA aj,aB,EL,Wu,h2]
  ·have h1:¬ ((pC xs (rk key):Nat):Int) < (xs.length:Int):=by omega
   simp only[h1,aD,aE];have h3:(xs.map nr)[pos (xs.map nr) (rk key)]?=none:=cW (by rw[fE];show xs.length<=pC xs (rk key);omega);unfold fC ls;rw[h3]
 refine ah (k:=xs.length+1) fun k hk=>(bp.ae k _).trans ?_
 refine uG (B:=fun self v=>bp.b0 self (fun z=>bp.q0 (xs,key,f,()) z) (xs,key,f,()) v) (fun _=>((pC xs (rk key):Int),fC xs (rk key),()))
  (fun v=>∃ lo hi:Nat,v=((lo:Int),(hi:Int))/\lo<=pC xs (rk key)/\pC xs (rk key)<=hi/\hi<=xs.length) (fun v=>(v.2 - v.1).toNat) (fun v hv self=>?_) k (0,(xs.length:Int)) ⟨0,xs.length,rfl,by omega,hp,by omega⟩ (by simp;omega)
 obtain ⟨lo,hi,rfl,h1,h2,h3⟩:=hv;by_cases aj:lo < hi
 ·right;have sN:(lo:Int) < (hi:Int):=by omega
  have hm:(lo+hi) / 2 < xs.length:=by omega
  have A9:(lo+hi) / 2 < (xs.map nr).length:=by rw[fE];exact hm
  have hb:∀ self,bp.b0 self (fun z=>bp.q0 (xs,key,f,()) z) (xs,key,f,()) ((lo:Int),(hi:Int))=if bi (ck xs[(lo+hi) / 2]) (rk key) then self (af ((((lo+hi) / 2:Nat):Int)+1),(hi:Int)) else self ((lo:Int),(((lo+hi) / 2:Nat):Int)):=fun self=>by
   show bp.b0 _ _ _ _=_;unfold bp.b0;simp only[sN,aC,aJ,half lo hi (by omega),aK,aI,aH,aA hm,aB,EL,Wt];cases bi (ck xs[(lo+hi) / 2]) (rk key) <;> rfl
  have Tf:rk (xs.map nr)[(lo+hi) / 2]=ck xs[(lo+hi) / 2]:=by rw[List.getElem_map,vl]
  cases hc:bi (ck xs[(lo+hi) / 2]) (rk key) with
  | true=>
   refine ⟨((((lo+hi) / 2+1:Nat):Int),(hi:Int)),?_,rfl,⟨_,_,rfl,?_,h2,h3⟩,by simp only;omega⟩
   ·rw[hb,hc,aU rfl,bt (by omega)];rfl
   ·rcases bZ ((lo+hi) / 2) (pC xs (rk key)) with h | h
    ·omega
    ·have:=wD (xs.map nr) (rk key) _ A9 hu h;rw[Tf] at this;rw[this] at hc;cases hc
  | false=>
   refine ⟨((lo:Int),(((lo+hi) / 2:Nat):Int)),?_,rfl,⟨_,_,rfl,h1,?_,by omega⟩,by simp only;omega⟩
   ·rw[hb,hc];rfl
   ·rcases bZ ((lo+hi) / 2) (pC xs (rk key)) with h | h
    ·have:=DA (xs.map nr) (rk key) _ A9 h;rw[Tf] at this;rw[this] at hc;cases hc
    ·exact h
 ·left;have e:lo=pC xs (rk key):=by omega
  have sN:¬ (lo:Int) < (hi:Int):=by omega
  show bp.b0 _ _ _ _=_;unfold bp.b0;simp only[sN,aD,aE];rw[e];exact hq
def wF (xs:List Change) (c:Change):Buffer:=if tU xs=0 then (if wC c=0 then (match pR xs c with | none=>((8:Int),([]:List Change),()) | some r=>((0:Int),r,())) else (wC c,([]:List Change),())) else (tU xs,([]:List Change),())
theorem Wv (xs:List Change) (i:Nat) (c:Change) (hi:i<=xs.length) (hl:xs.length<=1000):oS.aa (xs,(i:Int),[c],())=some (xs.take i++[c]++xs.drop i,()):=by
 have h1:(0:Int)<=(i:Int)/\(i:Int)<=(xs.length:Int)/\xs.length+[c].length<=bz:=⟨by omega,by omega,da (by simp only[aP,bB];omega)⟩
 show (if (0:Int)<=(i:Int)/\(i:Int)<=(xs.length:Int)/\xs.length+[c].length<=bz then some (xs.take (i:Int).toNat++[c]++xs.drop (i:Int).toNat,()) else none)=_;rw[aU h1];rfl
theorem Ww (xs:List Change) (i:Nat) (hi:i < xs.length) (hl:xs.length<=1000):mw.aa (xs,(i:Int),af ((i:Int)+1),())=some (xs.take i++xs.drop (i+1),()):=by
 rw[bt (by omega)]
 have h1:(0:Int)<=(i:Int)/\(i:Int)<=(i:Int)+1/\(i:Int)+1<=(xs.length:Int):=⟨by omega,by omega,by omega⟩
 show (if (0:Int)<=(i:Int)/\(i:Int)<=(i:Int)+1/\(i:Int)+1<=(xs.length:Int) then some (xs.take (i:Int).toNat++xs.drop ((i:Int)+1).toNat,()) else none)=_;rw[aU h1];rfl
theorem MR (xs:List Change) (c:Change) (hl:xs.length<=1048576) (h:∀ x ∈ xs,cl x) (hc:cl c):nM.aa (xs,c,())=some (wF xs c,()):=by
 refine ah (k:=0) fun k _=>(nM.ae k _).trans ?_;show nM.p _=_;unfold nM.p wF;simp only[IX xs (by rw[ai];omega) h,Dz c hc,aB];by_cases h1:tU xs=0
 ·obtain ⟨hu,_,h60⟩:=B9 h1;simp only[h1,aC,aO,aE,aI];by_cases h2:wC c=0
  ·have hp:=VJ xs (ck c);simp only[h2,aC,aO,aE,aI,uN,PR xs _ _ hu (by omega),vl,A8 xs hl,aB];unfold pR
   cases hf:fC xs (ck c) with
   | false=>
    simp only[aV,aJ,aG,aL,Wv xs _ c hp (by omega),aB]
   | true=>
    have aj:pC xs (ck c) < xs.length:=by
     obtain ⟨hp,_⟩:=xK hf;rw[fE] at hp;exact hp
    have hi:(0:Int)<=(pC xs (ck c):Int)/\((pC xs (ck c):Nat):Int) < (xs.length:Int):=⟨by omega,by omega⟩
    simp only[aO,aE,aI,aU hi,aH,aA aj,aB,Ww xs _ aj (by omega)];generalize xs[pC xs (ck c)]=x;unfold Ih Er wE
    cases c.1 <;> cases x.2.2.1 <;> cases x.1 <;> cases c.2.2.1 <;> simp <;> (try (cases Ty.eq au c.2.1 x.2.2.2.1 <;> simp)) <;> (try (cases Ty.eq au x.2.1 c.2.2.2.1 <;> simp))
  ·simp only[h2,aD,aV,aJ,aL]
 ·simp only[h1,aD,aV,aJ,aL]
def rQ (c:Change) (s:List Change×Bool) (x:Change):Sum (List Change×Bool×Unit) (List Change×Bool):=
 let s':=if !s.2&&bi (ck c) (ck x) then (s.1++[c],true) else s
 if bi (ck x) (ck c) then .inr (s'.1++[x],s'.2) else if bi (ck c) (ck x) then .inr (s'.1++[x],s'.2) else
 if Ih x c then .inl ([],false,()) else if Er (wE x c) then .inr (s'.1,true) else .inr (s'.1++[wE x c],true)
def Es (c:Change) (s:List Change×Bool):List Change×Bool×Unit:=if s.2 then (s.1,true,()) else (s.1++[c],true,())
theorem yC (c:Change):∀ (xs:List Change) (i:Nat) (s:List Change),(∀ x ∈ xs,bi (ck c) (ck x)=true)->bn (fun _ s x=>rQ c s x) (Es c) i xs (s,true)=(s++xs,true,())
 | [],_,s,_=>by simp[bn,Es]
 | x::xs,i,s,h=>by
  have hx:=h x bG;have:rQ c (s,true) x=.inr (s++[x],true):=by simp[rQ,hx,vU hx]
  simp only[bn,this];rw[yC c xs (i+1) _ (fun y hy=>h y (aZ _ hy))];simp
theorem Lx (c:Change):∀ (xs:List Change) (i:Nat) (s:List Change),Lw xs->bn (fun _ s x=>rQ c s x) (Es c) i xs (s,false)=match pR xs c with | none=>([],false,()) | some r=>(s++r,true,())
 | [],_,s,_=>by simp[bn,Es,Sf]
 | x::xs,i,s,hu=>by
  have mC:=T8.1 hu
  cases h1:bi (ck x) (ck c) with
  | true=>
   have:rQ c (s,false) x=.inr (s++[x],false):=by simp[rQ,h1,vU h1]
   simp only[bn,this];rw[Lx c xs (i+1) _ mC.2,T9 h1];cases pR xs c <;> simp
  | false=>
   cases h2:bi (ck c) (ck x) with
   | true=>
    have:rQ c (s,false) x=.inr (s++[c]++[x],true):=by simp[rQ,h1,h2]
    simp only[bn,this];rw[yC c xs (i+1) _ (fun y hy=>oV h2 (mC.1 y hy)),T_ h2];simp
   | false=>
    have he:=r_ h1 h2;have EE:∀ y ∈ xs,bi (ck c) (ck y)=true:=fun y hy=>by rw[<-he];exact mC.1 y hy
    rw[Ua he]
    cases h3:Ih x c with
    | true=>
     have:rQ c (s,false) x=.inl ([],false,()):=by simp[rQ,h1,h2,h3]
     simp only[bn,this];rfl
    | false=>
     cases h4:Er (wE x c) with
     | true=>
      have:rQ c (s,false) x=.inr (s,true):=by simp[rQ,h1,h2,h3,h4]
      simp only[bn,this];rw[yC c xs (i+1) _ EE];simp
     | false=>
      have:rQ c (s,false) x=.inr (s++[wE x c],true):=by simp[rQ,h1,h2,h3,h4]
      simp only[bn,this];rw[yC c xs (i+1) _ EE];simp
theorem Wx {a b:Row}:Ty.eq au a b=Ty.eq au b a:=by
 cases h1:Ty.eq au a b with
 | true=>
  have:=Se h1;subst this;exact h1.symm
 | false=>
  cases h2:Ty.eq au b a with
  | true=>
   have:=Se h2;subst this;rw[h1] at h2;cases h2
  | false=>rfl
theorem LA (xs:List Change) (c:Change) (hu:Lw xs) (hl:xs.length<=1000):lG.aa (xs,c,())=some (match pR xs c with | none=>(([]:List Change),false,()) | some r=>(r,true,())):=by
 refine ah (k:=xs.length+1) fun k hk=>(lG.ae k _).trans ?_
 have:=b9 (B:=fun self v=>lG.b0 self (fun z=>lG.q0 (xs,c,()) z) (xs,c,()) v) xs (fun (s:List Change×Bool) (i:Int)=>(s.1,s.2,i)) (fun _ s x=>rQ c s x) (Es c) (fun i s=>s.1.length<=2*i) (by rw[ai];omega)
  (fun i hi s self hI=>by
   show lG.b0 _ _ _ _=_;unfold lG.b0 rQ;have aj:(i:Int) < (xs.length:Int):=by omega
   obtain ⟨s1,s2⟩:=s;simp only at hI;have c1:∀ y:Change,s1.length+[y].length<=bz:=fun y=>da (by simp only[aP,bB];omega);have c2:∀ y:Change,(s1++[c]).length+[y].length<=bz:=fun y=>da (by simp only[aS,aP,bB];omega);simp only[aj,aC,aJ,aK,aI,aH,aA hi,aB,Lv,c1,c2];generalize xs[i]=x;unfold Ih Er wE;rw[Wx (a:=x.2.2.2.1) (b:=c.2.1)]
   cases bi (ck c) (ck x) <;> cases bi (ck x) (ck c) <;> cases s2 <;> cases x.2.2.1 <;> cases c.1 <;> cases x.1 <;> cases c.2.2.1 <;> simp <;> (try (cases Ty.eq au c.2.1 x.2.2.2.1 <;> simp)) <;> (try (cases Ty.eq au x.2.1 c.2.2.2.1 <;> simp)))
  (fun i hi s s' hI hf=>by
   obtain ⟨s1,s2⟩:=s;unfold rQ at hf;simp only at hf hI;have hlen:(if (!s2&&bi (ck c) (ck xs[i]))=true then (s1++[c],true) else (s1,s2)).1.length<=s1.length+1:=by split <;> simp
   split at hf
   ·injection hf with hf;subst hf;simp only[aS,aP,bB];omega
   ·split at hf
    ·injection hf with hf;subst hf;simp only[aS,aP,bB];omega
    ·split at hf
     ·cases hf
     ·split at hf
      ·injection hf with hf;subst hf;simp only;omega
      ·injection hf with hf;subst hf;simp only[aS,aP,bB];omega) (fun s self hI=>by
   show lG.b0 _ _ _ _=_;unfold lG.b0;simp only[bC,aD,aE];show lG.q0 _ _=_;unfold lG.q0 Es;obtain ⟨s1,s2⟩:=s;simp only at hI;have c1:∀ y:Change,s1.length+[y].length<=bz:=fun y=>da (by simp only[aP,bB];omega);simp only[c1,aI]
   cases s2 <;> rfl) ([],false) (by simp) k (by omega)
 rw[Lx c xs 0 [] hu] at this;refine (this:lG.r0 k (xs,c,()) ([],false,0)=_).trans ?_;cases pR xs c <;> rfl
theorem MS (xs:List Change) (c:Change) (hl:xs.length<=1048576) (h:∀ x ∈ xs,cl x) (hc:cl c):nK.aa (xs,c,())=some (wF xs c,()):=by
 refine ah (k:=0) fun k _=>(nK.ae k _).trans ?_;show nK.p _=_;unfold nK.p wF;simp only[AI xs (by rw[ai];omega) h,xe c hc,aB];by_cases h1:tU xs=0
 ·obtain ⟨hu,_,h60⟩:=B9 h1;simp only[h1,aC,aO,aE,aI];by_cases h2:wC c=0
  ·simp only[h2,aC,aO,aE,aI,LA xs c hu (by omega),aB];cases pR xs c <;> rfl
  ·simp only[h2,aD,aV,aJ,aL]
 ·simp only[h1,aD,aV,aJ,aL]
end OT
namespace OT
open Go
theorem eb {V S O α:Type} {B:(V->Option O)->V->Option O} (xs:List α) (enc:S->Int->V) (f:Nat->S->α->Sum (Option O) S) (fin:S->Option O) (I:Nat->S->Prop) (un:xs.length<=maxLen)
  (jd:∀ (i:Nat) (hi:i < xs.length) (s:S) self,I i s->B self (enc s (i:Int))=match f i s xs[i] with | .inl o=>o | .inr s'=>self (enc s' (af ((i:Int)+1))))
  (hI:∀ (i:Nat) (hi:i < xs.length) (s s':S),I i s->f i s xs[i]=.inr s'->I (i+1) s')
  (ld:∀ (s:S) self,I xs.length s->B self (enc s (xs.length:Int))=fin s) (s:S) (h0:I 0 s):∀ k,xs.length < k->aq B k (enc s 0)=bn f fin 0 xs s:=by
 have main:∀ (m i:Nat) (s:S),xs.length - i=m->i<=xs.length->I i s->∀ k,m < k->aq B k (enc s (i:Int))=bn f fin i (xs.drop i) s:=by
  intro m
  induction m with
  | zero=>
   intro i s hm hi hs k hk;have k8:i=xs.length:=by omega
   subst k8
   cases k with
   | zero=>omega
   | succ k=>
    show B (aq B k) _=_;rw[ld s _ hs];simp[bn]
  | succ m ih=>
   intro i s hm hi hs k hk;have aj:i < xs.length:=by omega
   cases k with
   | zero=>omega
   | succ k=>
    show B (aq B k) _=_;rw[jd i aj s _ hs,cZ aj];simp only[bn]
    cases hf:f i s xs[i] with
    | inl o=>rfl
    | inr s'=>
     have hw:af ((i:Int)+1)=((i+1:Nat):Int):=by rw[bt (by rw[ai] at un;omega)];omega
     simp only[hw];exact ih (i+1) s' (by omega) (by omega) (hI i aj s s' hs hf) k (by omega)
 intro k hk
 simpa using main xs.length 0 s (by omega) (by omega) h0 k hk
theorem xh {O α:Type} (p:α->Bool) (a:O) (fin:Unit->O):∀ (xs:List α) (i:Nat),bn (fun _ _ x=>if p x then .inl a else .inr ()) fin i xs ()=if xs.any p then a else fin ()
 | [],_=>rfl
 | x::xs,i=>by
  simp only[bn,fV];by_cases h:p x=true
  ·simp[h]
  ·simp[h,xh p a fin xs (i+1)]
def vm {α:Type} (p:α->Bool):Nat->List α->Int
 | _,[]=>-1
 | i,x::xs=>if p x then (i:Int) else vm p (i+1) xs
theorem yD {α:Type} (p:α->Bool):∀ (xs:List α) (i:Nat),bn (fun i _ x=>if p x then .inl ((i:Int),()) else .inr ()) (fun _=>((-1:Int),())) i xs ()=(vm p i xs,())
 | [],_=>rfl
 | x::xs,i=>by
  simp only[bn,vm];by_cases h:p x=true
  ·simp[h]
  ·simp[h,yD p xs (i+1)]
theorem IY {α:Type} (p:α->Bool):∀ (xs:List α) (i:Nat),decide (0<=vm p i xs)=xs.any p
 | [],_=>rfl
 | x::xs,i=>by
  simp only[vm,fV];by_cases h:p x=true
  ·simp[h]
  ·simp[h,IY p xs (i+1)]
theorem B_ (a b:Key):Ty.eq bq a b=decide (a=b):=by
 obtain ⟨a1,a2,⟨⟩⟩:=a;obtain ⟨b1,b2,⟨⟩⟩:=b;show (decide (a1=b1)&&(decide (a2=b2)&&true))=decide ((a1,a2,())=(b1,b2,()));by_cases h1:a1=b1 <;> by_cases h2:a2=b2 <;> simp[h1,h2]
def A_ (c:Change):Key:=((ck c).1,(ck c).2,())
def jc (ks:List Key) (k:Key):Bool:=ks.any fun x=>decide (x=k)
theorem q_ {ks:List Key} {k:Key}:jc ks k=true↔k ∈ ks:=by simp[jc]
def xq (k:Key):Bool:=fi k.1 0 3&&fi k.2.1 1 99
theorem LB (c:Change):o_.aa (c,())=some (A_ c,()):=by
 refine ah (k:=0) fun k _=>(o_.ae k _).trans ?_;show o_.p _=_;unfold o_.p;simp only[BZ,aB];rfl
theorem Wy (c:Change):nm.aa (c,())=some (A_ c,()):=by
 refine ah (k:=0) fun k _=>(nm.ae k _).trans ?_;show nm.p _=_;unfold nm.p A_;simp only[uN,aB,<- Ag]
theorem MT (x:Key):qN.aa (x,())=some (xq x,()):=by
 refine ah (k:=0) fun k _=>(qN.ae k _).trans ?_;show qN.p _=_;unfold qN.p xq fi;simp only[nq,aB];cases decide ((0:Int)<=x.1) <;> cases decide (x.1<=3) <;> rfl
theorem Ub (x:Key):rI.aa (x.1,x.2.1,())=some (xq x,()):=by
 refine ah (k:=0) fun k _=>(rI.ae k _).trans ?_;show rI.p _=_;unfold rI.p xq fi;simp only[rO,aB];cases decide ((0:Int)<=x.1) <;> cases decide (x.1<=3) <;> rfl
theorem LC (x:Tx) (k0:Key) (h:List.length x.2.2.2.1<=maxLen):jt.aa (x,k0,())=some (jc x.2.2.2.1 k0,()):=by
 refine ah (k:=List.length x.2.2.2.1+1) fun k hk=>(jt.ae k _).trans ?_
 have:=b9 (B:=fun self v=>jt.b0 self (fun z=>jt.q0 (x,k0,()) z) (x,k0,()) v) x.2.2.2.1 (fun (_:Unit) (i:Int)=>i) (fun _ _ y=>if decide (y=k0) then .inl (true,()) else .inr ()) (fun _=>(false,())) (fun _ _=>True) h
  (fun i hi s self _=>by
   show jt.b0 _ _ _ _=_;unfold jt.b0;have aj:(i:Int) < (List.length x.2.2.2.1:Int):=by omega
   simp only[aj,aC,aJ,aK,aI,aH,aA hi,aB,B_];by_cases hh:(x.2.2.2.1)[i]=k0
   ·simp only[hh,aC,aJ,aI]
   ·simp only[hh,aD,aE,aG,aL])
  (fun _ _ _ _ _ _=>trivial) (fun s self _=>by
   show jt.b0 _ _ _ _=_;unfold jt.b0;simp only[bC,aD,aE]
   rfl) () trivial k (by omega)
 rw[xh] at this;refine aX this ?_;unfold jc;cases x.2.2.2.1.any (fun y=>decide (y=k0)) <;> rfl
theorem contains_eq (ks:List Key) (k0:Key) (h:ks.length<=maxLen):kK.aa (ks,k0,())=some (jc ks k0,()):=by
 have NR:jw.aa (ks,k0,())=some (vm (fun y=>decide (k0=y)) 0 ks,()):=by
  refine ah (k:=ks.length+1) fun k hk=>(jw.ae k _).trans ?_
  have:=b9 (B:=fun self v=>jw.b0 self (fun z=>jw.q0 (ks,k0,()) z) (ks,k0,()) v) ks (fun (_:Unit) (i:Int)=>i) (fun i _ y=>if decide (k0=y) then .inl ((i:Int),()) else .inr ()) (fun _=>((-1:Int),())) (fun _ _=>True) h
   (fun i hi s self _=>by
    show jw.b0 _ _ _ _=_;unfold jw.b0;have aj:(i:Int) < (ks.length:Int):=by omega
    simp only[aj,aC,aJ,aK,aI,aH,aA hi,aB,B_];by_cases hh:k0=ks[i]
    ·simp only[<-hh,aC,aJ,aI]
    ·simp only[hh,aD,aE,aG,aL])
   (fun _ _ _ _ _ _=>trivial) (fun s self _=>by
    show jw.b0 _ _ _ _=_;unfold jw.b0;simp only[bC,aD,aE]
    rfl) () trivial k (by omega)
  rw[yD] at this;exact this
 refine ah (k:=0) fun k _=>(kK.ae k _).trans ?_;show kK.p _=_;unfold kK.p;rw[NR];simp only[aB,IY];congr 2;unfold jc;congr 1;funext y;by_cases hh:k0=y
 ·simp[hh]
 ·have:¬ y=k0:=fun e=>hh e.symm;simp[hh,this]
def tl (x:Tx):Prop:=List.length x.2.1<=1048576/\List.length x.2.2.1<=1048576/\List.length x.2.2.2.1<=1048576/\∀ c ∈ x.2.1,cl c
def xr (ks:List Key) (c:Change):Int:=if wC c=0 then (if jc ks (A_ c) then 0 else 8) else wC c
def G6 (n last:Int) (ms:List Int):Bool:=bn (fun _ last m=>if fi m last n then .inr m else .inl false) (fun _=>true) 0 ms last
def qC (ks:List Key) (i:Nat) (k:Key):Int:=if xq k then (if jc (ks.take i) k then 6 else 0) else 3
def wG (ks:List Key):Int:=bn (fun i (_:Unit) k=>if qC ks i k=0 then .inr () else .inl (qC ks i k)) (fun _=>(0:Int)) 0 ks ()
def tC (x:Tx):Int:=if decide (8 < List.length x.2.2.1)||decide (12 < List.length x.2.2.2.1) then 2 else if G6 (List.length x.2.1:Int) 0 x.2.2.1 then wG x.2.2.2.1 else 3
def Ai (x:Tx):Int:=mU (xr x.2.2.2.1) x.2.1
theorem LD (n:Int) (E:Option (Int×Unit)):∀ (ms:List Int) (i:Nat) (last:Int),bn (fun _ last m=>if fi m last n then .inr m else .inl (some ((3:Int),()))) (fun _=>E) i ms last=if bn (fun _ last m=>if fi m last n then .inr m else .inl false) (fun _=>true) i ms last then E else some ((3:Int),())
 | [],_,_=>rfl
 | m::ms,i,last=>by
  simp only[bn];by_cases hb:fi m last n=true
  ·simp only[hb,aI];exact LD n E ms _ _
  ·simp[hb]
theorem MU (x:Tx) (h:tl x):mF.aa (x,())=some (Ai x,()):=by
 obtain ⟨h1,h2,h3,h4⟩:=h;refine ah (k:=List.length x.2.1+1) fun k hk=>(mF.ae k _).trans ?_
 have:=b9 (B:=fun self v=>mF.b0 self (fun z=>mF.q0 (x,()) z) (x,()) v) x.2.1 (fun (_:Unit) (i:Int)=>i) (fun _ _ c=>if xr x.2.2.2.1 c=0 then .inr () else .inl (xr x.2.2.2.1 c,())) (fun _=>(0,())) (fun _ _=>True) (by rw[ai];omega)
  (fun i hi s self _=>by
   show mF.b0 _ _ _ _=_;unfold mF.b0;have aj:(i:Int) < (List.length x.2.1:Int):=by omega
   simp only[aj,aC,aJ,aK,aI,aH,aA hi,aB,xe _ (h4 _ (aQ hi)),LB];rw[LC x _ (by rw[ai];omega)];unfold xr;by_cases hc:wC (x.2.1)[i]=0
   ·simp only[hc,aC,aO,aE,aI,aB];cases jc x.2.2.2.1 (A_ (x.2.1)[i]) <;> rfl
   ·simp only[hc,aD,aV,aJ,aL])
  (fun _ _ _ _ _ _=>trivial) (fun s self _=>by
   show mF.b0 _ _ _ _=_;unfold mF.b0;simp only[bC,aD,aE]
   rfl) () trivial k (by omega)
 rw[uH (xr x.2.2.2.1) (fun c=>(c,())) (fun _=>((0:Int),()))] at this;refine aX this ?_;unfold Ai;split
 ·rename_i h0;rw[h0]
 ·rfl
theorem Uc {m last n:Int} (h:0<=last):(fi m 0 n&&decide (last<=m))=fi m last n:=by
 unfold fi;by_cases h1:last<=m
 ·have:(0:Int)<=m:=by omega
  simp[h1,this]
 ·simp[h1]
theorem LE (x:Tx) (h:tl x):cw.aa (x,())=some (tC x,()):=by
 obtain ⟨h1,h2,h3,h4⟩:=h;refine ah (k:=20) fun k hk=>(cw.ae k _).trans ?_;unfold cw.p tC;by_cases hm:8 < List.length x.2.2.1
 ·have:(8:Int) < (List.length x.2.2.1:Int):=by omega
  simp only[this,hm,aC,aJ,fO,aI]
  (try rfl)
 have A9:¬ (8:Int) < (List.length x.2.2.1:Int):=by omega
 by_cases mB:12 < List.length x.2.2.2.1
 ·have:(12:Int) < (List.length x.2.2.2.1:Int):=by omega
  simp only[this,hm,A9,mB,aC,aD,aJ,aE,dX,aI]
  (try rfl)
 have o7:¬ (12:Int) < (List.length x.2.2.2.1:Int):=by omega
 simp only[hm,A9,o7,mB,aD,aE,iC,aG,aL]
 have second:cw.r1 k (x,()) (x,(0:Int))=some (wG x.2.2.2.1,()):=by
  have inner:∀ (self:(Tx×Int)->Option cw.Out) (e2:Unit->Option cw.Out) (i:Nat) (hi:i < List.length x.2.2.2.1),cw.r2 k self e2 (x,()) x (i:Int) (0:Int)=if jc (x.2.2.2.1.take i) (x.2.2.2.1)[i] then some ((6:Int),()) else self (x,af ((i:Int)+1)):=fun self e2 i hi=>by
   have kS:(x.2.2.2.1.take i).length=i:=by simp;omega
   have:=eb (B:=fun fl v=>cw.b2 fl (fun z=>cw.q1 self e2 (x,()) x (i:Int) z) (x,()) x (i:Int) v) (x.2.2.2.1.take i) (fun (_:Unit) (j:Int)=>j) (fun _ _ y=>if decide (y=(x.2.2.2.1)[i]) then .inl (some ((6:Int),())) else .inr ()) (fun _=>self (x,af ((i:Int)+1))) (fun _ _=>True) (by rw[ai];omega)
    (fun j hj s fl _=>by
     show cw.b2 _ _ _ _ _ _=_;unfold cw.b2;rw[kS] at hj;have aj:(j:Int) < (i:Int):=by omega
     have NU:j < List.length x.2.2.2.1:=by omega
     simp only[aj,aC,aJ,aK,aI,aH,aA NU,aA hi,aB,B_,gP]
     by_cases hh:(x.2.2.2.1)[j]=(x.2.2.2.1)[i]
     ·simp only[hh,aC,aJ,aI]
     ·simp only[hh,aD,aE,aG,aL])
    (fun _ _ _ _ _ _=>trivial) (fun s fl _=>by
     show cw.b2 _ _ _ _ _ _=_;unfold cw.b2;simp only[kS,bC,aD,aE]
     rfl) () trivial k (by omega)
   rw[xh] at this;exact this
  have:=b9 (B:=fun self v=>cw.B1 k self (fun z=>cw.q2 (x,()) z) (x,()) v) x.2.2.2.1 (fun (_:Unit) (i:Int)=>(x,i)) (fun i _ y=>if qC x.2.2.2.1 i y=0 then .inr () else .inl (qC x.2.2.2.1 i y,())) (fun _=>(0,())) (fun _ _=>True) (by rw[ai];omega)
   (fun i hi s self _=>by
    show cw.b1 _ _ _ _ _=_;unfold cw.b1 qC;have aj:(i:Int) < (List.length x.2.2.2.1:Int):=by omega
    simp only[aj,aC,aJ,aK,aI,aH,aA hi,aB,MT];rw[inner self _ i hi]
    cases xq (x.2.2.2.1)[i] <;> cases jc (x.2.2.2.1.take i) (x.2.2.2.1)[i] <;> rfl)
   (fun _ _ _ _ _ _=>trivial) (fun s self _=>by
    show cw.b1 _ _ _ _ _=_;unfold cw.b1;simp only[bC,aD,aE]
    rfl) () trivial k (by omega)
  refine aX this ?_;unfold wG;generalize EK:x.2.2.2.1=ks
  have gen:∀ (f:Nat->Key->Int) (ys:List Key) (i:Nat),bn (fun i (_:Unit) y=>if f i y=0 then .inr () else .inl (f i y,())) (fun _=>((0:Int),())) i ys ()=(bn (fun i (_:Unit) y=>if f i y=0 then .inr () else .inl (f i y)) (fun _=>(0:Int)) i ys (),()):=by
   intro f ys
   induction ys with
   | nil=>intro i;rfl
   | cons y ys ih=>intro i;simp only[bn];by_cases h0:f i y=0 <;> simp[h0,ih]
  rw[gen (qC ks)]
 have:=eb (B:=fun self v=>cw.b0 self (fun z=>cw.Q0 k (x,()) z) (x,()) v) x.2.2.1 (fun (_:Int) (i:Int)=>i) (fun i last m=>if fi m last (List.length x.2.1:Int) then .inr m else .inl (some ((3:Int),()))) (fun _=>some (wG x.2.2.2.1,()))
  (fun i last=>0<=last/\(i=0->last=0)/\∀ y,0 < i->x.2.2.1[i - 1]?=some y->last=y) (by rw[ai];omega)
  (fun i hi last self hI=>by
   obtain ⟨i1,i2,i3⟩:=hI;show cw.b0 _ _ _ _=_;unfold cw.b0;have aj:(i:Int) < (List.length x.2.2.1:Int):=by omega
   simp only[aj,aC,aJ,aK,aI,aH,aA hi,aB,nq];generalize Xz:(x.2.2.1)[i]=m;rw[<-Uc i1];show (bif !fi m 0 (List.length x.2.1:Int) then _ else _)=_
   cases Kd:fi m 0 (List.length x.2.1:Int) with
   | false=>rfl
   | true=>
    have GZ:0<=m:=by
     simp only[fi,aF,bO] at Kd;exact Kd.1
    simp only[aO,aE,eG];by_cases h0:i=0
    ·subst h0;have:=i2 rfl;subst this;have hz:¬ (0:Int) < ((0:Nat):Int):=by omega
     simp only[hz,GZ,aC,aD,aE,aI]
    ·have G7:i - 1 < List.length x.2.2.1:=by omega
     have hl:=i3 (x.2.2.1)[i - 1] (by omega) (aA G7);have hp:(0:Int) < (i:Int):=by omega
     simp only[hp,aC,aJ,B5 (show 0 < i by omega) (by rw[ai];omega),aK,aI,aH,aA G7,aB];rw[<-hl];by_cases hc:last<=m
     ·have:¬ m < last:=by omega
      simp only[hc,this,aC,aD,aE,aI]
     ·have:m < last:=by omega
      simp only[hc,this,aC,aD,aJ,aG,aL])
  (fun i hi last abm hI hs=>by
   split at hs
   ·rename_i hb;injection hs with hs;subst hs;simp only[fi,aF,bO] at hb;refine ⟨by omega,fun e=>by omega,fun y _ hy=>?_⟩
    rw[hU,aA hi] at hy;injection hy
   ·cases hs)
  (fun last self hI=>by
   show cw.b0 _ _ _ _=_;unfold cw.b0;simp only[bC,aD,aE]
   exact second) 0 ⟨gE _,fun _=>rfl,fun _ h=>by omega⟩ k (by omega)
 refine aX this ?_;unfold G6;rw[LD];cases bn (fun _ last m=>if fi m last (List.length x.2.1:Int) then .inr m else .inl false) (fun _=>true) 0 x.2.2.1 0 <;> rfl
end OT
namespace OT
open Go
def pb (D:List UInt8) (i:Nat):Nat:=(D.getD i 0).toNat
theorem nA (D:List UInt8) (i:Nat):pb D i < 256:=jS _
theorem kG {D:List UInt8} {i:Nat} (h:i < D.length):D[i]?=some D[i]/\(D[i]).toNat=pb D i:=⟨aA h,by simp[pb,h]⟩
theorem Si {A B:List UInt8} (h:A.length=B.length) (h2:∀ j,j < A.length->pb A j=pb B j):A=B:=by
 refine List.ext_getElem h fun i h1 h3=>?_;have:=h2 i h1;rw[<-(kG h1).2,<- (kG h3).2] at this;exact jP.1 this
theorem Ud (D:List UInt8) (a n j:Nat) (h:j < n):pb ((D.drop a).take n) j=pb D (a+j):=by
 unfold pb;simp only[eS,bK,h,aI,bM]
def pn (p:List UInt8):Nat:=pb p 0
def ns (p:List UInt8):Nat:=pb p 1
def pat (p:List UInt8) (i:Nat):Nat:=pb p (2+2*i)
def bu (p:List UInt8) (i:Nat):Nat:=pb p (3+2*i)
def vw (p:List UInt8) (i:Nat):Bool:=if pat p i=0\/bu p i=0 then decide (pat p i=bu p i) else decide (ns p<=pat p i)&&decide (pat p i+bu p i<=64)
def rf (p:List UInt8) (i k:Nat):Bool:=(decide (bu p i=0)||decide (bu p k=0))||(decide (pat p i+bu p i<=pat p k)||decide (pat p k+bu p k<=pat p i))
def wH (p:List UInt8):Int:=
 if p.length=64 then
  if pn p<=16/\2+2*pn p<=ns p/\ns p<=64 then
   if (List.range (pn p)).all (vw p) then
    if (List.range (pn p)).all (fun i=>(List.range i).all (rf p i)) then
     if 0 < pn p/\bu p (pn p - 1)=0 then 8 else 0
    else 8
   else 3
  else 3
 else 1
structure rR (p:List UInt8):Prop where
 len:p.length=64
 n:pn p<=16
 lo:2+2*pn p<=ns p
 hi:ns p<=64
 slot:∀ i,i < pn p->bu p i≠0->ns p<=pat p i/\pat p i+bu p i<=64
 zero:∀ i,i < pn p->bu p i=0->pat p i=0
 apart:∀ i k,i < pn p->k < pn p->i≠k->bu p i≠0->bu p k≠0->pat p i+bu p i<=pat p k\/pat p k+bu p k<=pat p i
 last:0 < pn p->bu p (pn p - 1)≠0
theorem DH {p:List UInt8} {i:Nat} (vf:2<=ns p):vw p i=true↔(bu p i≠0->ns p<=pat p i/\pat p i+bu p i<=64)/\(bu p i=0->pat p i=0):=by
 unfold vw;by_cases h1:bu p i=0
 ·simp[h1]
 ·by_cases h2:pat p i=0
  ·simp[h1,h2];omega
  ·simp[h1,h2]
theorem yE {p:List UInt8} {i k:Nat}:rf p i k=true↔(bu p i≠0->bu p k≠0->pat p i+bu p i<=pat p k\/pat p k+bu p k<=pat p i):=by
 unfold rf;by_cases h1:bu p i=0
 ·simp[h1]
 ·by_cases h2:bu p k=0
  ·simp[h2]
  ·simp[h1,h2]
theorem DI {p:List UInt8}:wH p=0↔rR p:=by
 constructor
 ·intro h;unfold wH at h;split at h
  ·rename_i h1;split at h
   ·rename_i h2;split at h
    ·rename_i h3;split at h
     ·rename_i h4;split at h
      ·cases h
      ·rename_i h5;have hs:∀ i,i < pn p->(bu p i≠0->ns p<=pat p i/\pat p i+bu p i<=64)/\(bu p i=0->pat p i=0):=fun i hi=>(DH (by omega)).1 (cC.1 h3 i (dF.2 hi));have ha:∀ i k,i < pn p->k < i->bu p i≠0->bu p k≠0->pat p i+bu p i<=pat p k\/pat p k+bu p k<=pat p i:=fun i k hi hk=>yE.1 (cC.1 (cC.1 h4 i (dF.2 hi)) k (dF.2 hk));refine ⟨h1,h2.1,h2.2.1,h2.2.2,fun i hi=>(hs i hi).1,fun i hi=>(hs i hi).2,fun i k hi hk GQ z1 z2=>?_,fun hn hz=>h5 ⟨hn,hz⟩⟩
       rcases Nat.lt_or_gt_of_ne GQ with h6 | h6
       ·exact (ha k i hk h6 z2 z1).symm
       ·exact ha i k hi h6 z1 z2
     ·cases h
    ·cases h
   ·cases h
  ·cases h
 ·intro h;unfold wH;rw[aU h.len,aU ⟨h.n,h.lo,h.hi⟩,aU,aU,bA]
  ·intro ⟨h1,h2⟩;exact h.last h1 h2
  ·refine cC.2 fun i hi=>cC.2 fun k hk=>yE.2 ?_;have:=dF.1 hi;have:=dF.1 hk;exact h.apart i k (by omega) (by omega) (by omega)
  ·exact cC.2 fun i hi=>(DH (by have:=h.lo;omega)).2 ⟨h.slot i (dF.1 hi),h.zero i (dF.1 hi)⟩
def kU (p:List UInt8) (i:Nat):List UInt8:=(p.drop (pat p i)).take (bu p i)
def cellOf (p:List UInt8) (i:Nat):List UInt8:=if i < pn p then kU p i else []
theorem Aj {p:List UInt8} (h:rR p) {i:Nat} (hi:i < pn p):(kU p i).length=bu p i:=by
 unfold kU;by_cases hz:bu p i=0
 ·simp[hz]
 ·have:=h.slot i hi hz;have:=h.len;simp only[bQ,bI];omega
theorem FF (p:List UInt8) (i j:Nat) (h:j < bu p i):pb (kU p i) j=pb p (pat p i+j):=Ud p _ _ j h
theorem Ue {p q:List UInt8} {i k:Nat} (hp:(kU p i).length=bu p i) (hq:(kU q k).length=bu q k) (hs:bu p i=bu q k) (hb:∀ j,j < bu p i->pb p (pat p i+j)=pb q (pat q k+j)):kU p i=kU q k:=by
 refine Si (by omega) fun j hj=>?_;rw[FF p i j (by omega),FF q k j (by omega)];exact hb j (by omega)
theorem Uf {p c:List UInt8} {i:Nat} (hp:(kU p i).length=bu p i) (hs:bu p i=c.length) (hb:∀ j,j < c.length->pb p (pat p i+j)=pb c j):kU p i=c:=by
 refine Si (by omega) fun j hj=>?_;rw[FF p i j (by omega)];exact hb j (by omega)
def abn (p:List UInt8) (s a:Nat) (c:List UInt8):List UInt8:=((rX p a c.length c).set (2+2*s) (UInt8.ofNat a)).set (3+2*s) (UInt8.ofNat c.length)
structure xL (p q:List UInt8) (s a m:Nat):Prop where
 len:q.length=64
 n:pn q=pn p\/(pn q=pn p+1/\s=pn p)
 Yq:s < pn q
 n16:pn q<=16
 lo:2+2*pn q<=ns q
 lo2:ns q<=ns p
 at_:pat q s=a
 sz:bu q s=m
 pos:0 < m
 aa3:ns q<=a
 aa4:a+m<=64
 LG:∀ i,i < pn q->i≠s->pat q i=pat p i/\bu q i=bu p i
 free:∀ i,i < pn p->i≠s->bu p i≠0->a+m<=pat p i\/pat p i+bu p i<=a
 same:∀ j,ns p<=j->j < 64->(j < a\/a+m<=j)->pb q j=pb p j
theorem xL.ok {p q:List UInt8} {s a m:Nat} (t:xL p q s a m) (h:rR p):rR q:=by
 have aj:∀ i,i < pn q->i≠s->i < pn p:=fun i hi hs=>by rcases t.n with h1 | ⟨h1,h2⟩ <;> omega
 have ha:=t.at_;have hm:=t.sz;have Dg:=t.pos;have vf:=t.aa3;have NJ:=t.aa4;have abA:=t.lo2;have hh:=h.hi;refine ⟨t.len,t.n16,t.lo,by omega,fun i hi hz=>?_,fun i hi hz=>?_,fun i k hi hk GQ z1 z2=>?_,fun hn=>?_⟩
 ·by_cases hs:i=s
  ·subst hs;omega
  ·obtain ⟨h1,h2⟩:=t.LG i hi hs;have:=h.slot i (aj i hi hs) (by omega);omega
 ·by_cases hs:i=s
  ·subst hs;omega
  ·obtain ⟨h1,h2⟩:=t.LG i hi hs;have:=h.zero i (aj i hi hs) (by omega);omega
 ·by_cases hs:i=s
  ·subst hs;have EK:k≠i:=fun e=>GQ e.symm;obtain ⟨h1,h2⟩:=t.LG k hk EK;have:=t.free k (aj k hk EK) EK (by omega);omega
  ·obtain ⟨h1,h2⟩:=t.LG i hi hs;by_cases uW:k=s
   ·subst uW;have:=t.free i (aj i hi hs) hs (by omega);omega
   ·obtain ⟨h3,h4⟩:=t.LG k hk uW;have:=h.apart i k (aj i hi hs) (aj k hk uW) GQ (by omega) (by omega);omega
 ·by_cases hs:pn q - 1=s
  ·rw[hs];omega
  ·obtain ⟨h1,h2⟩:=t.LG (pn q - 1) (by omega) hs
   have hq:pn q=pn p:=by
    rcases t.n with h3 | ⟨h3,h4⟩
    ·exact h3
    ·omega
   rw[h2,hq];exact h.last (by omega)
theorem xL.PT {p q:List UInt8} {s a m:Nat} (t:xL p q s a m) (h:rR p) {i:Nat} (hi:i < pn q) (hs:i≠s):kU q i=kU p i:=by
 have EH:i < pn p:=by rcases t.n with h1 | ⟨h1,h2⟩ <;> omega
 obtain ⟨h1,h2⟩:=t.LG i hi hs;refine Ue (Aj (t.ok h) hi) (Aj h EH) h2 fun j hj=>?_;have hz:bu p i≠0:=by omega
 have h3:=h.slot i EH hz;have h4:=t.free i EH hs hz;rw[h1];exact t.same _ (by omega) (by omega) (by omega)
theorem xL.Sj {p q:List UInt8} {s a:Nat} {c:List UInt8} (t:xL p q s a c.length) (h:rR p) (hc:∀ j,j < c.length->pb q (a+j)=pb c j):kU q s=c:=
 Uf (Aj (t.ok h) t.Yq) t.sz fun j hj=>by rw[t.at_];exact hc j hj
theorem xL.cells {p q:List UInt8} {s a:Nat} {c:List UInt8} (t:xL p q s a c.length) (h:rR p) (hc:∀ j,j < c.length->pb q (a+j)=pb c j) (i:Nat):cellOf q i=if i=s then c else cellOf p i:=by
 have hs:=t.Yq;unfold cellOf;by_cases CF:i=s
 ·subst CF;rw[aU hs,aU rfl,t.Sj h hc]
 ·rw[bA CF];by_cases hi:i < pn q
  ·have EH:i < pn p:=by rcases t.n with h1 | ⟨h1,h2⟩ <;> omega
   rw[aU hi,aU EH,t.PT h hi CF]
  ·have EH:¬ i < pn p:=by rcases t.n with h1 | ⟨h1,h2⟩ <;> omega
   rw[bA hi,bA EH]
end OT
namespace OT
open Go
def PU (p:List UInt8):Nat->Nat
 | 0=>0
 | m+1=>PU p m+bu p m
def u9 (p:List UInt8):Nat->Nat->Bool
 | 0,_=>false
 | k+1,j=>u9 p k j||decide (pat p k<=j/\j < pat p k+bu p k)
structure abo (p:List UInt8) (k:Nat) (o:List UInt8) (a:Nat):Prop where
 len:o.length=64
 n:pb o 0=pn p
 a:a=64 - PU p k
 sz:∀ i,i < pn p->bu o i=bu p i
 old:∀ i,i < pn p->(k<=i\/bu p i=0)->pat o i=pat p i
 new:∀ i,i < k->bu p i≠0->pat o i=64 - PU p (i+1)/\∀ j,j < bu p i->pb o (64 - PU p (i+1)+j)=pb p (pat p i+j)
end OT
namespace OT
open Go
theorem Yr {i:Nat} (h:i < 1000):af ((3:Int)+af ((2:Int)*(i:Int)))=((3+2*i:Nat):Int):=by
 rw[bt (n:=(2:Int)*(i:Int)) (by omega),bt (by omega)];omega
theorem VL {i:Nat} (h:i < 1000):af ((2:Int)+af ((2:Int)*(i:Int)))=((2+2*i:Nat):Int):=by
 rw[bt (n:=(2:Int)*(i:Int)) (by omega),bt (by omega)];omega
theorem CM (p:List UInt8) (i:Nat):af ((pb p i:Nat):Int)=((pb p i:Nat):Int):=by
 have:=nA p i;exact bt (by omega)
theorem j9 {R:Type} {p:List UInt8} {i:Nat} (h:i < p.length) (K:UInt8->Option R):(p[i]?).bind K=K p[i]:=by rw[(kG h).1];rfl
section
variable {p:List UInt8} (hp:p.length=64)
include hp
theorem vW:jh.aa (p,())=some ((pn p:Int),()):=by
 refine ah (k:=0) fun k _=>(jh.ae k _).trans ?_;show jh.p _=_;unfold jh.p;simp only[j9 (show 0 < p.length by omega),(kG (show 0 < p.length by omega)).2,CM];rfl
theorem Ak:lp.aa (p,())=some ((pn p:Int),()):=by
 refine ah (k:=0) fun k _=>(lp.ae k _).trans ?_;show lp.p _=_;unfold lp.p;simp only[j9 (show 0 < p.length by omega),(kG (show 0 < p.length by omega)).2,CM];rfl
theorem N5:nY.aa (p,())=some ((ns p:Int),()):=by
 refine ah (k:=0) fun k _=>(nY.ae k _).trans ?_;show nY.p _=_;unfold nY.p;simp only[j9 (show 1 < p.length by omega),(kG (show 1 < p.length by omega)).2,CM];rfl
theorem uw {i:Nat} (hi:i < 16):dx.aa (p,(i:Int),())=some ((bu p i:Int),()):=by
 refine ah (k:=0) fun k _=>(dx.ae k _).trans ?_;show dx.p _=_;unfold dx.p;simp only[Yr (show i < 1000 by omega),aK,aI,aH,j9 (show 3+2*i < p.length by omega),(kG (show 3+2*i < p.length by omega)).2,CM];rfl
theorem Al {i:Nat} (hi:i < 16):ji.aa (p,(i:Int),())=some ((pat p i:Int),()):=by
 refine ah (k:=0) fun k _=>(ji.ae k _).trans ?_;show ji.p _=_;unfold ji.p;simp only[VL (show i < 1000 by omega),aK,aI,aH,j9 (show 2+2*i < p.length by omega),(kG (show 2+2*i < p.length by omega)).2,CM];rfl
theorem FH {i:Nat} (hi:i < 16):pe.aa (p,(i:Int),())=some ((pat p i:Int),(bu p i:Int),()):=by
 refine ah (k:=0) fun k _=>(pe.ae k _).trans ?_;show pe.p _=_;unfold pe.p;simp only[VL (show i < 1000 by omega),Yr (show i < 1000 by omega),aK,aI,aH,j9 (show 2+2*i < p.length by omega),(kG (show 2+2*i < p.length by omega)).2,j9 (show 3+2*i < p.length by omega),(kG (show 3+2*i < p.length by omega)).2,CM];rfl
theorem Ug {i:Nat} (hi:i < 16):qO.aa (p,(i:Int),())=some (vw p i,()):=by
 refine ah (k:=0) fun k _=>(qO.ae k _).trans ?_;show qO.p _=_;unfold qO.p vw;have h1:=nA p (2+2*i);have h2:=nA p (3+2*i)
 have hw:af ((pat p i:Int)+(bu p i:Int))=((pat p i+bu p i:Nat):Int):=by
  have:pat p i < 256:=h1;have:bu p i < 256:=h2;rw[bt (by omega)];omega
 simp only[Al hp hi,uw hp hi,N5 hp,aB,hw];have e1:decide ((pat p i:Int)=0)=decide (pat p i=0):=by rw[cK];omega
 have e2:decide ((bu p i:Int)=0)=decide (bu p i=0):=by rw[cK];omega
 have e3:decide ((pat p i:Int)=(bu p i:Int))=decide (pat p i=bu p i):=by rw[cK];omega
 have e4:decide ((ns p:Int)<=(pat p i:Int))=decide (ns p<=pat p i):=by rw[cK];omega
 have e5:decide (((pat p i+bu p i:Nat):Int)<=64)=decide (pat p i+bu p i<=64):=by rw[cK];omega
 rw[e1,e2,e3,e4,e5];by_cases c1:pat p i=0
 ·simp[c1]
 ·by_cases c2:bu p i=0
  ·simp[c1,c2]
  ·simp only[c1,c2,aD,aE,or_self,aL];cases decide (ns p<=pat p i) <;> rfl
theorem Sk {i j:Nat} (hi:i < 16) (hj:j < 16):p6.aa (p,(i:Int),(j:Int),())=some (rf p i j,()):=by
 refine ah (k:=0) fun k _=>(p6.ae k _).trans ?_;show p6.p _=_;unfold p6.p rf;have h1:pat p i < 256:=nA p _;have h2:bu p i < 256:=nA p _;have h3:pat p j < 256:=nA p _;have h4:bu p j < 256:=nA p _;have hw:af ((pat p i:Int)+(bu p i:Int))=((pat p i+bu p i:Nat):Int):=by rw[bt (by omega)];omega
 have wr:af ((pat p j:Int)+(bu p j:Int))=((pat p j+bu p j:Nat):Int):=by rw[bt (by omega)];omega
 simp only[Al hp hi,uw hp hi,Al hp hj,uw hp hj,aB,hw,wr];have e1:decide ((bu p i:Int)=0)=decide (bu p i=0):=by rw[cK];omega
 have e2:decide ((bu p j:Int)=0)=decide (bu p j=0):=by rw[cK];omega
 have e3:decide (((pat p i+bu p i:Nat):Int)<=(pat p j:Int))=decide (pat p i+bu p i<=pat p j):=by rw[cK];omega
 have e4:decide (((pat p j+bu p j:Nat):Int)<=(pat p i:Int))=decide (pat p j+bu p j<=pat p i):=by rw[cK];omega
 rw[e1,e2,e3,e4];cases decide (bu p i=0) <;> cases decide (bu p j=0) <;> cases decide (pat p i+bu p i<=pat p j) <;> rfl
end
theorem tK {O:Type} (q:Nat->Bool) (bad e:O):∀ (xs:List Nat) (i:Nat),bn (fun _ (_:Unit) x=>if q x then .inr () else .inl bad) (fun _=>e) i xs ()=if xs.all q then e else bad:=fun xs i=>rE q bad (fun _=>e) xs i
theorem MV (p:List UInt8) (hl:p.length<=maxLen):cm.aa (p,())=some (wH p,()):=by
 refine ah (k:=100) fun k hk=>(cm.ae k _).trans ?_;unfold cm.p wH;have e0:decide ((p.length:Int)=64)=decide (p.length=64):=by rw[cK];omega
 rw[e0];by_cases hp:p.length=64;rotate_left
 ·simp only[hp,aD,aV,aJ,aL]
 have hn:pn p < 256:=nA p 0;have vf:ns p < 256:=nA p 1;have hw:af ((2:Int)+af ((2:Int)*(pn p:Int)))=((2+2*pn p:Nat):Int):=VL (by omega);simp only[hp,aC,aO,aE,vW hp,N5 hp,aB,hw,aI];by_cases c1:pn p<=16;rotate_left
 ·have:((16:Int) < (pn p:Int)):=by omega
  simp only[this,aC,aJ,c1,gB,aL]
 have n1:¬ ((16:Int) < (pn p:Int)):=by omega
 simp only[n1,aD,aE,c1,dY];by_cases c2:2+2*pn p<=ns p;rotate_left
 ·have:((ns p:Int) < ((2+2*pn p:Nat):Int)):=by omega
  simp only[this,aC,aJ,c2,gB,aL]
 have n2:¬ ((ns p:Int) < ((2+2*pn p:Nat):Int)):=by omega
 simp only[n2,aD,aE,c2,dY];by_cases c3:ns p<=64;rotate_left
 ·have:((64:Int) < (ns p:Int)):=by omega
  simp only[this,aC,aJ,c3,aL]
 have n3:¬ ((64:Int) < (ns p:Int)):=by omega
 simp only[n3,aD,aE,c3,aI]
 have inner:∀ (self:((List UInt8)×Int×Int)->Option cm.Out) (e2:((List UInt8)×Int)->Option cm.Out) (i:Nat) (hi:i < pn p),cm.r2 k self e2 (p,()) p (pn p:Int) (i:Int) (0:Int)=if (List.range i).all (rf p i) then self (p,(pn p:Int),af ((i:Int)+1)) else some ((8:Int),()):=fun self e2 i hi=>by
  have:=eb (B:=fun fl v=>cm.b2 fl (fun z=>cm.q1 self e2 (p,()) p (pn p:Int) (i:Int) z) (p,()) p (pn p:Int) (i:Int) v) (List.range i) (fun (_:Unit) (j:Int)=>j) (fun _ _ x=>if rf p i x then .inr () else .inl (some ((8:Int),()))) (fun _=>self (p,(pn p:Int),af ((i:Int)+1))) (fun _ _=>True) (by rw[ai,bX];omega)
   (fun j hj s fl _=>by
    rw[bX] at hj;show cm.b2 _ _ _ _ _ _ _=_;unfold cm.b2;have aj:(j:Int) < (i:Int):=by omega
    simp only[aj,aC,aJ,Sk hp (show i < 16 by omega) (show j < 16 by omega),aB,eC]
    cases rf p i j <;> rfl)
   (fun _ _ _ _ _ _=>trivial) (fun s fl _=>by
    rw[bX];show cm.b2 _ _ _ _ _ _ _=_;unfold cm.b2;simp only[bC,aD,aE]
    rfl) () trivial k (by rw[bX];omega)
  rw[tK] at this;exact this
 have outer:cm.r1 k (p,()) (pn p:Int) (p,(pn p:Int),(0:Int))=if (List.range (pn p)).all (fun i=>(List.range i).all (rf p i)) then cm.q2 (p,()) (p,(pn p:Int)) else some ((8:Int),()):=by
  have:=eb (B:=fun self v=>cm.B1 k self (fun z=>cm.q2 (p,()) z) (p,()) v) (List.range (pn p)) (fun (_:Unit) (i:Int)=>(p,(pn p:Int),i)) (fun _ _ x=>if (List.range x).all (rf p x) then .inr () else .inl (some ((8:Int),()))) (fun _=>cm.q2 (p,()) (p,(pn p:Int))) (fun _ _=>True) (by rw[ai,bX];omega)
   (fun i hi s self _=>by
    rw[bX] at hi;show cm.b1 _ _ _ _ _=_;unfold cm.b1;have aj:(i:Int) < (pn p:Int):=by omega
    simp only[aj,aC,aJ,inner self _ i hi,eC]
    cases (List.range i).all (rf p i) <;> rfl)
   (fun _ _ _ _ _ _=>trivial) (fun s self _=>by
    rw[bX];show cm.b1 _ _ _ _ _=_;unfold cm.b1
    simp only[bC,aD,aE]) () trivial k (by rw[bX];omega)
  rw[tK] at this;exact this
 have first:cm.r0 k (p,()) (pn p:Int) (0:Int)=if (List.range (pn p)).all (vw p) then cm.r1 k (p,()) (pn p:Int) (p,(pn p:Int),(0:Int)) else some ((3:Int),()):=by
  have:=eb (B:=fun self v=>cm.b0 self (fun z=>cm.Q0 k (p,()) (pn p:Int) z) (p,()) (pn p:Int) v) (List.range (pn p)) (fun (_:Unit) (i:Int)=>i) (fun _ _ x=>if vw p x then .inr () else .inl (some ((3:Int),()))) (fun _=>cm.r1 k (p,()) (pn p:Int) (p,(pn p:Int),(0:Int))) (fun _ _=>True) (by rw[ai,bX];omega)
   (fun i hi s self _=>by
    rw[bX] at hi;show cm.b0 _ _ _ _ _=_;unfold cm.b0;have aj:(i:Int) < (pn p:Int):=by omega
    simp only[aj,aC,aJ,Ug hp (show i < 16 by omega),aB,eC]
    cases vw p i <;> rfl)
   (fun _ _ _ _ _ _=>trivial) (fun s self _=>by
    rw[bX];show cm.b0 _ _ _ _ _=_;unfold cm.b0;simp only[bC,aD,aE]
    rfl) () trivial k (by rw[bX];omega)
  rw[tK] at this;exact this
 rw[first];split
 ·rw[outer];split
  ·show cm.q2 _ _=_;unfold cm.q2;by_cases h0:0 < pn p
   ·have aj:(0:Int) < (pn p:Int):=by omega
    have Ys:af ((pn p:Int) - 1)=((pn p - 1:Nat):Int):=by rw[bt (by omega)];omega
    simp only[aj,aC,aJ,Ys,uw hp (show pn p - 1 < 16 by omega),aB,h0,dY];by_cases hz:bu p (pn p - 1)=0
    ·simp[hz]
    ·have:¬ ((bu p (pn p - 1):Int)=0):=by omega
     simp only[this,aD,aE,hz,aL]
   ·have aj:¬ ((0:Int) < (pn p:Int)):=by omega
    simp only[aj,aD,aE,h0,gB,aL]
  ·rfl
 ·rfl
theorem DJ {S O:Type} (q:Nat->Bool) (g:Nat->S) (bad e:O):∀ (xs:List Nat) (i:Nat) (s:S),bn (fun _ s x=>if q x then .inl bad else .inr (g x)) (fun _=>e) i xs s=if xs.any q then bad else e
 | [],_,_=>rfl
 | x::xs,i,s=>by
  simp only[bn,fV];by_cases h:q x=true
  ·simp[h]
  ·simp[h,DJ q g bad e xs (i+1)]
def vE (p:List UInt8) (i t:Nat):List Bool:=(List.range 64).map fun j=>u9 p i j||decide (pat p i<=j/\j < pat p i+t)
def Ca (p:List UInt8) (i:Nat):Bool:=(List.range (bu p i)).any fun t=>u9 p i (pat p i+t)
theorem Sl (p:List UInt8) (i:Nat):vE p i 0=(List.range 64).map (u9 p i):=by
 unfold vE;refine List.map_congr_left fun j _=>?_;have:¬ (pat p i<=j/\j < pat p i+0):=by omega
 simp only[this,aD,Bool.or_false]
theorem Sm (p:List UInt8) (i:Nat):vE p i (bu p i)=(List.range 64).map (u9 p (i+1)):=rfl
theorem FI (p:List UInt8) (i t j:Nat) (h:j < 64):(vE p i t)[j]?=some (u9 p i j||decide (pat p i<=j/\j < pat p i+t)):=by
 unfold vE;simp[h]
theorem Cb (p:List UInt8) (i t:Nat):(vE p i t).length=64:=by simp[vE]
theorem Sn (p:List UInt8) (i t:Nat) (h:pat p i+t < 64):(vE p i t).set (pat p i+t) true=vE p i (t+1):=by
 refine fQ fun j=>?_;rw[fH,Cb];by_cases hj:j < 64
 ·rw[FI p i t j hj,FI p i (t+1) j hj];by_cases e:pat p i+t=j
  ·subst e;have:pat p i<=pat p i+t/\pat p i+t < pat p i+(t+1):=by omega
   simp[h,this]
  ·rw[bA e];have:(pat p i<=j/\j < pat p i+t)↔(pat p i<=j/\j < pat p i+(t+1)):=by omega
   simp only[this]
 ·have h1:(vE p i t)[j]?=none:=cW (by rw[Cb];omega);have h2:(vE p i (t+1))[j]?=none:=cW (by rw[Cb];omega);rw[h1,h2,bA (by omega)]
theorem LH {p:List UInt8}:∀ {k j:Nat},u9 p k j=true↔∃ i,i < k/\pat p i<=j/\j < pat p i+bu p i
 | 0,j=>by simp[u9]
 | k+1,j=>by
  simp only[u9,cX,bO,LH (k:=k)];constructor
  ·rintro (⟨i,h1,h2⟩ | h)
   ·exact ⟨i,by omega,h2⟩
   ·exact ⟨k,by omega,h⟩
  ·rintro ⟨i,h1,h2⟩;by_cases e:i=k
   ·subst e;exact .inr h2
   ·exact .inl ⟨i,by omega,h2⟩
theorem PV (p:List UInt8) (i:Nat):Ca p i=!(List.range i).all (rf p i):=by
 rw[fB];simp only[Ca,fZ,dF,LH,cM,List.all_eq_false,Bool.not_eq_true];constructor
 ·rintro ⟨t,ht,k,hk,h1,h2⟩;refine ⟨k,hk,?_⟩
  cases h:rf p i k with
  | false=>rfl
  | true=>have:=yE.1 h (by omega) (by omega);omega
 ·rintro ⟨k,hk,h⟩;have hn:¬ (bu p i≠0->bu p k≠0->pat p i+bu p i<=pat p k\/pat p k+bu p k<=pat p i):=fun h2=>by rw[yE.2 h2] at h;cases h
  by_cases c1:bu p i=0
  ·exact absurd (fun h=>absurd c1 h) hn
  ·by_cases c2:bu p k=0
   ·exact absurd (fun _ h=>absurd c2 h) hn
   ·have c3:¬ (pat p i+bu p i<=pat p k):=fun h3=>hn fun _ _=>.inl h3;have c4:¬ (pat p k+bu p k<=pat p i):=fun h3=>hn fun _ _=>.inr h3;exact ⟨max (pat p i) (pat p k) - pat p i,by omega,k,hk,by omega,by omega⟩
theorem Uh (p:List UInt8) (n:Nat):(List.range n).any (Ca p)=!(List.range n).all (fun i=>(List.range i).all (rf p i)):=by
 rw[List.not_all_eq_any_not];congr 1;funext i;exact PV p i
theorem MW (p:List UInt8) (hl:p.length<=maxLen):bm.aa (p,())=some (wH p,()):=by
 refine ah (k:=300) fun k hk=>(bm.ae k _).trans ?_;unfold bm.p wH;have e0:decide ((p.length:Int)=64)=decide (p.length=64):=by rw[cK];omega
 rw[e0];by_cases hp:p.length=64;rotate_left
 ·simp only[hp,aD,aV,aJ,aL]
 have hn:pn p < 256:=nA p 0;have vf:ns p < 256:=nA p 1;have hw:af ((2:Int)+af ((2:Int)*(pn p:Int)))=((2+2*pn p:Nat):Int):=VL (by omega);have QD:((p[1]'(by omega)).toNat)=ns p:=(kG (show 1 < p.length by omega)).2;have hwl:af (ns p:Int)=(ns p:Int):=CM p 1;simp only[hp,aC,aO,aE,j9 (show 1 < p.length by omega),QD,hwl,Ak hp,aB,hw,aI];by_cases c1:pn p<=16;rotate_left
 ·have:((16:Int) < (pn p:Int)):=by omega
  simp only[this,aC,aJ,c1,gB,aL]
 have n1:¬ ((16:Int) < (pn p:Int)):=by omega
 simp only[n1,aD,aE,c1,dY];by_cases c2:2+2*pn p<=ns p;rotate_left
 ·have:((ns p:Int) < ((2+2*pn p:Nat):Int)):=by omega
  simp only[this,aC,aJ,c2,gB,aL]
 have n2:¬ ((ns p:Int) < ((2+2*pn p:Nat):Int)):=by omega
 simp only[n2,aD,aE,c2,dY];by_cases c3:ns p<=64;rotate_left
 ·have:((64:Int) < (ns p:Int)):=by omega
  simp only[this,aC,aJ,c3,aL]
 have n3:¬ ((64:Int) < (ns p:Int)):=by omega
 simp only[n3,aD,aE,c3,aI]
 have first:bm.r0 k (p,()) (pn p:Int) (ns p:Int) (0:Int)=if (List.range (pn p)).all (vw p) then bm.Q0 k (p,()) (pn p:Int) (ns p:Int) () else some ((3:Int),()):=by
  have:=eb (B:=fun self v=>bm.b0 self (fun z=>bm.Q0 k (p,()) (pn p:Int) (ns p:Int) z) (p,()) (pn p:Int) (ns p:Int) v) (List.range (pn p)) (fun (_:Unit) (i:Int)=>i) (fun _ _ x=>if vw p x then .inr () else .inl (some ((3:Int),()))) (fun _=>bm.Q0 k (p,()) (pn p:Int) (ns p:Int) ()) (fun _ _=>True) (by rw[ai,bX];omega)
   (fun i hi s self _=>by
    rw[bX] at hi;show bm.b0 _ _ _ _ _ _=_;unfold bm.b0;have aj:(i:Int) < (pn p:Int):=by omega
    have h1:pat p i < 256:=nA p _;have h2:bu p i < 256:=nA p _;have wr:af ((pat p i:Int)+(bu p i:Int))=((pat p i+bu p i:Nat):Int):=by rw[bt (by omega)];omega
    simp only[aj,aC,aJ,FH hp (show i < 16 by omega),aB,eC,wr];have e1:decide ((pat p i:Int)=0)=decide (pat p i=0):=by rw[cK];omega
    have e2:decide ((bu p i:Int)=0)=decide (bu p i=0):=by rw[cK];omega
    have e4:decide ((pat p i:Int) < (ns p:Int))=decide (pat p i < ns p):=by rw[cK];omega
    have e5:decide ((64:Int) < ((pat p i+bu p i:Nat):Int))=decide (64 < pat p i+bu p i):=by rw[cK];omega
    rw[e1,e2,e4,e5];unfold vw;by_cases d1:pat p i=0
    ·by_cases d2:bu p i=0
     ·simp[d1,d2]
     ·have:¬ (0=bu p i):=fun e=>d2 e.symm;simp[d1,d2,this]
    ·by_cases d2:bu p i=0
     ·simp[d1,d2]
     ·by_cases d3:pat p i < ns p
      ·have Yt:¬ (ns p<=pat p i):=by omega
       simp[d1,d2,d3,Yt]
      ·by_cases d4:64 < pat p i+bu p i
       ·have Yu:¬ (pat p i+bu p i<=64):=by omega
        simp[d1,d2,d3,d4,Yu]
       ·have Yt:ns p<=pat p i:=by omega
        have Yu:pat p i+bu p i<=64:=by omega
        simp[d1,d2,d3,d4,Yt,Yu])
   (fun _ _ _ _ _ _=>trivial) (fun s self _=>by
    rw[bX];show bm.b0 _ _ _ _ _ _=_;unfold bm.b0
    simp only[bC,aD,aE]) () trivial k (by rw[bX];omega)
  rw[tK] at this;exact this
 rw[first];by_cases oq:(List.range (pn p)).all (vw p)=true;rotate_left
 ·simp only[oq,aG,aL]
 simp only[oq,aI];have hs:∀ i,i < pn p->bu p i≠0->ns p<=pat p i/\pat p i+bu p i<=64:=fun i hi=>((DH (by omega)).1 (cC.1 oq i (dF.2 hi))).1
 have inner:∀ (self:((List UInt8)×Int×(List Bool)×Int×Int)->Option bm.Out) (e2:((List UInt8)×Int)->Option bm.Out) (i:Nat) (hi:i < pn p),bm.r2 k self e2 (p,()) p (pn p:Int) (pat p i:Int) (bu p i:Int) (pn p:Int) (i:Int) ((List.range 64).map (u9 p i),(pat p i:Int))=if Ca p i then some ((8:Int),()) else self (p,(pn p:Int),(List.range 64).map (u9 p (i+1)),(pn p:Int),af ((i:Int)+1)):=fun self e2 i hi=>by
  have h1:pat p i < 256:=nA p _;have h2:bu p i < 256:=nA p _;have wr:af ((pat p i:Int)+(bu p i:Int))=((pat p i+bu p i:Nat):Int):=by rw[bt (by omega)];omega
  have:=eb (B:=fun fl v=>bm.b2 fl (fun z=>bm.q1 self e2 (p,()) p (pn p:Int) (pat p i:Int) (bu p i:Int) (pn p:Int) (i:Int) z) (p,()) p (pn p:Int) (pat p i:Int) (bu p i:Int) (pn p:Int) (i:Int) v) (List.range (bu p i)) (fun (s:List Bool) (t:Int)=>(s,(pat p i:Int)+t)) (fun _ s t=>if u9 p i (pat p i+t) then .inl (some ((8:Int),())) else .inr (vE p i (t+1))) (fun _=>self (p,(pn p:Int),(List.range 64).map (u9 p (i+1)),(pn p:Int),af ((i:Int)+1))) (fun t s=>s=vE p i t) (by rw[ai,bX];omega)
   (fun t ht s fl hI=>by
    rw[bX] at ht;subst hI;obtain ⟨g1,g2⟩:=hs i hi (by omega);show bm.b2 _ _ _ _ _ _ _ _ _ _=_;unfold bm.b2;have aj:(pat p i:Int)+(t:Int) < ((pat p i+bu p i:Nat):Int):=by omega
    have DK:(0:Int)<=(pat p i:Int)+(t:Int):=by omega
    have hlen:(pat p i:Int)+(t:Int) < ((vE p i t).length:Int):=by rw[Cb];omega
    have RS:((pat p i:Int)+(t:Int)).toNat=pat p i+t:=by omega
    have Tl:¬ (pat p i<=pat p i+t/\pat p i+t < pat p i+t):=by omega
    have hwt:af ((pat p i:Int)+(t:Int)+1)=(pat p i:Int)+af ((t:Int)+1):=by rw[bt (by omega),bt (by omega)];omega
    simp only[wr,aj,aC,aJ,DK,hlen,cU,aI,RS,FI p i t (pat p i+t) (by omega),Tl,aD,Bool.or_false,aB,eC,Sn p i t (by omega),hwt]
    cases u9 p i (pat p i+t) <;> rfl)
   (fun t ht s s' hI hf=>by
    simp only[eC] at hf;split at hf
    ·cases hf
    ·injection hf with hf;exact hf.symm) (fun s fl hI=>by
    rw[bX] at hI ⊢;show bm.b2 _ _ _ _ _ _ _ _ _ _=_;unfold bm.b2;have aj:¬ ((pat p i:Int)+(bu p i:Int) < ((pat p i+bu p i:Nat):Int)):=by omega
    simp only[wr,aj,aD,aE];rw[hI,Sm]
    rfl) (vE p i 0) rfl k (by rw[bX];omega)
  rw[DJ] at this;rw[<-Sl];simp only[Int.add_zero] at this;exact this
 have outer:bm.r1 k (p,()) (pn p:Int) (ns p:Int) (p,(pn p:Int),List.replicate 64 false,(pn p:Int),(0:Int))=if (List.range (pn p)).any (Ca p) then some ((8:Int),()) else bm.q2 (p,()) (p,(pn p:Int)):=by
  have:=eb (B:=fun self v=>bm.B1 k self (fun z=>bm.q2 (p,()) z) (p,()) v) (List.range (pn p)) (fun (s:List Bool) (i:Int)=>(p,(pn p:Int),s,(pn p:Int),i)) (fun _ s x=>if Ca p x then .inl (some ((8:Int),())) else .inr ((List.range 64).map (u9 p (x+1)))) (fun _=>bm.q2 (p,()) (p,(pn p:Int))) (fun i s=>s=(List.range 64).map (u9 p i)) (by rw[ai,bX];omega)
   (fun i hi s self hI=>by
    rw[bX] at hi;subst hI;show bm.b1 _ _ _ _ _=_;unfold bm.b1;have aj:(i:Int) < (pn p:Int):=by omega
    simp only[aj,aC,aJ,FH hp (show i < 16 by omega),aB,inner self _ i hi,eC]
    cases Ca p i <;> rfl)
   (fun i hi s s' hI hf=>by
    simp only[eC] at hf;split at hf
    ·cases hf
    ·injection hf with hf;exact hf.symm) (fun s self _=>by
    rw[bX];show bm.b1 _ _ _ _ _=_;unfold bm.b1
    simp only[bC,aD,aE]) (List.replicate 64 false) (by show _=(List.range 64).map (fun _=>false);decide) k (by rw[bX];omega)
  rw[DJ] at this;exact this
 show bm.q0 _ _ _ _ _=_;unfold bm.q0;rw[outer,Uh];by_cases Rf:(List.range (pn p)).all (fun i=>(List.range i).all (rf p i))=true;rotate_left
 ·simp only[Rf,aV,aI,aG,aL]
 simp only[Rf,aO,aG,aL,aI];show bm.q2 _ _=_;unfold bm.q2;by_cases h0:0 < pn p
 ·have aj:(0:Int) < (pn p:Int):=by omega
  have Ys:af (af ((2:Int)*(pn p:Int))+1)=((2*pn p+1:Nat):Int):=by rw[bt (n:=(2:Int)*(pn p:Int)) (by omega),bt (by omega)];omega
  have hz:((p[2*pn p+1]'(by omega)).toNat)=bu p (pn p - 1):=by
   rw[(kG (show 2*pn p+1 < p.length by omega)).2];show pb p _=pb p _;congr 1;omega
  simp only[aj,aC,aJ,Ys,aK,aI,aH,j9 (show 2*pn p+1 < p.length by omega),hz,h0,dY];by_cases hz:bu p (pn p - 1)=0
  ·simp[hz]
  ·have:¬ ((bu p (pn p - 1):Int)=0):=by omega
   simp only[this,aD,aE,hz,aL]
 ·have aj:¬ ((0:Int) < (pn p:Int)):=by omega
  simp only[aj,aD,aE,h0,gB,aL]
end OT
namespace OT
open Go
theorem yF {V S O:Type} {B:(V->Option O)->V->Option O} (n:Nat) (enc:S->Int->V) (f:Nat->S->Sum (Option O) S) (fin:S->Option O) (I:Nat->S->Prop) (hn:n<=1048576)
  (jd:∀ (i:Nat),i < n->∀ (s:S) self,I i s->B self (enc s (i:Int))=match f i s with | .inl o=>o | .inr s'=>self (enc s' (af ((i:Int)+1))))
  (hI:∀ (i:Nat),i < n->∀ (s s':S),I i s->f i s=.inr s'->I (i+1) s')
  (ld:∀ (s:S) self,I n s->B self (enc s (n:Int))=fin s) (s:S) (h0:I 0 s) (k:Nat) (hk:n < k):aq B k (enc s 0)=bn (fun _ s x=>f x s) fin 0 (List.range n) s:=
 eb (List.range n) enc (fun _ s x=>f x s) fin I (by rw[ai,bX];omega)
  (fun i hi s self h=>by rw[bX] at hi;simp only[eC];exact jd i hi s self h)
  (fun i hi s s' h hf=>by rw[bX] at hi;simp only[eC] at hf;exact hI i hi s s' h hf)
  (fun s self h=>by rw[bX] at h ⊢;exact ld s self h) s h0 k (by rw[bX];exact hk)
theorem Cc {O α β:Type} (g:α->List β) (fin:List β->O):∀ (xs:List α) (i:Nat) (s:List β),bn (fun _ s x=>.inr (s++g x)) fin i xs s=fin (s++xs.flatMap g)
 | [],_,s=>by simp[bn]
 | x::xs,i,s=>by simp only[bn];rw[Cc g fin xs (i+1)];simp[bL]
abbrev AJ:Row:=((0:Int),(0:Int),(0:Int),([]:List UInt8),())
abbrev Et:rF:=((0:Int),(0:Int),(0:Int),(0:Int),AJ,())
abbrev Cd:rF:=((5:Int),(0:Int),(0:Int),(0:Int),AJ,())
def s9 (d:List UInt8):Row:=((pb d 1:Int),(pb d 2:Int),(pb d 3:Int)*256+(pb d 4:Int),d.drop 6,())
def ir (d:List UInt8):rF×Bool:=
 if d.length=3/\pb d 0=1 then (((0:Int),(1:Int),(pb d 1:Int),(pb d 2:Int),AJ,()),decide (pb d 1<=11)&&decide (pb d 2<=15))
 else if d.length < 6\/pb d 0=1\/2 < pb d 0\/d.length≠6+pb d 5 then (Et,false)
 else (((0:Int),(pb d 0:Int),(0:Int),(0:Int),s9 d,()),decide (nz (s9 d)=0))
theorem Ui {a b:Nat} (ha:a < 256) (hb:b < 256):((BitVec.ofInt 64 (af ((a:Int)*2 ^ 8)) ||| BitVec.ofInt 64 (b:Int)).toNat:Int)=(a:Int)*256+(b:Int):=by
 have e1:af ((a:Int)*2 ^ 8)=((2 ^ 8*a:Nat):Int):=by rw[bt (by omega)];omega
 rw[e1,BitVec.toNat_or]
 have e2:(BitVec.ofInt 64 ((2 ^ 8*a:Nat):Int)).toNat=2 ^ 8*a:=by
  rw[gH];omega
 have e3:(BitVec.ofInt 64 (b:Int)).toNat=b:=by
  rw[gH];omega
 rw[e2,e3,<- Nat.two_pow_add_eq_or_of_lt (by omega) a];omega
theorem zJ (d:List UInt8) (hd:d.length<=100):mh.aa (d,())=some ((ir d).1,(ir d).2,()):=by
 refine ah (k:=0) fun k _=>(mh.ae k _).trans ?_;show mh.p _=_;unfold mh.p ir;have b0:=nA d 0;have b1:=nA d 1;have b2:=nA d 2;have b3:=nA d 3;have b4:=nA d 4;have b5:=nA d 5;by_cases h3:d.length=3
 ·have e3:decide ((d.length:Int)=3)=true:=cG (by omega);have e6:decide ((d.length:Int) < 6)=true:=cG (by omega);have Yv:d.length < 6:=by omega
  simp only[e3,e6,aJ,j9 (show 0 < d.length by omega),(kG (show 0 < d.length by omega)).2];by_cases h1:pb d 0=1
  ·have e1:decide ((pb d 0:Int)=1)=true:=cG (by omega);rw[aU ⟨h3,h1⟩];simp only[e1,aJ,j9 (show 1 < d.length by omega),(kG (show 1 < d.length by omega)).2,j9 (show 2 < d.length by omega),(kG (show 2 < d.length by omega)).2,CM]
   have ip:p8.aa ((pb d 1:Int),(pb d 2:Int),())=some (decide (pb d 1<=11)&&decide (pb d 2<=15),()):=by
    refine ah (k:=0) fun k _=>(p8.ae k _).trans ?_;show p8.p _=_;unfold p8.p;simp only[nq,aB];have g1:decide ((0:Int)<=(pb d 1:Int))=true:=cG (by omega);have g2:decide ((0:Int)<=(pb d 2:Int))=true:=cG (by omega);have g3:decide ((pb d 1:Int)<=11)=decide (pb d 1<=11):=by rw[cK];omega
    have g4:decide ((pb d 2:Int)<=15)=decide (pb d 2<=15):=by rw[cK];omega
    rw[g1,g2,g3,g4];cases decide (pb d 1<=11) <;> rfl
   simp only[ip,aB]
  ·have e1:decide ((pb d 0:Int)=1)=false:=cA (by omega);rw[bA (fun h=>h1 h.2),aU (Or.inl Yv)];simp only[e1,aE]
 ·have e3:decide ((d.length:Int)=3)=false:=cA (by omega);simp only[e3,aE,h3,gB,aL];by_cases h6:d.length < 6
  ·have e6:decide ((d.length:Int) < 6)=true:=cG (by omega);simp only[e6,aJ,h6,jO,aI]
  ·have e6:decide ((d.length:Int) < 6)=false:=cA (by omega);simp only[e6,aE,j9 (show 0 < d.length by omega),(kG (show 0 < d.length by omega)).2,h6,jK];by_cases h1:pb d 0=1
   ·have e1:decide ((pb d 0:Int)=1)=true:=cG (by omega);rw[aU (Or.inl h1)];simp only[e1,aJ]
   have e1:decide ((pb d 0:Int)=1)=false:=cA (by omega);simp only[e1,aE,h1,jK];by_cases h2:2 < pb d 0
   ·have e2:decide ((2:Int) < (pb d 0:Int))=true:=cG (by omega);simp only[e2,aJ,h2,jO,aI]
   have e2:decide ((2:Int) < (pb d 0:Int))=false:=cA (by omega);have w6:af ((6:Int)+(pb d 5:Int))=((6+pb d 5:Nat):Int):=by rw[bt (by omega)];omega
   simp only[e2,aE,h2,jK,j9 (show 5 < d.length by omega),(kG (show 5 < d.length by omega)).2,CM,w6];by_cases h5:d.length=6+pb d 5;rotate_left
   ·have e5:decide ((d.length:Int)=((6+pb d 5:Nat):Int))=false:=cA (by omega);simp only[e5,aV,aJ,h5,ne_eq,eV,aI]
   have e5:decide ((d.length:Int)=((6+pb d 5:Nat):Int))=true:=cG (by omega);have h6':(0:Int)<=6/\(6:Int)<=(d.length:Int):=by omega
   have w3:af (af ((pb d 3:Int)*256)+(pb d 4:Int))=(pb d 3:Int)*256+(pb d 4:Int):=by rw[bt (n:=(pb d 3:Int)*256) (by omega),bt (by omega)]
   have ht:(d.take d.length).drop 6=d.drop 6:=by rw[dV]
   have hr:jg.aa (s9 d,())=some (nz (s9 d),()):=yz (s9 d) (by rw[ai];simp only[s9,bI];omega);unfold s9 at hr;rw[bA (fun h=>h h5)]
   simp only[e5,aO,aE,j9 (show 1 < d.length by omega),(kG (show 1 < d.length by omega)).2,j9 (show 2 < d.length by omega),(kG (show 2 < d.length by omega)).2,
    j9 (show 3 < d.length by omega),(kG (show 3 < d.length by omega)).2,j9 (show 4 < d.length by omega),(kG (show 4 < d.length by omega)).2,CM,w3,ht,hr,aB]
   rw[aU (by omega)];rfl
theorem CN (d:List UInt8) (hd:d.length<=100):kx.aa (d,())=some (if (ir d).2 then (ir d).1 else Cd,()):=by
 refine ah (k:=0) fun k _=>(kx.ae k _).trans ?_;show kx.p _=_;unfold kx.p;have b0:=nA d 0;have b1:=nA d 1;have b2:=nA d 2;have b3:=nA d 3;have b4:=nA d 4;have b5:=nA d 5;by_cases h3:d.length=3
 ·have e3:decide ((d.length:Int)=3)=true:=cG (by omega);have e6:decide ((d.length:Int) < 6)=true:=cG (by omega);have Yv:d.length < 6:=by omega
  simp only[e3,e6,aJ,j9 (show 0 < d.length by omega),(kG (show 0 < d.length by omega)).2];by_cases h1:pb d 0=1
  ·have e1:decide ((pb d 0:Int)=1)=true:=cG (by omega);have hc:ir d=(((0:Int),(1:Int),(pb d 1:Int),(pb d 2:Int),AJ,()),decide (pb d 1<=11)&&decide (pb d 2<=15)):=by unfold ir;rw[aU ⟨h3,h1⟩]
   rw[hc];simp only[e1,aJ,j9 (show 1 < d.length by omega),(kG (show 1 < d.length by omega)).2,j9 (show 2 < d.length by omega),(kG (show 2 < d.length by omega)).2,CM];by_cases c1:pb d 1<=11
   ·have d1:decide ((pb d 1:Int) < 12)=true:=cG (by omega);by_cases c2:pb d 2<=15
    ·have d2:decide ((pb d 2:Int) < 16)=true:=cG (by omega);simp[d1,d2,c1,c2]
    ·have d2:decide ((pb d 2:Int) < 16)=false:=cA (by omega);simp[d1,d2,c1,c2]
   ·have d1:decide ((pb d 1:Int) < 12)=false:=cA (by omega);simp[d1,c1]
  ·have e1:decide ((pb d 0:Int)=1)=false:=cA (by omega);have hc:ir d=(Et,false):=by unfold ir;rw[bA (fun h=>h1 h.2),aU (Or.inl Yv)]
   rw[hc];simp only[e1,aE,aG,aL]
 ·have e3:decide ((d.length:Int)=3)=false:=cA (by omega);simp only[e3,aE];by_cases h6:d.length < 6
  ·have e6:decide ((d.length:Int) < 6)=true:=cG (by omega);have hc:ir d=(Et,false):=by unfold ir;rw[bA (fun h=>h3 h.1),aU (Or.inl h6)]
   rw[hc];simp only[e6,aJ,aG,aL]
  ·have e6:decide ((d.length:Int) < 6)=false:=cA (by omega)
   have hc:ir d=if pb d 0=1\/2 < pb d 0\/d.length≠6+pb d 5 then (Et,false) else (((0:Int),(pb d 0:Int),(0:Int),(0:Int),s9 d,()),decide (nz (s9 d)=0)):=by
    unfold ir;rw[bA (fun h=>h3 h.1)];simp only[h6,jK]
   have hlen:∀ i,i < 6->i < d.length:=fun i hi=>by omega
   have w6:af ((6:Int)+(pb d 5:Int))=((6+pb d 5:Nat):Int):=by rw[bt (by omega)];omega
   have h6':(0:Int)<=6/\(6:Int)<=(d.length:Int):=by omega
   have w3:af ((BitVec.ofInt 64 (af ((pb d 3:Int)*2 ^ 8)) ||| BitVec.ofInt 64 (pb d 4:Int)).toNat:Int)=(pb d 3:Int)*256+(pb d 4:Int):=by rw[Ui b3 b4,bt (by omega)]
   have ht:(d.take d.length).drop 6=d.drop 6:=by rw[dV]
   have hr:dp.aa (s9 d,())=some (nz (s9 d),()):=yA (s9 d) (by rw[ai];simp only[s9,bI];omega);unfold s9 at hr
   simp only[e6,aE,j9 (show 0 < d.length by omega),(kG (show 0 < d.length by omega)).2,j9 (show 5 < d.length by omega),(kG (show 5 < d.length by omega)).2,j9 (show 1 < d.length by omega),(kG (show 1 < d.length by omega)).2,j9 (show 2 < d.length by omega),(kG (show 2 < d.length by omega)).2,
    j9 (show 3 < d.length by omega),(kG (show 3 < d.length by omega)).2,j9 (show 4 < d.length by omega),(kG (show 4 < d.length by omega)).2,CM,w6,h6'.2,show (0:Int)<=6 by omega,cU,aI,w3,ht,hr,aB]
   have e5:decide ((d.length:Int)=((6+pb d 5:Nat):Int))=decide (d.length=6+pb d 5):=by rw[cK];omega
   have e0:decide ((pb d 0:Int)=0)=decide (pb d 0=0):=by rw[cK];omega
   have e2:decide ((pb d 0:Int)=2)=decide (pb d 0=2):=by rw[cK];omega
   rw[e5,e0,e2]
   have fin:∀ (c5:d.length=6+pb d 5) (c0:¬ (pb d 0=1\/2 < pb d 0\/d.length≠6+pb d 5)),(bif !decide (nz ((pb d 1:Int),(pb d 2:Int),(pb d 3:Int)*256+(pb d 4:Int),d.drop 6,())=0) then some (Cd,()) else some (((0:Int),(pb d 0:Int),(0:Int),(0:Int),((pb d 1:Int),(pb d 2:Int),(pb d 3:Int)*256+(pb d 4:Int),d.drop 6,()),()),()))=some (if (ir d).2 then (ir d).1 else Cd,()):=fun c5 c0=>by
    rw[hc,bA c0];show (bif !decide (nz (s9 d)=0) then some (Cd,()) else some (((0:Int),(pb d 0:Int),(0:Int),(0:Int),s9 d,()),()))=some (if decide (nz (s9 d)=0)=true then ((0:Int),(pb d 0:Int),(0:Int),(0:Int),s9 d,()) else Cd,());cases decide (nz (s9 d)=0) <;> rfl
   have bad:(pb d 0=1\/2 < pb d 0\/d.length≠6+pb d 5)->(some (Cd,()):Option kx.Out)=some (if (ir d).2 then (ir d).1 else Cd,()):=fun h=>by
    rw[hc,aU h];rfl
   by_cases c5:d.length=6+pb d 5
   ·rw[cG c5];by_cases c0:pb d 0=0
    ·rw[cG c0];exact fin c5 (by omega)
    ·rw[cA c0];by_cases c2:pb d 0=2
     ·rw[cG c2];exact fin c5 (by omega)
     ·rw[cA c2];exact bad (by omega)
   ·rw[cA c5];have hb:=bad (.inr (.inr c5));cases decide (pb d 0=0) <;> cases decide (pb d 0=2) <;> exact hb
section
variable {p:List UInt8} (hp:rR p)
include hp
theorem G8 (s:Nat):np.aa (p,(s:Int),())=some (decide (s < pn p)&&!decide (bu p s=0),()):=by
 refine ah (k:=0) fun k _=>(np.ae k _).trans ?_;show np.p _=_;unfold np.p;have h0:(0:Int)<=(s:Int):=by omega
 have hn:=hp.n;have hl:=hp.len;simp only[h0,aC,aJ,Ak hl,aB];by_cases hs:s < pn p
 ·have e1:(s:Int) < (pn p:Int):=by omega
  have e2:decide ((bu p s:Int)=0)=decide (bu p s=0):=by rw[cK];omega
  have e3:(p[3+2*s]'(by omega)).toNat=bu p s:=(kG (show 3+2*s < p.length by omega)).2;simp only[e1,hs,aC,aJ,Yr (show s < 1000 by omega),aK,aI,aH,j9 (show 3+2*s < p.length by omega),e3,e2,eG]
 ·have e1:¬ ((s:Int) < (pn p:Int)):=by omega
  simp only[e1,hs,aD,aE,iI]
theorem PW (s:Nat):rK.aa (p,(s:Int),())=some (decide (s < pn p)&&!decide (bu p s=0),()):=by
 refine ah (k:=0) fun k _=>(rK.ae k _).trans ?_;show rK.p _=_;unfold rK.p;have hn:=hp.n;have hl:=hp.len;have hw:af ((pn p:Int) - 1)=(pn p:Int) - 1:=bt (by omega);have h0:decide ((0:Int)<=(s:Int))=true:=cG (by omega);have h1:decide ((s:Int)<=(pn p:Int) - 1)=decide (s < pn p):=by rw[cK];omega
 simp only[vW hl,aB,hw,nq,h0,h1,eG];by_cases hs:s < pn p
 ·have e2:decide ((0:Int) < (bu p s:Int))=!decide (bu p s=0):=by
   by_cases hz:bu p s=0
   ·simp[hz]
   ·have:(0:Int) < (bu p s:Int):=by omega
    rw[cG this,cA hz];rfl
  simp only[hs,aC,aJ,uw hl (show s < 16 by omega),aB,e2,eG]
 ·simp only[hs,aD,aE,iI]
theorem Ii {s:Nat} (hs:s < pn p):pat p s+bu p s<=64:=by
 by_cases hz:bu p s=0
 ·have:=hp.zero s hs hz;omega
 ·exact (hp.slot s hs hz).2
theorem CO {s:Nat} (hs:s < pn p):nS.aa (p,(s:Int),())=some (kU p s,()):=by
 refine ah (k:=0) fun k _=>(nS.ae k _).trans ?_;show nS.p _=_;unfold nS.p kU;have hn:=hp.n;have hl:=hp.len;have hc:=Ii hp hs;have hw:af ((pat p s:Int)+(bu p s:Int))=((pat p s+bu p s:Nat):Int):=by rw[bt (by omega)];omega
 have hb:(0:Int)<=(pat p s:Int)/\(pat p s:Int)<=((pat p s+bu p s:Nat):Int)/\((pat p s+bu p s:Nat):Int)<=(p.length:Int):=by omega
 simp only[FH hl (show s < 16 by omega),aB,hw];rw[aU hb];simp only[aH,eO];rw[show pat p s+bu p s - pat p s=bu p s by omega]
theorem xZ {s:Nat} (hs:s < pn p):mi.aa (p,(s:Int),())=some (kU p s,()):=by
 refine ah (k:=0) fun k _=>(mi.ae k _).trans ?_;show mi.p _=_;unfold mi.p kU;have hn:=hp.n;have hl:=hp.len;have hc:=Ii hp hs;have hw:af ((pat p s:Int)+(bu p s:Int))=((pat p s+bu p s:Nat):Int):=by rw[bt (by omega)];omega
 have hb:(0:Int)<=(pat p s:Int)/\(pat p s:Int)<=((pat p s+bu p s:Nat):Int)/\((pat p s+bu p s:Nat):Int)<=(p.length:Int):=by omega
 simp only[Al hl (show s < 16 by omega),uw hl (show s < 16 by omega),aB,hw];rw[aU hb,aU (da (by simp only[bB,bI,bQ];omega))];simp only[aH,eO,bP];rw[show pat p s+bu p s - pat p s=bu p s by omega]
end
theorem vn {p:List UInt8} (hp:rR p) {s:Nat} (hs:s < pn p):(kU p s).length<=64:=by
 have:=Aj hp hs;have:=Ii hp hs;omega
end OT
namespace OT
open Go
theorem LI {α β O:Type} [DecidableEq β] (g:α->Option β) (bad:O) (fin:Unit->O) (p:α->α->Bool) (hp:∀ x y,p x y=true↔∃ b,g x=some b/\g y=some b) (all:List α):∀ (xs pre:List α),all=pre++xs->(pre.filterMap g).Nodup->bn (fun i _ x=>if (all.take i).any (p x) then .inl bad else .inr ()) fin pre.length xs ()=if (all.filterMap g).Nodup then fin () else bad
 | [],pre,h,hn=>by
  rw[cH] at h;subst h;simp only[bn,hn,aI]
 | x::xs,pre,h,hn=>by
  have ht:all.take pre.length=pre:=by rw[h];exact List.take_left
  simp only[bn,ht];have pD:all.filterMap g=pre.filterMap g++([x].filterMap g++xs.filterMap g):=by rw[h,<- iM (x:=x),cT,cT]
  cases hc:pre.any (p x) with
  | true=>
   simp only[aI];obtain ⟨y,hy,hpy⟩:=fZ.1 hc;obtain ⟨b,h1,h2⟩:=(hp x y).1 hpy;rw[bA];intro sF;rw[pD,fU] at sF;exact sF.2.2 b (jE.2 ⟨y,hy,h2⟩) b (by simp[h1]) rfl
  | false=>
   simp only[aG,aL]
   have:=LI g bad fin p hp all xs (pre++[x]) (by rw[h];simp) (by
    rw[cT,fU];refine ⟨hn,?_,fun a ha b hb e=>?_⟩
    ·cases hg:g x with
     | none=>simp[hg]
     | some b=>simp[hg]
    ·subst e;obtain ⟨y,hy,hgy⟩:=jE.1 ha;obtain ⟨z,hz,hgz⟩:=jE.1 hb;rw[bU] at hz;subst hz;have:pre.any (p z)=true:=fZ.2 ⟨y,hy,(hp z y).2 ⟨a,hgz,hgy⟩⟩
     rw[this] at hc;cases hc)
   rw[aS] at this;exact this
theorem DL {α β O:Type} [DecidableEq β] (g:α->Option β) (bad:O) (fin:Unit->O) (p:α->α->Bool) (hp:∀ x y,p x y=true↔∃ b,g x=some b/\g y=some b) (xs:List α):bn (fun i _ x=>if (xs.take i).any (p x) then .inl bad else .inr ()) fin 0 xs ()=if (xs.filterMap g).Nodup then fin () else bad:=
 LI g bad fin p hp xs xs [] rfl iG
theorem CP {α:Type} {lt:α->α->Prop} (has:∀ a b,lt a b->¬ lt b a):∀ (xs ys:List α),xs.Perm ys->xs.Pairwise lt->ys.Pairwise lt->xs=ys
 | [],ys,h,_,_=>(List.nil_perm.1 h).symm
 | x::xs,[],h,_,_=>by have:=h.length_eq;cases this
 | x::xs,y::ys,h,h1,h2=>by
  obtain ⟨a1,a2⟩:=eB.1 h1;obtain ⟨b1,b2⟩:=eB.1 h2;by_cases yd:x=y
  ·subst yd;rw[CP has xs ys ((List.perm_cons x).1 h) a2 b2]
  ·have hx:x ∈ ys:=by
    have:=h.mem_iff.1 (bG (a:=x) (l:=xs));rcases aY.1 this with e | e
    ·exact absurd e yd
    ·exact e
   have hy:y ∈ xs:=by
    have:=h.mem_iff.2 (bG (a:=y) (l:=ys));rcases aY.1 this with e | e
    ·exact absurd e.symm yd
    ·exact e
   exact absurd (b1 x hx) (has _ _ (a1 y hy))
theorem IZ (xs:List Row) (r:Row):(my xs r).Perm (r::xs):=by
 unfold my;rw[bL];have:=gC (a:=r) (l₁:=xs.take (pos xs (rk r))) (l₂:=xs.drop (pos xs (rk r)));rw[cQ] at this;exact this
theorem N6 {xs:List Row} {k:Int×Int} {x:Row} (hu:up xs) (h:x ∈ xs.drop (pos xs k)):bi (rk x) k=false:=by
 obtain ⟨i,hi,e⟩:=dD.1 h;rw[bI] at hi;rw[jJ] at e;rw[<-e];exact wD xs k _ _ hu (by omega)
theorem Wz {xs:List Row} {r:Row} (hu:up xs) (hn:∀ x ∈ xs,rk x≠rk r):up (my xs r):=by
 unfold my up;rw[bL,eZ];have hd:=hu.drop (i:=pos xs (rk r));refine ⟨hu.take,?_,fun a ha b hb=>?_⟩
 ·rw[iM,eB];refine ⟨fun b hb=>?_,hd⟩
  have h1:=N6 hu hb;have h2:=hn b (dG hb)
  cases h3:bi (rk r) (rk b) with
  | true=>rfl
  | false=>exact absurd (r_ h1 h3) h2
 ·have h1:=zG ha;rw[iM] at hb;rcases aY.1 hb with e | e
  ·subst e;exact h1
  ·have h2:=N6 hu e;have h3:=hn b (dG e)
   cases h4:bi (rk a) (rk b) with
   | true=>rfl
   | false=>
    cases h5:bi (rk b) (rk a) with
    | true=>rw[oV h5 h1] at h2;cases h2
    | false=>
     have:=r_ h4 h5;rw[this] at h1;rw[h1] at h2;cases h2
def G9 (l:List Row):List Row:=l.foldl my []
theorem G_:∀ (l acc:List Row),(l.foldl my acc).Perm (l++acc)
 | [],acc=>gU _
 | r::l,acc=>by
  have h1:=G_ l (my acc r);have h2:(l++my acc r).Perm (l++r::acc):=(gU l).append (IZ acc r);exact h1.trans (h2.trans gC)
theorem PX (l:List Row):(G9 l).Perm l:=by
 have:=G_ l [];rw[cH] at this;exact this
theorem LJ:∀ (l acc:List Row),up acc->(l.map rk++acc.map rk).Nodup->up (l.foldl my acc)
 | [],acc,h,_=>h
 | r::l,acc,h,hn=>by
  simp only[cR,cO,dU,cJ,not_or] at hn;refine LJ l (my acc r) (Wz h fun x hx e=>hn.1.2 (fT.2 ⟨x,hx,e⟩)) ?_
  have:(l.map rk++(my acc r).map rk).Perm (rk r::(l.map rk++acc.map rk)):=by
   refine ((gU _).append ((IZ acc r).map rk)).trans ?_;rw[cR];exact gC
  rw[this.nodup_iff,dU,cJ,not_or];exact hn
theorem LK {l:List Row} (h:(l.map rk).Nodup):up (G9 l):=LJ l [] List.Pairwise.nil (by simpa using h)
theorem Uj {a b:Int×Int} (h:bi a b=true):¬ bi b a=true:=by rw[vU h];exact fun h=>by cases h
theorem Uk {xs:List Row} (h:up xs):(xs.map rk).Nodup:=by
 unfold List.Nodup;rw[gQ];refine h.imp fun h1 e=>?_;rw[e,jU] at h1;cases h1
end OT
