/- The proof's parts, merged: Printed by px.py, a program of this claim  what the helpers of the laws compute.. No conditions but those that each states. -/
import Derived.Test.YtmkdchoeffoafaaGreatXf
set_option linter.unusedVariables false
set_option linter.unusedSimpArgs false
namespace OT
open Go
noncomputable def EK (n:Int):List UInt8:=((c8.aa (n,())).map (·.1)).getD []
theorem kV (n:Int) (h:n<=9223372036854775807):c8.aa (n,())=some (EK n,()):=by
 have main:∃ t,c8.aa (n,())=some (t,()):=by
  by_cases hn:n<=0
  ·refine ⟨[109,48],ah (k:=0) λk _=>(c8.ae k _).trans ?_⟩
   unfold c8.p;simp only[hn,aD,aJ]
   try rfl
  ·have key:∀ (f:Nat) (m:Int) (out:List UInt8),0<=m->m<=9223372036854775807->m < 10 ^ f->out.length+f<=100->∃ t,t.length<=100/\∀ k,f < k->ak (λself v=>c8.B0 0 self (λz=>c8.Q0 0 (n,()) z) (n,()) v) k (m,out)=some (109::t,()):=by
    intro f
    induction f with
    | zero=>
     intro m out h0 h9 h1 h2;have hm:m=0:=by simp at h1;omega
     subst hm;refine ⟨out,by omega,λk hk=>?_⟩
     cases k with
     | zero=>omega
     | succ k=>
      rw[uD];show c8.b0 _ _ _ _=_;unfold c8.b0 c8.Q0 c8.q0;have hc:([109]:List UInt8).length+out.length<=cc:=by simp only[cc,aO,bA];omega
      simp only[show ¬ ((0:Int) < 0) by omega,aC,aG,hc,aI];rfl
    | succ f ih=>
     intro m out h0 h9 h1 h2;by_cases hm:0 < m
     ·have hq0:0<=m.tdiv 10:=Int.tdiv_nonneg h0 (by omega)
      have hq:m.tdiv 10 < 10 ^ f:=by
       rw[fR h0];have:(10:Int) ^ (f+1)=10 ^ f*10:=Int.pow_succ 10 f;omega
      have hd:=Int.emod_nonneg m (b:=10) (by omega);have hd2:=Int.emod_lt_of_pos m (b:=10) (by omega);obtain ⟨t,t1,t2⟩:=ih (m.tdiv 10) ([UInt8.ofInt (af (48+m.tmod 10))]++out) hq0 (by rw[fR h0];omega) hq (by simp;omega);refine ⟨t,t1,λk hk=>?_⟩
      cases k with
      | zero=>omega
      | succ k=>
       rw[uD];show c8.b0 _ _ _ _=_;unfold c8.b0
       have hw:af (m.tdiv 10)=m.tdiv 10:=bf ⟨by omega,by
        rw[fR h0]
        omega⟩
       have hc:[UInt8.ofInt (af (48+m.tmod 10))].length+out.length<=cc:=by simp only[cc,aO,bA];omega
       simp only[hm,aD,aJ,hc,aI,hw];exact t2 k (by omega)
     ·have hm:m=0:=by omega
      subst hm;refine ⟨out,by omega,λk hk=>?_⟩
      cases k with
      | zero=>omega
      | succ k=>
       rw[uD];show c8.b0 _ _ _ _=_;unfold c8.b0 c8.Q0 c8.q0;have hc:([109]:List UInt8).length+out.length<=cc:=by simp only[cc,aO,bA];omega
       simp only[show ¬ ((0:Int) < 0) by omega,aC,aG,hc,aI];rfl
   obtain ⟨t,t1,t2⟩:=key 19 n [] (by omega) h (by omega) (by simp);refine ⟨109::t,ah (k:=20) λk hk=>(c8.ae k _).trans ?_⟩
   unfold c8.p;simp only[hn,aC,aG];exact t2 k (by omega)
 obtain ⟨t,ht⟩:=main;rw[ht];simp[EK,ht]
theorem Cu (x:List UInt8) (n:Int) (hx:sH (.U u8) x) (h0:0<=n) (h1:n<=1048576):nk.aa (x,n,())=some (il n (zz (.U u8) x),()):=Uo (e:=u8) (λ_=>rfl) (λx n k=>nk.ae k (x,n,())) x n hx h0 h1
theorem Nj (x:List (List UInt8)) (n:Int) (hx:sH (.U (.U u8)) x) (h0:0<=n) (h1:n<=1048576):rG.aa (x,n,())=some (il n (zz (.U (.U u8)) x),()):=YR (e:=(.U u8)) (f:=λa n=>nk.aa (a,n,())) (λx n k=>rG.ae k (x,n,())) Cu x n hx h0 h1
theorem UQ (x:Log) (n:Int) (hx:sH kg x) (h0:0<=n) (h1:n<=1048576):rR.aa (x,n,())=some (il n (zz kg x),()):=by
 have hz:zz kg x=(zz (.U u8) x.1+(zz (.U u8) x.2.1+0)):=rfl;refine ah (k:=0) λk _=>(rR.ae k _).trans ?_;show rR.p _=_;unfold rR.p;simp only[Cu x.1 (n) hx.1 (by omega) (by omega),aA];by_cases hc:((zz (.U u8) x.1:Nat):Int)<=n;rotate_left
 ·have e1:il (n) (zz (.U u8) x.1)=-1:=bB hc;have e2:il n (zz kg x)=-1:=bB (by omega);rw[e1,e2];rfl
 have e1:il (n) (zz (.U u8) x.1)=n - ((zz (.U u8) x.1:Nat):Int):=aV hc;have n1:¬ (n - ((zz (.U u8) x.1:Nat):Int) < 0):=by omega
 simp only[e1,n1,aC,aG];clear e1 n1;simp only[Cu x.2.1 ((n - ((zz (.U u8) x.1:Nat):Int))) hx.2.1 (by omega) (by omega),aA]
 by_cases hc:((zz (.U u8) x.2.1:Nat):Int)<=(n - ((zz (.U u8) x.1:Nat):Int))
 rotate_left
 ·have e1:il ((n - ((zz (.U u8) x.1:Nat):Int))) (zz (.U u8) x.2.1)=-1:=bB hc;have e2:il n (zz kg x)=-1:=bB (by omega);rw[e1,e2];rfl
 have e1:il ((n - ((zz (.U u8) x.1:Nat):Int))) (zz (.U u8) x.2.1)=(n - ((zz (.U u8) x.1:Nat):Int)) - ((zz (.U u8) x.2.1:Nat):Int):=aV hc;have n1:¬ ((n - ((zz (.U u8) x.1:Nat):Int)) - ((zz (.U u8) x.2.1:Nat):Int) < 0):=by omega
 simp only[e1,n1,aC,aG];clear e1 n1;have e2:il n (zz kg x)=((n - ((zz (.U u8) x.1:Nat):Int)) - ((zz (.U u8) x.2.1:Nat):Int)):=by unfold il;rw[aV (by omega)];omega
 rw[e2]
theorem LY (x:Row) (n:Int) (hx:sH ba x) (h0:0<=n) (h1:n<=1048576):qy.aa (x,n,())=some (il n (zz ba x),()):=by
 have hz:zz ba x=(0+(0+(0+(List.length x.2.2.2.1+0)))):=rfl;refine ah (k:=0) λk _=>(qy.ae k _).trans ?_;show qy.p _=_;unfold qy.p;have hw:af (n - (List.length x.2.2.2.1:Int))=n - (List.length x.2.2.2.1:Int):=bf (by have h9:=hx.2.2.2.1;simp only[sH] at h9;rw[aq] at h9;omega);simp only[hw];by_cases hc:((List.length x.2.2.2.1:Nat):Int)<=n;rotate_left
 ·have n1:n - ((List.length x.2.2.2.1:Nat):Int) < 0:=by omega
  have e2:il n (zz ba x)=-1:=bB (by omega);rw[e2];simp only[n1,aD,aJ]
 have n1:¬ (n - ((List.length x.2.2.2.1:Nat):Int) < 0):=by omega
 simp only[n1,aC,aG];clear n1 hw;have e2:il n (zz ba x)=(n - ((List.length x.2.2.2.1:Nat):Int)):=by unfold il;rw[aV (by omega)];omega
 rw[e2]
theorem Nk (x:Change) (n:Int) (hx:sH ai x) (h0:0<=n) (h1:n<=1048576):nP.aa (x,n,())=some (il n (zz ai x),()):=by
 have hz:zz ai x=(0+((0+(0+(0+(List.length x.2.1.2.2.2.1+0))))+(0+((0+(0+(0+(List.length x.2.2.2.1.2.2.2.1+0))))+0)))):=rfl;refine ah (k:=0) λk _=>(nP.ae k _).trans ?_;show nP.p _=_;unfold nP.p;have wJ:zz ba x.2.1=(0+(0+(0+(List.length x.2.1.2.2.2.1+0)))):=rfl;simp only[LY x.2.1 (n) hx.2.1 (by omega) (by omega),aA];by_cases hc:((zz ba x.2.1:Nat):Int)<=n;rotate_left
 ·have e1:il (n) (zz ba x.2.1)=-1:=bB hc;have e2:il n (zz ai x)=-1:=bB (by omega);rw[e1,e2];rfl
 have e1:il (n) (zz ba x.2.1)=n - ((zz ba x.2.1:Nat):Int):=aV hc;have n1:¬ (n - ((zz ba x.2.1:Nat):Int) < 0):=by omega
 simp only[e1,n1,aC,aG];clear e1 n1;have Y3:zz ba x.2.2.2.1=(0+(0+(0+(List.length x.2.2.2.1.2.2.2.1+0)))):=rfl;simp only[LY x.2.2.2.1 ((n - ((zz ba x.2.1:Nat):Int))) hx.2.2.2.1 (by omega) (by omega),aA]
 by_cases hc:((zz ba x.2.2.2.1:Nat):Int)<=(n - ((zz ba x.2.1:Nat):Int))
 rotate_left
 ·have e1:il ((n - ((zz ba x.2.1:Nat):Int))) (zz ba x.2.2.2.1)=-1:=bB hc;have e2:il n (zz ai x)=-1:=bB (by omega);rw[e1,e2];rfl
 have e1:il ((n - ((zz ba x.2.1:Nat):Int))) (zz ba x.2.2.2.1)=(n - ((zz ba x.2.1:Nat):Int)) - ((zz ba x.2.2.2.1:Nat):Int):=aV hc;have n1:¬ ((n - ((zz ba x.2.1:Nat):Int)) - ((zz ba x.2.2.2.1:Nat):Int) < 0):=by omega
 simp only[e1,n1,aC,aG];clear e1 n1;have e2:il n (zz ai x)=((n - ((zz ba x.2.1:Nat):Int)) - ((zz ba x.2.2.2.1:Nat):Int)):=by unfold il;rw[aV (by omega)];omega
 rw[e2]
theorem LZ (x:List Change) (n:Int) (hx:sH (.U ai) x) (h0:0<=n) (h1:n<=1048576):qV.aa (x,n,())=some (il n (zz (.U ai) x),()):=YR (e:=ai) (f:=λa n=>nP.aa (a,n,())) (λx n k=>qV.ae k (x,n,())) Nk x n hx h0 h1
theorem Nl (x:List Int) (n:Int) (hx:sH (.U i64) x) (h0:0<=n) (h1:n<=1048576):rH.aa (x,n,())=some (il n (zz (.U i64) x),()):=Uo (e:=i64) (λ_=>rfl) (λx n k=>rH.ae k (x,n,())) x n hx h0 h1
theorem SJ (x:List Key) (n:Int) (hx:sH (.U bh) x) (h0:0<=n) (h1:n<=1048576):tV.aa (x,n,())=some (il n (zz (.U bh) x),()):=Uo (e:=bh) (λ_=>rfl) (λx n k=>tV.ae k (x,n,())) x n hx h0 h1
theorem Xv (x:Tx) (n:Int) (hx:sH de x) (h0:0<=n) (h1:n<=1048576):rS.aa (x,n,())=some (il n (zz de x),()):=by
 have hz:zz de x=(0+(zz (.U ai) x.2.1+(zz (.U i64) x.2.2.1+(zz (.U bh) x.2.2.2.1+0)))):=rfl;refine ah (k:=0) λk _=>(rS.ae k _).trans ?_;show rS.p _=_;unfold rS.p;simp only[LZ x.2.1 (n) hx.2.1 (by omega) (by omega),aA];by_cases hc:((zz (.U ai) x.2.1:Nat):Int)<=n;rotate_left
 ·have e1:il (n) (zz (.U ai) x.2.1)=-1:=bB hc;have e2:il n (zz de x)=-1:=bB (by omega);rw[e1,e2];rfl
 have e1:il (n) (zz (.U ai) x.2.1)=n - ((zz (.U ai) x.2.1:Nat):Int):=aV hc;have n1:¬ (n - ((zz (.U ai) x.2.1:Nat):Int) < 0):=by omega
 simp only[e1,n1,aC,aG];clear e1 n1;simp only[Nl x.2.2.1 ((n - ((zz (.U ai) x.2.1:Nat):Int))) hx.2.2.1 (by omega) (by omega),aA]
 by_cases hc:((zz (.U i64) x.2.2.1:Nat):Int)<=(n - ((zz (.U ai) x.2.1:Nat):Int))
 rotate_left
 ·have e1:il ((n - ((zz (.U ai) x.2.1:Nat):Int))) (zz (.U i64) x.2.2.1)=-1:=bB hc;have e2:il n (zz de x)=-1:=bB (by omega);rw[e1,e2];rfl
 have e1:il ((n - ((zz (.U ai) x.2.1:Nat):Int))) (zz (.U i64) x.2.2.1)=(n - ((zz (.U ai) x.2.1:Nat):Int)) - ((zz (.U i64) x.2.2.1:Nat):Int):=aV hc;have n1:¬ ((n - ((zz (.U ai) x.2.1:Nat):Int)) - ((zz (.U i64) x.2.2.1:Nat):Int) < 0):=by omega
 simp only[e1,n1,aC,aG];clear e1 n1;simp only[SJ x.2.2.2.1 (((n - ((zz (.U ai) x.2.1:Nat):Int)) - ((zz (.U i64) x.2.2.1:Nat):Int))) hx.2.2.2.1 (by omega) (by omega),aA]
 by_cases hc:((zz (.U bh) x.2.2.2.1:Nat):Int)<=((n - ((zz (.U ai) x.2.1:Nat):Int)) - ((zz (.U i64) x.2.2.1:Nat):Int))
 rotate_left
 ·have e1:il (((n - ((zz (.U ai) x.2.1:Nat):Int)) - ((zz (.U i64) x.2.2.1:Nat):Int))) (zz (.U bh) x.2.2.2.1)=-1:=bB hc;have e2:il n (zz de x)=-1:=bB (by omega);rw[e1,e2];rfl
 have e1:il (((n - ((zz (.U ai) x.2.1:Nat):Int)) - ((zz (.U i64) x.2.2.1:Nat):Int))) (zz (.U bh) x.2.2.2.1)=((n - ((zz (.U ai) x.2.1:Nat):Int)) - ((zz (.U i64) x.2.2.1:Nat):Int)) - ((zz (.U bh) x.2.2.2.1:Nat):Int):=aV hc;have n1:¬ (((n - ((zz (.U ai) x.2.1:Nat):Int)) - ((zz (.U i64) x.2.2.1:Nat):Int)) - ((zz (.U bh) x.2.2.2.1:Nat):Int) < 0):=by omega
 simp only[e1,n1,aC,aG];clear e1 n1;have e2:il n (zz de x)=(((n - ((zz (.U ai) x.2.1:Nat):Int)) - ((zz (.U i64) x.2.2.1:Nat):Int)) - ((zz (.U bh) x.2.2.2.1:Nat):Int)):=by unfold il;rw[aV (by omega)];omega
 rw[e2]
theorem UR (x:List Tx) (n:Int) (hx:sH (.U de) x) (h0:0<=n) (h1:n<=1048576):uV.aa (x,n,())=some (il n (zz (.U de) x),()):=YR (e:=de) (f:=λa n=>rS.aa (a,n,())) (λx n k=>uV.ae k (x,n,())) Xv x n hx h0 h1
theorem Qo (x:kJ) (n:Int) (hx:sH im x) (h0:0<=n) (h1:n<=1048576):pX.aa (x,n,())=some (il n (zz im x),()):=by
 have hz:zz im x=(0+(zz (.U (.U u8)) x.2.1+((zz (.U u8) x.2.2.1.1+(zz (.U u8) x.2.2.1.2.1+0))+(zz (.U de) x.2.2.2.1+(0+0))))):=rfl;refine ah (k:=0) λk _=>(pX.ae k _).trans ?_;show pX.p _=_;unfold pX.p;simp only[Nj x.2.1 (n) hx.2.1 (by omega) (by omega),aA];by_cases hc:((zz (.U (.U u8)) x.2.1:Nat):Int)<=n;rotate_left
 ·have e1:il (n) (zz (.U (.U u8)) x.2.1)=-1:=bB hc;have e2:il n (zz im x)=-1:=bB (by omega);rw[e1,e2];rfl
 have e1:il (n) (zz (.U (.U u8)) x.2.1)=n - ((zz (.U (.U u8)) x.2.1:Nat):Int):=aV hc;have n1:¬ (n - ((zz (.U (.U u8)) x.2.1:Nat):Int) < 0):=by omega
 simp only[e1,n1,aC,aG];clear e1 n1;have zO:zz kg x.2.2.1=(zz (.U u8) x.2.2.1.1+(zz (.U u8) x.2.2.1.2.1+0)):=rfl;simp only[UQ x.2.2.1 ((n - ((zz (.U (.U u8)) x.2.1:Nat):Int))) hx.2.2.1 (by omega) (by omega),aA]
 by_cases hc:((zz kg x.2.2.1:Nat):Int)<=(n - ((zz (.U (.U u8)) x.2.1:Nat):Int))
 rotate_left
 ·have e1:il ((n - ((zz (.U (.U u8)) x.2.1:Nat):Int))) (zz kg x.2.2.1)=-1:=bB hc;have e2:il n (zz im x)=-1:=bB (by omega);rw[e1,e2];rfl
 have e1:il ((n - ((zz (.U (.U u8)) x.2.1:Nat):Int))) (zz kg x.2.2.1)=(n - ((zz (.U (.U u8)) x.2.1:Nat):Int)) - ((zz kg x.2.2.1:Nat):Int):=aV hc;have n1:¬ ((n - ((zz (.U (.U u8)) x.2.1:Nat):Int)) - ((zz kg x.2.2.1:Nat):Int) < 0):=by omega
 simp only[e1,n1,aC,aG];clear e1 n1;simp only[UR x.2.2.2.1 (((n - ((zz (.U (.U u8)) x.2.1:Nat):Int)) - ((zz kg x.2.2.1:Nat):Int))) hx.2.2.2.1 (by omega) (by omega),aA]
 by_cases hc:((zz (.U de) x.2.2.2.1:Nat):Int)<=((n - ((zz (.U (.U u8)) x.2.1:Nat):Int)) - ((zz kg x.2.2.1:Nat):Int))
 rotate_left
 ·have e1:il (((n - ((zz (.U (.U u8)) x.2.1:Nat):Int)) - ((zz kg x.2.2.1:Nat):Int))) (zz (.U de) x.2.2.2.1)=-1:=bB hc;have e2:il n (zz im x)=-1:=bB (by omega);rw[e1,e2];rfl
 have e1:il (((n - ((zz (.U (.U u8)) x.2.1:Nat):Int)) - ((zz kg x.2.2.1:Nat):Int))) (zz (.U de) x.2.2.2.1)=((n - ((zz (.U (.U u8)) x.2.1:Nat):Int)) - ((zz kg x.2.2.1:Nat):Int)) - ((zz (.U de) x.2.2.2.1:Nat):Int):=aV hc;have n1:¬ (((n - ((zz (.U (.U u8)) x.2.1:Nat):Int)) - ((zz kg x.2.2.1:Nat):Int)) - ((zz (.U de) x.2.2.2.1:Nat):Int) < 0):=by omega
 simp only[e1,n1,aC,aG];clear e1 n1;have e2:il n (zz im x)=(((n - ((zz (.U (.U u8)) x.2.1:Nat):Int)) - ((zz kg x.2.2.1:Nat):Int)) - ((zz (.U de) x.2.2.2.1:Nat):Int)):=by unfold il;rw[aV (by omega)];omega
 rw[e2]
theorem Cv (x:List UInt8) (h:zz (.U u8) x<=1048576):no.aa (x,())=some (x,()):=OD (e:=u8) (f:=λa=>some (a,())) (λx k=>no.ae k (x,())) (λ_ _=>rfl) x h
theorem Nm (x:List (List UInt8)) (h:zz (.U (.U u8)) x<=1048576):rI.aa (x,())=some (x,()):=OD (e:=(.U u8)) (f:=λa=>no.aa (a,())) (λx k=>rI.ae k (x,())) Cv x h
theorem US (x:Log) (h:zz kg x<=1048576):rV.aa (x,())=some (x,()):=by
 have hz:zz kg x=(zz (.U u8) x.1+(zz (.U u8) x.2.1+0)):=rfl;refine ah (k:=0) λk _=>(rV.ae k _).trans ?_;show rV.p _=_;unfold rV.p;simp only[Cv x.1 (by omega),Cv x.2.1 (by omega),aA]
theorem L1 (x:Row) (h:zz ba x<=1048576):qD.aa (x,())=some (x,()):=by
 have hz:zz ba x=(0+(0+(0+(List.length x.2.2.2.1+0)))):=rfl;refine ah (k:=0) λk _=>(qD.ae k _).trans ?_;show qD.p _=_;unfold qD.p;rfl
theorem Nn (x:Change) (h:zz ai x<=1048576):nT.aa (x,())=some (x,()):=by
 have hz:zz ai x=(0+((0+(0+(0+(List.length x.2.1.2.2.2.1+0))))+(0+((0+(0+(0+(List.length x.2.2.2.1.2.2.2.1+0))))+0)))):=rfl;have wJ:zz ba x.2.1=(0+(0+(0+(List.length x.2.1.2.2.2.1+0)))):=rfl;have Y3:zz ba x.2.2.2.1=(0+(0+(0+(List.length x.2.2.2.1.2.2.2.1+0)))):=rfl;refine ah (k:=0) λk _=>(nT.ae k _).trans ?_;show nT.p _=_;unfold nT.p;simp only[L1 x.2.1 (by omega),L1 x.2.2.2.1 (by omega),aA]
theorem L2 (x:List Change) (h:zz (.U ai) x<=1048576):qW.aa (x,())=some (x,()):=OD (e:=ai) (f:=λa=>nT.aa (a,())) (λx k=>qW.ae k (x,())) Nn x h
theorem No (x:List Int) (h:zz (.U i64) x<=1048576):rJ.aa (x,())=some (x,()):=OD (e:=i64) (f:=λa=>some (a,())) (λx k=>rJ.ae k (x,())) (λ_ _=>rfl) x h
theorem UT (x:Key) (h:zz bh x<=1048576):qE.aa (x,())=some (x,()):=by
 have hz:zz bh x=(0+(0+0)):=rfl;refine ah (k:=0) λk _=>(qE.ae k _).trans ?_;show qE.p _=_;unfold qE.p;rfl
theorem SK (x:List Key) (h:zz (.U bh) x<=1048576):tW.aa (x,())=some (x,()):=OD (e:=bh) (f:=λa=>qE.aa (a,())) (λx k=>tW.ae k (x,())) UT x h
theorem Xw (x:Tx) (h:zz de x<=1048576):rW.aa (x,())=some (x,()):=by
 have hz:zz de x=(0+(zz (.U ai) x.2.1+(zz (.U i64) x.2.2.1+(zz (.U bh) x.2.2.2.1+0)))):=rfl;refine ah (k:=0) λk _=>(rW.ae k _).trans ?_;show rW.p _=_;unfold rW.p;simp only[L2 x.2.1 (by omega),No x.2.2.1 (by omega),SK x.2.2.2.1 (by omega),aA]
theorem UU (x:List Tx) (h:zz (.U de) x<=1048576):uZ.aa (x,())=some (x,()):=OD (e:=de) (f:=λa=>rW.aa (a,())) (λx k=>uZ.ae k (x,())) Xw x h
theorem Qp (x:kJ) (h:zz im x<=1048576):np.aa (x,())=some (x,()):=by
 have hz:zz im x=(0+(zz (.U (.U u8)) x.2.1+((zz (.U u8) x.2.2.1.1+(zz (.U u8) x.2.2.1.2.1+0))+(zz (.U de) x.2.2.2.1+(0+0))))):=rfl;have zO:zz kg x.2.2.1=(zz (.U u8) x.2.2.1.1+(zz (.U u8) x.2.2.1.2.1+0)):=rfl;refine ah (k:=0) λk _=>(np.ae k _).trans ?_;show np.p _=_;unfold np.p;simp only[Nm x.2.1 (by omega),US x.2.2.1 (by omega),UU x.2.2.2.1 (by omega),aA]
theorem Hr (x:Row) (h:zz ba x<=4611686018427387904):qF.aa (x,x,())=some (true,()):=by
 have hz:zz ba x=(0+(0+(0+(List.length x.2.2.2.1+0)))):=rfl;refine ah (k:=0) λk _=>(qF.ae k _).trans ?_;show qF.p _=_;unfold qF.p;simp[]
theorem JW (x:Change) (h:zz ai x<=4611686018427387904):nW.aa (x,x,())=some (true,()):=by
 have hz:zz ai x=(0+((0+(0+(0+(List.length x.2.1.2.2.2.1+0))))+(0+((0+(0+(0+(List.length x.2.2.2.1.2.2.2.1+0))))+0)))):=rfl;have wJ:zz ba x.2.1=(0+(0+(0+(List.length x.2.1.2.2.2.1+0)))):=rfl;have Y3:zz ba x.2.2.2.1=(0+(0+(0+(List.length x.2.2.2.1.2.2.2.1+0)))):=rfl;refine ah (k:=0) λk _=>(nW.ae k _).trans ?_;show nW.p _=_;unfold nW.p;have q0:=Hr x.2.1 (by omega);have q1:=Hr x.2.2.2.1 (by omega);simp[q0,q1]
theorem xD (x:List Change) (h:zz (.U ai) x<=4611686018427387904):lc.aa (x,x,())=some (true,()):=Jn (e:=ai) (f:=λ(a b:Change)=>nW.aa (a,b,())) (λx k=>lc.ae k (x,x,())) JW x h
theorem Np (x:gk) (h:zz gv x<=4611686018427387904):pQ.aa (x,x,())=some (true,()):=by
 have hz:zz gv x=(0+(0+(zz (.U ai) x.2.2.1+0))):=rfl;refine ah (k:=0) λk _=>(pQ.ae k _).trans ?_;show pQ.p _=_;unfold pQ.p;have q0:=xD x.2.2.1 (by omega);simp[q0]
theorem L3 (x:List gk) (h:zz (.U gv) x<=4611686018427387904):sK.aa (x,x,())=some (true,()):=Jn (e:=gv) (f:=λ(a b:gk)=>pQ.aa (a,b,())) (λx k=>sK.ae k (x,x,())) Np x h
theorem Ae (x:List UInt8) (h:zz (.U u8) x<=4611686018427387904):ns.aa (x,x,())=some (true,()):=Jn (e:=u8) (f:=λ(a b:UInt8)=>some (decide ((a.toNat:Int)=(b.toNat:Int)),())) (λx k=>ns.ae k (x,x,())) (λa _=>by simp) x h
theorem Da (x:List (List UInt8)) (h:zz (.U (.U u8)) x<=4611686018427387904):nX.aa (x,x,())=some (true,()):=Jn (e:=(.U u8)) (f:=λ(a b:List UInt8)=>ns.aa (a,b,())) (λx k=>nX.ae k (x,x,())) Ae x h
theorem JX (x:Buffer) (h:zz bj x<=4611686018427387904):nY.aa (x,x,())=some (true,()):=by
 have hz:zz bj x=(0+(zz (.U ai) x.2.1+0)):=rfl;refine ah (k:=0) λk _=>(nY.ae k _).trans ?_;show nY.p _=_;unfold nY.p;have q0:=xD x.2.1 (by omega);simp[q0]
theorem IH (x:List Buffer) (h:zz (.U bj) x<=4611686018427387904):qX.aa (x,x,())=some (true,()):=Jn (e:=bj) (f:=λ(a b:Buffer)=>nY.aa (a,b,())) (λx k=>qX.ae k (x,x,())) JX x h
theorem D2 (x:dg) (h:zz ei x<=4611686018427387904):oU.aa (x,x,())=some (true,()):=by
 have hz:zz ei x=(zz (.U (.U u8)) x.1+(zz (.U bj) x.2.1+0)):=rfl;refine ah (k:=0) λk _=>(oU.ae k _).trans ?_;show oU.p _=_;unfold oU.p;have q0:=Da x.1 (by omega);have q1:=IH x.2.1 (by omega);simp[q0,q1]
theorem FX (x:di) (h:zz d6 x<=4611686018427387904):nt.aa (x,x,())=some (true,()):=by
 have hz:zz d6 x=((zz (.U (.U u8)) x.1.1+(zz (.U bj) x.1.2.1+0))+(0+((zz (.U (.U u8)) x.2.2.1.1+(zz (.U bj) x.2.2.1.2.1+0))+(0+0)))):=rfl;have hz0:zz ei x.1=(zz (.U (.U u8)) x.1.1+(zz (.U bj) x.1.2.1+0)):=rfl;have zO:zz ei x.2.2.1=(zz (.U (.U u8)) x.2.2.1.1+(zz (.U bj) x.2.2.1.2.1+0)):=rfl;refine ah (k:=0) λk _=>(nt.ae k _).trans ?_;show nt.p _=_;unfold nt.p;have q0:=D2 x.1 (by omega);have q1:=D2 x.2.2.1 (by omega);simp[q0,q1]
theorem ET (x:ig) (h:zz gq x<=4611686018427387904):kU.aa (x,x,())=some (true,()):=by
 have hz:zz gq x=(0+(zz (.U gv) x.2.1+(((zz (.U (.U u8)) x.2.2.1.1.1+(zz (.U bj) x.2.2.1.1.2.1+0))+(0+((zz (.U (.U u8)) x.2.2.1.2.2.1.1+(zz (.U bj) x.2.2.1.2.2.1.2.1+0))+(0+0))))+0))):=rfl;have zO:zz d6 x.2.2.1=((zz (.U (.U u8)) x.2.2.1.1.1+(zz (.U bj) x.2.2.1.1.2.1+0))+(0+((zz (.U (.U u8)) x.2.2.1.2.2.1.1+(zz (.U bj) x.2.2.1.2.2.1.2.1+0))+(0+0)))):=rfl;refine ah (k:=0) λk _=>(kU.ae k _).trans ?_;show kU.p _=_;unfold kU.p;have q0:=L3 x.2.1 (by omega);have q1:=FX x.2.2.1 (by omega);simp[q0,q1]
theorem Qq (x:Log) (h:zz kg x<=4611686018427387904):rY.aa (x,x,())=some (true,()):=by
 have hz:zz kg x=(zz (.U u8) x.1+(zz (.U u8) x.2.1+0)):=rfl;refine ah (k:=0) λk _=>(rY.ae k _).trans ?_;show rY.p _=_;unfold rY.p;have q0:=Ae x.1 (by omega);have q1:=Ae x.2.1 (by omega);simp[q0,q1]
theorem JY (x:List Int) (h:zz (.U i64) x<=4611686018427387904):rK.aa (x,x,())=some (true,()):=Jn (e:=i64) (f:=λ(a b:Int)=>some (decide (a=b),())) (λx k=>rK.ae k (x,x,())) (λa _=>by simp) x h
theorem Qr (x:Key) (h:zz bh x<=4611686018427387904):qG.aa (x,x,())=some (true,()):=by
 have hz:zz bh x=(0+(0+0)):=rfl;refine ah (k:=0) λk _=>(qG.ae k _).trans ?_;show qG.p _=_;unfold qG.p;simp[]
theorem Nq (x:List Key) (h:zz (.U bh) x<=4611686018427387904):tX.aa (x,x,())=some (true,()):=Jn (e:=bh) (f:=λ(a b:Key)=>qG.aa (a,b,())) (λx k=>tX.ae k (x,x,())) Qr x h
theorem SL (x:Tx) (h:zz de x<=4611686018427387904):rZ.aa (x,x,())=some (true,()):=by
 have hz:zz de x=(0+(zz (.U ai) x.2.1+(zz (.U i64) x.2.2.1+(zz (.U bh) x.2.2.2.1+0)))):=rfl;refine ah (k:=0) λk _=>(rZ.ae k _).trans ?_;show rZ.p _=_;unfold rZ.p;have q0:=xD x.2.1 (by omega);have q1:=JY x.2.2.1 (by omega);have q2:=Nq x.2.2.2.1 (by omega);simp[q0,q1,q2]
theorem Qs (x:List Tx) (h:zz (.U de) x<=4611686018427387904):u7.aa (x,x,())=some (true,()):=Jn (e:=de) (f:=λ(a b:Tx)=>rZ.aa (a,b,())) (λx k=>u7.ae k (x,x,())) SL x h
theorem L4 (x:kJ) (h:zz im x<=4611686018427387904):qd.aa (x,x,())=some (true,()):=by
 have hz:zz im x=(0+(zz (.U (.U u8)) x.2.1+((zz (.U u8) x.2.2.1.1+(zz (.U u8) x.2.2.1.2.1+0))+(zz (.U de) x.2.2.2.1+(0+0))))):=rfl;have zO:zz kg x.2.2.1=(zz (.U u8) x.2.2.1.1+(zz (.U u8) x.2.2.1.2.1+0)):=rfl;refine ah (k:=0) λk _=>(qd.ae k _).trans ?_;show qd.p _=_;unfold qd.p;have q0:=Da x.2.1 (by omega);have q1:=Qq x.2.2.1 (by omega);have q2:=Qs x.2.2.2.1 (by omega);simp[q0,q1,q2]
def Zu (x:UInt8) (k:Int) (y:UInt8) (k':Int):Prop:=y=(UInt8.ofInt (k))/\k+1=k'
theorem II (x:List UInt8) (k:Int) (h0:0<=k) (h1:k+32*((zz (.U u8) x:Nat):Int)<=mL):∃ (k':Int) (y:List UInt8),jn.aa (x,k,())=some (k',y,())/\k<=k'/\k'<=k+32*((zz (.U u8) x:Nat):Int):=by
 have hB:mL=4611686018427387904:=rfl
 exact OE (α:=UInt8) (zz u8) Zu (λx k f=>jn.ae f (x,k,())) (λ(x:UInt8) k h0 h1=>by
   exact ⟨_,_,by omega,by omega,⟨rfl,rfl⟩⟩) (λi (acc:List (UInt8)) k self (x y:UInt8) k' hi hx h0 h1 h2 h3 hE am=>by
   obtain ⟨rfl,rfl⟩:=hE
   simp (disch:=omega) only [am,aD,aJ,aK,cQ,aI,aH,hx,aA,cX,ng,fJ,bf,kV]) x k h0 h1
def Xx (x:List UInt8) (k:Int) (y:List UInt8) (k':Int):Prop:=∃ (r1:Int) (y1:List UInt8),jn.aa (x,k,())=some (r1,y1,())/\k<=r1/\r1<=k+32*((zz (.U u8) x:Nat):Int)/\y=y1/\r1=k'
theorem UV (x:List (List UInt8)) (k:Int) (h0:0<=k) (h1:k+32*((zz (.U (.U u8)) x:Nat):Int)<=mL):∃ (k':Int) (y:List (List UInt8)),lr.aa (x,k,())=some (k',y,())/\k<=k'/\k'<=k+32*((zz (.U (.U u8)) x:Nat):Int):=by
 have hB:mL=4611686018427387904:=rfl
 exact OE (α:=List UInt8) (zz (.U u8)) Xx (λx k f=>lr.ae f (x,k,())) (λ(x:List UInt8) k h0 h1=>by
   obtain ⟨r1,y1,e1,g1,i1⟩:=II x (k) (by omega) (by omega)
   exact ⟨_,_,by omega,by omega,⟨r1,y1,e1,g1,i1,rfl,rfl⟩⟩) (λi (acc:List (List UInt8)) k self (x y:List UInt8) k' hi hx h0 h1 h2 h3 hE am=>by
   obtain ⟨r1,y1,e1,g1,i1,rfl,rfl⟩:=hE
   simp (disch:=omega) only [am,aD,aJ,aK,cQ,aI,aH,hx,aA,cX,ng,fJ,bf,kV,e1]) x k h0 h1
theorem aaR (x:Log) (k:Int) (h0:0<=k) (h1:k+32*((zz kg x:Nat):Int)<=mL):∃ (k':Int) (y:Log),qe.aa (x,k,())=some (k',y,())/\k<=k'/\k'<=k+32*((zz kg x:Nat):Int):=by
 have hB:mL=4611686018427387904:=rfl;have hz:zz kg x=(zz (.U u8) x.1+(zz (.U u8) x.2.1+0)):=rfl;obtain ⟨k1,y1,e1,g1,i1⟩:=II x.1 k (by omega) (by omega);obtain ⟨k2,y2,e2,g2,i2⟩:=II x.2.1 k1 (by omega) (by omega);refine ⟨k2,(y1,y2,x.2.2),ah (k:=0) λf _=>(qe.ae f _).trans ?_,by omega,by omega⟩
 ·show qe.p _=_;unfold qe.p;simp only[e1,e2,aA]
def UW (x:Change) (k:Int) (y:Change) (k':Int):Prop:=y=((decide ((k).tmod (3:Int)=(0:Int))),((k+1),(k+1+1),(k+1+1+1),(EK (k+1+1+1+1)),x.2.1.2.2.2.2),(decide ((k+1+1+1+1+1).tmod (3:Int)=(0:Int))),((k+1+1+1+1+1+1),(k+1+1+1+1+1+1+1),(k+1+1+1+1+1+1+1+1),(EK (k+1+1+1+1+1+1+1+1+1)),x.2.2.2.1.2.2.2.2),x.2.2.2.2)/\k+1+1+1+1+1+1+1+1+1+1=k'
theorem SM (x:List Change) (k:Int) (h0:0<=k) (h1:k+32*((zz (.U ai) x:Nat):Int)<=mL):∃ (k':Int) (y:List Change),ep.aa (x,k,())=some (k',y,())/\k<=k'/\k'<=k+32*((zz (.U ai) x:Nat):Int):=by
 have hB:mL=4611686018427387904:=rfl
 exact OE (α:=Change) (zz ai) UW (λx k f=>ep.ae f (x,k,())) (λ(x:Change) k h0 h1=>by
   have hz:zz ai x=(0+((0+(0+(0+(List.length x.2.1.2.2.2.1+0))))+(0+((0+(0+(0+(List.length x.2.2.2.1.2.2.2.1+0))))+0)))):=rfl
   exact ⟨_,_,by omega,by omega,⟨rfl,rfl⟩⟩) (λi (acc:List (Change)) k self (x y:Change) k' hi hx h0 h1 h2 h3 hE am=>by
   have hz:zz ai x=(0+((0+(0+(0+(List.length x.2.1.2.2.2.1+0))))+(0+((0+(0+(0+(List.length x.2.2.2.1.2.2.2.1+0))))+0)))):=rfl;obtain ⟨rfl,rfl⟩:=hE
   simp (disch:=omega) only [am,aD,aJ,aK,cQ,aI,aH,hx,aA,cX,ng,fJ,bf,kV]) x k h0 h1
def Xy (x:Int) (k:Int) (y:Int) (k':Int):Prop:=y=(k)/\k+1=k'
theorem UX (x:List Int) (k:Int) (h0:0<=k) (h1:k+32*((zz (.U i64) x:Nat):Int)<=mL):∃ (k':Int) (y:List Int),oV.aa (x,k,())=some (k',y,())/\k<=k'/\k'<=k+32*((zz (.U i64) x:Nat):Int):=by
 have hB:mL=4611686018427387904:=rfl
 exact OE (α:=Int) (zz i64) Xy (λx k f=>oV.ae f (x,k,())) (λ(x:Int) k h0 h1=>by
   exact ⟨_,_,by omega,by omega,⟨rfl,rfl⟩⟩) (λi (acc:List (Int)) k self (x y:Int) k' hi hx h0 h1 h2 h3 hE am=>by
   obtain ⟨rfl,rfl⟩:=hE
   simp (disch:=omega) only [am,aD,aJ,aK,cQ,aI,aH,hx,aA,cX,ng,fJ,bf,kV]) x k h0 h1
def aaS (x:Key) (k:Int) (y:Key) (k':Int):Prop:=y=((k),(k+1),x.2.2)/\k+1+1=k'
theorem Zv (x:List Key) (k:Int) (h0:0<=k) (h1:k+32*((zz (.U bh) x:Nat):Int)<=mL):∃ (k':Int) (y:List Key),qq.aa (x,k,())=some (k',y,())/\k<=k'/\k'<=k+32*((zz (.U bh) x:Nat):Int):=by
 have hB:mL=4611686018427387904:=rfl
 exact OE (α:=Key) (zz bh) aaS (λx k f=>qq.ae f (x,k,())) (λ(x:Key) k h0 h1=>by
   have hz:zz bh x=(0+(0+0)):=rfl
   exact ⟨_,_,by omega,by omega,⟨rfl,rfl⟩⟩) (λi (acc:List (Key)) k self (x y:Key) k' hi hx h0 h1 h2 h3 hE am=>by
   have hz:zz bh x=(0+(0+0)):=rfl;obtain ⟨rfl,rfl⟩:=hE
   simp (disch:=omega) only [am,aD,aJ,aK,cQ,aI,aH,hx,aA,cX,ng,fJ,bf,kV]) x k h0 h1
def abK (x:Tx) (k:Int) (y:Tx) (k':Int):Prop:=∃ (r1:Int) (y1:List Change),∃ (r2:Int) (y2:List Int),∃ (r3:Int) (y3:List Key),ep.aa (x.2.1,k+1,())=some (r1,y1,())/\k+1<=r1/\r1<=k+1+32*((zz (.U ai) x.2.1:Nat):Int)/\oV.aa (x.2.2.1,r1,())=some (r2,y2,())/\r1<=r2/\r2<=r1+32*((zz (.U i64) x.2.2.1:Nat):Int)/\qq.aa (x.2.2.2.1,r2,())=some (r3,y3,())/\r2<=r3/\r3<=r2+32*((zz (.U bh) x.2.2.2.1:Nat):Int)/\y=((k),y1,y2,y3,x.2.2.2.2)/\r3=k'
theorem aaT (x:List Tx) (k:Int) (h0:0<=k) (h1:k+32*((zz (.U de) x:Nat):Int)<=mL):∃ (k':Int) (y:List Tx),sL.aa (x,k,())=some (k',y,())/\k<=k'/\k'<=k+32*((zz (.U de) x:Nat):Int):=by
 have hB:mL=4611686018427387904:=rfl
 exact OE (α:=Tx) (zz de) abK (λx k f=>sL.ae f (x,k,())) (λ(x:Tx) k h0 h1=>by
   have hz:zz de x=(0+(zz (.U ai) x.2.1+(zz (.U i64) x.2.2.1+(zz (.U bh) x.2.2.2.1+0)))):=rfl;obtain ⟨r1,y1,e1,g1,i1⟩:=SM x.2.1 (k+1) (by omega) (by omega);obtain ⟨r2,y2,e2,g2,i2⟩:=UX x.2.2.1 (r1) (by omega) (by omega);obtain ⟨r3,y3,e3,g3,i3⟩:=Zv x.2.2.2.1 (r2) (by omega) (by omega)
   exact ⟨_,_,by omega,by omega,⟨r1,y1,r2,y2,r3,y3,e1,g1,i1,e2,g2,i2,e3,g3,i3,rfl,rfl⟩⟩) (λi (acc:List (Tx)) k self (x y:Tx) k' hi hx h0 h1 h2 h3 hE am=>by
   have hz:zz de x=(0+(zz (.U ai) x.2.1+(zz (.U i64) x.2.2.1+(zz (.U bh) x.2.2.2.1+0)))):=rfl;obtain ⟨r1,y1,r2,y2,r3,y3,e1,g1,i1,e2,g2,i2,e3,g3,i3,rfl,rfl⟩:=hE
   simp (disch:=omega) only [am,aD,aJ,aK,cQ,aI,aH,hx,aA,cX,ng,fJ,bf,kV,e1,e2,e3]) x k h0 h1
theorem Xz (x:kJ) (k:Int) (h0:0<=k) (h1:k+32*((zz im x:Nat):Int)<=mL):∃ (k':Int) (y:kJ),oz.aa (x,k,())=some (k',y,())/\k<=k'/\k'<=k+32*((zz im x:Nat):Int):=by
 have hB:mL=4611686018427387904:=rfl;have hz:zz im x=(0+(zz (.U (.U u8)) x.2.1+((zz (.U u8) x.2.2.1.1+(zz (.U u8) x.2.2.1.2.1+0))+(zz (.U de) x.2.2.2.1+(0+0))))):=rfl;obtain ⟨k1,y1,e1,g1,i1⟩:=UV x.2.1 k (by omega) (by omega);have zO:zz kg x.2.2.1=(zz (.U u8) x.2.2.1.1+(zz (.U u8) x.2.2.1.2.1+0)):=rfl;obtain ⟨k2,y2,e2,g2,i2⟩:=aaR x.2.2.1 k1 (by omega) (by omega);obtain ⟨k3,y3,e3,g3,i3⟩:=aaT x.2.2.2.1 k2 (by omega) (by omega);refine ⟨k3,(x.1,y1,y2,y3,x.2.2.2.2.1,x.2.2.2.2.2),ah (k:=0) λf _=>(oz.ae f _).trans ?_,by omega,by omega⟩
 ·show oz.p _=_;unfold oz.p;simp only[e1,e2,e3,aA]
def UY (x:Change) (k:Int) (y:Change) (k':Int):Prop:=y=((decide ((k).tmod (3:Int)=(0:Int))),((k+1),(k+1+1),(k+1+1+1),(EK (k+1+1+1+1)),x.2.1.2.2.2.2),(decide ((k+1+1+1+1+1).tmod (3:Int)=(0:Int))),((k+1+1+1+1+1+1),(k+1+1+1+1+1+1+1),(k+1+1+1+1+1+1+1+1),(EK (k+1+1+1+1+1+1+1+1+1)),x.2.2.2.1.2.2.2.2),x.2.2.2.2)/\k+1+1+1+1+1+1+1+1+1+1=k'
theorem Jt (x:List Change) (k:Int) (h0:0<=k) (h1:k+32*((zz (.U ai) x:Nat):Int)<=mL):∃ (k':Int) (y:List Change),ep.aa (x,k,())=some (k',y,())/\kG.aa (y,k,())=some (k',())/\k<=k'/\k'<=k+32*((zz (.U ai) x:Nat):Int):=by
 have hB:mL=4611686018427387904:=rfl
 exact Sv (α:=Change) (zz ai) UY (λx k f=>ep.ae f (x,k,())) (λy k f=>kG.ae f (y,k,())) (λ(x:Change) k h0 h1=>by
   have hz:zz ai x=(0+((0+(0+(0+(List.length x.2.1.2.2.2.1+0))))+(0+((0+(0+(0+(List.length x.2.2.2.1.2.2.2.1+0))))+0)))):=rfl
   exact ⟨_,_,by omega,by omega,⟨rfl,rfl⟩⟩) (λi (acc:List (Change)) k self (x y:Change) k' hi hx h0 h1 h2 h3 hE am=>by
   have hz:zz ai x=(0+((0+(0+(0+(List.length x.2.1.2.2.2.1+0))))+(0+((0+(0+(0+(List.length x.2.2.2.1.2.2.2.1+0))))+0)))):=rfl;obtain ⟨rfl,rfl⟩:=hE
   simp (disch:=omega) only [am,aD,aJ,aK,cQ,aI,aH,hx,aA,cX,ng,fJ,bf,kV]) (λ_ i (ys:List (Change)) k self (x y:Change) k' hi hx h0 h1 h2 h3 hE am=>by
   have hz:zz ai x=(0+((0+(0+(0+(List.length x.2.1.2.2.2.1+0))))+(0+((0+(0+(0+(List.length x.2.2.2.1.2.2.2.1+0))))+0)))):=rfl;obtain ⟨rfl,rfl⟩:=hE
   simp (disch:=omega) only [am,aD,aJ,aK,cQ,aI,aH,hx,aA,bf,kV,gC,aQ,aG,aC]) x k h0 h1
def Zw (x:gk) (k:Int) (y:gk) (k':Int):Prop:=∃ (r1:Int) (y1:List Change),ep.aa (x.2.2.1,k+1+1,())=some (r1,y1,())/\kG.aa (y1,k+1+1,())=some (r1,())/\k+1+1<=r1/\r1<=k+1+1+32*((zz (.U ai) x.2.2.1:Nat):Int)/\y=((k),(k+1),y1,x.2.2.2)/\r1=k'
theorem XA (x:List gk) (k:Int) (h0:0<=k) (h1:k+32*((zz (.U gv) x:Nat):Int)<=mL):∃ (k':Int) (y:List gk),qY.aa (x,k,())=some (k',y,())/\qZ.aa (y,k,())=some (k',())/\k<=k'/\k'<=k+32*((zz (.U gv) x:Nat):Int):=by
 have hB:mL=4611686018427387904:=rfl
 exact Sv (α:=gk) (zz gv) Zw (λx k f=>qY.ae f (x,k,())) (λy k f=>qZ.ae f (y,k,())) (λ(x:gk) k h0 h1=>by
   have hz:zz gv x=(0+(0+(zz (.U ai) x.2.2.1+0))):=rfl;obtain ⟨r1,y1,e1,f1,g1,i1⟩:=Jt x.2.2.1 (k+1+1) (by omega) (by omega)
   exact ⟨_,_,by omega,by omega,⟨r1,y1,e1,f1,g1,i1,rfl,rfl⟩⟩) (λi (acc:List (gk)) k self (x y:gk) k' hi hx h0 h1 h2 h3 hE am=>by
   have hz:zz gv x=(0+(0+(zz (.U ai) x.2.2.1+0))):=rfl;obtain ⟨r1,y1,e1,f1,g1,i1,rfl,rfl⟩:=hE
   simp (disch:=omega) only [am,aD,aJ,aK,cQ,aI,aH,hx,aA,cX,ng,fJ,bf,kV,e1]) (λ_ i (ys:List (gk)) k self (x y:gk) k' hi hx h0 h1 h2 h3 hE am=>by
   have hz:zz gv x=(0+(0+(zz (.U ai) x.2.2.1+0))):=rfl;obtain ⟨r1,y1,e1,f1,g1,i1,rfl,rfl⟩:=hE;have n1:¬ r1 < 0:=by omega
   simp (disch:=omega) only [am,aD,aJ,aK,cQ,aI,aH,hx,aA,bf,kV,gC,aQ,aG,aC,f1,n1]) x k h0 h1
def Zx (x:UInt8) (k:Int) (y:UInt8) (k':Int):Prop:=y=(UInt8.ofInt (k))/\k+1=k'
theorem XB (x:List UInt8) (k:Int) (h0:0<=k) (h1:k+32*((zz (.U u8) x:Nat):Int)<=mL):∃ (k':Int) (y:List UInt8),jn.aa (x,k,())=some (k',y,())/\pA.aa (y,k,())=some (k',())/\k<=k'/\k'<=k+32*((zz (.U u8) x:Nat):Int):=by
 have hB:mL=4611686018427387904:=rfl
 exact Sv (α:=UInt8) (zz u8) Zx (λx k f=>jn.ae f (x,k,())) (λy k f=>pA.ae f (y,k,())) (λ(x:UInt8) k h0 h1=>by
   exact ⟨_,_,by omega,by omega,⟨rfl,rfl⟩⟩) (λi (acc:List (UInt8)) k self (x y:UInt8) k' hi hx h0 h1 h2 h3 hE am=>by
   obtain ⟨rfl,rfl⟩:=hE
   simp (disch:=omega) only [am,aD,aJ,aK,cQ,aI,aH,hx,aA,cX,ng,fJ,bf,kV]) (λ_ i (ys:List (UInt8)) k self (x y:UInt8) k' hi hx h0 h1 h2 h3 hE am=>by
   obtain ⟨rfl,rfl⟩:=hE
   simp (disch:=omega) only [am,aD,aJ,aK,cQ,aI,aH,hx,aA,bf,kV,gC,aQ,aG,aC]) x k h0 h1
def XC (x:List UInt8) (k:Int) (y:List UInt8) (k':Int):Prop:=∃ (r1:Int) (y1:List UInt8),jn.aa (x,k,())=some (r1,y1,())/\pA.aa (y1,k,())=some (r1,())/\k<=r1/\r1<=k+32*((zz (.U u8) x:Nat):Int)/\y=y1/\r1=k'
theorem UZ (x:List (List UInt8)) (k:Int) (h0:0<=k) (h1:k+32*((zz (.U (.U u8)) x:Nat):Int)<=mL):∃ (k':Int) (y:List (List UInt8)),lr.aa (x,k,())=some (k',y,())/\qm.aa (y,k,())=some (k',())/\k<=k'/\k'<=k+32*((zz (.U (.U u8)) x:Nat):Int):=by
 have hB:mL=4611686018427387904:=rfl
 exact Sv (α:=List UInt8) (zz (.U u8)) XC (λx k f=>lr.ae f (x,k,())) (λy k f=>qm.ae f (y,k,())) (λ(x:List UInt8) k h0 h1=>by
   obtain ⟨r1,y1,e1,f1,g1,i1⟩:=XB x (k) (by omega) (by omega)
   exact ⟨_,_,by omega,by omega,⟨r1,y1,e1,f1,g1,i1,rfl,rfl⟩⟩) (λi (acc:List (List UInt8)) k self (x y:List UInt8) k' hi hx h0 h1 h2 h3 hE am=>by
   obtain ⟨r1,y1,e1,f1,g1,i1,rfl,rfl⟩:=hE
   simp (disch:=omega) only [am,aD,aJ,aK,cQ,aI,aH,hx,aA,cX,ng,fJ,bf,kV,e1]) (λ_ i (ys:List (List UInt8)) k self (x y:List UInt8) k' hi hx h0 h1 h2 h3 hE am=>by
   obtain ⟨r1,y1,e1,f1,g1,i1,rfl,rfl⟩:=hE;have n1:¬ r1 < 0:=by omega
   simp (disch:=omega) only [am,aD,aJ,aK,cQ,aI,aH,hx,aA,bf,kV,gC,aQ,aG,aC,f1,n1]) x k h0 h1
def U0 (x:Buffer) (k:Int) (y:Buffer) (k':Int):Prop:=∃ (r1:Int) (y1:List Change),ep.aa (x.2.1,k+1,())=some (r1,y1,())/\kG.aa (y1,k+1,())=some (r1,())/\k+1<=r1/\r1<=k+1+32*((zz (.U ai) x.2.1:Nat):Int)/\y=((k),y1,x.2.2)/\r1=k'
theorem SN (x:List Buffer) (k:Int) (h0:0<=k) (h1:k+32*((zz (.U bj) x:Nat):Int)<=mL):∃ (k':Int) (y:List Buffer),pz.aa (x,k,())=some (k',y,())/\pB.aa (y,k,())=some (k',())/\k<=k'/\k'<=k+32*((zz (.U bj) x:Nat):Int):=by
 have hB:mL=4611686018427387904:=rfl
 exact Sv (α:=Buffer) (zz bj) U0 (λx k f=>pz.ae f (x,k,())) (λy k f=>pB.ae f (y,k,())) (λ(x:Buffer) k h0 h1=>by
   have hz:zz bj x=(0+(zz (.U ai) x.2.1+0)):=rfl;obtain ⟨r1,y1,e1,f1,g1,i1⟩:=Jt x.2.1 (k+1) (by omega) (by omega)
   exact ⟨_,_,by omega,by omega,⟨r1,y1,e1,f1,g1,i1,rfl,rfl⟩⟩) (λi (acc:List (Buffer)) k self (x y:Buffer) k' hi hx h0 h1 h2 h3 hE am=>by
   have hz:zz bj x=(0+(zz (.U ai) x.2.1+0)):=rfl;obtain ⟨r1,y1,e1,f1,g1,i1,rfl,rfl⟩:=hE
   simp (disch:=omega) only [am,aD,aJ,aK,cQ,aI,aH,hx,aA,cX,ng,fJ,bf,kV,e1]) (λ_ i (ys:List (Buffer)) k self (x y:Buffer) k' hi hx h0 h1 h2 h3 hE am=>by
   have hz:zz bj x=(0+(zz (.U ai) x.2.1+0)):=rfl;obtain ⟨r1,y1,e1,f1,g1,i1,rfl,rfl⟩:=hE;have n1:¬ r1 < 0:=by omega
   simp (disch:=omega) only [am,aD,aJ,aK,cQ,aI,aH,hx,aA,bf,kV,gC,aQ,aG,aC,f1,n1]) x k h0 h1
theorem OK (x:dg) (k:Int) (h0:0<=k) (h1:k+32*((zz ei x:Nat):Int)<=mL):∃ (k':Int) (y:dg),nA.aa (x,k,())=some (k',y,())/\nB.aa (y,k,())=some (k',())/\k<=k'/\k'<=k+32*((zz ei x:Nat):Int):=by
 have hB:mL=4611686018427387904:=rfl;have hz:zz ei x=(zz (.U (.U u8)) x.1+(zz (.U bj) x.2.1+0)):=rfl;obtain ⟨k1,y1,e1,f1,g1,i1⟩:=UZ x.1 k (by omega) (by omega);have n1:¬ k1 < 0:=by omega
 obtain ⟨k2,y2,e2,f2,g2,i2⟩:=SN x.2.1 k1 (by omega) (by omega);have n2:¬ k2 < 0:=by omega
 refine ⟨k2,(y1,y2,x.2.2),ah (k:=0) λf _=>(nA.ae f _).trans ?_,ah (k:=0) λf _=>(nB.ae f _).trans ?_,by omega,by omega⟩
 ·show nA.p _=_;unfold nA.p;simp only[e1,e2,aA]
 ·show nB.p _=_;unfold nB.p;simp only[f1,f2,n1,n2,aA,aC,aG]
theorem Nr (x:di) (k:Int) (h0:0<=k) (h1:k+32*((zz d6 x:Nat):Int)<=mL):∃ (k':Int) (y:di),mi.aa (x,k,())=some (k',y,())/\mj.aa (y,k,())=some (k',())/\k<=k'/\k'<=k+32*((zz d6 x:Nat):Int):=by
 have hB:mL=4611686018427387904:=rfl;have hz:zz d6 x=((zz (.U (.U u8)) x.1.1+(zz (.U bj) x.1.2.1+0))+(0+((zz (.U (.U u8)) x.2.2.1.1+(zz (.U bj) x.2.2.1.2.1+0))+(0+0)))):=rfl;have wJ:zz ei x.1=(zz (.U (.U u8)) x.1.1+(zz (.U bj) x.1.2.1+0)):=rfl;obtain ⟨k1,y1,e1,f1,g1,i1⟩:=OK x.1 k (by omega) (by omega);have n1:¬ k1 < 0:=by omega
 have zO:zz ei x.2.2.1=(zz (.U (.U u8)) x.2.2.1.1+(zz (.U bj) x.2.2.1.2.1+0)):=rfl;obtain ⟨k2,y2,e2,f2,g2,i2⟩:=OK x.2.2.1 k1 (by omega) (by omega);have n2:¬ k2 < 0:=by omega
 refine ⟨k2,(y1,x.2.1,y2,x.2.2.2.1,x.2.2.2.2),ah (k:=0) λf _=>(mi.ae f _).trans ?_,ah (k:=0) λf _=>(mj.ae f _).trans ?_,by omega,by omega⟩
 ·show mi.p _=_;unfold mi.p;simp only[e1,e2,aA]
 ·show mj.p _=_;unfold mj.p;simp only[f1,f2,n1,n2,aA,aC,aG]
theorem L5 (x:ig) (k:Int) (h0:0<=k) (h1:k+32*((zz gq x:Nat):Int)<=mL):∃ (k':Int) (y:ig),lJ.aa (x,k,())=some (k',y,())/\kM.aa (y,k,())=some (k',())/\k<=k'/\k'<=k+32*((zz gq x:Nat):Int):=by
 have hB:mL=4611686018427387904:=rfl;have hz:zz gq x=(0+(zz (.U gv) x.2.1+(((zz (.U (.U u8)) x.2.2.1.1.1+(zz (.U bj) x.2.2.1.1.2.1+0))+(0+((zz (.U (.U u8)) x.2.2.1.2.2.1.1+(zz (.U bj) x.2.2.1.2.2.1.2.1+0))+(0+0))))+0))):=rfl;obtain ⟨k1,y1,e1,f1,g1,i1⟩:=XA x.2.1 k (by omega) (by omega);have n1:¬ k1 < 0:=by omega
 have zO:zz d6 x.2.2.1=((zz (.U (.U u8)) x.2.2.1.1.1+(zz (.U bj) x.2.2.1.1.2.1+0))+(0+((zz (.U (.U u8)) x.2.2.1.2.2.1.1+(zz (.U bj) x.2.2.1.2.2.1.2.1+0))+(0+0)))):=rfl;obtain ⟨k2,y2,e2,f2,g2,i2⟩:=Nr x.2.2.1 k1 (by omega) (by omega);have n2:¬ k2 < 0:=by omega
 refine ⟨k2,(x.1,y1,y2,x.2.2.2),ah (k:=0) λf _=>(lJ.ae f _).trans ?_,ah (k:=0) λf _=>(kM.ae f _).trans ?_,by omega,by omega⟩
 ·show lJ.p _=_;unfold lJ.p;simp only[e1,e2,aA]
 ·show kM.p _=_;unfold kM.p;simp only[f1,f2,n1,n2,aA,aC,aG]
end OT
namespace OT
open Go
theorem nM (a b c:Int):bu.aa (a,b,c,())=some (decide (b<=a)&&decide (a<=c),()):=by
 refine ah (k:=0) λk _=>(bu.ae k _).trans ?_;show bu.p _=_;unfold bu.p;by_cases h:b<=a <;> simp[h]
theorem sV (a b c:Int):fy.aa (a,b,c,())=some (decide (b<=a)&&decide (a<=c),()):=by
 refine ah (k:=0) λk _=>(fy.ae k _).trans ?_;show fy.p _=_;unfold fy.p;by_cases h:b<=a <;> simp[h]
theorem OL (a:Int):qa.aa (a,())=some (decide (1<=a)&&decide (a<=99),()):=by
 refine ah (k:=0) λk _=>(qa.ae k _).trans ?_;show qa.p _=_;unfold qa.p;simp[sV]
def ft (a b c:Int):Bool:=decide (b<=a)&&decide (a<=c)
theorem vK (s:List UInt8) (h:s.length<=200000000000):kb.aa (s,())=some (s,()):=by
 refine ah (k:=0) λk _=>(kb.ae k _).trans ?_;show kb.p _=_;unfold kb.p;have:([]:List UInt8).length+s.length<=cc:=dh (by simpa using h);rw[aV this,bT]
theorem xO (s:List UInt8) (h:s.length<=200000000000):gr.aa (s,())=some (s,()):=by
 refine ah (k:=0) λk _=>(gr.ae k _).trans ?_;show gr.p _=_;unfold gr.p;have:([]:List UInt8).length+s.length<=cc:=dh (by simpa using h);rw[aV this,bT]
theorem ic {S O α:Type} {g:S->α->S} {fin:S->O}:∀ (xs:List α) (i:Nat) (s:S),bz (λ_ s x=>.inr (g s x)) fin i xs s=fin (xs.foldl g s)
 | [],_,_=>rfl
 | x::xs,i,s=>by simp only[bz,eG];exact ic xs _ _
theorem ym {α:Type}:∀ (xs s:List α),xs.foldl (λs x=>s++[x]) s=s++xs
 | [],s=>by simp
 | x::xs,s=>by rw[eG,ym];simp
abbrev ma:Type:=List (List UInt8)
def gp (ps:ma):Prop:=ps.length<=12/\∀ p ∈ ps,p.length=64
def Cw:List UInt8:=((List.replicate 64 (0:UInt8)).set 0 0).set 1 64
theorem FY:Cw.length=64:=by simp[Cw]
theorem Db (ps:ma) (h:gp ps):lB.aa (ps,())=some (ps,()):=by
 obtain ⟨h1,h2⟩:=h;refine ah (k:=14) λk hk=>(lB.ae k _).trans ?_
 have:=co (B:=λself v=>lB.b0 self (λz=>lB.q0 (ps,()) z) (ps,()) v) ps (λ(s:ma) (i:Int)=>(s,i)) (λ_ s x=>.inr (s++[x])) (λs=>(s,())) (λi s=>s.length=i) (by rw[aq];omega)
  (λi hi s self hI=>by
   show lB.b0 _ _ _ _=_;unfold lB.b0;have am:(i:Int) < (ps.length:Int):=by omega
   have hx:=h2 ps[i] (aS hi);simp only[am,aD,aJ,aK,aI,aH,aB hi,aA];rw[vK _ (by omega)];have hc:s.length+[ps[i]].length<=cc:=dh (by simp only[aO,bA];omega)
   simp only[aA,hc,aI])
  (λi hi s s' hI hs=>by injection hs with hs;rw[<-hs];simp[hI]) (λs self hI=>by
   show lB.b0 _ _ _ _=_;unfold lB.b0;simp only[bC,aC,aG]
   rfl) [] rfl k (by omega)
 rw[ic,ym] at this;exact this
theorem Dc (ps:ma) (h:gp ps):lz.aa (ps,())=some (ps,()):=by
 obtain ⟨h1,h2⟩:=h;refine ah (k:=14) λk hk=>(lz.ae k _).trans ?_
 have:=co (B:=λself v=>lz.b0 self (λz=>lz.q0 (ps,()) z) (ps,()) v) ps (λ(s:ma) (i:Int)=>(s,i)) (λ_ s x=>.inr (s++[x])) (λs=>(s,())) (λi s=>s.length=i) (by rw[aq];omega)
  (λi hi s self hI=>by
   show lz.b0 _ _ _ _=_;unfold lz.b0;have am:(i:Int) < (ps.length:Int):=by omega
   have hx:=h2 ps[i] (aS hi);simp only[am,aD,aJ,aK,aI,aH,aB hi,aA];rw[xO _ (by omega)];have hc:s.length+[ps[i]].length<=cc:=dh (by simp only[aO,bA];omega)
   simp only[aA,hc,aI])
  (λi hi s s' hI hs=>by injection hs with hs;rw[<-hs];simp[hI]) (λs self hI=>by
   show lz.b0 _ _ _ _=_;unfold lz.b0;simp only[bC,aC,aG]
   rfl) [] rfl k (by omega)
 rw[ic,ym] at this;exact this
end OT
namespace OT
open Go
def wW (c:UInt8):Bool:=!decide ((c.toNat:Int) < 97)&&!decide ((122:Int) < (c.toNat:Int))
def EL (s:List UInt8):Bool:=s.all wW&&decide (s.length<=8)
def oh (x:Row):Int:=if ft x.1 0 3&&(ft x.2.1 1 99&&ft x.2.2.1 0 999) then (if EL x.2.2.2.1 then 0 else 5) else 3
theorem len8 (s:List UInt8):decide ((s.length:Int)<=8)=decide (s.length<=8):=by
 by_cases h:s.length<=8
 ·have:(s.length:Int)<=8:=by omega
  simp[h,this]
 ·have:¬ (s.length:Int)<=8:=by omega
  simp[h,this]
theorem Ns (s:List UInt8) (h:s.length<=maxLen):l6.aa (s,())=some (EL s,()):=by
 refine ah (k:=s.length+1) λk hk=>(l6.ae k _).trans ?_
 have:=co (B:=λself v=>l6.b0 self (λz=>l6.q0 (s,()) z) (s,()) v) s (λ(_:Unit) (i:Int)=>i) (λ_ _ x=>if wW x then .inr () else .inl (false,())) (λ_=>(decide (s.length<=8),())) (λ_ _=>True) h
  (λi hi _ self _=>by
   show l6.b0 _ _ _ _=_;unfold l6.b0;have am:(i:Int) < (s.length:Int):=by omega
   simp only[am,aD,aJ,aK,aI,aH,aB hi,aA];unfold wW
   by_cases h1:((s[i].toNat:Int) < 97) <;> by_cases h2:((122:Int) < (s[i].toNat:Int)) <;> simp[h1,h2]) (λ_ _ _ _ _ _=>trivial) (λ_ self _=>by
   show l6.b0 _ _ _ _=_;unfold l6.b0
   simp[l6.q0,l6.q0,len8]) () trivial k (by omega)
 refine this.trans ?_;rw[rP wW (false,()) (λ_=>(decide (s.length<=8),()))];unfold EL;cases s.all wW <;> rfl
theorem y8 (x:Row) (h:List.length x.2.2.2.1<=maxLen):jg.aa (x,())=some (oh x,()):=by
 refine ah (k:=0) λk _=>(jg.ae k _).trans ?_;show jg.p _=_;unfold jg.p oh ft;simp only[nM,Ns _ h,aA];cases decide ((0:Int)<=x.1) <;> cases decide (x.1<=3) <;> cases decide ((1:Int)<=x.2.1) <;> cases decide (x.2.1<=99) <;> cases decide ((0:Int)<=x.2.2.1) <;> cases decide (x.2.2.1<=999) <;> cases EL x.2.2.2.1 <;> rfl
theorem y9 (x:Row) (h:List.length x.2.2.2.1<=maxLen):du.aa (x,())=some (oh x,()):=by
 refine ah (k:=List.length x.2.2.2.1+1) λk hk=>(du.ae k _).trans ?_
 have:=co (B:=λself v=>du.b0 self (λz=>du.q0 (x,()) z) (x,()) v) x.2.2.2.1 (λ(_:Unit) (i:Int)=>i) (λ_ _ c=>if wW c then .inr () else .inl (5,())) (λ_=>(0,())) (λ_ _=>True) h
  (λi hi _ self _=>by
   show du.b0 _ _ _ _=_;unfold du.b0;have am:(i:Int) < (List.length x.2.2.2.1:Int):=by omega
   simp only[am,aD,aJ,aK,aI,aH,aB hi,aA];unfold wW
   by_cases h1:(((x.2.2.2.1)[i].toNat:Int) < 97) <;> by_cases h2:((122:Int) < ((x.2.2.2.1)[i].toNat:Int)) <;> simp[h1,h2]) (λ_ _ _ _ _ _=>trivial) (λ_ self _=>by
   show du.b0 _ _ _ _=_;unfold du.b0
   simp[du.q0,du.q0]) () trivial k (by omega)
 rw[rP wW (5,()) (λ_=>(0,()))] at this;have this:du.r0 k (x,()) 0=_:=this;unfold du.p oh ft EL;simp only[sV,this,aA]
 have h8:decide ((8:Int) < (List.length x.2.2.2.1:Int))=!decide (List.length x.2.2.2.1<=8):=by
  by_cases hc:List.length x.2.2.2.1<=8
  ·have:¬ (8:Int) < (List.length x.2.2.2.1:Int):=by omega
   simp[hc,this]
  ·have:(8:Int) < (List.length x.2.2.2.1:Int):=by omega
   simp[hc,this]
 rw[h8];cases decide ((0:Int)<=x.1) <;> cases decide (x.1<=3) <;> cases decide ((1:Int)<=x.2.1) <;> cases decide (x.2.1<=99) <;> cases decide ((0:Int)<=x.2.2.1) <;> cases decide (x.2.2.1<=999) <;> cases decide (List.length x.2.2.2.1<=8) <;> cases (x.2.2.2.1).all wW <;> rfl
def rl (x:Row):Prop:=List.length x.2.2.2.1<=maxLen
def cl (c:Change):Prop:=rl c.2.1/\rl c.2.2.2.1
def sameKey (a b:Row):Bool:=decide (a.1=b.1)&&decide (a.2.1=b.2.1)
def bm (a b:Int×Int):Bool:=decide (a.1 < b.1)||(decide (a.1=b.1)&&decide (a.2 < b.2))
def ug (c:Change):Int:=if (!c.1&&!c.2.2.1)||(c.1&&c.2.2.1&&!sameKey c.2.1 c.2.2.2.1) then 1 else if c.1&&!decide (oh c.2.1=0) then oh c.2.1 else if c.2.2.1 then oh c.2.2.2.1 else 0
def wX (c:Change):Int:=if ug c=0 then (if c.1&&c.2.2.1&&Ty.eq ba c.2.1 c.2.2.2.1 then 1 else 0) else ug c
def ck (c:Change):Int×Int:=if c.2.2.1 then (c.2.2.2.1.1,c.2.2.2.1.2.1) else (c.2.1.1,c.2.1.2.1)
theorem JZ (c:Change) (h:cl c):o7.aa (c,())=some (ug c,()):=by
 refine ah (k:=0) λk _=>(o7.ae k _).trans ?_;show o7.p _=_;unfold o7.p ug sameKey;simp only[y8 _ h.1,y8 _ h.2,aA];cases c.1 <;> cases c.2.2.1 <;> by_cases h1:c.2.1.1=c.2.2.2.1.1 <;> by_cases h2:c.2.1.2.1=c.2.2.2.1.2.1 <;> by_cases h3:oh c.2.1=0 <;> simp[h1,h2,h3]
theorem xP (a b:Row):gd.aa (a,b,())=some (bm (a.1,a.2.1) (b.1,b.2.1),()):=by
 refine ah (k:=0) λk _=>(gd.ae k _).trans ?_;show gd.p _=_;unfold gd.p bm;by_cases h1:a.1 < b.1 <;> by_cases h2:a.1=b.1 <;> simp[h1,h2]
theorem tk (a b:Row):ij.aa (a,b,())=some (if bm (a.1,a.2.1) (b.1,b.2.1) then -1 else if bm (b.1,b.2.1) (a.1,a.2.1) then 1 else 0,()):=by
 refine ah (k:=0) λk _=>(ij.ae k _).trans ?_;show ij.p _=_;unfold ij.p;simp only[xP,aA];cases bm (a.1,a.2.1) (b.1,b.2.1) <;> cases bm (b.1,b.2.1) (a.1,a.2.1) <;> rfl
theorem Hs (a b:Row):decide ((if bm (a.1,a.2.1) (b.1,b.2.1) then (-1:Int) else if bm (b.1,b.2.1) (a.1,a.2.1) then 1 else 0)=0)=sameKey a b:=by
 unfold bm sameKey;by_cases h1:a.1 < b.1
 ·have:¬ a.1=b.1:=by omega
  simp[h1,this]
 ·by_cases h2:a.1=b.1
  ·by_cases h3:a.2.1 < b.2.1
   ·have:¬ a.2.1=b.2.1:=by omega
    simp[h2,h3,this]
   ·by_cases h4:b.2.1 < a.2.1
    ·have:¬ a.2.1=b.2.1:=by omega
     simp[h2,h3,h4,this]
    ·have:a.2.1=b.2.1:=by omega
     simp[h2,this]
  ·have:b.1 < a.1:=by omega
   simp[h1,h2,this]
theorem Dd (c:Change) (h:cl c):kE.aa (c,())=some (ug c,()):=by
 refine ah (k:=0) λk _=>(kE.ae k _).trans ?_;show kE.p _=_;unfold kE.p ug;simp only[y9 _ h.1,y9 _ h.2,tk,aA,Hs];cases c.1 <;> cases c.2.2.1 <;> cases sameKey c.2.1 c.2.2.2.1 <;> by_cases h3:oh c.2.1=0 <;> simp[h3]
theorem xE (c:Change) (h:cl c):kt.aa (c,())=some (wX c,()):=by
 refine ah (k:=0) λk _=>(kt.ae k _).trans ?_;show kt.p _=_;unfold kt.p wX;simp only[JZ c h,aA];by_cases h1:ug c=0
 ·simp only[h1,aD,aQ,aG,aI];cases c.1 <;> cases c.2.2.1 <;> cases Ty.eq ba c.2.1 c.2.2.2.1 <;> rfl
 ·simp[h1]
theorem D3 (c:Change) (h:cl c):gy.aa (c,())=some (wX c,()):=by
 refine ah (k:=0) λk _=>(gy.ae k _).trans ?_;show gy.p _=_;unfold gy.p wX;simp only[Dd c h,aA];by_cases h1:ug c=0
 ·simp only[h1,aD,aQ,aG,aI];cases c.1 <;> cases c.2.2.1 <;> cases Ty.eq ba c.2.1 c.2.2.2.1 <;> rfl
 ·simp[h1]
theorem Cx (c:Change):mn.aa (c,())=some ((ck c).1,(ck c).2,()):=by
 refine ah (k:=0) λk _=>(mn.ae k _).trans ?_;show mn.p _=_;unfold mn.p ck;cases c.2.2.1 <;> rfl
def nu (c:Change):Row:=if c.2.2.1 then c.2.2.2.1 else c.2.1
theorem AQ (c:Change):((nu c).1,(nu c).2.1)=ck c:=by unfold nu ck;cases c.2.2.1 <;> rfl
theorem u9 (c:Change):cx.aa (c,())=some (nu c,()):=by
 refine ah (k:=0) λk _=>(cx.ae k _).trans ?_;show cx.p _=_;unfold cx.p nu;cases c.2.2.1 <;> rfl
theorem Ht (n:Nat) (m:Nat):decide ((m:Int) < (n:Int))=decide (m < n):=by
 by_cases h:m < n
 ·have:(m:Int) < (n:Int):=by omega
  simp[h,this]
 ·have:¬ (m:Int) < (n:Int):=by omega
  simp[h,this]
theorem Cy {i:Nat} (hi:0 < i) (h:i<=maxLen):af ((i:Int) - 1)=((i - 1:Nat):Int):=by
 rw[aq] at h;rw[bf (by omega)];omega
theorem Qt {x:Row} (h:sH ba x):rl x:=h.2.2.2.1
theorem aaU {c:Change} (h:sH ai c):cl c:=⟨Qt h.2.1,Qt h.2.2.2.1⟩
end OT
namespace OT
open Go
def rk (x:Row):Int×Int:=(x.1,x.2.1)
theorem Af (a b:Int×Int):bm a b=true↔a.1 < b.1\/(a.1=b.1/\a.2 < b.2):=by unfold bm;simp
theorem oW {a b c:Int×Int} (h1:bm a b=true) (h2:bm b c=true):bm a c=true:=by
 rw[Af] at *;omega
theorem ju (a:Int×Int):bm a a=false:=by
 cases h:bm a a with
 | false=>rfl
 | true=>rw[Af] at h;omega
theorem wk {a b:Int×Int} (h:bm a b=true):bm b a=false:=by
 cases h2:bm b a with
 | false=>rfl
 | true=>rw[Af] at h h2;omega
theorem sk {a b:Int×Int} (h1:bm a b=false) (h2:bm b a=false):a=b:=by
 have n1:¬ (a.1 < b.1\/(a.1=b.1/\a.2 < b.2)):=λh=>by rw[(Af a b).2 h] at h1;cases h1
 have n2:¬ (b.1 < a.1\/(b.1=a.1/\b.2 < a.2)):=λh=>by rw[(Af b a).2 h] at h2;cases h2
 have e1:a.1=b.1:=by omega
 have e2:a.2=b.2:=by omega
 obtain ⟨a1,a2⟩:=a;obtain ⟨b1,b2⟩:=b;simp only at e1 e2;rw[e1,e2]
def up (xs:List Row):Prop:=xs.Pairwise (λa b=>bm (rk a) (rk b)=true)
theorem tY {x:Row} {xs:List Row}:up (x::xs)↔(∀ y ∈ xs,bm (rk x) (rk y)=true)/\up xs:=eC
def pos:List Row->Int×Int->Nat
 | [],_=>0
 | x::xs,k=>if bm (rk x) k then pos xs k+1 else 0
theorem uG:∀ (xs:List Row) (k:Int×Int),pos xs k<=xs.length
 | [],_=>aN _
 | x::xs,k=>by simp only[pos];split <;> simp[uG xs k]
theorem D4:∀ (xs:List Row) (k:Int×Int) (i:Nat) (h:i < xs.length),i < pos xs k->bm (rk xs[i]) k=true
 | x::xs,k,i,h,hp=>by
  simp only[pos] at hp;split at hp
  ·rename_i hx
   cases i with
   | zero=>exact hx
   | succ i=>exact D4 xs k i (by simpa using h) (by omega)
  ·omega
theorem wY:∀ (xs:List Row) (k:Int×Int) (i:Nat) (h:i < xs.length),up xs->pos xs k<=i->bm (rk xs[i]) k=false
 | x::xs,k,i,h,hu,hp=>by
  simp only[pos] at hp;split at hp
  ·cases i with
   | zero=>omega
   | succ i=>exact wY xs k i (by simpa using h) (tY.1 hu).2 (by omega)
  ·rename_i hx;have hx:bm (rk x) k=false:=by simpa using hx
   cases i with
   | zero=>exact hx
   | succ i=>
    have lg:i < xs.length:=by simpa using h
    have hm:bm (rk x) (rk xs[i])=true:=(tY.1 hu).1 _ (aS _);show bm (rk xs[i]) k=false
    cases hb:bm (rk xs[i]) k with
    | false=>rfl
    | true=>rw[oW hm hb] at hx;cases hx
def ls (xs:List Row) (k:Int×Int):Bool:=match xs[pos xs k]? with
 | some x=>decide (rk x=k)
 | none=>false
theorem yn {xs:List Row} {k:Int×Int} (h:ls xs k=true):∃ hp:pos xs k < xs.length,rk xs[pos xs k]=k:=by
 unfold ls at h;split at h
 ·rename_i x hx;obtain ⟨hp,e⟩:=aM.1 hx;subst e;exact ⟨hp,by simpa using h⟩
 ·cases h
theorem SO (a b:Row):decide ((if bm (a.1,a.2.1) (b.1,b.2.1) then (-1:Int) else if bm (b.1,b.2.1) (a.1,a.2.1) then 1 else 0) < 0)=bm (rk a) (rk b):=by
 unfold rk;cases bm (a.1,a.2.1) (b.1,b.2.1) <;> cases bm (b.1,b.2.1) (a.1,a.2.1) <;> rfl
theorem Cz (a b:Row):sameKey a b=decide (rk a=rk b):=by
 unfold sameKey rk;by_cases h1:a.1=b.1 <;> by_cases h2:a.2.1=b.2.1 <;> simp[h1,h2]
theorem half (lo hi:Nat) (h:lo+hi<=4611686018427387904):af ((IntKind.wrap .u64 (af ((lo:Int)+(hi:Int)))).fdiv (2 ^ 1))=(((lo+hi) / 2:Nat):Int):=by
 have e1:af ((lo:Int)+(hi:Int))=((lo+hi:Nat):Int):=by rw[bf (by omega)];omega
 rw[e1]
 have e2:IntKind.wrap .u64 ((lo+hi:Nat):Int)=((lo+hi:Nat):Int):=by
  simp only[IntKind.wrap]
  first | rfl | (simp[IntKind.bits,IntKind.signed];omega) | omega
 rw[e2]
 have e3:(((lo+hi:Nat):Int)).fdiv (2 ^ 1)=(((lo+hi) / 2:Nat):Int):=by
  rw[gV _ (by omega)];omega
 rw[e3,bf (by omega)]
theorem Ju (xs:List Row) (key:Row) (f:Nat×Int) (hu:up xs) (hl:xs.length<=2000000):bi.aa (xs,key,f,())=some ((pos xs (rk key):Int),ls xs (rk key),()):=by
 have hp:=uG xs (rk key)
 have hq:bi.q0 (xs,key,f,()) (pos xs (rk key):Int)=some ((pos xs (rk key):Int),ls xs (rk key),()):=by
  show bi.q0 _ _=_;unfold bi.q0 ls;by_cases am:pos xs (rk key) < xs.length
  ·have h1:((pos xs (rk key):Nat):Int) < (xs.length:Int):=by omega
   simp only[h1,aD,aJ,aK,aI,aH,aB am,aA,tk,Hs,Cz]
  ·have h1:¬ ((pos xs (rk key):Nat):Int) < (xs.length:Int):=by omega
   simp only[h1,aC,aG];rw[cW (by omega)]
 refine ah (k:=xs.length+1) λk hk=>(bi.ae k _).trans ?_
 refine uU (B:=λself v=>bi.b0 self (λz=>bi.q0 (xs,key,f,()) z) (xs,key,f,()) v) (λ_=>((pos xs (rk key):Int),ls xs (rk key),()))
  (λv=>∃ lo hi:Nat,v=((lo:Int),(hi:Int))/\lo<=pos xs (rk key)/\pos xs (rk key)<=hi/\hi<=xs.length) (λv=>(v.2 - v.1).toNat) (λv hv self=>?_) k (0,(xs.length:Int)) ⟨0,xs.length,rfl,by omega,hp,by omega⟩ (by simp;omega)
 obtain ⟨lo,hi,rfl,h1,h2,h3⟩:=hv;by_cases am:lo < hi
 ·right;have sZ:(lo:Int) < (hi:Int):=by omega
  have hm:(lo+hi) / 2 < xs.length:=by omega
  have hb:∀ self,bi.b0 self (λz=>bi.q0 (xs,key,f,()) z) (xs,key,f,()) ((lo:Int),(hi:Int))=if bm (rk xs[(lo+hi) / 2]) (rk key) then self (af ((((lo+hi) / 2:Nat):Int)+1),(hi:Int)) else self ((lo:Int),(((lo+hi) / 2:Nat):Int)):=λself=>by
   show bi.b0 _ _ _ _=_;unfold bi.b0;simp only[sZ,aD,aJ,half lo hi (by omega),aK,aI,aH,aB hm,aA,tk,SO];cases bm (rk xs[(lo+hi) / 2]) (rk key) <;> rfl
  cases hc:bm (rk xs[(lo+hi) / 2]) (rk key) with
  | true=>
   refine ⟨((((lo+hi) / 2+1:Nat):Int),(hi:Int)),?_,rfl,⟨_,_,rfl,?_,h2,h3⟩,by simp only;omega⟩
   ·rw[hb,hc,aV rfl,bf (by omega)];rfl
   ·rcases bZ ((lo+hi) / 2) (pos xs (rk key)) with h | h
    ·omega
    ·rw[wY xs _ _ hm hu h] at hc;cases hc
  | false=>
   refine ⟨((lo:Int),(((lo+hi) / 2:Nat):Int)),?_,rfl,⟨_,_,rfl,h1,?_,by omega⟩,by simp only;omega⟩
   ·rw[hb,hc];rfl
   ·rcases bZ ((lo+hi) / 2) (pos xs (rk key)) with h | h
    ·rw[D4 xs _ _ hm h] at hc;cases hc
    ·exact h
 ·left;have e:lo=pos xs (rk key):=by omega
  have sZ:¬ (lo:Int) < (hi:Int):=by omega
  show bi.b0 _ _ _ _=_;unfold bi.b0;simp only[sZ,aC,aG];rw[e];exact hq
def vL (xs:List Row) (c:Change):Bool:=(ls xs (ck c) == c.1)&&(!ls xs (ck c)||(match xs[pos xs (ck c)]? with | some x=>Ty.eq ba x c.2.1 | none=>true))
def tm (xs:List Row) (c:Change):List Row:=xs.take (pos xs (ck c))++(if c.2.2.1 then [c.2.2.2.1] else [])++xs.drop (pos xs (ck c)+if ls xs (ck c) then 1 else 0)
theorem vB (c:Change):rk (nu c)=ck c:=AQ c
theorem SP (c:Change) (xs:List Row) (hu:up xs) (hl:xs.length<=2000000):mg.aa (c,xs,())=some (vL xs c,()):=by
 refine ah (k:=0) λk _=>(mg.ae k _).trans ?_;show mg.p _=_;unfold mg.p vL;simp only[u9,Ju xs _ _ hu hl,vB,aA]
 cases hf:ls xs (ck c) with
 | false=>cases c.1 <;> rfl
 | true=>
  obtain ⟨hp,hk⟩:=yn hf;simp only[aK,aI,aH,aB hp,aA];cases c.1 <;> rfl
theorem Qu (xs:List Row) (c:Change) (hu:up xs) (hl:xs.length<=2000000):qb.aa (xs,c,())=some (tm xs c,()):=by
 refine ah (k:=0) λk _=>(qb.ae k _).trans ?_;show qb.p _=_;unfold qb.p tm;have hp:=uG xs (ck c);have wP:0<=((pos xs (ck c):Nat):Int)/\((pos xs (ck c):Nat):Int)<=(xs.length:Int):=by omega
 have c1:([]:List Row).length+(List.take (pos xs (ck c)) xs).length<=cc:=dh (by simp;omega);simp only[u9,Ju xs _ _ hu hl,vB,aA,wP,cQ,aI,aH,c1,eF,bT,dX];have c2:(List.take (pos xs (ck c)) xs).length+[c.2.2.2.1].length<=cc:=dh (by simp;omega);have hd:∀ (p7:List Row) (n:Nat),p7.length<=2000001->p7.length+(List.drop n xs).length<=cc:=λp7 n h=>dh (by rw[bI];omega);have hw:af (((pos xs (ck c):Nat):Int)+1)=((pos xs (ck c)+1:Nat):Int):=by rw[bf (by omega)];rfl
 have c3:=hd (List.take (pos xs (ck c)) xs++[c.2.2.2.1]);have c4:=hd (List.take (pos xs (ck c)) xs);have l3:(List.take (pos xs (ck c)) xs++[c.2.2.2.1]).length<=2000001:=by simp;omega
 have l4:(List.take (pos xs (ck c)) xs).length<=2000001:=by simp;omega
 cases hf:ls xs (ck c) with
 | false=>
  cases c.2.2.1 with
  | false=>simp only[aG,wP,cQ,aI,aH,c4 _ l4,aF,aL,cD,dG]
  | true=>simp only[aJ,aG,c2,wP,cQ,aI,aH,c3 _ l3,aF,aL,dG]
 | true=>
  obtain ⟨ir,_⟩:=yn hf;have Zy:0<=((pos xs (ck c)+1:Nat):Int)/\((pos xs (ck c)+1:Nat):Int)<=(xs.length:Int):=by omega
  cases c.2.2.1 with
  | false=>simp only[aJ,aG,hw,Zy,cQ,aI,aH,c4 _ l4,aF,aL,cD]
  | true=>simp only[aJ,aG,c2,hw,Zy,cQ,aI,aH,c3 _ l3]
theorem De (a b:Row):mA.aa (a,b,())=some (bm (rk a) (rk b),()):=by
 refine ah (k:=0) λk _=>(mA.ae k _).trans ?_;show mA.p _=_;unfold mA.p bm rk;by_cases h1:a.1 < b.1 <;> by_cases h2:a.1=b.1 <;> simp[h1,h2]
theorem Bj {x:Row} {xs:List Row} {k:Int×Int} (h:bm (rk x) k=true):ls (x::xs) k=ls xs k:=by
 unfold ls;simp only[pos,h,aI,fM]
theorem EM {xs:List Row} {k:Int×Int} (h:ls xs k=true):∃ y ∈ xs,rk y=k:=by
 obtain ⟨hp,hk⟩:=yn h;exact ⟨_,aS hp,hk⟩
theorem OM (k:Int×Int):∀ (xs:List Row) (j:Nat),up xs->bz (λi (_:Unit) x=>if rk x=k then .inl ((i:Int),()) else .inr ()) (λ_=>((-1:Int),())) j xs ()=if ls xs k then (((j+pos xs k:Nat):Int),()) else (-1,())
 | [],j,_=>by simp[bz,ls]
 | x::xs,j,hu=>by
  have hu:=tY.1 hu;simp only[bz];by_cases hx:rk x=k
  ·have hb:bm (rk x) k=false:=by rw[hx];exact ju k
   have hf:ls (x::xs) k=true:=by
    have hp0:pos (x::xs) k=0:=by simp only[pos,hb,aF,aL]
    unfold ls;rw[hp0];simp[hx]
   simp[hx,hf,pos,ju]
  ·simp only[hx,aL];rw[OM k xs (j+1) hu.2]
   cases hb:bm (rk x) k with
   | true=>
    rw[Bj hb];simp only[pos,hb,aI];have:j+1+pos xs k=j+(pos xs k+1):=by omega
    rw[this]
   | false=>
    have h1:ls (x::xs) k=false:=by simp[ls,pos,hb,hx]
    have h2:ls xs k=false:=by
     cases h:ls xs k with
     | false=>rfl
     | true=>
      obtain ⟨y,hy,e⟩:=EM h;have:=hu.1 y hy;rw[e,hb] at this;cases this
    simp[h1,h2]
def uH (xs:List Row) (k:Int×Int):Int:=if ls xs k then (pos xs k:Int) else -1
theorem D5 (xs:List Row) (t k:Int) (hu:up xs) (hl:xs.length<=2000000):jw.aa (xs,t,k,())=some (uH xs (t,k),()):=by
 refine ah (k:=xs.length+1) λf hf=>(jw.ae f _).trans ?_
 have:=co (B:=λself v=>jw.b0 self (λz=>jw.q0 (xs,t,k,()) z) (xs,t,k,()) v) xs (λ(_:Unit) (i:Int)=>i) (λi _ x=>if rk x=(t,k) then .inl ((i:Int),()) else .inr ()) (λ_=>((-1:Int),())) (λ_ _=>True) (by rw[aq];omega)
  (λi hi _ self _=>by
   show jw.b0 _ _ _ _=_;unfold jw.b0 rk;have am:(i:Int) < (xs.length:Int):=by omega
   simp only[am,aD,aJ,aK,aI,aH,aB hi,aA]
   by_cases h1:xs[i].1=t <;> by_cases h2:xs[i].2.1=k <;> simp[h1,h2]) (λ_ _ _ _ _ _=>trivial) (λ_ self _=>by
   show jw.b0 _ _ _ _=_;unfold jw.b0
   simp[jw.q0,jw.q0]) () trivial f (by omega)
 rw[OM (t,k) xs 0 hu] at this;have this:jw.r0 f (xs,t,k,()) 0=_:=this;unfold jw.p;rw[this];unfold uH;cases ls xs (t,k) <;> simp <;> rfl
theorem L6 {O:Type} (k:Int×Int) (g:Nat->O) (n:Nat):∀ (xs:List Row) (j:Nat),j+xs.length=n->bz (λi (_:Unit) x=>if bm (rk x) k then .inr () else .inl (g i)) (λ_=>g n) j xs ()=g (j+pos xs k)
 | [],j,h=>by simp[bz,pos] at *;rw[h]
 | x::xs,j,h=>by
  simp only[bz,pos]
  cases hb:bm (rk x) k with
  | true=>
   simp only[aI];rw[L6 k g n xs (j+1) (by simp at h;omega)];congr 1;omega
  | false=>simp
def mr (xs:List Row) (r:Row):List Row:=xs.take (pos xs (rk r))++[r]++xs.drop (pos xs (rk r))
theorem CA (xs:List Row) (r:Row) (hl:xs.length<=2000000):i_.aa (xs,r,())=some (mr xs r,()):=by
 refine ah (k:=xs.length+1) λf hf=>(i_.ae f _).trans ?_
 have hq:∀ i:Nat,i<=xs.length->i_.q0 (xs,r,()) (i:Int)=some (xs.take i++[r]++xs.drop i,()):=λi hi=>by
  show i_.q0 _ _=_;unfold i_.q0;have wP:0<=(i:Int)/\(i:Int)<=(xs.length:Int):=by omega
  have c1:([]:List Row).length+(List.take i xs).length<=cc:=dh (by simp;omega);have c2:(List.take i xs).length+[r].length<=cc:=dh (by simp;omega);have c3:(List.take i xs++[r]).length+(List.drop i xs).length<=cc:=dh (by simp;omega);simp only[wP,cQ,aI,aH,c1,eF,bT,dX,c2,c3]
 have:=co (B:=λself v=>i_.b0 self (λz=>i_.q0 (xs,r,()) z) (xs,r,()) v) xs (λ(_:Unit) (i:Int)=>i) (λi _ x=>if bm (rk x) (rk r) then .inr () else .inl (xs.take i++[r]++xs.drop i,())) (λ_=>(xs.take xs.length++[r]++xs.drop xs.length,())) (λ_ _=>True) (by rw[aq];omega)
  (λi hi _ self _=>by
   show i_.b0 _ _ _ _=_;unfold i_.b0;have am:(i:Int) < (xs.length:Int):=by omega
   simp only[am,aD,aJ,aK,aI,aH,aB hi,aA,De]
   cases bm (rk xs[i]) (rk r) with
   | true=>rfl
   | false=>exact hq i (by omega)) (λ_ _ _ _ _ _=>trivial) (λ_ self _=>by
   show i_.b0 _ _ _ _=_;unfold i_.b0;have am:¬ (xs.length:Int) < (xs.length:Int):=by omega
   simp only[am,aC,aG]
   exact hq _ (aN _)) () trivial f (by omega)
 rw[L6 (rk r) (λi=>(xs.take i++[r]++xs.drop i,())) xs.length xs 0 (by omega)] at this;refine this.trans ?_;simp[mr]
theorem FZ (t:Int):∀ (xs:List Row) (j:Nat) (s:List Row),bz (O:=List Row×Unit) (λi s x=>if (i:Int)=t then .inr s else .inr (s++[x])) (λs=>(s,())) j xs s=(s++(if (j:Int)<=t/\t < j+xs.length then xs.take (t - j).toNat++xs.drop ((t - j).toNat+1) else xs),())
 | [],j,s=>by
  have:¬ ((j:Int)<=t/\t < j+(([]:List Row).length:Int)):=λh=>by
   have h2:(([]:List Row).length:Int)=0:=rfl;omega
  simp only[bz,this,aL,cD]
 | x::xs,j,s=>by
  simp only[bz];by_cases h:(j:Int)=t
  ·have h1:¬ (((j+1:Nat):Int)<=t/\t < ((j+1:Nat):Int)+(xs.length:Int)):=by omega
   have h2:(j:Int)<=t/\t < (j:Int)+((x::xs).length:Int):=by simp;omega
   have h3:(t - j).toNat=0:=by omega
   simp only[h,aI];rw[FZ t xs (j+1) s,bB h1];rw[<-h] at h2 ⊢;have h3:((j:Int) - j).toNat=0:=by omega
   rw[aV h2,h3];simp
  ·simp only[h,aL];rw[FZ t xs (j+1) (s++[x])]
   by_cases hc:(j:Int)<=t/\t < (j:Int)+((x::xs).length:Int)
   ·have we:((j+1:Nat):Int)<=t/\t < ((j+1:Nat):Int)+(xs.length:Int):=by simp at hc;omega
    have h3:(t - j).toNat=(t - ((j+1:Nat):Int)).toNat+1:=by omega
    rw[aV hc,aV we,h3];simp
   ·have we:¬ (((j+1:Nat):Int)<=t/\t < ((j+1:Nat):Int)+(xs.length:Int)):=by simp at hc;omega
    rw[bB hc,bB we];simp
def F7 (xs:List Row) (k:Int×Int):List Row:=if ls xs k then xs.take (pos xs k)++xs.drop (pos xs k+1) else xs
theorem Hu (k:Int×Int):∀ (l1 l2:List Row),(∀ x ∈ l1,bm (rk x) k=true)->pos (l1++l2) k=l1.length+pos l2 k
 | [],l2,_=>by simp
 | x::l1,l2,h=>by
  simp only[cO,pos,h x bG,aI,aO];rw[Hu k l1 l2 λy hy=>h y (aW _ hy)];omega
theorem Ag {xs:List Row} {k:Int×Int} {x:Row} (h:x ∈ xs.take (pos xs k)):bm (rk x) k=true:=by
 obtain ⟨i,hi,e⟩:=dC.1 h;have hp:=uG xs k;rw[bP] at hi;rw[gS] at e;rw[<-e];exact D4 xs k i (by omega) (by omega)
theorem U1 {xs:List Row} {k:Int×Int} (hu:up xs) {n:Nat} (hn:pos xs k<=n):pos (xs.drop n) k=0:=by
 cases hd:xs.drop n with
 | nil=>rfl
 | cons y ys=>
  have am:n < xs.length:=by
   rcases bZ n xs.length with h | h
   ·exact h
   ·rw[List.drop_eq_nil_of_le h] at hd;cases hd
  rw[cZ am] at hd;injection hd with h1 h2;simp only[pos];rw[<-h1,wY xs k n am hu hn];rfl
theorem XD {xs:List Row} {k:Int×Int} {r:Row} (hu:up xs) (hk:rk r=k):mr (F7 xs k) r=xs.take (pos xs k)++[r]++xs.drop (pos xs k+if ls xs k then 1 else 0):=by
 have hp:=uG xs k
 have key:∀ n,pos xs k<=n->pos (xs.take (pos xs k)++xs.drop n) k=pos xs k:=λn hn=>by
  rw[Hu k _ _ λx hx=>Ag hx,U1 hu hn,bP];omega
 have hl:(xs.take (pos xs k)).length=pos xs k:=by rw[bP];omega
 unfold mr F7;rw[hk]
 cases ls xs k with
 | true=>
  simp only[aI];rw[key _ (by omega),fN hl,fO hl]
 | false=>
  simp
theorem SQ (xs:List Row) (c:Change) (hu:up xs) (hl:xs.length<=2000000) (hc:c.2.2.1=true->rk c.2.2.2.1=ck c):mM.aa (xs,c,())=some (if vL xs c then (tm xs c,true,()) else ([],false,())):=by
 refine ah (k:=xs.length+1) λf hf=>(mM.ae f _).trans ?_;have hp:=uG xs (ck c)
 have SR:=co (B:=λself v=>mM.b0 self (λz=>mM.q0 (xs,c,()) (uH xs (ck c)) z) (xs,c,()) (uH xs (ck c)) v) (O:=List Row×Bool×Unit) xs (λ(s:List Row) (i:Int)=>(s,i)) (λi s x=>if (i:Int)=uH xs (ck c) then .inr s else .inr (s++[x]))
  (λs=>(if c.2.2.1 then mr s c.2.2.2.1 else s,true,())) (λi s=>s.length<=i) (by rw[aq];omega)
  (λi hi s self hI=>by
   show mM.b0 _ _ _ _ _=_;unfold mM.b0;have am:(i:Int) < (xs.length:Int):=by omega
   simp only[am,aD,aJ,aK,aI,aH,aB hi,aA];have c2:s.length+[xs[i]].length<=cc:=dh (by simp;omega);by_cases h:(i:Int)=uH xs (ck c)
   ·simp[h]
   ·simp only[h,aC,aZ,aJ,c2,aI,aL]) (λi hi s s' hI hf=>by
   split at hf <;> (injection hf with hf;rw[<-hf];first | omega | (simp;omega))) (λs self hI=>by
   show mM.b0 _ _ _ _ _=_;unfold mM.b0;have am:¬ (xs.length:Int) < (xs.length:Int):=by omega
   simp only[am,aC,aG,mM.q0,mM.q0,CA s _ (by omega),aA]
   cases c.2.2.1 <;> rfl) [] (aN _) f (by omega)
 have xA:∀ (SS:List Row) (j:Nat) (s:List Row),bz (O:=List Row×Bool×Unit) (λi s x=>if (i:Int)=uH xs (ck c) then .inr s else .inr (s++[x])) (λs=>(if c.2.2.1 then mr s c.2.2.2.1 else s,true,())) j SS s
   = (λs=>(if c.2.2.1 then mr s c.2.2.2.1 else s,true,())) (bz (O:=List Row×Unit) (λi s x=>if (i:Int)=uH xs (ck c) then .inr s else .inr (s++[x])) (λs=>(s,())) j SS s).1:=by
  intro SS
  induction SS with
  | nil=>intro j s;rfl
  | cons x SS ih=>
   intro j s;simp only[bz];by_cases h:(j:Int)=uH xs (ck c)
   ·simp only[h,aI];exact ih _ _
   ·simp only[h,aL];exact ih _ _
 rw[xA,FZ (uH xs (ck c)) xs 0 []] at SR
 have abL:([]++(if ((0:Nat):Int)<=uH xs (ck c)/\uH xs (ck c) < ((0:Nat):Int)+(xs.length:Int) then xs.take (uH xs (ck c) - ((0:Nat):Int)).toNat++xs.drop ((uH xs (ck c) - ((0:Nat):Int)).toNat+1) else xs))=F7 xs (ck c):=by
  unfold uH F7
  cases ST:ls xs (ck c) with
  | true=>
   obtain ⟨ir,_⟩:=yn ST;simp only[aI];rw[aV (by omega)];have:(((pos xs (ck c):Nat):Int) - ((0:Nat):Int)).toNat=pos xs (ck c):=by omega
   rw[this];rfl
  | false=>simp
 simp only[abL] at SR;have SR:mM.r0 f (xs,c,()) (uH xs (ck c)) (([]:List Row),(0:Int))=_:=SR;unfold mM.p vL;simp only[Cx,D5 xs _ _ hu hl,aA,SR]
 have aaV:(if c.2.2.1 then mr (F7 xs (ck c)) c.2.2.2.1 else F7 xs (ck c))=tm xs c:=by
  unfold tm
  cases hi:c.2.2.1 with
  | true=>simp only[aI];exact XD hu (hc hi)
  | false=>
   simp only[aF,aL,cD];unfold F7
   cases ls xs (ck c) with
   | true=>simp
   | false=>simp
 rw[aaV]
 cases ST:ls xs (ck c) with
 | true=>
  obtain ⟨ir,hk⟩:=yn ST;have ha:uH xs (ck c)=(pos xs (ck c):Int):=by unfold uH;rw[ST];rfl
  simp only[ha,aK,aD,aJ,aI,aH,aB ir,aA]
  cases c.1 with
  | true=>cases Ty.eq ba xs[pos xs (ck c)] c.2.1 <;> rfl
  | false=>rfl
 | false=>
  have ha:uH xs (ck c)=-1:=by unfold uH;rw[ST];rfl
  simp only[ha];cases c.1 <;> rfl
end OT
set_option linter.unusedSectionVars false
namespace OT
open Go
theorem pD {α β:Type} {f g:α->Option β}:∀ {l:List α},(∀ x ∈ l,f x=g x)->l.filterMap f=l.filterMap g
 | [],_=>rfl
 | x::l,h=>by
  rw[dB,dB,h x bG,pD λy hy=>h y (aW _ hy)]
abbrev uI:Row:=((0:Int),(0:Int),(0:Int),([]:List UInt8),())
def look (xs:List Row) (k:Int×Int):Option Row:=if ls xs k then xs[pos xs k]? else none
theorem zo {x:Row} {xs:List Row} {k:Int×Int} (h:bm (rk x) k=true):look (x::xs) k=look xs k:=by
 unfold look;rw[Bj h];simp only[pos,h,aI,fM]
theorem wl {x:Row} {xs:List Row}:look (x::xs) (rk x)=some x:=by
 have h:pos (x::xs) (rk x)=0:=by simp[pos,ju]
 have h2:ls (x::xs) (rk x)=true:=by simp[ls,h]
 rw[look,h2,h];rfl
theorem SV {xs:List Row} {k:Int×Int} (h:∀ y ∈ xs,rk y≠k):look xs k=none:=by
 unfold look
 cases hf:ls xs k with
 | false=>rfl
 | true=>obtain ⟨y,h1,h2⟩:=EM hf;exact absurd h2 (h y h1)
theorem ON {x:Row} {xs:List Row} {k:Int×Int} (hu:up (x::xs)) (h:bm k (rk x)=true):look (x::xs) k=none:=by
 refine SV λy hy e=>?_;subst e;rcases aX.1 hy with rfl | hy
 ·rw[ju] at h;cases h
 ·have:=(tY.1 hu).1 y hy;rw[wk this] at h;cases h
def yK:Option Row->Option Row->Option Change
 | some a,some b=>if Ty.eq ba a b then none else some (true,a,true,b,())
 | some a,none=>some (true,a,false,uI,())
 | none,some b=>some (false,uI,true,b,())
 | none,none=>none
theorem Qv (a:Row):yK (some a) none=some (true,a,false,uI,()):=rfl
theorem Qw (b:Row):yK none (some b)=some (false,uI,true,b,()):=rfl
theorem aaW (a b:Row):yK (some a) (some b)=if Ty.eq ba a b then none else some (true,a,true,b,()):=rfl
def tM:Nat->List Row->List Row->List Change
 | 0,_,_=>[]
 | n+1,[],[]=>[]
 | n+1,[],b::bs=>(false,uI,true,b,())::tM n [] bs
 | n+1,a::al,[]=>(true,a,false,uI,())::tM n al []
 | n+1,a::al,b::bs=>if bm (rk a) (rk b) then (true,a,false,uI,())::tM n al (b::bs) else
  if bm (rk b) (rk a) then (false,uI,true,b,())::tM n (a::al) bs else
  if Ty.eq ba a b then tM n al bs else (true,a,true,b,())::tM n al bs
def WH (ks:List (Int×Int)):Prop:=ks.Pairwise (λa b=>bm a b=true)
def zp (B A:List Row) (k:Int×Int):Prop:=(∃ x ∈ B,rk x=k)\/∃ y ∈ A,rk y=k
theorem Ah {ks:List (Int×Int)} {m:Int×Int} (hu:WH ks) (hm:m ∈ ks) (TX:∀ k ∈ ks,k=m\/bm m k=true):∃ sM,ks=m::sM/\WH sM/\∀ k,k ∈ sM↔k ∈ ks/\k≠m:=by
 cases ks with
 | nil=>cases hm
 | cons k sM=>
  have hp:=eC.1 hu
  have e:k=m:=by
   rcases TX k bG with e | h
   ·exact e
   ·rcases aX.1 hm with e | hm
    ·exact e.symm
    ·have:=hp.1 m hm;rw[wk h] at this;cases this
  subst e;refine ⟨sM,rfl,hp.2,λq=>⟨λhq=>⟨aW _ hq,λe=>?_⟩,λ⟨hq,fq⟩=>?_⟩⟩
  ·subst e;have:=hp.1 q hq;rw[ju] at this;cases this
  ·rcases aX.1 hq with e | hq
   ·exact absurd e fq
   ·exact hq
theorem Zz:∀ (n:Nat) (B A:List Row) (ks:List (Int×Int)),up B->up A->WH ks->(∀ k,k ∈ ks↔zp B A k)->B.length+A.length<=n->tM n B A=ks.filterMap λk=>yK (look B k) (look A k):=by
 intro n
 induction n with
 | zero=>
  intro B A ks _ _ _ hk hl;obtain rfl:B=[]:=bH (by omega);obtain rfl:A=[]:=bH (by omega)
  cases ks with
  | nil=>rfl
  | cons k ks=>rcases (hk k).1 bG with ⟨_,h,_⟩ | ⟨_,h,_⟩ <;> cases h
 | succ n ih=>
  intro B A ks hB hA E4 hk hl
  cases B with
  | nil=>
   cases A with
   | nil=>
    cases ks with
    | nil=>rfl
    | cons k ks=>rcases (hk k).1 bG with ⟨_,h,_⟩ | ⟨_,h,_⟩ <;> cases h
   | cons b bs=>
    have vf:=tY.1 hA
    obtain ⟨sM,rfl,g1,g2⟩:=Ah (m:=rk b) E4 ((hk _).2 (.inr ⟨b,bG,rfl⟩)) (λk o6=>by
     rcases (hk k).1 o6 with ⟨_,h,_⟩ | ⟨y,h,rfl⟩
     ·cases h
     ·rcases aX.1 h with rfl | h
      ·exact .inl rfl
      ·exact .inr (vf.1 y h))
    have o6:∀ k,k ∈ sM↔zp [] bs k:=λk=>by
     rw[g2,hk];constructor
     ·rintro ⟨⟨_,h,_⟩ | ⟨y,h,rfl⟩,fq⟩
      ·cases h
      ·rcases aX.1 h with rfl | h
       ·exact absurd rfl fq
       ·exact .inr ⟨y,h,rfl⟩
     ·rintro (⟨_,h,_⟩ | ⟨y,h,rfl⟩)
      ·cases h
      ·exact ⟨.inr ⟨y,aW _ h,rfl⟩,λe=>by have:=vf.1 y h;rw[e,ju] at this;cases this⟩
    have am:∀ k ∈ sM,bm (rk b) k=true:=λk hm=>by
     rcases (o6 k).1 hm with ⟨_,h,_⟩ | ⟨y,h,rfl⟩
     ·cases h
     ·exact vf.1 y h
    simp only[tM,dB,wl];rw[show look ([]:List Row) (rk b)=none from rfl];simp only[Qv,Qw];rw[ih [] bs sM hB vf.2 g1 o6 (by simp at hl ⊢;omega)];congr 1;refine pD λk h=>?_;rw[zo (am k h)]
  | cons a al=>
   have zR:=tY.1 hB
   cases A with
   | nil=>
    obtain ⟨sM,rfl,g1,g2⟩:=Ah (m:=rk a) E4 ((hk _).2 (.inl ⟨a,bG,rfl⟩)) (λk o6=>by
     rcases (hk k).1 o6 with ⟨y,h,rfl⟩ | ⟨_,h,_⟩
     ·rcases aX.1 h with rfl | h
      ·exact .inl rfl
      ·exact .inr (zR.1 y h)
     ·cases h)
    have o6:∀ k,k ∈ sM↔zp al [] k:=λk=>by
     rw[g2,hk];constructor
     ·rintro ⟨⟨y,h,rfl⟩ | ⟨_,h,_⟩,fq⟩
      ·rcases aX.1 h with rfl | h
       ·exact absurd rfl fq
       ·exact .inl ⟨y,h,rfl⟩
      ·cases h
     ·rintro (⟨y,h,rfl⟩ | ⟨_,h,_⟩)
      ·exact ⟨.inl ⟨y,aW _ h,rfl⟩,λe=>by have:=zR.1 y h;rw[e,ju] at this;cases this⟩
      ·cases h
    have am:∀ k ∈ sM,bm (rk a) k=true:=λk hm=>by
     rcases (o6 k).1 hm with ⟨y,h,rfl⟩ | ⟨_,h,_⟩
     ·exact zR.1 y h
     ·cases h
    simp only[tM,dB,wl];rw[show look ([]:List Row) (rk a)=none from rfl];simp only[Qv,Qw];rw[ih al [] sM zR.2 hA g1 o6 (by simp at hl ⊢;omega)];congr 1;refine pD λk h=>?_;rw[zo (am k h)]
   | cons b bs=>
    have vf:=tY.1 hA;by_cases h1:bm (rk a) (rk b)=true
    ·have yO:∀ y ∈ b::bs,bm (rk a) (rk y)=true:=λy h=>by
      rcases aX.1 h with rfl | h
      ·exact h1
      ·exact oW h1 (vf.1 y h)
     obtain ⟨sM,rfl,g1,g2⟩:=Ah (m:=rk a) E4 ((hk _).2 (.inl ⟨a,bG,rfl⟩)) (λk o6=>by
      rcases (hk k).1 o6 with ⟨y,h,rfl⟩ | ⟨y,h,rfl⟩
      ·rcases aX.1 h with rfl | h
       ·exact .inl rfl
       ·exact .inr (zR.1 y h)
      ·exact .inr (yO y h))
     have o6:∀ k,k ∈ sM↔zp al (b::bs) k:=λk=>by
      rw[g2,hk];constructor
      ·rintro ⟨⟨y,h,rfl⟩ | ⟨y,h,rfl⟩,fq⟩
       ·rcases aX.1 h with rfl | h
        ·exact absurd rfl fq
        ·exact .inl ⟨y,h,rfl⟩
       ·exact .inr ⟨y,h,rfl⟩
      ·rintro (⟨y,h,rfl⟩ | ⟨y,h,rfl⟩)
       ·exact ⟨.inl ⟨y,aW _ h,rfl⟩,λe=>by have:=zR.1 y h;rw[e,ju] at this;cases this⟩
       ·exact ⟨.inr ⟨y,h,rfl⟩,λe=>by have:=yO y h;rw[e,ju] at this;cases this⟩
     have am:∀ k ∈ sM,bm (rk a) k=true:=λk hm=>by
      rcases (o6 k).1 hm with ⟨y,h,rfl⟩ | ⟨y,h,rfl⟩
      ·exact zR.1 y h
      ·exact yO y h
     simp only[tM,h1,aI,dB,wl,ON hA h1,Qv];rw[ih al (b::bs) sM zR.2 hA g1 o6 (by simp at hl ⊢;omega)];congr 1;refine pD λk h=>?_;rw[zo (am k h)]
    ·have ZA:bm (rk a) (rk b)=false:=by simpa using h1
     by_cases h2:bm (rk b) (rk a)=true
     ·have yO:∀ y ∈ a::al,bm (rk b) (rk y)=true:=λy h=>by
       rcases aX.1 h with rfl | h
       ·exact h2
       ·exact oW h2 (zR.1 y h)
      obtain ⟨sM,rfl,g1,g2⟩:=Ah (m:=rk b) E4 ((hk _).2 (.inr ⟨b,bG,rfl⟩)) (λk o6=>by
       rcases (hk k).1 o6 with ⟨y,h,rfl⟩ | ⟨y,h,rfl⟩
       ·exact .inr (yO y h)
       ·rcases aX.1 h with rfl | h
        ·exact .inl rfl
        ·exact .inr (vf.1 y h))
      have o6:∀ k,k ∈ sM↔zp (a::al) bs k:=λk=>by
       rw[g2,hk];constructor
       ·rintro ⟨⟨y,h,rfl⟩ | ⟨y,h,rfl⟩,fq⟩
        ·exact .inl ⟨y,h,rfl⟩
        ·rcases aX.1 h with rfl | h
         ·exact absurd rfl fq
         ·exact .inr ⟨y,h,rfl⟩
       ·rintro (⟨y,h,rfl⟩ | ⟨y,h,rfl⟩)
        ·exact ⟨.inl ⟨y,h,rfl⟩,λe=>by have:=yO y h;rw[e,ju] at this;cases this⟩
        ·exact ⟨.inr ⟨y,aW _ h,rfl⟩,λe=>by have:=vf.1 y h;rw[e,ju] at this;cases this⟩
      have am:∀ k ∈ sM,bm (rk b) k=true:=λk hm=>by
       rcases (o6 k).1 hm with ⟨y,h,rfl⟩ | ⟨y,h,rfl⟩
       ·exact yO y h
       ·exact vf.1 y h
      simp only[tM,ZA,h2,aI,aF,aL,dB,wl,ON hB h2,Qw];rw[ih (a::al) bs sM hB vf.2 g1 o6 (by simp at hl ⊢;omega)];congr 1;refine pD λk h=>?_;rw[zo (x:=b) (am k h)]
     ·have Jf:bm (rk b) (rk a)=false:=by simpa using h2
      have Jv:rk a=rk b:=sk ZA Jf;have yO:∀ y ∈ bs,bm (rk a) (rk y)=true:=λy h=>by rw[Jv];exact vf.1 y h
      obtain ⟨sM,rfl,g1,g2⟩:=Ah (m:=rk a) E4 ((hk _).2 (.inl ⟨a,bG,rfl⟩)) (λk o6=>by
       rcases (hk k).1 o6 with ⟨y,h,rfl⟩ | ⟨y,h,rfl⟩
       ·rcases aX.1 h with rfl | h
        ·exact .inl rfl
        ·exact .inr (zR.1 y h)
       ·rcases aX.1 h with rfl | h
        ·exact .inl Jv.symm
        ·exact .inr (yO y h))
      have o6:∀ k,k ∈ sM↔zp al bs k:=λk=>by
       rw[g2,hk];constructor
       ·rintro ⟨⟨y,h,rfl⟩ | ⟨y,h,rfl⟩,fq⟩
        ·rcases aX.1 h with rfl | h
         ·exact absurd rfl fq
         ·exact .inl ⟨y,h,rfl⟩
        ·rcases aX.1 h with rfl | h
         ·exact absurd Jv.symm fq
         ·exact .inr ⟨y,h,rfl⟩
       ·rintro (⟨y,h,rfl⟩ | ⟨y,h,rfl⟩)
        ·exact ⟨.inl ⟨y,aW _ h,rfl⟩,λe=>by have:=zR.1 y h;rw[e,ju] at this;cases this⟩
        ·exact ⟨.inr ⟨y,aW _ h,rfl⟩,λe=>by have:=yO y h;rw[e,ju] at this;cases this⟩
      have am:∀ k ∈ sM,bm (rk a) k=true:=λk hm=>by
       rcases (o6 k).1 hm with ⟨y,h,rfl⟩ | ⟨y,h,rfl⟩
       ·exact zR.1 y h
       ·exact yO y h
      have hih:=ih al bs sM zR.2 vf.2 g1 o6 (by simp at hl ⊢;omega)
      have AH:(sM.filterMap λk=>yK (look (a::al) k) (look (b::bs) k))=sM.filterMap λk=>yK (look al k) (look bs k):=pD λk h=>by
       rw[zo (am k h),zo (by rw[<-Jv];exact am k h)]
      have WI:look (b::bs) (rk a)=some b:=by rw[Jv];exact wl
      simp only[tM,ZA,Jf,aF,aL,dB,wl,WI,aaW];rw[AH,<- hih];by_cases h3:Ty.eq ba a b=true
      ·simp[h3]
      ·simp[h3]
theorem xF:∀ (n m:Nat) (B A:List Row),B.length+A.length<=n->B.length+A.length<=m->tM n B A=tM m B A:=by
 intro n
 induction n with
 | zero=>
  intro m B A h _;obtain rfl:B=[]:=bH (by omega);obtain rfl:A=[]:=bH (by omega);cases m <;> rfl
 | succ n ih=>
  intro m B A h1 h2
  cases m with
  | zero=>
   obtain rfl:B=[]:=bH (by omega);obtain rfl:A=[]:=bH (by omega);rfl
  | succ m=>
   cases B with
   | nil=>
    cases A with
    | nil=>rfl
    | cons b bs=>simp only[tM];rw[ih m [] bs (by simp at h1 ⊢;omega) (by simp at h2 ⊢;omega)]
   | cons a al=>
    cases A with
    | nil=>simp only[tM];rw[ih m al [] (by simp at h1 ⊢;omega) (by simp at h2 ⊢;omega)]
    | cons b bs=>
     simp only[tM];rw[ih m al (b::bs) (by simp at h1 ⊢;omega) (by simp at h2 ⊢;omega),ih m (a::al) bs (by simp at h1 ⊢;omega) (by simp at h2 ⊢;omega),ih m al bs (by simp at h1 ⊢;omega) (by simp at h2 ⊢;omega)]
def pj (B A:List Row):List Change:=tM (B.length+A.length) B A
theorem U2:pj [] []=[]:=rfl
theorem ZB (b:Row) (bs:List Row):pj [] (b::bs)=(false,uI,true,b,())::pj [] bs:=by
 unfold pj;rw[xF _ (([]:List Row).length+bs.length+1) [] (b::bs) (aN _) (by simp)];rfl
theorem ZC (a:Row) (al:List Row):pj (a::al) []=(true,a,false,uI,())::pj al []:=by
 unfold pj;rw[xF _ (al.length+([]:List Row).length+1) (a::al) [] (aN _) (by simp)];rfl
theorem Hv (a b:Row) (al bs:List Row):pj (a::al) (b::bs)=if bm (rk a) (rk b) then (true,a,false,uI,())::pj al (b::bs) else
  if bm (rk b) (rk a) then (false,uI,true,b,())::pj (a::al) bs else if Ty.eq ba a b then pj al bs else (true,a,true,b,())::pj al bs:=by
 unfold pj;rw[xF _ (al.length+bs.length+1+1) (a::al) (b::bs) (aN _) (by simp;omega)];simp only[tM];rw[xF (al.length+bs.length+1) (al.length+(b::bs).length) al (b::bs) (by simp;omega) (aN _),xF (al.length+bs.length+1) ((a::al).length+bs.length) (a::al) bs (by simp;omega) (aN _),xF (al.length+bs.length+1) (al.length+bs.length) al bs (by omega) (aN _)]
theorem xG:∀ (n:Nat) (B A:List Row),(tM n B A).length<=n
 | 0,_,_=>aN _
 | n+1,[],[]=>aY _
 | n+1,[],b::bs=>by simp only[tM,aO];have:=xG n [] bs;omega
 | n+1,a::al,[]=>by simp only[tM,aO];have:=xG n al [];omega
 | n+1,a::al,b::bs=>by
  simp only[tM];have h1:=xG n al (b::bs);have h2:=xG n (a::al) bs;have h3:=xG n al bs
  split
  ·simp only[aO];omega
  ·split
   ·simp only[aO];omega
   ·split
    ·omega
    ·simp only[aO];omega
theorem vT {q:Row->Prop} (h0:q uI):∀ (n:Nat) (B A:List Row),(∀ x ∈ B,q x)->(∀ x ∈ A,q x)->∀ c ∈ tM n B A,q c.2.1/\q c.2.2.2.1
 | 0,_,_,_,_=>λ_ h=>by cases h
 | n+1,[],[],_,_=>λ_ h=>by cases h
 | n+1,[],b::bs,hB,hA=>λc h=>by
  rcases aX.1 h with rfl | h
  ·exact ⟨h0,hA b bG⟩
  ·exact vT h0 n [] bs hB (λx hx=>hA x (aW _ hx)) c h
 | n+1,a::al,[],hB,hA=>λc h=>by
  rcases aX.1 h with rfl | h
  ·exact ⟨hB a bG,h0⟩
  ·exact vT h0 n al [] (λx hx=>hB x (aW _ hx)) hA c h
 | n+1,a::al,b::bs,hB,hA=>λc h=>by
  have ha:=hB a bG;have hb:=hA b bG
  have ZD:∀ x ∈ al,q x:=λx hx=>hB x (aW _ hx);have ZE:∀ x ∈ bs,q x:=λx hx=>hA x (aW _ hx);simp only[tM] at h;split at h
  ·rcases aX.1 h with rfl | h
   ·exact ⟨ha,h0⟩
   ·exact vT h0 n al (b::bs) ZD hA c h
  ·split at h
   ·rcases aX.1 h with rfl | h
    ·exact ⟨h0,hb⟩
    ·exact vT h0 n (a::al) bs hB ZE c h
   ·split at h
    ·exact vT h0 n al bs ZD ZE c h
    ·rcases aX.1 h with rfl | h
     ·exact ⟨ha,hb⟩
     ·exact vT h0 n al bs ZD ZE c h
theorem IJ (B A:List Row) (hB:B.length<=1000) (hA:A.length<=1000):eb.aa (B,A,())=some (pj B A,()):=by
 refine ah (k:=2001) λk hk=>(eb.ae k _).trans ?_
 have:=uU (B:=λself v=>eb.b0 self (λz=>eb.q0 (B,A,()) z) (B,A,()) v) (λv=>(v.2.2++pj v.1 v.2.1,()))
  (λv=>v.2.2.length+(v.1.length+v.2.1.length)<=2000) (λv=>v.1.length+v.2.1.length) (λv hv self=>?_) k (B,A,[]) (by simp;omega) (by simp;omega)
 ·exact this
 obtain ⟨al,bs,out⟩:=v;simp only at hv;have ke:out.length+1<=cc:=dh (by omega)
 cases al with
 | nil=>
  cases bs with
  | nil=>left;show eb.b0 _ _ _ _=_;simp[eb.b0,eb.q0,eb.q0,U2]
  | cons b bs=>
   right;refine ⟨([],bs,out++[(false,uI,true,b,())]),?_,?_,?_,by simp⟩
   ·show eb.b0 _ _ _ _=_;have h1:(0:Int) < (bs.length:Int)+1:=by omega
    have h2:(1:Int)<=(bs.length:Int)+1:=by omega
    simp[eb.b0,ke,h1,h2]
   ·simp[ZB]
   ·simp at hv ⊢;omega
 | cons a al=>
  have h1:(0:Int) < (al.length:Int)+1:=by omega
  have h2:(1:Int)<=(al.length:Int)+1:=by omega
  have h3:¬ ((al.length:Int)+1=0):=by omega
  cases bs with
  | nil=>
   right;refine ⟨(al,[],out++[(true,a,false,uI,())]),?_,?_,?_,by simp⟩
   ·show eb.b0 _ _ _ _=_;simp[eb.b0,ke,h1,h2,h3]
   ·simp[ZC]
   ·simp at hv ⊢;omega
  | cons b bs=>
   have h4:(0:Int) < (bs.length:Int)+1:=by omega
   have h5:(1:Int)<=(bs.length:Int)+1:=by omega
   have h6:¬ ((bs.length:Int)+1=0):=by omega
   right;have C7:bm (a.1,a.2.1) (b.1,b.2.1)=bm (rk a) (rk b):=rfl;have mw:bm (b.1,b.2.1) (a.1,a.2.1)=bm (rk b) (rk a):=rfl
   cases AA:bm (rk a) (rk b) with
   | true=>
    refine ⟨(al,b::bs,out++[(true,a,false,uI,())]),?_,?_,?_,by simp⟩
    ·show eb.b0 _ _ _ _=_;simp[eb.b0,tk,C7,mw,AA,ke,h1,h2,h3,h4,h5,h6]
    ·simp[Hv,AA]
    ·simp at hv ⊢;omega
   | false=>
    cases we:bm (rk b) (rk a) with
    | true=>
     refine ⟨(a::al,bs,out++[(false,uI,true,b,())]),?_,?_,?_,by simp⟩
     ·show eb.b0 _ _ _ _=_;simp[eb.b0,tk,C7,mw,AA,we,ke,h1,h2,h3,h4,h5,h6]
     ·simp[Hv,AA,we]
     ·simp at hv ⊢;omega
    | false=>
     cases WJ:Ty.eq ba a b with
     | true=>
      refine ⟨(al,bs,out),?_,?_,?_,by simp;omega⟩
      ·show eb.b0 _ _ _ _=_;simp[eb.b0,tk,C7,mw,AA,we,WJ,ke,h1,h2,h3,h4,h5,h6]
      ·simp[Hv,AA,we,WJ]
      ·simp at hv ⊢;omega
     | false=>
      refine ⟨(al,bs,out++[(true,a,true,b,())]),?_,?_,?_,by simp;omega⟩
      ·show eb.b0 _ _ _ _=_;simp[eb.b0,tk,C7,mw,AA,we,WJ,ke,h1,h2,h3,h4,h5,h6]
      ·simp[Hv,AA,we,WJ]
      ·simp at hv ⊢;omega
def D6 (B A:List Row):List Row:=A.foldl (λks x=>if ls B (rk x) then ks else mr ks x) B
theorem Ai (ks:List Row) (r y:Row):y ∈ mr ks r↔y=r\/y ∈ ks:=by
 unfold mr;simp only[cJ,bR];have h:y ∈ ks↔y ∈ ks.take (pos ks (rk r))\/y ∈ ks.drop (pos ks (rk r)):=by rw[<-cJ,cR]
 rw[h];constructor
 ·rintro ((h | h) | h)
  ·exact .inr (.inl h)
  ·exact .inl h
  ·exact .inr (.inr h)
 ·rintro (h | h | h)
  ·exact .inl (.inr h)
  ·exact .inl (.inl h)
  ·exact .inr h
theorem XE {ks:List Row} {r:Row} (hu:up ks) (hn:∀ y ∈ ks,rk y≠rk r):up (mr ks r):=by
 have hp:=uG ks (rk r);have h1:∀ y ∈ ks.take (pos ks (rk r)),bm (rk y) (rk r)=true:=λy hy=>Ag hy
 have h2:∀ y ∈ ks.drop (pos ks (rk r)),bm (rk r) (rk y)=true:=λy hy=>by
  obtain ⟨i,hi,rfl⟩:=dC.1 hy;rw[bI] at hi;have h3:=wY ks (rk r) (pos ks (rk r)+i) (by omega) hu (by omega);rw[jN]
  cases hb:bm (rk r) (rk ks[pos ks (rk r)+i]) with
  | true=>rfl
  | false=>exact absurd (sk h3 hb) (hn _ (aS _))
 unfold mr up;have RH:(ks.take (pos ks (rk r))++ks.drop (pos ks (rk r))).Pairwise (λa b=>bm (rk a) (rk b)=true):=by rw[cR];exact hu
 obtain ⟨p1,p2,p3⟩:=fA.1 RH;refine fA.2 ⟨fA.2 ⟨p1,gE _ _,λa ha b hb=>?_⟩,p2,λa ha b hb=>?_⟩
 ·rw[bR] at hb;subst hb;exact h1 a ha
 ·rcases cJ.1 ha with ha | ha
  ·exact p3 a ha b hb
  ·rw[bR] at ha;subst ha;exact h2 b hb
theorem IK {xs:List Row} {k:Int×Int} (hu:up xs):ls xs k=true↔∃ y ∈ xs,rk y=k:=by
 constructor
 ·exact EM
 ·rintro ⟨y,hy,hk⟩
  cases hf:ls xs k with
  | true=>rfl
  | false=>
   exfalso;obtain ⟨i,hi,rfl⟩:=dC.1 hy;have hle:=uG xs k;rcases bZ i (pos xs k) with h | h
   ·have:=D4 xs k i hi h;rw[hk,ju] at this;cases this
   ·have h1:pos xs k < xs.length:=by omega
    have h2:=wY xs k (pos xs k) h1 hu (aN _);rcases bZ (pos xs k) i with h3 | h3
    ·have:=eB.1 hu _ _ h1 hi h3;rw[hk] at this;rw[this] at h2;cases h2
    ·have e:i=pos xs k:=by omega
     subst e;unfold ls at hf;rw[aB h1] at hf;simp[hk] at hf
theorem y_ (B:List Row) (hB:up B):∀ (A:List Row) (ks:List Row),up ks->A.Pairwise (λa b=>bm (rk a) (rk b)=true)->(∀ x ∈ B,x ∈ ks)->(∀ y ∈ A,∀ x ∈ ks,rk x=rk y->∃ z ∈ B,rk z=rk y) ->
  up (A.foldl (λks x=>if ls B (rk x) then ks else mr ks x) ks)/\(A.foldl (λks x=>if ls B (rk x) then ks else mr ks x) ks).length<=ks.length+A.length /\
  ∀ k,(∃ x ∈ A.foldl (λks x=>if ls B (rk x) then ks else mr ks x) ks,rk x=k)↔((∃ x ∈ ks,rk x=k)\/∃ y ∈ A,rk y=k)
 | [],ks,hu,_,_,_=>⟨hu,by simp,λk=>by simp⟩
 | y::A,ks,hu,hA,yu,fq=>by
  have vf:=eC.1 hA;rw[eG];by_cases hf:ls B (rk y)=true
  ·rw[aV hf];obtain ⟨h1,h2,h3⟩:=y_ B hB A ks hu vf.2 yu (λz hz=>fq z (aW _ hz));refine ⟨h1,by rw[aO];omega,λk=>?_⟩
   rw[h3];constructor
   ·rintro (h | ⟨z,h,e⟩)
    ·exact .inl h
    ·exact .inr ⟨z,aW _ h,e⟩
   ·rintro (h | ⟨z,h,e⟩)
    ·exact .inl h
    ·rcases aX.1 h with rfl | h
     ·obtain ⟨x,hx,hxk⟩:=EM hf;exact .inl ⟨x,yu x hx,by rw[hxk,e]⟩
     ·exact .inr ⟨z,h,e⟩
  ·rw[bB hf];have t7:∀ x ∈ ks,rk x≠rk y:=λx hx e=>hf ((IK hB).2 (fq y bG x hx e))
   obtain ⟨h1,h2,h3⟩:=y_ B hB A (mr ks y) (XE hu t7) vf.2 (λx hx=>(Ai ks y x).2 (.inr (yu x hx))) (λz hz x hx e=>by
    rcases (Ai ks y x).1 hx with rfl | hx
    ·have:=vf.1 z hz;rw[e,ju] at this;cases this
    ·exact fq z (aW _ hz) x hx e)
   refine ⟨h1,?_,λk=>?_⟩
   ·have:(mr ks y).length=ks.length+1:=by unfold mr;simp;have:=uG ks (rk y);omega
    rw[aO];omega
   ·rw[h3];constructor
    ·rintro (⟨x,h,e⟩ | ⟨z,h,e⟩)
     ·rcases (Ai ks y x).1 h with rfl | h
      ·exact .inr ⟨x,bG,e⟩
      ·exact .inl ⟨x,h,e⟩
     ·exact .inr ⟨z,aW _ h,e⟩
    ·rintro (⟨x,h,e⟩ | ⟨z,h,e⟩)
     ·exact .inl ⟨x,(Ai ks y x).2 (.inr h),e⟩
     ·rcases aX.1 h with rfl | h
      ·exact .inl ⟨z,(Ai ks z z).2 (.inl rfl),e⟩
      ·exact .inr ⟨z,h,e⟩
theorem U3 {B A:List Row} (hB:up B) (hA:up A):up (D6 B A)/\(D6 B A).length<=B.length+A.length/\(D6 B A).filterMap (λx=>yK (look B (rk x)) (look A (rk x)))=pj B A:=by
 obtain ⟨h1,h2,h3⟩:=y_ B hB A B hB hA (λ_ h=>h) (λy _ x hx e=>⟨x,hx,e⟩);refine ⟨h1,h2,?_⟩
 have hp:WH ((D6 B A).map rk):=gT.2 h1;unfold pj;rw[Zz _ B A ((D6 B A).map rk) hB hA hp (λk=>?_) (aN _),List.filterMap_map]
 ·rfl
 ·rw[fV];exact h3 k
theorem Nt {α β:Type} (g:β->α->β) (xs:List α) (i:Nat) (hi:i < xs.length) (s:β):(xs.take (i+1)).foldl g s=g ((xs.take i).foldl g s) xs[i]:=by
 rw[eM hi,iK];rfl
def IL {β:Type} (s:List β):Option β->List β
 | some y=>s++[y]
 | none=>s
theorem L7 {α β:Type} (f:α->Option β):∀ (xs:List α) (s:List β),xs.foldl (λs x=>IL s (f x)) s=s++xs.filterMap f
 | [],s=>by simp
 | x::xs,s=>by
  rw[eG,L7 f xs,dB];cases f x <;> simp[IL]
theorem D7 {xs:List Row} {k:Int×Int} (h:ls xs k=true):∃ hp:pos xs k < xs.length,look xs k=some xs[pos xs k]:=by
 obtain ⟨hp,_⟩:=yn h;exact ⟨hp,by rw[look,h,aV rfl,aB hp]⟩
theorem IM (B A:List Row) (hB:up B) (hA:up A) (hBl:B.length<=1000) (hAl:A.length<=1000):ec.aa (B,A,())=some (pj B A,()):=by
 obtain ⟨hu,hlen,abM⟩:=U3 hB hA;refine ah (k:=2001) λk hk=>(ec.ae k _).trans ?_;unfold ec.p;rw[aV (dh (by simp only[bA];omega)),bT]
 have h1:=co (B:=λself v=>ec.b0 self (λz=>ec.Q0 k (B,A,()) z) (B,A,()) v) A (λ(s:List Row) (i:Int)=>(s,i)) (λ_ s x=>.inr (if ls B (rk x) then s else mr s x)) (λs=>(s.filterMap (λx=>yK (look B (rk x)) (look A (rk x))),()))
  (λi s=>s=(A.take i).foldl (λks x=>if ls B (rk x) then ks else mr ks x) B/\s.length<=B.length+i) (by rw[aq];omega)
  (λi hi s self hI=>by
   show ec.b0 _ _ _ _=_;unfold ec.b0;have am:(i:Int) < (A.length:Int):=by omega
   simp only[am,aD,aJ,aK,aI,aH,aB hi,aA,D5 B _ _ hB (by omega)];have hr:((A[i]).1,(A[i]).2.1)=rk A[i]:=rfl;rw[hr];unfold uH
   cases hf:ls B (rk A[i]) with
   | true=>
    have:¬ ((pos B (rk A[i]):Nat):Int) < 0:=by omega
    simp only[aI,this,aC,aG]
   | false=>
    simp only[aF,aL,show ((-1:Int) < 0) from by decide,aD,aJ,CA s _ (by omega),aA])
  (λi hi s s' hI hf=>by
   injection hf with hf;subst hf;obtain ⟨e,hl⟩:=hI;refine ⟨?_,?_⟩
   ·rw[Nt _ A i hi,<- e]
   ·split
    ·omega
    ·unfold mr;simp;have:=uG s (rk A[i]);omega) (λs self hI=>by
   show ec.b0 _ _ _ _=_;unfold ec.b0;simp only[bC,aC,aG];obtain ⟨e,hl⟩:=hI;rw[dX] at e;have hs:s=D6 B A:=e;show ec.r1 k (B,A,()) s ([],0)=_
   have h2:=co (B:=λself v=>ec.b1 self (λz=>ec.q1 (B,A,()) s z) (B,A,()) s v) s (λ(s:List Change) (i:Int)=>(s,i)) (λ_ s x=>.inr (IL s (yK (look B (rk x)) (look A (rk x))))) (λs=>(s,()))
    (λi s=>s.length<=i) (by rw[aq];omega)
    (λi hi t self hI=>by
     show ec.b1 _ _ _ _ _=_;unfold ec.b1;have am:(i:Int) < (s.length:Int):=by omega
     have ke:∀ y:Change,t.length+[y].length<=cc:=λy=>dh (by simp only[aO,bA];omega);have ue:∀ xs:List Row,up xs->xs.length<=1000->jw.aa (xs,(s[i]).1,(s[i]).2.1,())=some (uH xs (rk s[i]),()):=λxs h1 h2=>D5 xs _ _ h1 (by omega);simp only[am,aD,aJ,aK,dZ,aI,aH,aB hi,aA,ue B hB hBl,ue A hA hAl];unfold uH
     cases L8:ls B (rk s[i]) with
     | true=>
      obtain ⟨hp1,e1⟩:=D7 L8
      cases Lm:ls A (rk s[i]) with
      | true=>
       obtain ⟨L9,e2⟩:=D7 Lm;simp only[aI,aK,aD,aJ,aH,aB hp1,aB L9,aA,e1,e2,yK,ke,IL];cases Ty.eq ba B[pos B (rk s[i])] A[pos A (rk s[i])] <;> rfl
      | false=>
       have e2:look A (rk s[i])=none:=by rw[look,Lm];rfl
       simp only[aI,aF,aL,aK,aD,aJ,show ¬ ((0:Int)<=-1) from by decide,aC,aG,aH,aB hp1,aA,e1,e2,yK,ke,IL]
     | false=>
      have e1:look B (rk s[i])=none:=by rw[look,L8];rfl
      have Lm:ls A (rk s[i])=true:=by
       have hm:=(y_ B hB A B hB hA (λ_ h=>h) (λy _ x hx e=>⟨x,hx,e⟩)).2.2 (rk s[i]);rcases hm.1 ⟨s[i],by show s[i] ∈ D6 B A;rw[<-hs];exact aS _,rfl⟩ with h | h
       ·rw[(IK hB).2 h] at L8;cases L8
       ·exact (IK hA).2 h
      obtain ⟨L9,e2⟩:=D7 Lm
      simp only[Lm,aI,aF,aL,aK,aD,aJ,show ¬ ((0:Int)<=-1) from by decide,aC,aG,aH,aB L9,aA,e1,e2,yK,ke,IL])
    (λi hi t t' hI hf=>by
     injection hf with hf;subst hf
     cases yK (look B (rk s[i])) (look A (rk s[i])) with
     | none=>show t.length<=_;omega
     | some y=>show (t++[y]).length<=_;rw[aR,aO,bA];omega) (λt self _=>by
     show ec.b1 _ _ _ _ _=_;unfold ec.b1;simp only[bC,aC,aG]
     rfl) [] (by simp) k (by rw[hs];omega)
   rw[ic,L7,bT] at h2
   exact h2) B ⟨rfl,by omega⟩ k (by omega)
 rw[ic] at h1;have h1:ec.r0 k (B,A,()) (B,0)=some ((D6 B A).filterMap (λx=>yK (look B (rk x)) (look A (rk x))),()):=h1;rw[h1,abM]
end OT
namespace OT
open Go
def sm (xs:List Row) (i:Nat) (x:Row):Sum (Int×Unit) Unit:=
 if oh x=0 then (if 0 < i then (match xs[i - 1]? with | some y=>if bm (rk y) (rk x) then .inr () else .inl (1,()) | none=>.inl (1,())) else .inr ()) else .inl (oh x,())
def tn (xs:List Row):Int:=if 60 < xs.length then 2 else (bz (λi (_:Unit) x=>sm xs i x) (λ_=>((0:Int),())) 0 xs ()).1
theorem Nu (xs:List Row) (hl:xs.length<=maxLen) (h:∀ c ∈ xs,rl c):kT.aa (xs,())=some (tn xs,()):=by
 refine ah (k:=xs.length+1) λk hk=>(kT.ae k _).trans ?_
 have:=co (B:=λself v=>kT.b0 self (λz=>kT.q0 (xs,()) z) (xs,()) v) xs (λ(_:Unit) (i:Int)=>i) (λi _ x=>sm xs i x) (λ_=>(0,())) (λ_ _=>True) hl
  (λi hi _ self _=>by
   show kT.b0 _ _ _ _=_;unfold kT.b0 sm;have am:(i:Int) < (xs.length:Int):=by omega
   simp only[am,aD,aJ,aK,aI,aH,aB hi,aA,y8 _ (h _ (aS hi))];by_cases h1:oh xs[i]=0
   ·simp only[h1,aD,aQ,aG,aI];by_cases h0:0 < i
    ·have sR:(0:Int) < (i:Int):=by omega
     have lg:i - 1 < xs.length:=by omega
     simp only[h0,sR,aD,aJ,aI,Cy h0 (by omega),aK,aH,aB lg,aA,De];cases bm (rk xs[i - 1]) (rk xs[i]) <;> rfl
    ·have sR:¬ (0:Int) < (i:Int):=by omega
     simp[h0,sR]
   ·simp[h1]) (λ_ _ _ _ _ _=>trivial) (λ_ self _=>by
   show kT.b0 _ _ _ _=_;unfold kT.b0
   simp[kT.q0,kT.q0]) () trivial k (by omega)
 have this:kT.r0 k (xs,()) 0=_:=this;unfold kT.p tn;rw[this,show (60:Int)=((60:Nat):Int) from rfl];simp only[Ht];by_cases h1:60 < xs.length <;> simp[h1] <;> rfl
theorem E5 (xs:List Row) (hl:xs.length<=maxLen) (h:∀ c ∈ xs,rl c):e8.aa (xs,())=some (tn xs,()):=by
 refine ah (k:=xs.length+1) λk hk=>(e8.ae k _).trans ?_
 have:=co (B:=λself v=>e8.b0 self (λz=>e8.q0 (xs,()) z) (xs,()) v) xs (λ(_:Unit) (i:Int)=>i) (λi _ x=>sm xs i x) (λ_=>(0,())) (λ_ _=>True) hl
  (λi hi _ self _=>by
   show e8.b0 _ _ _ _=_;unfold e8.b0 sm rk;have am:(i:Int) < (xs.length:Int):=by omega
   simp only[am,aD,aJ,aK,aI,aH,aB hi,aA,y9 _ (h _ (aS hi))];by_cases h1:oh xs[i]=0
   ·simp only[h1,aD,aQ,aG,aI];by_cases h0:0 < i
    ·have sR:(0:Int) < (i:Int):=by omega
     have lg:i - 1 < xs.length:=by omega
     simp only[h0,sR,aD,aJ,aI,Cy h0 (by omega),aK,aH,aB lg,aA,xP];cases bm (xs[i - 1].1,xs[i - 1].2.1) (xs[i].1,xs[i].2.1) <;> rfl
    ·have sR:¬ (0:Int) < (i:Int):=by omega
     simp[h0,sR]
   ·simp[h1]) (λ_ _ _ _ _ _=>trivial) (λ_ self _=>by
   show e8.b0 _ _ _ _=_;unfold e8.b0
   simp[e8.q0,e8.q0]) () trivial k (by omega)
 have this:e8.r0 k (xs,()) 0=_:=this;unfold e8.p tn;rw[this,show (60:Int)=((60:Nat):Int) from rfl];simp only[Ht];by_cases h1:60 < xs.length <;> simp[h1] <;> rfl
theorem D8 {α:Type} {f:Nat->Unit->α->Sum (Int×Unit) Unit} (hf:∀ i s x o,f i s x=.inl o->o.1≠0):∀ (xs:List α) (j:Nat),(bz f (λ_=>((0:Int),())) j xs ()).1=0->∀ i (hi:i < xs.length),f (j+i) () xs[i]=.inr ()
 | x::xs,j,h,i,hi=>by
  simp only[bz] at h
  cases hx:f j () x with
  | inl o=>rw[hx] at h;exact absurd h (hf _ _ _ _ hx)
  | inr u=>
   rw[hx] at h
   cases i with
   | zero=>exact hx
   | succ i=>
    have:=D8 hf xs (j+1) h i (by simpa using hi);rw[show j+(i+1)=j+1+i by omega];exact this
theorem L_:∀ (xs:List Row),(∀ i (hi:i < xs.length),0 < i->bm (rk (xs[i - 1]'(by omega))) (rk xs[i])=true)->up xs
 | [],_=>List.Pairwise.nil
 | [x],_=>gE _ _
 | x::y::xs,h=>by
  have hu:up (y::xs):=L_ (y::xs) λi hi h0=>by
   have:=h (i+1) (by simp at hi ⊢;omega) (by omega);simp only[iB] at this
   have e:(x::y::xs)[i]'(by simp at hi ⊢;omega)=(y::xs)[i - 1]'(by simp at hi ⊢;omega):=by
    cases i with
    | zero=>omega
    | succ i=>rfl
   rw[e] at this;exact this
  have yJ:bm (rk x) (rk y)=true:=h 1 (by simp) (by omega);refine tY.2 ⟨λz hz=>?_,hu⟩;rcases aX.1 hz with rfl | hz
  ·exact yJ
  ·exact oW yJ ((tY.1 hu).1 z hz)
theorem SW {x:Row} (h:oh x=0):List.length x.2.2.2.1<=8:=by
 unfold oh at h;split at h
 ·split at h
  ·rename_i ht;unfold EL at ht;simp only[aE,bM] at ht;exact ht.2
  ·cases h
 ·cases h
structure Good (xs:List Row):Prop where
 up:up xs
 ok:∀ x ∈ xs,oh x=0
theorem CB {xs:List Row} (h:tn xs=0):Good xs/\xs.length<=60:=by
 unfold tn at h;split at h
 ·cases h
 ·rename_i hl
  have hn:=D8 (f:=λi (_:Unit) x=>sm xs i x) (λi s x o ho=>by
   unfold sm at ho;split at ho
   ·split at ho
    ·split at ho
     ·split at ho
      ·cases ho
      ·injection ho with ho;rw[<-ho];decide
     ·injection ho with ho;rw[<-ho];decide
    ·cases ho
   ·rename_i hx
    injection ho with ho;rw[<-ho];exact hx) xs 0 h
  have h1:∀ i (hi:i < xs.length),oh xs[i]=0:=λi hi=>by
   have:=hn i hi;unfold sm at this;split at this
   ·assumption
   ·cases this
  refine ⟨⟨L_ xs λi hi h0=>?_,λx hx=>?_⟩,by omega⟩
  ·have:=hn i hi;unfold sm at this;rw[aV (h1 i hi),bE,aV h0,aB (show i - 1 < xs.length by omega)] at this;simp only at this;split at this
   ·assumption
   ·cases this
  ·obtain ⟨i,hi,rfl⟩:=dC.1 hx;exact h1 i hi
theorem OP {c:Change} (h:ug c=0):(c.2.2.1=true->rk c.2.2.2.1=ck c)/\(c.2.2.1=true->oh c.2.2.2.1=0):=by
 refine ⟨λhi=>by unfold rk ck;rw[hi];rfl,λhi=>?_⟩
 unfold ug at h;split at h
 ·cases h
 ·split at h
  ·rename_i h2;simp only[aE,cM,eZ] at h2;exact absurd h h2.2
  ·first | exact h | (rw[aV hi] at h;exact h)
theorem AS {xs:List Row} {c:Change} (h:Good xs) (hc:ug c=0):Good (tm xs c):=by
 obtain ⟨hk,hr⟩:=OP hc;have hb:=h.up;constructor
 ·unfold tm up;have h1:(xs.take (pos xs (ck c))).Pairwise (λa b=>bm (rk a) (rk b)=true):=hb.sublist (List.take_sublist _ _);have Au:∀ n,(xs.drop n).Pairwise (λa b=>bm (rk a) (rk b)=true):=λn=>hb.sublist (List.drop_sublist _ _)
  have SX:∀ y ∈ xs.drop (pos xs (ck c)+if ls xs (ck c) then 1 else 0),bm (ck c) (rk y)=true:=λy hy=>by
   obtain ⟨i,e⟩:=gP.1 hy;rw[bL] at e;obtain ⟨am,e1⟩:=aM.1 e;have hn:=wY xs (ck c) _ am hb (by omega);rw[e1] at hn;clear e1 am
   cases yM:bm (ck c) (rk y) with
   | true=>rfl
   | false=>
    have he:=sk yM hn;exfalso
    cases hf:ls xs (ck c) with
    | true=>
     obtain ⟨hp,DB⟩:=yn hf;rw[hf] at e;simp only[aI] at e;obtain ⟨am,e⟩:=aM.1 e;have:=eB.1 hb (pos xs (ck c)) (pos xs (ck c)+1+i) hp am (by omega);rw[e,DB,he] at this;rw[ju] at this;cases this
    | false=>
     rw[hf] at e;simp only[aF,aL,dG] at e;obtain ⟨am,e⟩:=aM.1 e;have hp:pos xs (ck c) < xs.length:=by omega
     have zQ:=wY xs (ck c) _ hp hb (aN _)
     have fq:rk xs[pos xs (ck c)]≠ck c:=λe2=>by
      unfold ls at hf;rw[aB hp] at hf;simp[e2] at hf
     have U4:bm (ck c) (rk xs[pos xs (ck c)])=true:=by
      cases GE:bm (ck c) (rk xs[pos xs (ck c)]) with
      | true=>rfl
      | false=>exact absurd (sk GE zQ).symm fq
     cases i with
     | zero=>
      simp only[dG] at e;rw[e,<- he,ju] at U4;cases U4
     | succ i=>
      have:=eB.1 hb (pos xs (ck c)) (pos xs (ck c)+(i+1)) hp am (by omega);rw[e] at this;have:=oW U4 this;rw[<-he,ju] at this;cases this
  have SY:∀ a ∈ xs.take (pos xs (ck c)),∀ y ∈ xs.drop (pos xs (ck c)+if ls xs (ck c) then 1 else 0),bm (rk a) (rk y)=true:=λa ha y hy=>oW (Ag ha) (SX y hy)
  cases hi:c.2.2.1 with
  | true=>
   have hkc:=hk hi;simp only[aI];refine fA.2 ⟨fA.2 ⟨h1,gE _ _,λa ha b hb=>?_⟩,Au _,λa ha y hy=>?_⟩
   ·rw[bR] at hb;subst hb;rw[hkc];exact Ag ha
   ·rcases cJ.1 ha with ha | ha
    ·exact SY a ha y hy
    ·rw[bR] at ha;subst ha;rw[hkc];exact SX y hy
  | false=>
   simp only[aF,aL,cD];exact fA.2 ⟨h1,Au _,SY⟩
 ·intro x hx;unfold tm at hx;rcases cJ.1 hx with hx | hx
  ·rcases cJ.1 hx with hx | hx
   ·exact h.ok x (eA hx)
   ·split at hx
    ·rename_i hi;rw[bR] at hx;rw[hx];exact hr hi
    ·cases hx
  ·exact h.ok x (dH hx)
theorem CC (xs:List Row) (c:Change):(tm xs c).length<=xs.length+1:=by
 unfold tm;rw[aR,aR,bP,bI];have:(if c.2.2.1=true then [c.2.2.2.1] else []).length<=1:=by split <;> simp
 omega
def uJ (i:Nat) (s:List Row) (c:Change):Sum (wQ×Unit) (List Row):=if ug c=0 then (if vL s c then .inr (tm s c) else .inl ((8,[],()),())) else .inl ((ug c,[],()),())
def Aj (s:List Row):wQ×Unit:=if 60 < s.length then ((2,[],()),()) else ((0,s,()),())
def Hw (xs:List Row) (cs:List Change):wQ:=if tn xs=0 then (bz uJ Aj 0 cs xs).1 else (tn xs,[],())
theorem U5 (n i:Nat) (s s':List Row) (c:Change) (h:Good s/\s.length<=60+i) (hf:uJ n s c=.inr s'):Good s'/\s'.length<=60+(i+1):=by
 unfold uJ at hf;split at hf
 ·rename_i hc;split at hf
  ·injection hf with hf;subst hf;exact ⟨AS h.1 hc,by have:=CC s c;omega⟩
  ·cases hf
 ·cases hf
theorem E6 (xs:List Row) (h:xs.length<=1048576):kF.aa (xs,())=some (xs,()):=by
 refine ah (k:=0) λk _=>(kF.ae k _).trans ?_;show kF.p _=_;unfold kF.p;have c1:([]:List Row).length+xs.length<=cc:=dh (by simp only[bA];omega);exact Iu (λe=>by have e:xs=[]:=e;subst e;rfl) (by rw[aV c1];rfl)
theorem Ma (xs:List Row) (cs:List Change) (hl:xs.length<=maxLen) (h:∀ x ∈ xs,rl x) (wb:cs.length<=1048576) (hc:∀ c ∈ cs,cl c):fd.aa (xs,cs,())=some (Hw xs cs,()):=by
 refine ah (k:=cs.length+1) λk hk=>(fd.ae k _).trans ?_;unfold fd.p Hw;simp only[E5 xs hl h,aA];by_cases h0:tn xs=0
 ·obtain ⟨hg,hn⟩:=CB h0;simp only[h0,aD,aQ,aG,aI,E6 xs (by omega),aA]
  exact co (B:=λself v=>fd.b0 self (λz=>fd.q0 (xs,cs,()) z) (xs,cs,()) v) cs (λ(s:List Row) (i:Int)=>(s,i)) uJ Aj (λi s=>Good s/\s.length<=60+i) (by rw[aq];omega)
   (λi hi s self hI=>by
    show fd.b0 _ _ _ _=_;unfold fd.b0 uJ;have am:(i:Int) < (cs.length:Int):=by omega
    simp only[am,aD,aJ,aK,aI,aH,aB hi,aA,Dd _ (hc _ (aS hi)),SP _ s hI.1.up (by omega),Qu s _ hI.1.up (by omega)];by_cases h1:ug cs[i]=0
    ·simp only[h1,aD,aQ,aG,aI];cases vL s cs[i] <;> rfl
    ·simp[h1]) (λi hi s s' hI hf=>U5 _ i s s' _ hI hf) (λs self hI=>by
    show fd.b0 _ _ _ _=_;unfold fd.b0 Aj;have am:¬ (cs.length:Int) < (cs.length:Int):=by omega
    simp only[am,aC,aG,fd.q0,fd.q0];rw[show (60:Int)=((60:Nat):Int) from rfl,Ht]
    by_cases h1:60 < s.length <;> simp[h1]) xs ⟨hg,by omega⟩ k (by omega)
 ·simp[h0];(try rfl)
end OT
namespace OT
open Go
theorem Mb (c d:Change):lW.aa (c,d,())=some (bm (ck c) (ck d),()):=by
 refine ah (k:=0) λk _=>(lW.ae k _).trans ?_;show lW.p _=_;unfold lW.p bm;simp only[Cx,aA];by_cases h1:(ck c).1 < (ck d).1 <;> by_cases h2:(ck c).1=(ck d).1 <;> simp[h1,h2]
def to (xs:List Change) (i:Nat) (x:Change):Sum (Int×Unit) Unit:=
 if wX x=0 then (if 0 < i then (match xs[i - 1]? with | some y=>if bm (ck y) (ck x) then .inr () else .inl (1,()) | none=>.inl (1,())) else .inr ()) else .inl (wX x,())
def u_ (xs:List Change):Int:=if 60 < xs.length then 2 else (bz (λi (_:Unit) x=>to xs i x) (λ_=>((0:Int),())) 0 xs ()).1
theorem E7 (xs:List Change) (hl:xs.length<=maxLen) (h:∀ c ∈ xs,cl c):ja.aa (xs,())=some (u_ xs,()):=by
 refine ah (k:=xs.length+1) λk hk=>(ja.ae k _).trans ?_
 have:=co (B:=λself v=>ja.b0 self (λz=>ja.q0 (xs,()) z) (xs,()) v) xs (λ(_:Unit) (i:Int)=>i) (λi _ x=>to xs i x) (λ_=>(0,())) (λ_ _=>True) hl
  (λi hi _ self _=>by
   show ja.b0 _ _ _ _=_;unfold ja.b0 to;have am:(i:Int) < (xs.length:Int):=by omega
   simp only[am,aD,aJ,aK,aI,aH,aB hi,aA,xE _ (h _ (aS hi))];by_cases h1:wX xs[i]=0
   ·simp only[h1,aD,aQ,aG,aI];by_cases h0:0 < i
    ·have sR:(0:Int) < (i:Int):=by omega
     have lg:i - 1 < xs.length:=by omega
     simp only[h0,sR,aD,aJ,aI,Cy h0 (by omega),aK,aH,aB lg,aA,Mb];cases bm (ck xs[i - 1]) (ck xs[i]) <;> rfl
    ·have sR:¬ (0:Int) < (i:Int):=by omega
     simp[h0,sR]
   ·simp[h1]) (λ_ _ _ _ _ _=>trivial) (λ_ self _=>by
   show ja.b0 _ _ _ _=_;unfold ja.b0
   simp[ja.q0,ja.q0]) () trivial k (by omega)
 have this:ja.r0 k (xs,()) 0=_:=this;unfold ja.p u_;rw[this,show (60:Int)=((60:Nat):Int) from rfl];simp only[Ht];by_cases h1:60 < xs.length <;> simp[h1] <;> rfl
theorem SZ (xs:List Change) (hl:xs.length<=maxLen) (h:∀ c ∈ xs,cl c):fe.aa (xs,())=some (u_ xs,()):=by
 refine ah (k:=xs.length+1) λk hk=>(fe.ae k _).trans ?_
 have:=co (B:=λself v=>fe.b0 self (λz=>fe.q0 (xs,()) z) (xs,()) v) xs (λ(_:Unit) (i:Int)=>i) (λi _ x=>to xs i x) (λ_=>(0,())) (λ_ _=>True) hl
  (λi hi _ self _=>by
   show fe.b0 _ _ _ _=_;unfold fe.b0 to;have am:(i:Int) < (xs.length:Int):=by omega
   simp only[am,aD,aJ,aK,aI,aH,aB hi,aA,D3 _ (h _ (aS hi))];by_cases h1:wX xs[i]=0
   ·simp only[h1,aD,aQ,aG,aI];by_cases h0:0 < i
    ·have sR:(0:Int) < (i:Int):=by omega
     have lg:i - 1 < xs.length:=by omega
     simp only[h0,sR,aD,aJ,aI,Cy h0 (by omega),aK,aH,aB lg,aA,u9,xP,AQ];cases bm (ck xs[i - 1]) (ck xs[i]) <;> rfl
    ·have sR:¬ (0:Int) < (i:Int):=by omega
     simp[h0,sR]
   ·simp[h1]) (λ_ _ _ _ _ _=>trivial) (λ_ self _=>by
   show fe.b0 _ _ _ _=_;unfold fe.b0
   simp[fe.q0,fe.q0]) () trivial k (by omega)
 have this:fe.r0 k (xs,()) 0=_:=this;unfold fe.p u_;rw[this,show (60:Int)=((60:Nat):Int) from rfl];simp only[Ht];by_cases h1:60 < xs.length <;> simp[h1] <;> rfl
theorem BD (xs:List Change) (h:xs.length<=1048576):ip.aa (xs,())=some (xs,()):=by
 refine ah (k:=0) λk _=>(ip.ae k _).trans ?_;show ip.p _=_;unfold ip.p;have c1:([]:List Change).length+xs.length<=cc:=dh (by simp only[bA];omega);exact Iu (λe=>by have e:xs=[]:=e;subst e;rfl) (by rw[aV c1];rfl)
end OT
namespace OT
open Go
theorem S4 {a b:Row} (h:Ty.eq ba a b=true):a=b:=by
 have e:Ty.eq ba a b=(decide (a.1=b.1)&&(decide (a.2.1=b.2.1)&&(decide (a.2.2.1=b.2.2.1)&&(decide (a.2.2.2.1=b.2.2.2.1)&&true)))):=rfl;rw[e] at h;simp only[aE,bM,eE] at h;obtain ⟨a1,a2,a3,a4,⟨⟩⟩:=a;obtain ⟨b1,b2,b3,b4,⟨⟩⟩:=b;obtain ⟨h1,h2,h3,h4⟩:=h;simp only at h1 h2 h3 h4;rw[h1,h2,h3,h4]
end OT
namespace OT
open Go
def pC (cs:List Change) (k:Int×Int):Nat:=pos (cs.map nu) k
def fC (cs:List Change) (k:Int×Int):Bool:=ls (cs.map nu) k
def Mc (cs:List Change):Prop:=up (cs.map nu)
theorem U6 {x:Change} {cs:List Change}:Mc (x::cs)↔(∀ y ∈ cs,bm (ck x) (ck y)=true)/\Mc cs:=by
 unfold Mc;rw[cS,tY];simp only[fV,forall_exists_index,and_imp,forall_apply_eq_imp_iff₂,vB]
theorem WK (cs:List Change) (k:Int×Int):pC cs k<=cs.length:=by
 have:=uG (cs.map nu) k
 rwa [fG] at this
theorem CD {xs:List Change} (h:u_ xs=0):Mc xs/\(∀ c ∈ xs,wX c=0)/\xs.length<=60:=by
 unfold u_ at h;split at h
 ·cases h
 ·rename_i hl
  have hn:=D8 (f:=λi (_:Unit) x=>to xs i x) (λi s x o ho=>by
   unfold to at ho;split at ho
   ·split at ho
    ·split at ho
     ·split at ho
      ·cases ho
      ·injection ho with ho;rw[<-ho];decide
     ·injection ho with ho;rw[<-ho];decide
    ·cases ho
   ·rename_i hx
    injection ho with ho;rw[<-ho];exact hx) xs 0 h
  have h1:∀ i (hi:i < xs.length),wX xs[i]=0:=λi hi=>by
   have:=hn i hi;unfold to at this;split at this
   ·assumption
   ·cases this
  refine ⟨L_ _ λi hi h0=>?_,λx hx=>?_,by omega⟩
  ·rw[fG] at hi;have:=hn i hi;unfold to at this;rw[aV (h1 i hi),bE,aV h0,aB (show i - 1 < xs.length by omega)] at this;simp only at this;simp only[List.getElem_map,vB];split at this
   ·assumption
   ·cases this
  ·obtain ⟨i,hi,rfl⟩:=dC.1 hx;exact h1 i hi
def wZ (x c:Change):Change:=(x.1,x.2.1,c.2.2.1,c.2.2.2.1,())
def EN (x:Change):Bool:=(!x.1&&!x.2.2.1)||(x.1&&(x.2.2.1&&Ty.eq ba x.2.1 x.2.2.2.1))
def IN (x c:Change):Bool:=!(c.1 == x.2.2.1)||(c.1&&!Ty.eq ba c.2.1 x.2.2.2.1)
def pR (cs:List Change) (c:Change):Option (List Change):=
 match (if fC cs (ck c) then cs[pC cs (ck c)]? else none) with
 | none=>some (cs.take (pC cs (ck c))++[c]++cs.drop (pC cs (ck c)))
 | some x=>if IN x c then none else if EN (wZ x c) then some (cs.take (pC cs (ck c))++cs.drop (pC cs (ck c)+1)) else some (cs.set (pC cs (ck c)) (wZ x c))
theorem aaX {x:Change} {cs:List Change} {k:Int×Int} (h:bm (ck x) k=true):pC (x::cs) k=pC cs k+1/\fC (x::cs) k=fC cs k:=by
 have h':bm (rk (nu x)) k=true:=by rw[vB];exact h
 refine ⟨?_,?_⟩
 ·unfold pC;rw[cS];simp only[pos,h',aI]
 ·unfold fC;rw[cS];exact Bj h'
theorem WL {x:Change} {cs:List Change} {k:Int×Int} (h:bm (ck x) k=false):pC (x::cs) k=0/\fC (x::cs) k=decide (ck x=k):=by
 have h':bm (rk (nu x)) k=false:=by rw[vB];exact h
 have h0:pos ((x::cs).map nu) k=0:=by rw[cS];simp[pos,h']
 refine ⟨h0,?_⟩
 unfold fC ls;rw[h0];simp only[cS,eN,vB]
theorem U7 {x:Change} {cs:List Change} {c:Change} (h:bm (ck x) (ck c)=true):pR (x::cs) c=(pR cs c).map (x::·):=by
 obtain ⟨h1,h2⟩:=aaX (cs:=cs) h;unfold pR;rw[h1,h2];simp only[fM,List.take_succ_cons,List.drop_succ_cons,List.set_cons_succ]
 cases (if fC cs (ck c)=true then cs[pC cs (ck c)]? else none) with
 | none=>rfl
 | some y=>
  simp only;split
  ·rfl
  ·split <;> rfl
theorem U8 {x:Change} {cs:List Change} {c:Change} (h:bm (ck c) (ck x)=true):pR (x::cs) c=some (c::x::cs):=by
 have fq:¬ ck x=ck c:=λe=>by rw[e,ju] at h;cases h
 obtain ⟨h1,h2⟩:=WL (cs:=cs) (wk h);unfold pR;rw[h1,h2];simp[fq]
theorem U9 {x:Change} {cs:List Change} {c:Change} (h:ck x=ck c):pR (x::cs) c=if IN x c then none else if EN (wZ x c) then some cs else some (wZ x c::cs):=by
 obtain ⟨h1,h2⟩:=WL (cs:=cs) (k:=ck c) (x:=x) (by rw[h];exact ju _);unfold pR;rw[h1,h2];simp[h]
theorem S5 (c:Change):pR [] c=some [c]:=by simp[pR,fC,ls,pC,pos]
theorem S6 {cs:List Change} {c:Change} {r:List Change} (h:pR cs c=some r):r.length<=cs.length+1:=by
 unfold pR at h;split at h
 ·injection h with h;subst h;simp only[aR,bP,bI,aO,bA];omega
 ·split at h
  ·cases h
  ·split at h
   ·injection h with h;subst h;simp only[aR,bP,bI];omega
   ·injection h with h;subst h;simp
theorem S7 {q:Change->Prop} {cs:List Change} {c:Change} {r:List Change} (h:pR cs c=some r) (h1:∀ x ∈ cs,q x) (h2:q c) (h3:∀ x ∈ cs,q (wZ x c)):∀ x ∈ r,q x:=by
 unfold pR at h;split at h
 ·injection h with h;subst h;intro x hx;simp only[cJ,bR] at hx;rcases hx with (hx | rfl) | hx
  ·exact h1 x (eA hx)
  ·exact h2
  ·exact h1 x (dH hx)
 ·rename_i y hy
  have Bx:y ∈ cs:=by
   split at hy
   ·exact cA hy
   ·cases hy
  split at h
  ·cases h
  ·split at h
   ·injection h with h;subst h;intro x hx;rcases cJ.1 hx with hx | hx
    ·exact h1 x (eA hx)
    ·exact h1 x (dH hx)
   ·injection h with h;subst h;intro x hx;rcases hJ hx with hx | rfl
    ·exact h1 x hx
    ·exact h3 y Bx
theorem E8 (c:Change) (r:Row):nV.aa (c,r,())=some (if bm (ck c) (rk r) then -1 else if bm (rk r) (ck c) then 1 else 0,()):=by
 refine ah (k:=0) λk _=>(nV.ae k _).trans ?_;show nV.p _=_;unfold nV.p;simp only[u9,tk,AQ,aA];rfl
theorem XF (a b:Int×Int):decide ((if bm a b then (-1:Int) else if bm b a then 1 else 0) < 0)=bm a b:=by
 cases bm a b <;> cases bm b a <;> rfl
theorem XG (a b:Int×Int):decide ((if bm a b then (-1:Int) else if bm b a then 1 else 0)=0)=decide (a=b):=by
 cases h1:bm a b with
 | true=>
  have:¬ a=b:=λe=>by rw[e,ju] at h1;cases h1
  simp[this]
 | false=>
  cases h2:bm b a with
  | true=>
   have:¬ a=b:=λe=>by rw[e,ju] at h2;cases h2
   simp[this]
  | false=>simp[sk h1 h2]
theorem Qx (xs:List Change) (key:Row) (f:Nat×Int) (hu:Mc xs) (hl:xs.length<=2000000):bt.aa (xs,key,f,())=some ((pC xs (rk key):Int),fC xs (rk key),()):=by
 have hp:=WK xs (rk key)
 have hq:bt.q0 (xs,key,f,()) (pC xs (rk key):Int)=some ((pC xs (rk key):Int),fC xs (rk key),()):=by
  show bt.q0 _ _=_;unfold bt.q0;by_cases am:pC xs (rk key) < xs.length
  ·have h1:((pC xs (rk key):Nat):Int) < (xs.length:Int):=by omega
   have h2:fC xs (rk key)=decide (ck xs[pC xs (rk key)]=rk key):=by
    unfold fC ls
    have h3:(xs.map nu)[pos (xs.map nu) (rk key)]?=some (nu xs[pC xs (rk key)]):=by
     rw[eK];show Option.map nu xs[pC xs (rk key)]?=_;rw[aB am];rfl
    rw[h3];simp only[vB]
   simp only[h1,aD,aJ,aK,aI,aH,aB am,aA,E8,XG,h2]
  ·have h1:¬ ((pC xs (rk key):Nat):Int) < (xs.length:Int):=by omega
   simp only[h1,aC,aG];have h3:(xs.map nu)[pos (xs.map nu) (rk key)]?=none:=cW (by rw[fG];show xs.length<=pC xs (rk key);omega);unfold fC ls;rw[h3]
 refine ah (k:=xs.length+1) λk hk=>(bt.ae k _).trans ?_
 refine uU (B:=λself v=>bt.b0 self (λz=>bt.q0 (xs,key,f,()) z) (xs,key,f,()) v) (λ_=>((pC xs (rk key):Int),fC xs (rk key),()))
  (λv=>∃ lo hi:Nat,v=((lo:Int),(hi:Int))/\lo<=pC xs (rk key)/\pC xs (rk key)<=hi/\hi<=xs.length) (λv=>(v.2 - v.1).toNat) (λv hv self=>?_) k (0,(xs.length:Int)) ⟨0,xs.length,rfl,by omega,hp,by omega⟩ (by simp;omega)
 obtain ⟨lo,hi,rfl,h1,h2,h3⟩:=hv;by_cases am:lo < hi
 ·right;have sZ:(lo:Int) < (hi:Int):=by omega
  have hm:(lo+hi) / 2 < xs.length:=by omega
  have BE:(lo+hi) / 2 < (xs.map nu).length:=by rw[fG];exact hm
  have hb:∀ self,bt.b0 self (λz=>bt.q0 (xs,key,f,()) z) (xs,key,f,()) ((lo:Int),(hi:Int))=if bm (ck xs[(lo+hi) / 2]) (rk key) then self (af ((((lo+hi) / 2:Nat):Int)+1),(hi:Int)) else self ((lo:Int),(((lo+hi) / 2:Nat):Int)):=λself=>by
   show bt.b0 _ _ _ _=_;unfold bt.b0;simp only[sZ,aD,aJ,half lo hi (by omega),aK,aI,aH,aB hm,aA,E8,XF];cases bm (ck xs[(lo+hi) / 2]) (rk key) <;> rfl
  have T7:rk (xs.map nu)[(lo+hi) / 2]=ck xs[(lo+hi) / 2]:=by rw[List.getElem_map,vB]
  cases hc:bm (ck xs[(lo+hi) / 2]) (rk key) with
  | true=>
   refine ⟨((((lo+hi) / 2+1:Nat):Int),(hi:Int)),?_,rfl,⟨_,_,rfl,?_,h2,h3⟩,by simp only;omega⟩
   ·rw[hb,hc,aV rfl,bf (by omega)];rfl
   ·rcases bZ ((lo+hi) / 2) (pC xs (rk key)) with h | h
    ·omega
    ·have:=wY (xs.map nu) (rk key) _ BE hu h;rw[T7] at this;rw[this] at hc;cases hc
  | false=>
   refine ⟨((lo:Int),(((lo+hi) / 2:Nat):Int)),?_,rfl,⟨_,_,rfl,h1,?_,by omega⟩,by simp only;omega⟩
   ·rw[hb,hc];rfl
   ·rcases bZ ((lo+hi) / 2) (pC xs (rk key)) with h | h
    ·have:=D4 (xs.map nu) (rk key) _ BE h;rw[T7] at this;rw[this] at hc;cases hc
    ·exact h
 ·left;have e:lo=pC xs (rk key):=by omega
  have sZ:¬ (lo:Int) < (hi:Int):=by omega
  show bt.b0 _ _ _ _=_;unfold bt.b0;simp only[sZ,aC,aG];rw[e];exact hq
def w5 (xs:List Change) (c:Change):Buffer:=if u_ xs=0 then (if wX c=0 then (match pR xs c with | none=>((8:Int),([]:List Change),()) | some r=>((0:Int),r,())) else (wX c,([]:List Change),())) else (u_ xs,([]:List Change),())
theorem XH (xs:List Change) (i:Nat) (c:Change) (hi:i<=xs.length) (hl:xs.length<=1000):oT.aa (xs,(i:Int),[c],())=some (xs.take i++[c]++xs.drop i,()):=by
 have h1:(0:Int)<=(i:Int)/\(i:Int)<=(xs.length:Int)/\xs.length+[c].length<=cc:=⟨by omega,by omega,dh (by simp only[aO,bA];omega)⟩
 show (if (0:Int)<=(i:Int)/\(i:Int)<=(xs.length:Int)/\xs.length+[c].length<=cc then some (xs.take (i:Int).toNat++[c]++xs.drop (i:Int).toNat,()) else none)=_;rw[aV h1];rfl
theorem XI (xs:List Change) (i:Nat) (hi:i < xs.length) (hl:xs.length<=1000):mq.aa (xs,(i:Int),af ((i:Int)+1),())=some (xs.take i++xs.drop (i+1),()):=by
 rw[bf (by omega)]
 have h1:(0:Int)<=(i:Int)/\(i:Int)<=(i:Int)+1/\(i:Int)+1<=(xs.length:Int):=⟨by omega,by omega,by omega⟩
 show (if (0:Int)<=(i:Int)/\(i:Int)<=(i:Int)+1/\(i:Int)+1<=(xs.length:Int) then some (xs.take (i:Int).toNat++xs.drop ((i:Int)+1).toNat,()) else none)=_;rw[aV h1];rfl
theorem Nv (xs:List Change) (c:Change) (hl:xs.length<=1048576) (h:∀ x ∈ xs,cl x) (hc:cl c):nK.aa (xs,c,())=some (w5 xs c,()):=by
 refine ah (k:=0) λk _=>(nK.ae k _).trans ?_;show nK.p _=_;unfold nK.p w5;simp only[SZ xs (by rw[aq];omega) h,D3 c hc,aA];by_cases h1:u_ xs=0
 ·obtain ⟨hu,_,h60⟩:=CD h1;simp only[h1,aD,aQ,aG,aI];by_cases h2:wX c=0
  ·have hp:=WK xs (ck c);simp only[h2,aD,aQ,aG,aI,u9,Qx xs _ _ hu (by omega),vB,BD xs hl,aA];unfold pR
   cases hf:fC xs (ck c) with
   | false=>
    simp only[aZ,aJ,aF,aL,XH xs _ c hp (by omega),aA]
   | true=>
    have am:pC xs (ck c) < xs.length:=by
     obtain ⟨hp,_⟩:=yn hf;rw[fG] at hp;exact hp
    have hi:(0:Int)<=(pC xs (ck c):Int)/\((pC xs (ck c):Nat):Int) < (xs.length:Int):=⟨by omega,by omega⟩
    simp only[aQ,aG,aI,aV hi,aH,aB am,aA,XI xs _ am (by omega)];generalize xs[pC xs (ck c)]=x;unfold IN EN wZ
    cases c.1 <;> cases x.2.2.1 <;> cases x.1 <;> cases c.2.2.1 <;> simp <;> (try (cases Ty.eq ba c.2.1 x.2.2.2.1 <;> simp)) <;> (try (cases Ty.eq ba x.2.1 c.2.2.2.1 <;> simp))
  ·simp only[h2,aC,aZ,aJ,aL]
 ·simp only[h1,aC,aZ,aJ,aL]
def r_ (c:Change) (s:List Change×Bool) (x:Change):Sum (List Change×Bool×Unit) (List Change×Bool):=
 let s':=if !s.2&&bm (ck c) (ck x) then (s.1++[c],true) else s
 if bm (ck x) (ck c) then .inr (s'.1++[x],s'.2) else if bm (ck c) (ck x) then .inr (s'.1++[x],s'.2) else
 if IN x c then .inl ([],false,()) else if EN (wZ x c) then .inr (s'.1,true) else .inr (s'.1++[wZ x c],true)
def EO (c:Change) (s:List Change×Bool):List Change×Bool×Unit:=if s.2 then (s.1,true,()) else (s.1++[c],true,())
theorem za (c:Change):∀ (xs:List Change) (i:Nat) (s:List Change),(∀ x ∈ xs,bm (ck c) (ck x)=true)->bz (λ_ s x=>r_ c s x) (EO c) i xs (s,true)=(s++xs,true,())
 | [],_,s,_=>by simp[bz,EO]
 | x::xs,i,s,h=>by
  have hx:=h x bG;have:r_ c (s,true) x=.inr (s++[x],true):=by simp[r_,hx,wk hx]
  simp only[bz,this];rw[za c xs (i+1) _ (λy hy=>h y (aW _ hy))];simp
theorem Me (c:Change):∀ (xs:List Change) (i:Nat) (s:List Change),Mc xs->bz (λ_ s x=>r_ c s x) (EO c) i xs (s,false)=match pR xs c with | none=>([],false,()) | some r=>(s++r,true,())
 | [],_,s,_=>by simp[bz,EO,S5]
 | x::xs,i,s,hu=>by
  have my:=U6.1 hu
  cases h1:bm (ck x) (ck c) with
  | true=>
   have:r_ c (s,false) x=.inr (s++[x],false):=by simp[r_,h1,wk h1]
   simp only[bz,this];rw[Me c xs (i+1) _ my.2,U7 h1];cases pR xs c <;> simp
  | false=>
   cases h2:bm (ck c) (ck x) with
   | true=>
    have:r_ c (s,false) x=.inr (s++[c]++[x],true):=by simp[r_,h1,h2]
    simp only[bz,this];rw[za c xs (i+1) _ (λy hy=>oW h2 (my.1 y hy)),U8 h2];simp
   | false=>
    have he:=sk h1 h2;have EZ:∀ y ∈ xs,bm (ck c) (ck y)=true:=λy hy=>by rw[<-he];exact my.1 y hy
    rw[U9 he]
    cases h3:IN x c with
    | true=>
     have:r_ c (s,false) x=.inl ([],false,()):=by simp[r_,h1,h2,h3]
     simp only[bz,this];rfl
    | false=>
     cases h4:EN (wZ x c) with
     | true=>
      have:r_ c (s,false) x=.inr (s,true):=by simp[r_,h1,h2,h3,h4]
      simp only[bz,this];rw[za c xs (i+1) _ EZ];simp
     | false=>
      have:r_ c (s,false) x=.inr (s++[wZ x c],true):=by simp[r_,h1,h2,h3,h4]
      simp only[bz,this];rw[za c xs (i+1) _ EZ];simp
theorem XJ {a b:Row}:Ty.eq ba a b=Ty.eq ba b a:=by
 cases h1:Ty.eq ba a b with
 | true=>
  have:=S4 h1;subst this;exact h1.symm
 | false=>
  cases h2:Ty.eq ba b a with
  | true=>
   have:=S4 h2;subst this;rw[h1] at h2;cases h2
  | false=>rfl
theorem Mf (xs:List Change) (c:Change) (hu:Mc xs) (hl:xs.length<=1000):lA.aa (xs,c,())=some (match pR xs c with | none=>(([]:List Change),false,()) | some r=>(r,true,())):=by
 refine ah (k:=xs.length+1) λk hk=>(lA.ae k _).trans ?_
 have:=co (B:=λself v=>lA.b0 self (λz=>lA.q0 (xs,c,()) z) (xs,c,()) v) xs (λ(s:List Change×Bool) (i:Int)=>(s.1,s.2,i)) (λ_ s x=>r_ c s x) (EO c) (λi s=>s.1.length<=2*i) (by rw[aq];omega)
  (λi hi s self hI=>by
   show lA.b0 _ _ _ _=_;unfold lA.b0 r_;have am:(i:Int) < (xs.length:Int):=by omega
   obtain ⟨s1,s2⟩:=s;simp only at hI;have c1:∀ y:Change,s1.length+[y].length<=cc:=λy=>dh (by simp only[aO,bA];omega);have c2:∀ y:Change,(s1++[c]).length+[y].length<=cc:=λy=>dh (by simp only[aR,aO,bA];omega);simp only[am,aD,aJ,aK,aI,aH,aB hi,aA,Mb,c1,c2];generalize xs[i]=x;unfold IN EN wZ;rw[XJ (a:=x.2.2.2.1) (b:=c.2.1)]
   cases bm (ck c) (ck x) <;> cases bm (ck x) (ck c) <;> cases s2 <;> cases x.2.2.1 <;> cases c.1 <;> cases x.1 <;> cases c.2.2.1 <;> simp <;> (try (cases Ty.eq ba c.2.1 x.2.2.2.1 <;> simp)) <;> (try (cases Ty.eq ba x.2.1 c.2.2.2.1 <;> simp)))
  (λi hi s s' hI hf=>by
   obtain ⟨s1,s2⟩:=s;unfold r_ at hf;simp only at hf hI;have hlen:(if (!s2&&bm (ck c) (ck xs[i]))=true then (s1++[c],true) else (s1,s2)).1.length<=s1.length+1:=by split <;> simp
   split at hf
   ·injection hf with hf;subst hf;simp only[aR,aO,bA];omega
   ·split at hf
    ·injection hf with hf;subst hf;simp only[aR,aO,bA];omega
    ·split at hf
     ·cases hf
     ·split at hf
      ·injection hf with hf;subst hf;simp only;omega
      ·injection hf with hf;subst hf;simp only[aR,aO,bA];omega) (λs self hI=>by
   show lA.b0 _ _ _ _=_;unfold lA.b0;simp only[bC,aC,aG];show lA.q0 _ _=_;unfold lA.q0 EO;obtain ⟨s1,s2⟩:=s;simp only at hI;have c1:∀ y:Change,s1.length+[y].length<=cc:=λy=>dh (by simp only[aO,bA];omega);simp only[c1,aI]
   cases s2 <;> rfl) ([],false) (by simp) k (by omega)
 rw[Me c xs 0 [] hu] at this;refine (this:lA.r0 k (xs,c,()) ([],false,0)=_).trans ?_;cases pR xs c <;> rfl
theorem Nw (xs:List Change) (c:Change) (hl:xs.length<=1048576) (h:∀ x ∈ xs,cl x) (hc:cl c):nH.aa (xs,c,())=some (w5 xs c,()):=by
 refine ah (k:=0) λk _=>(nH.ae k _).trans ?_;show nH.p _=_;unfold nH.p w5;simp only[E7 xs (by rw[aq];omega) h,xE c hc,aA];by_cases h1:u_ xs=0
 ·obtain ⟨hu,_,h60⟩:=CD h1;simp only[h1,aD,aQ,aG,aI];by_cases h2:wX c=0
  ·simp only[h2,aD,aQ,aG,aI,Mf xs c hu (by omega),aA];cases pR xs c <;> rfl
  ·simp only[h2,aC,aZ,aJ,aL]
 ·simp only[h1,aC,aZ,aJ,aL]
end OT
namespace OT
open Go
theorem d_ {V S O α:Type} {B:(V->Option O)->V->Option O} (xs:List α) (enc:S->Int->V) (f:Nat->S->α->Sum (Option O) S) (fin:S->Option O) (I:Nat->S->Prop) (sI:xs.length<=maxLen)
  (gg:∀ (i:Nat) (hi:i < xs.length) (s:S) self,I i s->B self (enc s (i:Int))=match f i s xs[i] with | .inl o=>o | .inr s'=>self (enc s' (af ((i:Int)+1))))
  (hI:∀ (i:Nat) (hi:i < xs.length) (s s':S),I i s->f i s xs[i]=.inr s'->I (i+1) s')
  (kf:∀ (s:S) self,I xs.length s->B self (enc s (xs.length:Int))=fin s) (s:S) (h0:I 0 s):∀ k,xs.length < k->ak B k (enc s 0)=bz f fin 0 xs s:=by
 have main:∀ (m i:Nat) (s:S),xs.length - i=m->i<=xs.length->I i s->∀ k,m < k->ak B k (enc s (i:Int))=bz f fin i (xs.drop i) s:=by
  intro m
  induction m with
  | zero=>
   intro i s hm hi hs k hk;have lg:i=xs.length:=by omega
   subst lg
   cases k with
   | zero=>omega
   | succ k=>
    show B (ak B k) _=_;rw[kf s _ hs];simp[bz]
  | succ m ih=>
   intro i s hm hi hs k hk;have am:i < xs.length:=by omega
   cases k with
   | zero=>omega
   | succ k=>
    show B (ak B k) _=_;rw[gg i am s _ hs,cZ am];simp only[bz]
    cases hf:f i s xs[i] with
    | inl o=>rfl
    | inr s'=>
     have hw:af ((i:Int)+1)=((i+1:Nat):Int):=by rw[bf (by rw[aq] at sI;omega)];omega
     simp only[hw];exact ih (i+1) s' (by omega) (by omega) (hI i am s s' hs hf) k (by omega)
 intro k hk
 simpa using main xs.length 0 s (by omega) (by omega) h0 k hk
theorem xH {O α:Type} (p:α->Bool) (a:O) (fin:Unit->O):∀ (xs:List α) (i:Nat),bz (λ_ _ x=>if p x then .inl a else .inr ()) fin i xs ()=if xs.any p then a else fin ()
 | [],_=>rfl
 | x::xs,i=>by
  simp only[bz,fY];by_cases h:p x=true
  ·simp[h]
  ·simp[h,xH p a fin xs (i+1)]
def vC {α:Type} (p:α->Bool):Nat->List α->Int
 | _,[]=>-1
 | i,x::xs=>if p x then (i:Int) else vC p (i+1) xs
theorem zb {α:Type} (p:α->Bool):∀ (xs:List α) (i:Nat),bz (λi _ x=>if p x then .inl ((i:Int),()) else .inr ()) (λ_=>((-1:Int),())) i xs ()=(vC p i xs,())
 | [],_=>rfl
 | x::xs,i=>by
  simp only[bz,vC];by_cases h:p x=true
  ·simp[h]
  ·simp[h,zb p xs (i+1)]
theorem Jw {α:Type} (p:α->Bool):∀ (xs:List α) (i:Nat),decide (0<=vC p i xs)=xs.any p
 | [],_=>rfl
 | x::xs,i=>by
  simp only[vC,fY];by_cases h:p x=true
  ·simp[h]
  ·simp[h,Jw p xs (i+1)]
theorem CE (a b:Key):Ty.eq bh a b=decide (a=b):=by
 obtain ⟨a1,a2,⟨⟩⟩:=a;obtain ⟨b1,b2,⟨⟩⟩:=b;show (decide (a1=b1)&&(decide (a2=b2)&&true))=decide ((a1,a2,())=(b1,b2,()));by_cases h1:a1=b1 <;> by_cases h2:a2=b2 <;> simp[h1,h2]
def BF (c:Change):Key:=((ck c).1,(ck c).2,())
def jc (ks:List Key) (k:Key):Bool:=ks.any λx=>decide (x=k)
theorem rp {ks:List Key} {k:Key}:jc ks k=true↔k ∈ ks:=by simp[jc]
def xQ (k:Key):Bool:=ft k.1 0 3&&ft k.2.1 1 99
theorem Mg (c:Change):o8.aa (c,())=some (BF c,()):=by
 refine ah (k:=0) λk _=>(o8.ae k _).trans ?_;show o8.p _=_;unfold o8.p;simp only[Cx,aA];rfl
theorem XK (c:Change):nr.aa (c,())=some (BF c,()):=by
 refine ah (k:=0) λk _=>(nr.ae k _).trans ?_;show nr.p _=_;unfold nr.p BF;simp only[u9,aA,<- AQ]
theorem Ny (x:Key):qR.aa (x,())=some (xQ x,()):=by
 refine ah (k:=0) λk _=>(qR.ae k _).trans ?_;show qR.p _=_;unfold qR.p xQ ft;simp only[nM,aA];cases decide ((0:Int)<=x.1) <;> cases decide (x.1<=3) <;> rfl
theorem U_ (x:Key):rX.aa (x.1,x.2.1,())=some (xQ x,()):=by
 refine ah (k:=0) λk _=>(rX.ae k _).trans ?_;show rX.p _=_;unfold rX.p xQ ft;simp only[sV,aA];cases decide ((0:Int)<=x.1) <;> cases decide (x.1<=3) <;> rfl
theorem Mh (x:Tx) (k0:Key) (h:List.length x.2.2.2.1<=maxLen):jr.aa (x,k0,())=some (jc x.2.2.2.1 k0,()):=by
 refine ah (k:=List.length x.2.2.2.1+1) λk hk=>(jr.ae k _).trans ?_
 have:=co (B:=λself v=>jr.b0 self (λz=>jr.q0 (x,k0,()) z) (x,k0,()) v) x.2.2.2.1 (λ(_:Unit) (i:Int)=>i) (λ_ _ y=>if decide (y=k0) then .inl (true,()) else .inr ()) (λ_=>(false,())) (λ_ _=>True) h
  (λi hi s self _=>by
   show jr.b0 _ _ _ _=_;unfold jr.b0;have am:(i:Int) < (List.length x.2.2.2.1:Int):=by omega
   simp only[am,aD,aJ,aK,aI,aH,aB hi,aA,CE];by_cases hh:(x.2.2.2.1)[i]=k0
   ·simp only[hh,aD,aJ,aI]
   ·simp only[hh,aC,aG,aF,aL])
  (λ_ _ _ _ _ _=>trivial) (λs self _=>by
   show jr.b0 _ _ _ _=_;unfold jr.b0;simp only[bC,aC,aG]
   rfl) () trivial k (by omega)
 rw[xH] at this;refine aU this ?_;unfold jc;cases x.2.2.2.1.any (λy=>decide (y=k0)) <;> rfl
theorem contains_eq (ks:List Key) (k0:Key) (h:ks.length<=maxLen):kL.aa (ks,k0,())=some (jc ks k0,()):=by
 have Ov:jt.aa (ks,k0,())=some (vC (λy=>decide (k0=y)) 0 ks,()):=by
  refine ah (k:=ks.length+1) λk hk=>(jt.ae k _).trans ?_
  have:=co (B:=λself v=>jt.b0 self (λz=>jt.q0 (ks,k0,()) z) (ks,k0,()) v) ks (λ(_:Unit) (i:Int)=>i) (λi _ y=>if decide (k0=y) then .inl ((i:Int),()) else .inr ()) (λ_=>((-1:Int),())) (λ_ _=>True) h
   (λi hi s self _=>by
    show jt.b0 _ _ _ _=_;unfold jt.b0;have am:(i:Int) < (ks.length:Int):=by omega
    simp only[am,aD,aJ,aK,aI,aH,aB hi,aA,CE];by_cases hh:k0=ks[i]
    ·simp only[<-hh,aD,aJ,aI]
    ·simp only[hh,aC,aG,aF,aL])
   (λ_ _ _ _ _ _=>trivial) (λs self _=>by
    show jt.b0 _ _ _ _=_;unfold jt.b0;simp only[bC,aC,aG]
    rfl) () trivial k (by omega)
  rw[zb] at this;exact this
 refine ah (k:=0) λk _=>(kL.ae k _).trans ?_;show kL.p _=_;unfold kL.p;rw[Ov];simp only[aA,Jw];congr 2;unfold jc;congr 1;funext y;by_cases hh:k0=y
 ·simp[hh]
 ·have:¬ y=k0:=λe=>hh e.symm;simp[hh,this]
def tl (x:Tx):Prop:=List.length x.2.1<=1048576/\List.length x.2.2.1<=1048576/\List.length x.2.2.2.1<=1048576/\∀ c ∈ x.2.1,cl c
def xR (ks:List Key) (c:Change):Int:=if wX c=0 then (if jc ks (BF c) then 0 else 8) else wX c
def Hx (n last:Int) (ms:List Int):Bool:=bz (λ_ last m=>if ft m last n then .inr m else .inl false) (λ_=>true) 0 ms last
def qH (ks:List Key) (i:Nat) (k:Key):Int:=if xQ k then (if jc (ks.take i) k then 6 else 0) else 3
def w7 (ks:List Key):Int:=bz (λi (_:Unit) k=>if qH ks i k=0 then .inr () else .inl (qH ks i k)) (λ_=>(0:Int)) 0 ks ()
def tN (x:Tx):Int:=if decide (8 < List.length x.2.2.1)||decide (12 < List.length x.2.2.2.1) then 2 else if Hx (List.length x.2.1:Int) 0 x.2.2.1 then w7 x.2.2.2.1 else 3
def AT (x:Tx):Int:=ox (xR x.2.2.2.1) x.2.1
theorem Mi (n:Int) (E:Option (Int×Unit)):∀ (ms:List Int) (i:Nat) (last:Int),bz (λ_ last m=>if ft m last n then .inr m else .inl (some ((3:Int),()))) (λ_=>E) i ms last=if bz (λ_ last m=>if ft m last n then .inr m else .inl false) (λ_=>true) i ms last then E else some ((3:Int),())
 | [],_,_=>rfl
 | m::ms,i,last=>by
  simp only[bz];by_cases hb:ft m last n=true
  ·simp only[hb,aI];exact Mi n E ms _ _
  ·simp[hb]
theorem Nz (x:Tx) (h:tl x):mB.aa (x,())=some (AT x,()):=by
 obtain ⟨h1,h2,h3,h4⟩:=h;refine ah (k:=List.length x.2.1+1) λk hk=>(mB.ae k _).trans ?_
 have:=co (B:=λself v=>mB.b0 self (λz=>mB.q0 (x,()) z) (x,()) v) x.2.1 (λ(_:Unit) (i:Int)=>i) (λ_ _ c=>if xR x.2.2.2.1 c=0 then .inr () else .inl (xR x.2.2.2.1 c,())) (λ_=>(0,())) (λ_ _=>True) (by rw[aq];omega)
  (λi hi s self _=>by
   show mB.b0 _ _ _ _=_;unfold mB.b0;have am:(i:Int) < (List.length x.2.1:Int):=by omega
   simp only[am,aD,aJ,aK,aI,aH,aB hi,aA,xE _ (h4 _ (aS hi)),Mg];rw[Mh x _ (by rw[aq];omega)];unfold xR;by_cases hc:wX (x.2.1)[i]=0
   ·simp only[hc,aD,aQ,aG,aI,aA];cases jc x.2.2.2.1 (BF (x.2.1)[i]) <;> rfl
   ·simp only[hc,aC,aZ,aJ,aL])
  (λ_ _ _ _ _ _=>trivial) (λs self _=>by
   show mB.b0 _ _ _ _=_;unfold mB.b0;simp only[bC,aC,aG]
   rfl) () trivial k (by omega)
 rw[yV (xR x.2.2.2.1) (λc=>(c,())) (λ_=>((0:Int),()))] at this;refine aU this ?_;unfold AT;split
 ·rename_i h0;rw[h0]
 ·rfl
theorem Va {m last n:Int} (h:0<=last):(ft m 0 n&&decide (last<=m))=ft m last n:=by
 unfold ft;by_cases h1:last<=m
 ·have:(0:Int)<=m:=by omega
  simp[h1,this]
 ·simp[h1]
theorem Mj (x:Tx) (h:tl x):cw.aa (x,())=some (tN x,()):=by
 obtain ⟨h1,h2,h3,h4⟩:=h;refine ah (k:=20) λk hk=>(cw.ae k _).trans ?_;unfold cw.p tN;by_cases hm:8 < List.length x.2.2.1
 ·have:(8:Int) < (List.length x.2.2.1:Int):=by omega
  simp only[this,hm,aD,aJ,fQ,aI]
  (try rfl)
 have BE:¬ (8:Int) < (List.length x.2.2.1:Int):=by omega
 by_cases mw:12 < List.length x.2.2.2.1
 ·have:(12:Int) < (List.length x.2.2.2.1:Int):=by omega
  simp only[this,hm,BE,mw,aD,aC,aJ,aG,dY,aI]
  (try rfl)
 have o6:¬ (12:Int) < (List.length x.2.2.2.1:Int):=by omega
 simp only[hm,BE,o6,mw,aC,aG,iG,aF,aL]
 have second:cw.r1 k (x,()) (x,(0:Int))=some (w7 x.2.2.2.1,()):=by
  have inner:∀ (self:(Tx×Int)->Option cw.Out) (e2:Unit->Option cw.Out) (i:Nat) (hi:i < List.length x.2.2.2.1),cw.r2 k self e2 (x,()) x (i:Int) (0:Int)=if jc (x.2.2.2.1.take i) (x.2.2.2.1)[i] then some ((6:Int),()) else self (x,af ((i:Int)+1)):=λself e2 i hi=>by
   have kq:(x.2.2.2.1.take i).length=i:=by simp;omega
   have:=d_ (B:=λfj v=>cw.b2 fj (λz=>cw.q1 self e2 (x,()) x (i:Int) z) (x,()) x (i:Int) v) (x.2.2.2.1.take i) (λ(_:Unit) (j:Int)=>j) (λ_ _ y=>if decide (y=(x.2.2.2.1)[i]) then .inl (some ((6:Int),())) else .inr ()) (λ_=>self (x,af ((i:Int)+1))) (λ_ _=>True) (by rw[aq];omega)
    (λj hj s fj _=>by
     show cw.b2 _ _ _ _ _ _=_;unfold cw.b2;rw[kq] at hj;have am:(j:Int) < (i:Int):=by omega
     have Oz:j < List.length x.2.2.2.1:=by omega
     simp only[am,aD,aJ,aK,aI,aH,aB Oz,aB hi,aA,CE,gS]
     by_cases hh:(x.2.2.2.1)[j]=(x.2.2.2.1)[i]
     ·simp only[hh,aD,aJ,aI]
     ·simp only[hh,aC,aG,aF,aL])
    (λ_ _ _ _ _ _=>trivial) (λs fj _=>by
     show cw.b2 _ _ _ _ _ _=_;unfold cw.b2;simp only[kq,bC,aC,aG]
     rfl) () trivial k (by omega)
   rw[xH] at this;exact this
  have:=co (B:=λself v=>cw.B1 k self (λz=>cw.q2 (x,()) z) (x,()) v) x.2.2.2.1 (λ(_:Unit) (i:Int)=>(x,i)) (λi _ y=>if qH x.2.2.2.1 i y=0 then .inr () else .inl (qH x.2.2.2.1 i y,())) (λ_=>(0,())) (λ_ _=>True) (by rw[aq];omega)
   (λi hi s self _=>by
    show cw.b1 _ _ _ _ _=_;unfold cw.b1 qH;have am:(i:Int) < (List.length x.2.2.2.1:Int):=by omega
    simp only[am,aD,aJ,aK,aI,aH,aB hi,aA,Ny];rw[inner self _ i hi]
    cases xQ (x.2.2.2.1)[i] <;> cases jc (x.2.2.2.1.take i) (x.2.2.2.1)[i] <;> rfl)
   (λ_ _ _ _ _ _=>trivial) (λs self _=>by
    show cw.b1 _ _ _ _ _=_;unfold cw.b1;simp only[bC,aC,aG]
    rfl) () trivial k (by omega)
  refine aU this ?_;unfold w7;generalize E4:x.2.2.2.1=ks
  have gen:∀ (f:Nat->Key->Int) (ys:List Key) (i:Nat),bz (λi (_:Unit) y=>if f i y=0 then .inr () else .inl (f i y,())) (λ_=>((0:Int),())) i ys ()=(bz (λi (_:Unit) y=>if f i y=0 then .inr () else .inl (f i y)) (λ_=>(0:Int)) i ys (),()):=by
   intro f ys
   induction ys with
   | nil=>intro i;rfl
   | cons y ys ih=>intro i;simp only[bz];by_cases h0:f i y=0 <;> simp[h0,ih]
  rw[gen (qH ks)]
 have:=d_ (B:=λself v=>cw.b0 self (λz=>cw.Q0 k (x,()) z) (x,()) v) x.2.2.1 (λ(_:Int) (i:Int)=>i) (λi last m=>if ft m last (List.length x.2.1:Int) then .inr m else .inl (some ((3:Int),()))) (λ_=>some (w7 x.2.2.2.1,()))
  (λi last=>0<=last/\(i=0->last=0)/\∀ y,0 < i->x.2.2.1[i - 1]?=some y->last=y) (by rw[aq];omega)
  (λi hi last self hI=>by
   obtain ⟨i1,i2,i3⟩:=hI;show cw.b0 _ _ _ _=_;unfold cw.b0;have am:(i:Int) < (List.length x.2.2.1:Int):=by omega
   simp only[am,aD,aJ,aK,aI,aH,aB hi,aA,nM];generalize YM:(x.2.2.1)[i]=m;rw[<-Va i1];show (bif !ft m 0 (List.length x.2.1:Int) then _ else _)=_
   cases GE:ft m 0 (List.length x.2.1:Int) with
   | false=>rfl
   | true=>
    have YS:0<=m:=by
     simp only[ft,aE,bM] at GE;exact GE.1
    simp only[aQ,aG,eX];by_cases h0:i=0
    ·subst h0;have:=i2 rfl;subst this;have hz:¬ (0:Int) < ((0:Nat):Int):=by omega
     simp only[hz,YS,aD,aC,aG,aI]
    ·have Hy:i - 1 < List.length x.2.2.1:=by omega
     have hl:=i3 (x.2.2.1)[i - 1] (by omega) (aB Hy);have hp:(0:Int) < (i:Int):=by omega
     simp only[hp,aD,aJ,Cy (show 0 < i by omega) (by rw[aq];omega),aK,aI,aH,aB Hy,aA];rw[<-hl];by_cases hc:last<=m
     ·have:¬ m < last:=by omega
      simp only[hc,this,aD,aC,aG,aI]
     ·have:m < last:=by omega
      simp only[hc,this,aD,aC,aJ,aF,aL])
  (λi hi last ab3 hI hs=>by
   split at hs
   ·rename_i hb;injection hs with hs;subst hs;simp only[ft,aE,bM] at hb;refine ⟨by omega,λe=>by omega,λy _ hy=>?_⟩
    rw[iB,aB hi] at hy;injection hy
   ·cases hs)
  (λlast self hI=>by
   show cw.b0 _ _ _ _=_;unfold cw.b0;simp only[bC,aC,aG]
   exact second) 0 ⟨fW _,λ_=>rfl,λ_ h=>by omega⟩ k (by omega)
 refine aU this ?_;unfold Hx;rw[Mi];cases bz (λ_ last m=>if ft m last (List.length x.2.1:Int) then .inr m else .inl false) (λ_=>true) 0 x.2.2.1 0 <;> rfl
end OT
namespace OT
open Go
def pb (D:List UInt8) (i:Nat):Nat:=(D.getD i 0).toNat
theorem nC (D:List UInt8) (i:Nat):pb D i < 256:=jV _
theorem kH {D:List UInt8} {i:Nat} (h:i < D.length):D[i]?=some D[i]/\(D[i]).toNat=pb D i:=⟨aB h,by simp[pb,h]⟩
theorem S8 {A B:List UInt8} (h:A.length=B.length) (h2:∀ j,j < A.length->pb A j=pb B j):A=B:=by
 refine List.ext_getElem h λi h1 h3=>?_;have:=h2 i h1;rw[<-(kH h1).2,<- (kH h3).2] at this;exact jS.1 this
theorem Vb (D:List UInt8) (a n j:Nat) (h:j < n):pb ((D.drop a).take n) j=pb D (a+j):=by
 unfold pb;simp only[eS,bJ,h,aI,bL]
def pn (p:List UInt8):Nat:=pb p 0
def nv (p:List UInt8):Nat:=pb p 1
def pat (p:List UInt8) (i:Nat):Nat:=pb p (2+2*i)
def bv (p:List UInt8) (i:Nat):Nat:=pb p (3+2*i)
def vM (p:List UInt8) (i:Nat):Bool:=if pat p i=0\/bv p i=0 then decide (pat p i=bv p i) else decide (nv p<=pat p i)&&decide (pat p i+bv p i<=64)
def rq (p:List UInt8) (i k:Nat):Bool:=(decide (bv p i=0)||decide (bv p k=0))||(decide (pat p i+bv p i<=pat p k)||decide (pat p k+bv p k<=pat p i))
def w8 (p:List UInt8):Int:=
 if p.length=64 then
  if pn p<=16/\2+2*pn p<=nv p/\nv p<=64 then
   if (List.range (pn p)).all (vM p) then
    if (List.range (pn p)).all (λi=>(List.range i).all (rq p i)) then
     if 0 < pn p/\bv p (pn p - 1)=0 then 8 else 0
    else 8
   else 3
  else 3
 else 1
structure sa (p:List UInt8):Prop where
 len:p.length=64
 n:pn p<=16
 lo:2+2*pn p<=nv p
 hi:nv p<=64
 slot:∀ i,i < pn p->bv p i≠0->nv p<=pat p i/\pat p i+bv p i<=64
 zero:∀ i,i < pn p->bv p i=0->pat p i=0
 apart:∀ i k,i < pn p->k < pn p->i≠k->bv p i≠0->bv p k≠0->pat p i+bv p i<=pat p k\/pat p k+bv p k<=pat p i
 last:0 < pn p->bv p (pn p - 1)≠0
theorem D9 {p:List UInt8} {i:Nat} (vv:2<=nv p):vM p i=true↔(bv p i≠0->nv p<=pat p i/\pat p i+bv p i<=64)/\(bv p i=0->pat p i=0):=by
 unfold vM;by_cases h1:bv p i=0
 ·simp[h1]
 ·by_cases h2:pat p i=0
  ·simp[h1,h2];omega
  ·simp[h1,h2]
theorem zd {p:List UInt8} {i k:Nat}:rq p i k=true↔(bv p i≠0->bv p k≠0->pat p i+bv p i<=pat p k\/pat p k+bv p k<=pat p i):=by
 unfold rq;by_cases h1:bv p i=0
 ·simp[h1]
 ·by_cases h2:bv p k=0
  ·simp[h2]
  ·simp[h1,h2]
theorem D_ {p:List UInt8}:w8 p=0↔sa p:=by
 constructor
 ·intro h;unfold w8 at h;split at h
  ·rename_i h1;split at h
   ·rename_i h2;split at h
    ·rename_i h3;split at h
     ·rename_i h4;split at h
      ·cases h
      ·rename_i h5;have hs:∀ i,i < pn p->(bv p i≠0->nv p<=pat p i/\pat p i+bv p i<=64)/\(bv p i=0->pat p i=0):=λi hi=>(D9 (by omega)).1 (cB.1 h3 i (dF.2 hi));have ha:∀ i k,i < pn p->k < i->bv p i≠0->bv p k≠0->pat p i+bv p i<=pat p k\/pat p k+bv p k<=pat p i:=λi k hi hk=>zd.1 (cB.1 (cB.1 h4 i (dF.2 hi)) k (dF.2 hk));refine ⟨h1,h2.1,h2.2.1,h2.2.2,λi hi=>(hs i hi).1,λi hi=>(hs i hi).2,λi k hi hk Hg z1 z2=>?_,λhn hz=>h5 ⟨hn,hz⟩⟩
       rcases Nat.lt_or_gt_of_ne Hg with h6 | h6
       ·exact (ha k i hk h6 z2 z1).symm
       ·exact ha i k hi h6 z1 z2
     ·cases h
    ·cases h
   ·cases h
  ·cases h
 ·intro h;unfold w8;rw[aV h.len,aV ⟨h.n,h.lo,h.hi⟩,aV,aV,bB]
  ·intro ⟨h1,h2⟩;exact h.last h1 h2
  ·refine cB.2 λi hi=>cB.2 λk hk=>zd.2 ?_;have:=dF.1 hi;have:=dF.1 hk;exact h.apart i k (by omega) (by omega) (by omega)
  ·exact cB.2 λi hi=>(D9 (by have:=h.lo;omega)).2 ⟨h.slot i (dF.1 hi),h.zero i (dF.1 hi)⟩
def kX (p:List UInt8) (i:Nat):List UInt8:=(p.drop (pat p i)).take (bv p i)
def cellOf (p:List UInt8) (i:Nat):List UInt8:=if i < pn p then kX p i else []
theorem AU {p:List UInt8} (h:sa p) {i:Nat} (hi:i < pn p):(kX p i).length=bv p i:=by
 unfold kX;by_cases hz:bv p i=0
 ·simp[hz]
 ·have:=h.slot i hi hz;have:=h.len;simp only[bP,bI];omega
theorem F8 (p:List UInt8) (i j:Nat) (h:j < bv p i):pb (kX p i) j=pb p (pat p i+j):=Vb p _ _ j h
theorem Vc {p q:List UInt8} {i k:Nat} (hp:(kX p i).length=bv p i) (hq:(kX q k).length=bv q k) (hs:bv p i=bv q k) (hb:∀ j,j < bv p i->pb p (pat p i+j)=pb q (pat q k+j)):kX p i=kX q k:=by
 refine S8 (by omega) λj hj=>?_;rw[F8 p i j (by omega),F8 q k j (by omega)];exact hb j (by omega)
theorem Vd {p c:List UInt8} {i:Nat} (hp:(kX p i).length=bv p i) (hs:bv p i=c.length) (hb:∀ j,j < c.length->pb p (pat p i+j)=pb c j):kX p i=c:=by
 refine S8 (by omega) λj hj=>?_;rw[F8 p i j (by omega)];exact hb j (by omega)
def ab4 (p:List UInt8) (s a:Nat) (c:List UInt8):List UInt8:=((sg p a c.length c).set (2+2*s) (UInt8.ofNat a)).set (3+2*s) (UInt8.ofNat c.length)
structure yo (p q:List UInt8) (s a m:Nat):Prop where
 len:q.length=64
 n:pn q=pn p\/(pn q=pn p+1/\s=pn p)
 ZF:s < pn q
 n16:pn q<=16
 lo:2+2*pn q<=nv q
 lo2:nv q<=nv p
 at_:pat q s=a
 sz:bv q s=m
 pos:0 < m
 abN:nv q<=a
 abO:a+m<=64
 Mk:∀ i,i < pn q->i≠s->pat q i=pat p i/\bv q i=bv p i
 free:∀ i,i < pn p->i≠s->bv p i≠0->a+m<=pat p i\/pat p i+bv p i<=a
 same:∀ j,nv p<=j->j < 64->(j < a\/a+m<=j)->pb q j=pb p j
theorem yo.ok {p q:List UInt8} {s a m:Nat} (t:yo p q s a m) (h:sa p):sa q:=by
 have am:∀ i,i < pn q->i≠s->i < pn p:=λi hi hs=>by rcases t.n with h1 | ⟨h1,h2⟩ <;> omega
 have ha:=t.at_;have hm:=t.sz;have DH:=t.pos;have vv:=t.abN;have Om:=t.abO;have acg:=t.lo2;have hh:=h.hi;refine ⟨t.len,t.n16,t.lo,by omega,λi hi hz=>?_,λi hi hz=>?_,λi k hi hk Hg z1 z2=>?_,λhn=>?_⟩
 ·by_cases hs:i=s
  ·subst hs;omega
  ·obtain ⟨h1,h2⟩:=t.Mk i hi hs;have:=h.slot i (am i hi hs) (by omega);omega
 ·by_cases hs:i=s
  ·subst hs;omega
  ·obtain ⟨h1,h2⟩:=t.Mk i hi hs;have:=h.zero i (am i hi hs) (by omega);omega
 ·by_cases hs:i=s
  ·subst hs;have E4:k≠i:=λe=>Hg e.symm;obtain ⟨h1,h2⟩:=t.Mk k hk E4;have:=t.free k (am k hk E4) E4 (by omega);omega
  ·obtain ⟨h1,h2⟩:=t.Mk i hi hs;by_cases ud:k=s
   ·subst ud;have:=t.free i (am i hi hs) hs (by omega);omega
   ·obtain ⟨h3,h4⟩:=t.Mk k hk ud;have:=h.apart i k (am i hi hs) (am k hk ud) Hg (by omega) (by omega);omega
 ·by_cases hs:pn q - 1=s
  ·rw[hs];omega
  ·obtain ⟨h1,h2⟩:=t.Mk (pn q - 1) (by omega) hs
   have hq:pn q=pn p:=by
    rcases t.n with h3 | ⟨h3,h4⟩
    ·exact h3
    ·omega
   rw[h2,hq];exact h.last (by omega)
theorem yo.Qy {p q:List UInt8} {s a m:Nat} (t:yo p q s a m) (h:sa p) {i:Nat} (hi:i < pn q) (hs:i≠s):kX q i=kX p i:=by
 have E1:i < pn p:=by rcases t.n with h1 | ⟨h1,h2⟩ <;> omega
 obtain ⟨h1,h2⟩:=t.Mk i hi hs;refine Vc (AU (t.ok h) hi) (AU h E1) h2 λj hj=>?_;have hz:bv p i≠0:=by omega
 have h3:=h.slot i E1 hz;have h4:=t.free i E1 hs hz;rw[h1];exact t.same _ (by omega) (by omega) (by omega)
theorem yo.S9 {p q:List UInt8} {s a:Nat} {c:List UInt8} (t:yo p q s a c.length) (h:sa p) (hc:∀ j,j < c.length->pb q (a+j)=pb c j):kX q s=c:=
 Vd (AU (t.ok h) t.ZF) t.sz λj hj=>by rw[t.at_];exact hc j hj
theorem yo.cells {p q:List UInt8} {s a:Nat} {c:List UInt8} (t:yo p q s a c.length) (h:sa p) (hc:∀ j,j < c.length->pb q (a+j)=pb c j) (i:Nat):cellOf q i=if i=s then c else cellOf p i:=by
 have hs:=t.ZF;unfold cellOf;by_cases C_:i=s
 ·subst C_;rw[aV hs,aV rfl,t.S9 h hc]
 ·rw[bB C_];by_cases hi:i < pn q
  ·have E1:i < pn p:=by rcases t.n with h1 | ⟨h1,h2⟩ <;> omega
   rw[aV hi,aV E1,t.Qy h hi C_]
  ·have E1:¬ i < pn p:=by rcases t.n with h1 | ⟨h1,h2⟩ <;> omega
   rw[bB hi,bB E1]
end OT
namespace OT
open Go
def Qz (p:List UInt8):Nat->Nat
 | 0=>0
 | m+1=>Qz p m+bv p m
def vo (p:List UInt8):Nat->Nat->Bool
 | 0,_=>false
 | k+1,j=>vo p k j||decide (pat p k<=j/\j < pat p k+bv p k)
structure ab5 (p:List UInt8) (k:Nat) (o:List UInt8) (a:Nat):Prop where
 len:o.length=64
 n:pb o 0=pn p
 a:a=64 - Qz p k
 sz:∀ i,i < pn p->bv o i=bv p i
 old:∀ i,i < pn p->(k<=i\/bv p i=0)->pat o i=pat p i
 new:∀ i,i < k->bv p i≠0->pat o i=64 - Qz p (i+1)/\∀ j,j < bv p i->pb o (64 - Qz p (i+1)+j)=pb p (pat p i+j)
end OT
namespace OT
open Go
theorem ZG {i:Nat} (h:i < 1000):af ((3:Int)+af ((2:Int)*(i:Int)))=((3+2*i:Nat):Int):=by
 rw[bf (n:=(2:Int)*(i:Int)) (by omega),bf (by omega)];omega
theorem WM {i:Nat} (h:i < 1000):af ((2:Int)+af ((2:Int)*(i:Int)))=((2+2*i:Nat):Int):=by
 rw[bf (n:=(2:Int)*(i:Int)) (by omega),bf (by omega)];omega
theorem Df (p:List UInt8) (i:Nat):af ((pb p i:Nat):Int)=((pb p i:Nat):Int):=by
 have:=nC p i;exact bf (by omega)
theorem j0 {R:Type} {p:List UInt8} {i:Nat} (h:i < p.length) (K:UInt8->Option R):(p[i]?).bind K=K p[i]:=by rw[(kH h).1];rfl
section
variable {p:List UInt8} (hp:p.length=64)
include hp
theorem wm:je.aa (p,())=some ((pn p:Int),()):=by
 refine ah (k:=0) λk _=>(je.ae k _).trans ?_;show je.p _=_;unfold je.p;simp only[j0 (show 0 < p.length by omega),(kH (show 0 < p.length by omega)).2,Df];rfl
theorem AV:lp.aa (p,())=some ((pn p:Int),()):=by
 refine ah (k:=0) λk _=>(lp.ae k _).trans ?_;show lp.p _=_;unfold lp.p;simp only[j0 (show 0 < p.length by omega),(kH (show 0 < p.length by omega)).2,Df];rfl
theorem OQ:nQ.aa (p,())=some ((nv p:Int),()):=by
 refine ah (k:=0) λk _=>(nQ.ae k _).trans ?_;show nQ.p _=_;unfold nQ.p;simp only[j0 (show 1 < p.length by omega),(kH (show 1 < p.length by omega)).2,Df];rfl
theorem uK {i:Nat} (hi:i < 16):dy.aa (p,(i:Int),())=some ((bv p i:Int),()):=by
 refine ah (k:=0) λk _=>(dy.ae k _).trans ?_;show dy.p _=_;unfold dy.p;simp only[ZG (show i < 1000 by omega),aK,aI,aH,j0 (show 3+2*i < p.length by omega),(kH (show 3+2*i < p.length by omega)).2,Df];rfl
theorem AW {i:Nat} (hi:i < 16):jf.aa (p,(i:Int),())=some ((pat p i:Int),()):=by
 refine ah (k:=0) λk _=>(jf.ae k _).trans ?_;show jf.p _=_;unfold jf.p;simp only[WM (show i < 1000 by omega),aK,aI,aH,j0 (show 2+2*i < p.length by omega),(kH (show 2+2*i < p.length by omega)).2,Df];rfl
theorem F9 {i:Nat} (hi:i < 16):pa.aa (p,(i:Int),())=some ((pat p i:Int),(bv p i:Int),()):=by
 refine ah (k:=0) λk _=>(pa.ae k _).trans ?_;show pa.p _=_;unfold pa.p;simp only[WM (show i < 1000 by omega),ZG (show i < 1000 by omega),aK,aI,aH,j0 (show 2+2*i < p.length by omega),(kH (show 2+2*i < p.length by omega)).2,j0 (show 3+2*i < p.length by omega),(kH (show 3+2*i < p.length by omega)).2,Df];rfl
theorem Ve {i:Nat} (hi:i < 16):qQ.aa (p,(i:Int),())=some (vM p i,()):=by
 refine ah (k:=0) λk _=>(qQ.ae k _).trans ?_;show qQ.p _=_;unfold qQ.p vM;have h1:=nC p (2+2*i);have h2:=nC p (3+2*i)
 have hw:af ((pat p i:Int)+(bv p i:Int))=((pat p i+bv p i:Nat):Int):=by
  have:pat p i < 256:=h1;have:bv p i < 256:=h2;rw[bf (by omega)];omega
 simp only[AW hp hi,uK hp hi,OQ hp,aA,hw];have e1:decide ((pat p i:Int)=0)=decide (pat p i=0):=by rw[cK];omega
 have e2:decide ((bv p i:Int)=0)=decide (bv p i=0):=by rw[cK];omega
 have e3:decide ((pat p i:Int)=(bv p i:Int))=decide (pat p i=bv p i):=by rw[cK];omega
 have e4:decide ((nv p:Int)<=(pat p i:Int))=decide (nv p<=pat p i):=by rw[cK];omega
 have e5:decide (((pat p i+bv p i:Nat):Int)<=64)=decide (pat p i+bv p i<=64):=by rw[cK];omega
 rw[e1,e2,e3,e4,e5];by_cases c1:pat p i=0
 ·simp[c1]
 ·by_cases c2:bv p i=0
  ·simp[c1,c2]
  ·simp only[c1,c2,aC,aG,or_self,aL];cases decide (nv p<=pat p i) <;> rfl
theorem S_ {i j:Nat} (hi:i < 16) (hj:j < 16):pZ.aa (p,(i:Int),(j:Int),())=some (rq p i j,()):=by
 refine ah (k:=0) λk _=>(pZ.ae k _).trans ?_;show pZ.p _=_;unfold pZ.p rq;have h1:pat p i < 256:=nC p _;have h2:bv p i < 256:=nC p _;have h3:pat p j < 256:=nC p _;have h4:bv p j < 256:=nC p _;have hw:af ((pat p i:Int)+(bv p i:Int))=((pat p i+bv p i:Nat):Int):=by rw[bf (by omega)];omega
 have wM:af ((pat p j:Int)+(bv p j:Int))=((pat p j+bv p j:Nat):Int):=by rw[bf (by omega)];omega
 simp only[AW hp hi,uK hp hi,AW hp hj,uK hp hj,aA,hw,wM];have e1:decide ((bv p i:Int)=0)=decide (bv p i=0):=by rw[cK];omega
 have e2:decide ((bv p j:Int)=0)=decide (bv p j=0):=by rw[cK];omega
 have e3:decide (((pat p i+bv p i:Nat):Int)<=(pat p j:Int))=decide (pat p i+bv p i<=pat p j):=by rw[cK];omega
 have e4:decide (((pat p j+bv p j:Nat):Int)<=(pat p i:Int))=decide (pat p j+bv p j<=pat p i):=by rw[cK];omega
 rw[e1,e2,e3,e4];cases decide (bv p i=0) <;> cases decide (bv p j=0) <;> cases decide (pat p i+bv p i<=pat p j) <;> rfl
end
theorem tZ {O:Type} (q:Nat->Bool) (bad e:O):∀ (xs:List Nat) (i:Nat),bz (λ_ (_:Unit) x=>if q x then .inr () else .inl bad) (λ_=>e) i xs ()=if xs.all q then e else bad:=λxs i=>rP q bad (λ_=>e) xs i
theorem NA (p:List UInt8) (hl:p.length<=maxLen):cm.aa (p,())=some (w8 p,()):=by
 refine ah (k:=100) λk hk=>(cm.ae k _).trans ?_;unfold cm.p w8;have e0:decide ((p.length:Int)=64)=decide (p.length=64):=by rw[cK];omega
 rw[e0];by_cases hp:p.length=64;rotate_left
 ·simp only[hp,aC,aZ,aJ,aL]
 have hn:pn p < 256:=nC p 0;have vv:nv p < 256:=nC p 1;have hw:af ((2:Int)+af ((2:Int)*(pn p:Int)))=((2+2*pn p:Nat):Int):=WM (by omega);simp only[hp,aD,aQ,aG,wm hp,OQ hp,aA,hw,aI];by_cases c1:pn p<=16;rotate_left
 ·have:((16:Int) < (pn p:Int)):=by omega
  simp only[this,aD,aJ,c1,gF,aL]
 have n1:¬ ((16:Int) < (pn p:Int)):=by omega
 simp only[n1,aC,aG,c1,dZ];by_cases c2:2+2*pn p<=nv p;rotate_left
 ·have:((nv p:Int) < ((2+2*pn p:Nat):Int)):=by omega
  simp only[this,aD,aJ,c2,gF,aL]
 have n2:¬ ((nv p:Int) < ((2+2*pn p:Nat):Int)):=by omega
 simp only[n2,aC,aG,c2,dZ];by_cases c3:nv p<=64;rotate_left
 ·have:((64:Int) < (nv p:Int)):=by omega
  simp only[this,aD,aJ,c3,aL]
 have n3:¬ ((64:Int) < (nv p:Int)):=by omega
 simp only[n3,aC,aG,c3,aI]
 have inner:∀ (self:((List UInt8)×Int×Int)->Option cm.Out) (e2:((List UInt8)×Int)->Option cm.Out) (i:Nat) (hi:i < pn p),cm.r2 k self e2 (p,()) p (pn p:Int) (i:Int) (0:Int)=if (List.range i).all (rq p i) then self (p,(pn p:Int),af ((i:Int)+1)) else some ((8:Int),()):=λself e2 i hi=>by
  have:=d_ (B:=λfj v=>cm.b2 fj (λz=>cm.q1 self e2 (p,()) p (pn p:Int) (i:Int) z) (p,()) p (pn p:Int) (i:Int) v) (List.range i) (λ(_:Unit) (j:Int)=>j) (λ_ _ x=>if rq p i x then .inr () else .inl (some ((8:Int),()))) (λ_=>self (p,(pn p:Int),af ((i:Int)+1))) (λ_ _=>True) (by rw[aq,bX];omega)
   (λj hj s fj _=>by
    rw[bX] at hj;show cm.b2 _ _ _ _ _ _ _=_;unfold cm.b2;have am:(j:Int) < (i:Int):=by omega
    simp only[am,aD,aJ,S_ hp (show i < 16 by omega) (show j < 16 by omega),aA,eD]
    cases rq p i j <;> rfl)
   (λ_ _ _ _ _ _=>trivial) (λs fj _=>by
    rw[bX];show cm.b2 _ _ _ _ _ _ _=_;unfold cm.b2;simp only[bC,aC,aG]
    rfl) () trivial k (by rw[bX];omega)
  rw[tZ] at this;exact this
 have outer:cm.r1 k (p,()) (pn p:Int) (p,(pn p:Int),(0:Int))=if (List.range (pn p)).all (λi=>(List.range i).all (rq p i)) then cm.q2 (p,()) (p,(pn p:Int)) else some ((8:Int),()):=by
  have:=d_ (B:=λself v=>cm.B1 k self (λz=>cm.q2 (p,()) z) (p,()) v) (List.range (pn p)) (λ(_:Unit) (i:Int)=>(p,(pn p:Int),i)) (λ_ _ x=>if (List.range x).all (rq p x) then .inr () else .inl (some ((8:Int),()))) (λ_=>cm.q2 (p,()) (p,(pn p:Int))) (λ_ _=>True) (by rw[aq,bX];omega)
   (λi hi s self _=>by
    rw[bX] at hi;show cm.b1 _ _ _ _ _=_;unfold cm.b1;have am:(i:Int) < (pn p:Int):=by omega
    simp only[am,aD,aJ,inner self _ i hi,eD]
    cases (List.range i).all (rq p i) <;> rfl)
   (λ_ _ _ _ _ _=>trivial) (λs self _=>by
    rw[bX];show cm.b1 _ _ _ _ _=_;unfold cm.b1
    simp only[bC,aC,aG]) () trivial k (by rw[bX];omega)
  rw[tZ] at this;exact this
 have first:cm.r0 k (p,()) (pn p:Int) (0:Int)=if (List.range (pn p)).all (vM p) then cm.r1 k (p,()) (pn p:Int) (p,(pn p:Int),(0:Int)) else some ((3:Int),()):=by
  have:=d_ (B:=λself v=>cm.b0 self (λz=>cm.Q0 k (p,()) (pn p:Int) z) (p,()) (pn p:Int) v) (List.range (pn p)) (λ(_:Unit) (i:Int)=>i) (λ_ _ x=>if vM p x then .inr () else .inl (some ((3:Int),()))) (λ_=>cm.r1 k (p,()) (pn p:Int) (p,(pn p:Int),(0:Int))) (λ_ _=>True) (by rw[aq,bX];omega)
   (λi hi s self _=>by
    rw[bX] at hi;show cm.b0 _ _ _ _ _=_;unfold cm.b0;have am:(i:Int) < (pn p:Int):=by omega
    simp only[am,aD,aJ,Ve hp (show i < 16 by omega),aA,eD]
    cases vM p i <;> rfl)
   (λ_ _ _ _ _ _=>trivial) (λs self _=>by
    rw[bX];show cm.b0 _ _ _ _ _=_;unfold cm.b0;simp only[bC,aC,aG]
    rfl) () trivial k (by rw[bX];omega)
  rw[tZ] at this;exact this
 rw[first];split
 ·rw[outer];split
  ·show cm.q2 _ _=_;unfold cm.q2;by_cases h0:0 < pn p
   ·have am:(0:Int) < (pn p:Int):=by omega
    have ZH:af ((pn p:Int) - 1)=((pn p - 1:Nat):Int):=by rw[bf (by omega)];omega
    simp only[am,aD,aJ,ZH,uK hp (show pn p - 1 < 16 by omega),aA,h0,dZ];by_cases hz:bv p (pn p - 1)=0
    ·simp[hz]
    ·have:¬ ((bv p (pn p - 1):Int)=0):=by omega
     simp only[this,aC,aG,hz,aL]
   ·have am:¬ ((0:Int) < (pn p:Int)):=by omega
    simp only[am,aC,aG,h0,gF,aL]
  ·rfl
 ·rfl
theorem Ea {S O:Type} (q:Nat->Bool) (g:Nat->S) (bad e:O):∀ (xs:List Nat) (i:Nat) (s:S),bz (λ_ s x=>if q x then .inl bad else .inr (g x)) (λ_=>e) i xs s=if xs.any q then bad else e
 | [],_,_=>rfl
 | x::xs,i,s=>by
  simp only[bz,fY];by_cases h:q x=true
  ·simp[h]
  ·simp[h,Ea q g bad e xs (i+1)]
def vU (p:List UInt8) (i t:Nat):List Bool:=(List.range 64).map λj=>vo p i j||decide (pat p i<=j/\j < pat p i+t)
def CF (p:List UInt8) (i:Nat):Bool:=(List.range (bv p i)).any λt=>vo p i (pat p i+t)
theorem Ta (p:List UInt8) (i:Nat):vU p i 0=(List.range 64).map (vo p i):=by
 unfold vU;refine List.map_congr_left λj _=>?_;have:¬ (pat p i<=j/\j < pat p i+0):=by omega
 simp only[this,aC,Bool.or_false]
theorem Tb (p:List UInt8) (i:Nat):vU p i (bv p i)=(List.range 64).map (vo p (i+1)):=rfl
theorem F_ (p:List UInt8) (i t j:Nat) (h:j < 64):(vU p i t)[j]?=some (vo p i j||decide (pat p i<=j/\j < pat p i+t)):=by
 unfold vU;simp[h]
theorem CG (p:List UInt8) (i t:Nat):(vU p i t).length=64:=by simp[vU]
theorem Tc (p:List UInt8) (i t:Nat) (h:pat p i+t < 64):(vU p i t).set (pat p i+t) true=vU p i (t+1):=by
 refine fS λj=>?_;rw[fL,CG];by_cases hj:j < 64
 ·rw[F_ p i t j hj,F_ p i (t+1) j hj];by_cases e:pat p i+t=j
  ·subst e;have:pat p i<=pat p i+t/\pat p i+t < pat p i+(t+1):=by omega
   simp[h,this]
  ·rw[bB e];have:(pat p i<=j/\j < pat p i+t)↔(pat p i<=j/\j < pat p i+(t+1)):=by omega
   simp only[this]
 ·have h1:(vU p i t)[j]?=none:=cW (by rw[CG];omega);have h2:(vU p i (t+1))[j]?=none:=cW (by rw[CG];omega);rw[h1,h2,bB (by omega)]
theorem Ml {p:List UInt8}:∀ {k j:Nat},vo p k j=true↔∃ i,i < k/\pat p i<=j/\j < pat p i+bv p i
 | 0,j=>by simp[vo]
 | k+1,j=>by
  simp only[vo,cY,bM,Ml (k:=k)];constructor
  ·rintro (⟨i,h1,h2⟩ | h)
   ·exact ⟨i,by omega,h2⟩
   ·exact ⟨k,by omega,h⟩
  ·rintro ⟨i,h1,h2⟩;by_cases e:i=k
   ·subst e;exact .inr h2
   ·exact .inl ⟨i,by omega,h2⟩
theorem QA (p:List UInt8) (i:Nat):CF p i=!(List.range i).all (rq p i):=by
 rw[fE];simp only[CF,gD,dF,Ml,cM,List.all_eq_false,Bool.not_eq_true];constructor
 ·rintro ⟨t,ht,k,hk,h1,h2⟩;refine ⟨k,hk,?_⟩
  cases h:rq p i k with
  | false=>rfl
  | true=>have:=zd.1 h (by omega) (by omega);omega
 ·rintro ⟨k,hk,h⟩;have hn:¬ (bv p i≠0->bv p k≠0->pat p i+bv p i<=pat p k\/pat p k+bv p k<=pat p i):=λh2=>by rw[zd.2 h2] at h;cases h
  by_cases c1:bv p i=0
  ·exact absurd (λh=>absurd c1 h) hn
  ·by_cases c2:bv p k=0
   ·exact absurd (λ_ h=>absurd c2 h) hn
   ·have c3:¬ (pat p i+bv p i<=pat p k):=λh3=>hn λ_ _=>.inl h3;have c4:¬ (pat p k+bv p k<=pat p i):=λh3=>hn λ_ _=>.inr h3;exact ⟨max (pat p i) (pat p k) - pat p i,by omega,k,hk,by omega,by omega⟩
theorem Vf (p:List UInt8) (n:Nat):(List.range n).any (CF p)=!(List.range n).all (λi=>(List.range i).all (rq p i)):=by
 rw[List.not_all_eq_any_not];congr 1;funext i;exact QA p i
theorem NB (p:List UInt8) (hl:p.length<=maxLen):bq.aa (p,())=some (w8 p,()):=by
 refine ah (k:=300) λk hk=>(bq.ae k _).trans ?_;unfold bq.p w8;have e0:decide ((p.length:Int)=64)=decide (p.length=64):=by rw[cK];omega
 rw[e0];by_cases hp:p.length=64;rotate_left
 ·simp only[hp,aC,aZ,aJ,aL]
 have hn:pn p < 256:=nC p 0;have vv:nv p < 256:=nC p 1;have hw:af ((2:Int)+af ((2:Int)*(pn p:Int)))=((2+2*pn p:Nat):Int):=WM (by omega);have Rm:((p[1]'(by omega)).toNat)=nv p:=(kH (show 1 < p.length by omega)).2;have hwl:af (nv p:Int)=(nv p:Int):=Df p 1;simp only[hp,aD,aQ,aG,j0 (show 1 < p.length by omega),Rm,hwl,AV hp,aA,hw,aI];by_cases c1:pn p<=16;rotate_left
 ·have:((16:Int) < (pn p:Int)):=by omega
  simp only[this,aD,aJ,c1,gF,aL]
 have n1:¬ ((16:Int) < (pn p:Int)):=by omega
 simp only[n1,aC,aG,c1,dZ];by_cases c2:2+2*pn p<=nv p;rotate_left
 ·have:((nv p:Int) < ((2+2*pn p:Nat):Int)):=by omega
  simp only[this,aD,aJ,c2,gF,aL]
 have n2:¬ ((nv p:Int) < ((2+2*pn p:Nat):Int)):=by omega
 simp only[n2,aC,aG,c2,dZ];by_cases c3:nv p<=64;rotate_left
 ·have:((64:Int) < (nv p:Int)):=by omega
  simp only[this,aD,aJ,c3,aL]
 have n3:¬ ((64:Int) < (nv p:Int)):=by omega
 simp only[n3,aC,aG,c3,aI]
 have first:bq.r0 k (p,()) (pn p:Int) (nv p:Int) (0:Int)=if (List.range (pn p)).all (vM p) then bq.Q0 k (p,()) (pn p:Int) (nv p:Int) () else some ((3:Int),()):=by
  have:=d_ (B:=λself v=>bq.b0 self (λz=>bq.Q0 k (p,()) (pn p:Int) (nv p:Int) z) (p,()) (pn p:Int) (nv p:Int) v) (List.range (pn p)) (λ(_:Unit) (i:Int)=>i) (λ_ _ x=>if vM p x then .inr () else .inl (some ((3:Int),()))) (λ_=>bq.Q0 k (p,()) (pn p:Int) (nv p:Int) ()) (λ_ _=>True) (by rw[aq,bX];omega)
   (λi hi s self _=>by
    rw[bX] at hi;show bq.b0 _ _ _ _ _ _=_;unfold bq.b0;have am:(i:Int) < (pn p:Int):=by omega
    have h1:pat p i < 256:=nC p _;have h2:bv p i < 256:=nC p _;have wM:af ((pat p i:Int)+(bv p i:Int))=((pat p i+bv p i:Nat):Int):=by rw[bf (by omega)];omega
    simp only[am,aD,aJ,F9 hp (show i < 16 by omega),aA,eD,wM];have e1:decide ((pat p i:Int)=0)=decide (pat p i=0):=by rw[cK];omega
    have e2:decide ((bv p i:Int)=0)=decide (bv p i=0):=by rw[cK];omega
    have e4:decide ((pat p i:Int) < (nv p:Int))=decide (pat p i < nv p):=by rw[cK];omega
    have e5:decide ((64:Int) < ((pat p i+bv p i:Nat):Int))=decide (64 < pat p i+bv p i):=by rw[cK];omega
    rw[e1,e2,e4,e5];unfold vM;by_cases d1:pat p i=0
    ·by_cases d2:bv p i=0
     ·simp[d1,d2]
     ·have:¬ (0=bv p i):=λe=>d2 e.symm;simp[d1,d2,this]
    ·by_cases d2:bv p i=0
     ·simp[d1,d2]
     ·by_cases d3:pat p i < nv p
      ·have ZI:¬ (nv p<=pat p i):=by omega
       simp[d1,d2,d3,ZI]
      ·by_cases d4:64 < pat p i+bv p i
       ·have ZJ:¬ (pat p i+bv p i<=64):=by omega
        simp[d1,d2,d3,d4,ZJ]
       ·have ZI:nv p<=pat p i:=by omega
        have ZJ:pat p i+bv p i<=64:=by omega
        simp[d1,d2,d3,d4,ZI,ZJ])
   (λ_ _ _ _ _ _=>trivial) (λs self _=>by
    rw[bX];show bq.b0 _ _ _ _ _ _=_;unfold bq.b0
    simp only[bC,aC,aG]) () trivial k (by rw[bX];omega)
  rw[tZ] at this;exact this
 rw[first];by_cases oo:(List.range (pn p)).all (vM p)=true;rotate_left
 ·simp only[oo,aF,aL]
 simp only[oo,aI];have hs:∀ i,i < pn p->bv p i≠0->nv p<=pat p i/\pat p i+bv p i<=64:=λi hi=>((D9 (by omega)).1 (cB.1 oo i (dF.2 hi))).1
 have inner:∀ (self:((List UInt8)×Int×(List Bool)×Int×Int)->Option bq.Out) (e2:((List UInt8)×Int)->Option bq.Out) (i:Nat) (hi:i < pn p),bq.r2 k self e2 (p,()) p (pn p:Int) (pat p i:Int) (bv p i:Int) (pn p:Int) (i:Int) ((List.range 64).map (vo p i),(pat p i:Int))=if CF p i then some ((8:Int),()) else self (p,(pn p:Int),(List.range 64).map (vo p (i+1)),(pn p:Int),af ((i:Int)+1)):=λself e2 i hi=>by
  have h1:pat p i < 256:=nC p _;have h2:bv p i < 256:=nC p _;have wM:af ((pat p i:Int)+(bv p i:Int))=((pat p i+bv p i:Nat):Int):=by rw[bf (by omega)];omega
  have:=d_ (B:=λfj v=>bq.b2 fj (λz=>bq.q1 self e2 (p,()) p (pn p:Int) (pat p i:Int) (bv p i:Int) (pn p:Int) (i:Int) z) (p,()) p (pn p:Int) (pat p i:Int) (bv p i:Int) (pn p:Int) (i:Int) v) (List.range (bv p i)) (λ(s:List Bool) (t:Int)=>(s,(pat p i:Int)+t)) (λ_ s t=>if vo p i (pat p i+t) then .inl (some ((8:Int),())) else .inr (vU p i (t+1))) (λ_=>self (p,(pn p:Int),(List.range 64).map (vo p (i+1)),(pn p:Int),af ((i:Int)+1))) (λt s=>s=vU p i t) (by rw[aq,bX];omega)
   (λt ht s fj hI=>by
    rw[bX] at ht;subst hI;obtain ⟨g1,g2⟩:=hs i hi (by omega);show bq.b2 _ _ _ _ _ _ _ _ _ _=_;unfold bq.b2;have am:(pat p i:Int)+(t:Int) < ((pat p i+bv p i:Nat):Int):=by omega
    have Eb:(0:Int)<=(pat p i:Int)+(t:Int):=by omega
    have hlen:(pat p i:Int)+(t:Int) < ((vU p i t).length:Int):=by rw[CG];omega
    have SB:((pat p i:Int)+(t:Int)).toNat=pat p i+t:=by omega
    have Ub:¬ (pat p i<=pat p i+t/\pat p i+t < pat p i+t):=by omega
    have hwt:af ((pat p i:Int)+(t:Int)+1)=(pat p i:Int)+af ((t:Int)+1):=by rw[bf (by omega),bf (by omega)];omega
    simp only[wM,am,aD,aJ,Eb,hlen,cQ,aI,SB,F_ p i t (pat p i+t) (by omega),Ub,aC,Bool.or_false,aA,eD,Tc p i t (by omega),hwt]
    cases vo p i (pat p i+t) <;> rfl)
   (λt ht s s' hI hf=>by
    simp only[eD] at hf;split at hf
    ·cases hf
    ·injection hf with hf;exact hf.symm) (λs fj hI=>by
    rw[bX] at hI ⊢;show bq.b2 _ _ _ _ _ _ _ _ _ _=_;unfold bq.b2;have am:¬ ((pat p i:Int)+(bv p i:Int) < ((pat p i+bv p i:Nat):Int)):=by omega
    simp only[wM,am,aC,aG];rw[hI,Tb]
    rfl) (vU p i 0) rfl k (by rw[bX];omega)
  rw[Ea] at this;rw[<-Ta];simp only[Int.add_zero] at this;exact this
 have outer:bq.r1 k (p,()) (pn p:Int) (nv p:Int) (p,(pn p:Int),List.replicate 64 false,(pn p:Int),(0:Int))=if (List.range (pn p)).any (CF p) then some ((8:Int),()) else bq.q2 (p,()) (p,(pn p:Int)):=by
  have:=d_ (B:=λself v=>bq.B1 k self (λz=>bq.q2 (p,()) z) (p,()) v) (List.range (pn p)) (λ(s:List Bool) (i:Int)=>(p,(pn p:Int),s,(pn p:Int),i)) (λ_ s x=>if CF p x then .inl (some ((8:Int),())) else .inr ((List.range 64).map (vo p (x+1)))) (λ_=>bq.q2 (p,()) (p,(pn p:Int))) (λi s=>s=(List.range 64).map (vo p i)) (by rw[aq,bX];omega)
   (λi hi s self hI=>by
    rw[bX] at hi;subst hI;show bq.b1 _ _ _ _ _=_;unfold bq.b1;have am:(i:Int) < (pn p:Int):=by omega
    simp only[am,aD,aJ,F9 hp (show i < 16 by omega),aA,inner self _ i hi,eD]
    cases CF p i <;> rfl)
   (λi hi s s' hI hf=>by
    simp only[eD] at hf;split at hf
    ·cases hf
    ·injection hf with hf;exact hf.symm) (λs self _=>by
    rw[bX];show bq.b1 _ _ _ _ _=_;unfold bq.b1
    simp only[bC,aC,aG]) (List.replicate 64 false) (by show _=(List.range 64).map (λ_=>false);decide) k (by rw[bX];omega)
  rw[Ea] at this;exact this
 show bq.q0 _ _ _ _ _=_;unfold bq.q0;rw[outer,Vf];by_cases RZ:(List.range (pn p)).all (λi=>(List.range i).all (rq p i))=true;rotate_left
 ·simp only[RZ,aZ,aI,aF,aL]
 simp only[RZ,aQ,aF,aL,aI];show bq.q2 _ _=_;unfold bq.q2;by_cases h0:0 < pn p
 ·have am:(0:Int) < (pn p:Int):=by omega
  have ZH:af (af ((2:Int)*(pn p:Int))+1)=((2*pn p+1:Nat):Int):=by rw[bf (n:=(2:Int)*(pn p:Int)) (by omega),bf (by omega)];omega
  have hz:((p[2*pn p+1]'(by omega)).toNat)=bv p (pn p - 1):=by
   rw[(kH (show 2*pn p+1 < p.length by omega)).2];show pb p _=pb p _;congr 1;omega
  simp only[am,aD,aJ,ZH,aK,aI,aH,j0 (show 2*pn p+1 < p.length by omega),hz,h0,dZ];by_cases hz:bv p (pn p - 1)=0
  ·simp[hz]
  ·have:¬ ((bv p (pn p - 1):Int)=0):=by omega
   simp only[this,aC,aG,hz,aL]
 ·have am:¬ ((0:Int) < (pn p:Int)):=by omega
  simp only[am,aC,aG,h0,gF,aL]
end OT
namespace OT
open Go
theorem ze {V S O:Type} {B:(V->Option O)->V->Option O} (n:Nat) (enc:S->Int->V) (f:Nat->S->Sum (Option O) S) (fin:S->Option O) (I:Nat->S->Prop) (hn:n<=1048576)
  (gg:∀ (i:Nat),i < n->∀ (s:S) self,I i s->B self (enc s (i:Int))=match f i s with | .inl o=>o | .inr s'=>self (enc s' (af ((i:Int)+1))))
  (hI:∀ (i:Nat),i < n->∀ (s s':S),I i s->f i s=.inr s'->I (i+1) s')
  (kf:∀ (s:S) self,I n s->B self (enc s (n:Int))=fin s) (s:S) (h0:I 0 s) (k:Nat) (hk:n < k):ak B k (enc s 0)=bz (λ_ s x=>f x s) fin 0 (List.range n) s:=
 d_ (List.range n) enc (λ_ s x=>f x s) fin I (by rw[aq,bX];omega)
  (λi hi s self h=>by rw[bX] at hi;simp only[eD];exact gg i hi s self h)
  (λi hi s s' h hf=>by rw[bX] at hi;simp only[eD] at hf;exact hI i hi s s' h hf)
  (λs self h=>by rw[bX] at h ⊢;exact kf s self h) s h0 k (by rw[bX];exact hk)
theorem CH {O α β:Type} (g:α->List β) (fin:List β->O):∀ (xs:List α) (i:Nat) (s:List β),bz (λ_ s x=>.inr (s++g x)) fin i xs s=fin (s++xs.flatMap g)
 | [],_,s=>by simp[bz]
 | x::xs,i,s=>by simp only[bz];rw[CH g fin xs (i+1)];simp[bK]
abbrev Bk:Row:=((0:Int),(0:Int),(0:Int),([]:List UInt8),())
abbrev EP:rQ:=((0:Int),(0:Int),(0:Int),(0:Int),Bk,())
abbrev CI:rQ:=((5:Int),(0:Int),(0:Int),(0:Int),Bk,())
def tq (d:List UInt8):Row:=((pb d 1:Int),(pb d 2:Int),(pb d 3:Int)*256+(pb d 4:Int),d.drop 6,())
def iu (d:List UInt8):rQ×Bool:=
 if d.length=3/\pb d 0=1 then (((0:Int),(1:Int),(pb d 1:Int),(pb d 2:Int),Bk,()),decide (pb d 1<=11)&&decide (pb d 2<=15))
 else if d.length < 6\/pb d 0=1\/2 < pb d 0\/d.length≠6+pb d 5 then (EP,false)
 else (((0:Int),(pb d 0:Int),(0:Int),(0:Int),tq d,()),decide (oh (tq d)=0))
theorem Vg {a b:Nat} (ha:a < 256) (hb:b < 256):((BitVec.ofInt 64 (af ((a:Int)*2 ^ 8)) ||| BitVec.ofInt 64 (b:Int)).toNat:Int)=(a:Int)*256+(b:Int):=by
 have e1:af ((a:Int)*2 ^ 8)=((2 ^ 8*a:Nat):Int):=by rw[bf (by omega)];omega
 rw[e1,BitVec.toNat_or]
 have e2:(BitVec.ofInt 64 ((2 ^ 8*a:Nat):Int)).toNat=2 ^ 8*a:=by
  rw[gK];omega
 have e3:(BitVec.ofInt 64 (b:Int)).toNat=b:=by
  rw[gK];omega
 rw[e2,e3,<- Nat.two_pow_add_eq_or_of_lt (by omega) a];omega
theorem Ak (d:List UInt8) (hd:d.length<=100):l7.aa (d,())=some ((iu d).1,(iu d).2,()):=by
 refine ah (k:=0) λk _=>(l7.ae k _).trans ?_;show l7.p _=_;unfold l7.p iu;have b0:=nC d 0;have b1:=nC d 1;have b2:=nC d 2;have b3:=nC d 3;have b4:=nC d 4;have b5:=nC d 5;by_cases h3:d.length=3
 ·have e3:decide ((d.length:Int)=3)=true:=cG (by omega);have e6:decide ((d.length:Int) < 6)=true:=cG (by omega);have ZK:d.length < 6:=by omega
  simp only[e3,e6,aJ,j0 (show 0 < d.length by omega),(kH (show 0 < d.length by omega)).2];by_cases h1:pb d 0=1
  ·have e1:decide ((pb d 0:Int)=1)=true:=cG (by omega);rw[aV ⟨h3,h1⟩];simp only[e1,aJ,j0 (show 1 < d.length by omega),(kH (show 1 < d.length by omega)).2,j0 (show 2 < d.length by omega),(kH (show 2 < d.length by omega)).2,Df]
   have ir:p6.aa ((pb d 1:Int),(pb d 2:Int),())=some (decide (pb d 1<=11)&&decide (pb d 2<=15),()):=by
    refine ah (k:=0) λk _=>(p6.ae k _).trans ?_;show p6.p _=_;unfold p6.p;simp only[nM,aA];have g1:decide ((0:Int)<=(pb d 1:Int))=true:=cG (by omega);have g2:decide ((0:Int)<=(pb d 2:Int))=true:=cG (by omega);have g3:decide ((pb d 1:Int)<=11)=decide (pb d 1<=11):=by rw[cK];omega
    have g4:decide ((pb d 2:Int)<=15)=decide (pb d 2<=15):=by rw[cK];omega
    rw[g1,g2,g3,g4];cases decide (pb d 1<=11) <;> rfl
   simp only[ir,aA]
  ·have e1:decide ((pb d 0:Int)=1)=false:=cH (by omega);rw[bB (λh=>h1 h.2),aV (Or.inl ZK)];simp only[e1,aG]
 ·have e3:decide ((d.length:Int)=3)=false:=cH (by omega);simp only[e3,aG,h3,gF,aL];by_cases h6:d.length < 6
  ·have e6:decide ((d.length:Int) < 6)=true:=cG (by omega);simp only[e6,aJ,h6,jR,aI]
  ·have e6:decide ((d.length:Int) < 6)=false:=cH (by omega);simp only[e6,aG,j0 (show 0 < d.length by omega),(kH (show 0 < d.length by omega)).2,h6,jO];by_cases h1:pb d 0=1
   ·have e1:decide ((pb d 0:Int)=1)=true:=cG (by omega);rw[aV (Or.inl h1)];simp only[e1,aJ]
   have e1:decide ((pb d 0:Int)=1)=false:=cH (by omega);simp only[e1,aG,h1,jO];by_cases h2:2 < pb d 0
   ·have e2:decide ((2:Int) < (pb d 0:Int))=true:=cG (by omega);simp only[e2,aJ,h2,jR,aI]
   have e2:decide ((2:Int) < (pb d 0:Int))=false:=cH (by omega);have w6:af ((6:Int)+(pb d 5:Int))=((6+pb d 5:Nat):Int):=by rw[bf (by omega)];omega
   simp only[e2,aG,h2,jO,j0 (show 5 < d.length by omega),(kH (show 5 < d.length by omega)).2,Df,w6];by_cases h5:d.length=6+pb d 5;rotate_left
   ·have e5:decide ((d.length:Int)=((6+pb d 5:Nat):Int))=false:=cH (by omega);simp only[e5,aZ,aJ,h5,ne_eq,eV,aI]
   have e5:decide ((d.length:Int)=((6+pb d 5:Nat):Int))=true:=cG (by omega);have h6':(0:Int)<=6/\(6:Int)<=(d.length:Int):=by omega
   have w3:af (af ((pb d 3:Int)*256)+(pb d 4:Int))=(pb d 3:Int)*256+(pb d 4:Int):=by rw[bf (n:=(pb d 3:Int)*256) (by omega),bf (by omega)]
   have ht:(d.take d.length).drop 6=d.drop 6:=by rw[dX]
   have hr:jg.aa (tq d,())=some (oh (tq d),()):=y8 (tq d) (by rw[aq];simp only[tq,bI];omega);unfold tq at hr;rw[bB (λh=>h h5)]
   simp only[e5,aQ,aG,j0 (show 1 < d.length by omega),(kH (show 1 < d.length by omega)).2,j0 (show 2 < d.length by omega),(kH (show 2 < d.length by omega)).2,
    j0 (show 3 < d.length by omega),(kH (show 3 < d.length by omega)).2,j0 (show 4 < d.length by omega),(kH (show 4 < d.length by omega)).2,Df,w3,ht,hr,aA]
   rw[aV (by omega)];rfl
theorem Dg (d:List UInt8) (hd:d.length<=100):kw.aa (d,())=some (if (iu d).2 then (iu d).1 else CI,()):=by
 refine ah (k:=0) λk _=>(kw.ae k _).trans ?_;show kw.p _=_;unfold kw.p;have b0:=nC d 0;have b1:=nC d 1;have b2:=nC d 2;have b3:=nC d 3;have b4:=nC d 4;have b5:=nC d 5;by_cases h3:d.length=3
 ·have e3:decide ((d.length:Int)=3)=true:=cG (by omega);have e6:decide ((d.length:Int) < 6)=true:=cG (by omega);have ZK:d.length < 6:=by omega
  simp only[e3,e6,aJ,j0 (show 0 < d.length by omega),(kH (show 0 < d.length by omega)).2];by_cases h1:pb d 0=1
  ·have e1:decide ((pb d 0:Int)=1)=true:=cG (by omega);have hc:iu d=(((0:Int),(1:Int),(pb d 1:Int),(pb d 2:Int),Bk,()),decide (pb d 1<=11)&&decide (pb d 2<=15)):=by unfold iu;rw[aV ⟨h3,h1⟩]
   rw[hc];simp only[e1,aJ,j0 (show 1 < d.length by omega),(kH (show 1 < d.length by omega)).2,j0 (show 2 < d.length by omega),(kH (show 2 < d.length by omega)).2,Df];by_cases c1:pb d 1<=11
   ·have d1:decide ((pb d 1:Int) < 12)=true:=cG (by omega);by_cases c2:pb d 2<=15
    ·have d2:decide ((pb d 2:Int) < 16)=true:=cG (by omega);simp[d1,d2,c1,c2]
    ·have d2:decide ((pb d 2:Int) < 16)=false:=cH (by omega);simp[d1,d2,c1,c2]
   ·have d1:decide ((pb d 1:Int) < 12)=false:=cH (by omega);simp[d1,c1]
  ·have e1:decide ((pb d 0:Int)=1)=false:=cH (by omega);have hc:iu d=(EP,false):=by unfold iu;rw[bB (λh=>h1 h.2),aV (Or.inl ZK)]
   rw[hc];simp only[e1,aG,aF,aL]
 ·have e3:decide ((d.length:Int)=3)=false:=cH (by omega);simp only[e3,aG];by_cases h6:d.length < 6
  ·have e6:decide ((d.length:Int) < 6)=true:=cG (by omega);have hc:iu d=(EP,false):=by unfold iu;rw[bB (λh=>h3 h.1),aV (Or.inl h6)]
   rw[hc];simp only[e6,aJ,aF,aL]
  ·have e6:decide ((d.length:Int) < 6)=false:=cH (by omega)
   have hc:iu d=if pb d 0=1\/2 < pb d 0\/d.length≠6+pb d 5 then (EP,false) else (((0:Int),(pb d 0:Int),(0:Int),(0:Int),tq d,()),decide (oh (tq d)=0)):=by
    unfold iu;rw[bB (λh=>h3 h.1)];simp only[h6,jO]
   have hlen:∀ i,i < 6->i < d.length:=λi hi=>by omega
   have w6:af ((6:Int)+(pb d 5:Int))=((6+pb d 5:Nat):Int):=by rw[bf (by omega)];omega
   have h6':(0:Int)<=6/\(6:Int)<=(d.length:Int):=by omega
   have w3:af ((BitVec.ofInt 64 (af ((pb d 3:Int)*2 ^ 8)) ||| BitVec.ofInt 64 (pb d 4:Int)).toNat:Int)=(pb d 3:Int)*256+(pb d 4:Int):=by rw[Vg b3 b4,bf (by omega)]
   have ht:(d.take d.length).drop 6=d.drop 6:=by rw[dX]
   have hr:du.aa (tq d,())=some (oh (tq d),()):=y9 (tq d) (by rw[aq];simp only[tq,bI];omega);unfold tq at hr
   simp only[e6,aG,j0 (show 0 < d.length by omega),(kH (show 0 < d.length by omega)).2,j0 (show 5 < d.length by omega),(kH (show 5 < d.length by omega)).2,j0 (show 1 < d.length by omega),(kH (show 1 < d.length by omega)).2,j0 (show 2 < d.length by omega),(kH (show 2 < d.length by omega)).2,
    j0 (show 3 < d.length by omega),(kH (show 3 < d.length by omega)).2,j0 (show 4 < d.length by omega),(kH (show 4 < d.length by omega)).2,Df,w6,h6'.2,show (0:Int)<=6 by omega,cQ,aI,w3,ht,hr,aA]
   have e5:decide ((d.length:Int)=((6+pb d 5:Nat):Int))=decide (d.length=6+pb d 5):=by rw[cK];omega
   have e0:decide ((pb d 0:Int)=0)=decide (pb d 0=0):=by rw[cK];omega
   have e2:decide ((pb d 0:Int)=2)=decide (pb d 0=2):=by rw[cK];omega
   rw[e5,e0,e2]
   have fin:∀ (c5:d.length=6+pb d 5) (c0:¬ (pb d 0=1\/2 < pb d 0\/d.length≠6+pb d 5)),(bif !decide (oh ((pb d 1:Int),(pb d 2:Int),(pb d 3:Int)*256+(pb d 4:Int),d.drop 6,())=0) then some (CI,()) else some (((0:Int),(pb d 0:Int),(0:Int),(0:Int),((pb d 1:Int),(pb d 2:Int),(pb d 3:Int)*256+(pb d 4:Int),d.drop 6,()),()),()))=some (if (iu d).2 then (iu d).1 else CI,()):=λc5 c0=>by
    rw[hc,bB c0];show (bif !decide (oh (tq d)=0) then some (CI,()) else some (((0:Int),(pb d 0:Int),(0:Int),(0:Int),tq d,()),()))=some (if decide (oh (tq d)=0)=true then ((0:Int),(pb d 0:Int),(0:Int),(0:Int),tq d,()) else CI,());cases decide (oh (tq d)=0) <;> rfl
   have bad:(pb d 0=1\/2 < pb d 0\/d.length≠6+pb d 5)->(some (CI,()):Option kw.Out)=some (if (iu d).2 then (iu d).1 else CI,()):=λh=>by
    rw[hc,aV h];rfl
   by_cases c5:d.length=6+pb d 5
   ·rw[cG c5];by_cases c0:pb d 0=0
    ·rw[cG c0];exact fin c5 (by omega)
    ·rw[cH c0];by_cases c2:pb d 0=2
     ·rw[cG c2];exact fin c5 (by omega)
     ·rw[cH c2];exact bad (by omega)
   ·rw[cH c5];have hb:=bad (.inr (.inr c5));cases decide (pb d 0=0) <;> cases decide (pb d 0=2) <;> exact hb
section
variable {p:List UInt8} (hp:sa p)
include hp
theorem Hz (s:Nat):nq.aa (p,(s:Int),())=some (decide (s < pn p)&&!decide (bv p s=0),()):=by
 refine ah (k:=0) λk _=>(nq.ae k _).trans ?_;show nq.p _=_;unfold nq.p;have h0:(0:Int)<=(s:Int):=by omega
 have hn:=hp.n;have hl:=hp.len;simp only[h0,aD,aJ,AV hl,aA];by_cases hs:s < pn p
 ·have e1:(s:Int) < (pn p:Int):=by omega
  have e2:decide ((bv p s:Int)=0)=decide (bv p s=0):=by rw[cK];omega
  have e3:(p[3+2*s]'(by omega)).toNat=bv p s:=(kH (show 3+2*s < p.length by omega)).2;simp only[e1,hs,aD,aJ,ZG (show s < 1000 by omega),aK,aI,aH,j0 (show 3+2*s < p.length by omega),e3,e2,eX]
 ·have e1:¬ ((s:Int) < (pn p:Int)):=by omega
  simp only[e1,hs,aC,aG,jW]
theorem QB (s:Nat):rU.aa (p,(s:Int),())=some (decide (s < pn p)&&!decide (bv p s=0),()):=by
 refine ah (k:=0) λk _=>(rU.ae k _).trans ?_;show rU.p _=_;unfold rU.p;have hn:=hp.n;have hl:=hp.len;have hw:af ((pn p:Int) - 1)=(pn p:Int) - 1:=bf (by omega);have h0:decide ((0:Int)<=(s:Int))=true:=cG (by omega);have h1:decide ((s:Int)<=(pn p:Int) - 1)=decide (s < pn p):=by rw[cK];omega
 simp only[wm hl,aA,hw,nM,h0,h1,eX];by_cases hs:s < pn p
 ·have e2:decide ((0:Int) < (bv p s:Int))=!decide (bv p s=0):=by
   by_cases hz:bv p s=0
   ·simp[hz]
   ·have:(0:Int) < (bv p s:Int):=by omega
    rw[cG this,cH hz];rfl
  simp only[hs,aD,aJ,uK hl (show s < 16 by omega),aA,e2,eX]
 ·simp only[hs,aC,aG,jW]
theorem IP {s:Nat} (hs:s < pn p):pat p s+bv p s<=64:=by
 by_cases hz:bv p s=0
 ·have:=hp.zero s hs hz;omega
 ·exact (hp.slot s hs hz).2
theorem Dh {s:Nat} (hs:s < pn p):nO.aa (p,(s:Int),())=some (kX p s,()):=by
 refine ah (k:=0) λk _=>(nO.ae k _).trans ?_;show nO.p _=_;unfold nO.p kX;have hn:=hp.n;have hl:=hp.len;have hc:=IP hp hs;have hw:af ((pat p s:Int)+(bv p s:Int))=((pat p s+bv p s:Nat):Int):=by rw[bf (by omega)];omega
 have hb:(0:Int)<=(pat p s:Int)/\(pat p s:Int)<=((pat p s+bv p s:Nat):Int)/\((pat p s+bv p s:Nat):Int)<=(p.length:Int):=by omega
 simp only[F9 hl (show s < 16 by omega),aA,hw];rw[aV hb];simp only[aH,eO];rw[show pat p s+bv p s - pat p s=bv p s by omega]
theorem yG {s:Nat} (hs:s < pn p):l8.aa (p,(s:Int),())=some (kX p s,()):=by
 refine ah (k:=0) λk _=>(l8.ae k _).trans ?_;show l8.p _=_;unfold l8.p kX;have hn:=hp.n;have hl:=hp.len;have hc:=IP hp hs;have hw:af ((pat p s:Int)+(bv p s:Int))=((pat p s+bv p s:Nat):Int):=by rw[bf (by omega)];omega
 have hb:(0:Int)<=(pat p s:Int)/\(pat p s:Int)<=((pat p s+bv p s:Nat):Int)/\((pat p s+bv p s:Nat):Int)<=(p.length:Int):=by omega
 simp only[AW hl (show s < 16 by omega),uK hl (show s < 16 by omega),aA,hw];rw[aV hb,aV (dh (by simp only[bA,bI,bP];omega))];simp only[aH,eO,bT];rw[show pat p s+bv p s - pat p s=bv p s by omega]
end
theorem vD {p:List UInt8} (hp:sa p) {s:Nat} (hs:s < pn p):(kX p s).length<=64:=by
 have:=AU hp hs;have:=IP hp hs;omega
end OT
namespace OT
open Go
theorem Mm {α β O:Type} [DecidableEq β] (g:α->Option β) (bad:O) (fin:Unit->O) (p:α->α->Bool) (hp:∀ x y,p x y=true↔∃ b,g x=some b/\g y=some b) (all:List α):∀ (xs pre:List α),all=pre++xs->(pre.filterMap g).Nodup->bz (λi _ x=>if (all.take i).any (p x) then .inl bad else .inr ()) fin pre.length xs ()=if (all.filterMap g).Nodup then fin () else bad
 | [],pre,h,hn=>by
  rw[cD] at h;subst h;simp only[bz,hn,aI]
 | x::xs,pre,h,hn=>by
  have ht:all.take pre.length=pre:=by rw[h];exact List.take_left
  simp only[bz,ht];have px:all.filterMap g=pre.filterMap g++([x].filterMap g++xs.filterMap g):=by rw[h,<- iQ (x:=x),cU,cU]
  cases hc:pre.any (p x) with
  | true=>
   simp only[aI];obtain ⟨y,hy,hpy⟩:=gD.1 hc;obtain ⟨b,h1,h2⟩:=(hp x y).1 hpy;rw[bB];intro sU;rw[px,fX] at sU;exact sU.2.2 b (jI.2 ⟨y,hy,h2⟩) b (by simp[h1]) rfl
  | false=>
   simp only[aF,aL]
   have:=Mm g bad fin p hp all xs (pre++[x]) (by rw[h];simp) (by
    rw[cU,fX];refine ⟨hn,?_,λa ha b hb e=>?_⟩
    ·cases hg:g x with
     | none=>simp[hg]
     | some b=>simp[hg]
    ·subst e;obtain ⟨y,hy,hgy⟩:=jI.1 ha;obtain ⟨z,hz,hgz⟩:=jI.1 hb;rw[bR] at hz;subst hz;have:pre.any (p z)=true:=gD.2 ⟨y,hy,(hp z y).2 ⟨a,hgz,hgy⟩⟩
     rw[this] at hc;cases hc)
   rw[aR] at this;exact this
theorem Ec {α β O:Type} [DecidableEq β] (g:α->Option β) (bad:O) (fin:Unit->O) (p:α->α->Bool) (hp:∀ x y,p x y=true↔∃ b,g x=some b/\g y=some b) (xs:List α):bz (λi _ x=>if (xs.take i).any (p x) then .inl bad else .inr ()) fin 0 xs ()=if (xs.filterMap g).Nodup then fin () else bad:=
 Mm g bad fin p hp xs xs [] rfl iJ
theorem Di {α:Type} {lt:α->α->Prop} (has:∀ a b,lt a b->¬ lt b a):∀ (xs ys:List α),xs.Perm ys->xs.Pairwise lt->ys.Pairwise lt->xs=ys
 | [],ys,h,_,_=>(List.nil_perm.1 h).symm
 | x::xs,[],h,_,_=>by have:=h.length_eq;cases this
 | x::xs,y::ys,h,h1,h2=>by
  obtain ⟨a1,a2⟩:=eC.1 h1;obtain ⟨b1,b2⟩:=eC.1 h2;by_cases yJ:x=y
  ·subst yJ;rw[Di has xs ys ((List.perm_cons x).1 h) a2 b2]
  ·have hx:x ∈ ys:=by
    have:=h.mem_iff.1 (bG (a:=x) (l:=xs));rcases aX.1 this with e | e
    ·exact absurd e yJ
    ·exact e
   have hy:y ∈ xs:=by
    have:=h.mem_iff.2 (bG (a:=y) (l:=ys));rcases aX.1 this with e | e
    ·exact absurd e.symm yJ
    ·exact e
   exact absurd (b1 x hx) (has _ _ (a1 y hy))
theorem Jx (xs:List Row) (r:Row):(mr xs r).Perm (r::xs):=by
 unfold mr;rw[bK];have:=gG (a:=r) (l₁:=xs.take (pos xs (rk r))) (l₂:=xs.drop (pos xs (rk r)));rw[cR] at this;exact this
theorem OR {xs:List Row} {k:Int×Int} {x:Row} (hu:up xs) (h:x ∈ xs.drop (pos xs k)):bm (rk x) k=false:=by
 obtain ⟨i,hi,e⟩:=dC.1 h;rw[bI] at hi;rw[jN] at e;rw[<-e];exact wY xs k _ _ hu (by omega)
theorem XL {xs:List Row} {r:Row} (hu:up xs) (hn:∀ x ∈ xs,rk x≠rk r):up (mr xs r):=by
 unfold mr up;rw[bK,fA];have hd:=hu.drop (i:=pos xs (rk r));refine ⟨hu.take,?_,λa ha b hb=>?_⟩
 ·rw[iQ,eC];refine ⟨λb hb=>?_,hd⟩
  have h1:=OR hu hb;have h2:=hn b (dH hb)
  cases h3:bm (rk r) (rk b) with
  | true=>rfl
  | false=>exact absurd (sk h1 h3) h2
 ·have h1:=Ag ha;rw[iQ] at hb;rcases aX.1 hb with e | e
  ·subst e;exact h1
  ·have h2:=OR hu e;have h3:=hn b (dH e)
   cases h4:bm (rk a) (rk b) with
   | true=>rfl
   | false=>
    cases h5:bm (rk b) (rk a) with
    | true=>rw[oW h5 h1] at h2;cases h2
    | false=>
     have:=sk h4 h5;rw[this] at h1;rw[h1] at h2;cases h2
def HA (l:List Row):List Row:=l.foldl mr []
theorem HB:∀ (l acc:List Row),(l.foldl mr acc).Perm (l++acc)
 | [],acc=>gX _
 | r::l,acc=>by
  have h1:=HB l (mr acc r);have h2:(l++mr acc r).Perm (l++r::acc):=(gX l).append (Jx acc r);exact h1.trans (h2.trans gG)
theorem QC (l:List Row):(HA l).Perm l:=by
 have:=HB l [];rw[cD] at this;exact this
theorem Mn:∀ (l acc:List Row),up acc->(l.map rk++acc.map rk).Nodup->up (l.foldl mr acc)
 | [],acc,h,_=>h
 | r::l,acc,h,hn=>by
  simp only[cS,cO,dW,cJ,not_or] at hn;refine Mn l (mr acc r) (XL h λx hx e=>hn.1.2 (fV.2 ⟨x,hx,e⟩)) ?_
  have:(l.map rk++(mr acc r).map rk).Perm (rk r::(l.map rk++acc.map rk)):=by
   refine ((gX _).append ((Jx acc r).map rk)).trans ?_;rw[cS];exact gG
  rw[this.nodup_iff,dW,cJ,not_or];exact hn
theorem Mo {l:List Row} (h:(l.map rk).Nodup):up (HA l):=Mn l [] List.Pairwise.nil (by simpa using h)
theorem Vh {a b:Int×Int} (h:bm a b=true):¬ bm b a=true:=by rw[wk h];exact λh=>by cases h
theorem Vi {xs:List Row} (h:up xs):(xs.map rk).Nodup:=by
 unfold List.Nodup;rw[gT];refine h.imp λh1 e=>?_;rw[e,ju] at h1;cases h1
end OT
