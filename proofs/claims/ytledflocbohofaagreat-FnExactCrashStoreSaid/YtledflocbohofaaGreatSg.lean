/- The proof's parts, merged: Printed by px.py, a program of this claim  what the helpers of the laws compute.. No conditions but those that each states. -/
import Derived.Test.YtledflocbohofaaGreatSf
set_option linter.unusedVariables false
set_option linter.unusedSimpArgs false
namespace OT
open Go
noncomputable def wC (n:Int):List UInt8:=((be.ab (n,())).map (·.1)).getD []
theorem dD (n:Int) (h:n<=9223372036854775807):be.ab (n,())=some (wC n,()):=by
 have main:∃ t,be.ab (n,())=some (t,()):=by
  by_cases hn:n<=0
  ·refine ⟨[109,48],ag (k:=0) fun k _=>(be.aa k _).trans ?_⟩
   unfold be.p
   simp only[hn,decide_true,cond_true]
   try rfl
  ·have key:∀ (f:Nat) (m:Int) (out:List UInt8),0<=m->m<=9223372036854775807->m < 10 ^ f->out.length+f<=100->∃ t,t.length<=100/\∀ k,f < k->ak (fun self v=>be.B0 0 self (fun z=>be.Q0 0 (n,()) z) (n,()) v) k (m,out)=some (109::t,()):=by
    intro f
    induction f with
    | zero=>
     intro m out h0 h9 h1 Y
     have hm:m=0:=by simp at h1;omega
     subst hm
     refine ⟨out,by omega,fun k hk=>?_⟩
     cases k with
     | zero=>omega
     | succ k=>
      rw[rV]
      show be.b0 _ _ _ _=_
      unfold be.b0 be.Q0 be.q0
      have hc:([109]:List UInt8).length+out.length<=bf:=by simp only[bf,List.length_cons,List.length_nil];omega
      simp only[show ¬ ((0:Int) < 0) by omega,decide_false,cond_false,hc,if_true]
      rfl
    | succ f ih=>
     intro m out h0 h9 h1 Y
     by_cases hm:0 < m
     ·have TO:0<=m.tdiv 10:=Int.tdiv_nonneg h0 (by omega)
      have hq:m.tdiv 10 < 10 ^ f:=by
       rw[Int.tdiv_eq_ediv_of_nonneg h0]
       have:(10:Int) ^ (f+1)=10 ^ f*10:=Int.pow_succ 10 f
       omega
      have hd:=Int.emod_nonneg m (b:=10) (by omega)
      have UC:=Int.emod_lt_of_pos m (b:=10) (by omega)
      obtain ⟨t,t1,t2⟩:=ih (m.tdiv 10) ([UInt8.ofInt (ae (48+m.tmod 10))]++out) TO (by rw[Int.tdiv_eq_ediv_of_nonneg h0];omega) hq (by simp;omega)
      refine ⟨t,t1,fun k hk=>?_⟩
      cases k with
      | zero=>omega
      | succ k=>
       rw[rV]
       show be.b0 _ _ _ _=_
       unfold be.b0
       have hw:ae (m.tdiv 10)=m.tdiv 10:=aE ⟨by omega,by
        rw[Int.tdiv_eq_ediv_of_nonneg h0]
        omega⟩
       have hc:[UInt8.ofInt (ae (48+m.tmod 10))].length+out.length<=bf:=by simp only[bf,List.length_cons,List.length_nil];omega
       simp only[hm,decide_true,cond_true,hc,if_true,hw]
       exact t2 k (by omega)
     ·have hm:m=0:=by omega
      subst hm
      refine ⟨out,by omega,fun k hk=>?_⟩
      cases k with
      | zero=>omega
      | succ k=>
       rw[rV]
       show be.b0 _ _ _ _=_
       unfold be.b0 be.Q0 be.q0
       have hc:([109]:List UInt8).length+out.length<=bf:=by simp only[bf,List.length_cons,List.length_nil];omega
       simp only[show ¬ ((0:Int) < 0) by omega,decide_false,cond_false,hc,if_true]
       rfl
   obtain ⟨t,t1,t2⟩:=key 19 n [] (by omega) h (by omega) (by simp)
   refine ⟨109::t,ag (k:=20) fun k hk=>(be.aa k _).trans ?_⟩
   unfold be.p
   simp only[hn,decide_false,cond_false]
   exact t2 k (by omega)
 obtain ⟨t,ht⟩:=main
 rw[ht]
 simp[wC,ht]
theorem uh (x:List UInt8) (n:Int) (hx:mI (.U u8) x) (h0:0<=n) (h1:n<=1048576):fO.ab (x,n,())=some (cy n (zz (.U u8) x),()):=by
 obtain ⟨hl,jy⟩:=hx
 have iw:=hl
 rw[ah] at iw
 have iw:List.length x<=9223372036854775807:=iw
 have hw:ae (n - (List.length x:Int))=n - (List.length x:Int):=aE (by omega)
 have hz:zz (.U u8) x=List.length x+0:=by show List.length x+d8 _ _=_;exact congrArg (List.length x+·) (oI _ (fun _=>rfl) x)
 refine ag (k:=0) fun k _=>(fO.aa k _).trans ?_
 show fO.p _=_
 unfold fO.p
 simp only[hw,hz,Nat.add_zero]
 by_cases hc:(List.length x:Int)<=n
 ·have e1:cy n (List.length x)=n - (List.length x:Int):=if_pos hc
  have n1:¬ (n - (List.length x:Int) < 0):=by omega
  simp[e1,n1]
 ·have e1:cy n (List.length x)=-1:=if_neg hc
  have n1:n - (List.length x:Int) < 0:=by omega
  simp[e1,n1]
theorem Ed (x:List (List UInt8)) (n:Int) (hx:mI (.U (.U u8)) x) (h0:0<=n) (h1:n<=1048576):cX.ab (x,n,())=some (cy n (zz (.U (.U u8)) x),()):=by
 obtain ⟨hl,jy⟩:=hx
 have iw:=hl
 rw[ah] at iw
 have iw:List.length x<=9223372036854775807:=iw
 have hw:ae (n - (List.length x:Int))=n - (List.length x:Int):=aE (by omega)
 have hz:zz (.U (.U u8)) x=List.length x+d8 (zz (.U u8)) x:=rfl
 by_cases hc:n - (List.length x:Int) < 0
 ·have e1:cy n (zz (.U (.U u8)) x)=-1:=if_neg (by omega)
  rw[e1]
  refine ag (k:=0) fun k _=>(cX.aa k _).trans ?_
  unfold cX.p
  simp only[hw,hc,decide_true,cond_true]
  try rfl
 ·have e1:cy n (zz (.U (.U u8)) x)=cy (n - (List.length x:Int)) (d8 (zz (.U u8)) x):=by rw[hz,zP (by omega)]
  rw[e1]
  refine ag (k:=List.length x+1) fun k hk=>(cX.aa k _).trans ?_
  unfold cX.p
  simp only[hw,hc,decide_false,cond_false]
  exact zO (B:=fun self v=>cX.B0 0 self (fun z=>cX.Q0 0 (x,n,()) z) (x,n,()) v) (xs:=x) hl (zz (.U u8)) (fun i hi m self Da pu=>by
    show cX.b0 _ _ _ _=_
    unfold cX.b0
    have ai:(i:Int) < (List.length x:Int):=by omega
    simp only[ai,decide_true,cond_true,Int.natCast_nonneg,if_true,Int.toNat_natCast,List.getElem?_eq_getElem hi,Option.bind_some,uh x[i] m (jy _ (List.getElem_mem hi)) Da pu]
    by_cases hs:cy m (zz (.U u8) x[i]) < 0 <;> simp[hs]) (fun m self=>by
    show cX.b0 _ _ _ _=_
    unfold cX.b0
    simp[cX.Q0,cX.q0]) _ (by omega) (by omega) k (by omega)
theorem Ks (x:Log) (n:Int) (hx:mI cD x) (h0:0<=n) (h1:n<=1048576):k8.ab (x,n,())=some (cy n (zz cD x),()):=by
 have hz:zz cD x=(zz (.U u8) x.1+(zz (.U u8) x.2.1+0)):=rfl
 refine ag (k:=0) fun k _=>(k8.aa k _).trans ?_
 show k8.p _=_
 unfold k8.p
 simp only[uh x.1 (n) hx.1 (by omega) (by omega),Option.bind_some]
 by_cases hc:((zz (.U u8) x.1:Nat):Int)<=n
 rotate_left
 ·have e1:cy (n) (zz (.U u8) x.1)=-1:=if_neg hc
  have e2:cy n (zz cD x)=-1:=if_neg (by omega)
  rw[e1,e2];rfl
 have e1:cy (n) (zz (.U u8) x.1)=n - ((zz (.U u8) x.1:Nat):Int):=if_pos hc
 have n1:¬ (n - ((zz (.U u8) x.1:Nat):Int) < 0):=by omega
 simp only[e1,n1,decide_false,cond_false]
 clear e1 n1
 simp only[uh x.2.1 ((n - ((zz (.U u8) x.1:Nat):Int))) hx.2.1 (by omega) (by omega),Option.bind_some]
 by_cases hc:((zz (.U u8) x.2.1:Nat):Int)<=(n - ((zz (.U u8) x.1:Nat):Int))
 rotate_left
 ·have e1:cy ((n - ((zz (.U u8) x.1:Nat):Int))) (zz (.U u8) x.2.1)=-1:=if_neg hc
  have e2:cy n (zz cD x)=-1:=if_neg (by omega)
  rw[e1,e2];rfl
 have e1:cy ((n - ((zz (.U u8) x.1:Nat):Int))) (zz (.U u8) x.2.1)=(n - ((zz (.U u8) x.1:Nat):Int)) - ((zz (.U u8) x.2.1:Nat):Int):=if_pos hc
 have n1:¬ ((n - ((zz (.U u8) x.1:Nat):Int)) - ((zz (.U u8) x.2.1:Nat):Int) < 0):=by omega
 simp only[e1,n1,decide_false,cond_false]
 clear e1 n1
 have e2:cy n (zz cD x)=((n - ((zz (.U u8) x.1:Nat):Int)) - ((zz (.U u8) x.2.1:Nat):Int)):=by unfold cy;rw[if_pos (by omega)];omega
 rw[e2]
theorem Db (x:Row) (n:Int) (hx:mI aF x) (h0:0<=n) (h1:n<=1048576):jZ.ab (x,n,())=some (cy n (zz aF x),()):=by
 have hz:zz aF x=(0+(0+(0+(List.length x.2.2.2.1+0)))):=rfl
 refine ag (k:=0) fun k _=>(jZ.aa k _).trans ?_
 show jZ.p _=_
 unfold jZ.p
 have hw:ae (n - (List.length x.2.2.2.1:Int))=n - (List.length x.2.2.2.1:Int):=aE (by have h9:=hx.2.2.2.1;simp only[mI] at h9;rw[ah] at h9;omega)
 simp only[hw]
 by_cases hc:((List.length x.2.2.2.1:Nat):Int)<=n
 rotate_left
 ·have n1:n - ((List.length x.2.2.2.1:Nat):Int) < 0:=by omega
  have e2:cy n (zz aF x)=-1:=if_neg (by omega)
  rw[e2];simp only[n1,decide_true,cond_true]
 have n1:¬ (n - ((List.length x.2.2.2.1:Nat):Int) < 0):=by omega
 simp only[n1,decide_false,cond_false]
 clear n1 hw
 have e2:cy n (zz aF x)=(n - ((List.length x.2.2.2.1:Nat):Int)):=by unfold cy;rw[if_pos (by omega)];omega
 rw[e2]
theorem Ee (x:Change) (n:Int) (hx:mI am x) (h0:0<=n) (h1:n<=1048576):iS.ab (x,n,())=some (cy n (zz am x),()):=by
 have hz:zz am x=(0+((0+(0+(0+(List.length x.2.1.2.2.2.1+0))))+(0+((0+(0+(0+(List.length x.2.2.2.1.2.2.2.1+0))))+0)))):=rfl
 refine ag (k:=0) fun k _=>(iS.aa k _).trans ?_
 show iS.p _=_
 unfold iS.p
 have s9:zz aF x.2.1=(0+(0+(0+(List.length x.2.1.2.2.2.1+0)))):=rfl
 simp only[Db x.2.1 (n) hx.2.1 (by omega) (by omega),Option.bind_some]
 by_cases hc:((zz aF x.2.1:Nat):Int)<=n
 rotate_left
 ·have e1:cy (n) (zz aF x.2.1)=-1:=if_neg hc
  have e2:cy n (zz am x)=-1:=if_neg (by omega)
  rw[e1,e2];rfl
 have e1:cy (n) (zz aF x.2.1)=n - ((zz aF x.2.1:Nat):Int):=if_pos hc
 have n1:¬ (n - ((zz aF x.2.1:Nat):Int) < 0):=by omega
 simp only[e1,n1,decide_false,cond_false]
 clear e1 n1
 have QV:zz aF x.2.2.2.1=(0+(0+(0+(List.length x.2.2.2.1.2.2.2.1+0)))):=rfl
 simp only[Db x.2.2.2.1 ((n - ((zz aF x.2.1:Nat):Int))) hx.2.2.2.1 (by omega) (by omega),Option.bind_some]
 by_cases hc:((zz aF x.2.2.2.1:Nat):Int)<=(n - ((zz aF x.2.1:Nat):Int))
 rotate_left
 ·have e1:cy ((n - ((zz aF x.2.1:Nat):Int))) (zz aF x.2.2.2.1)=-1:=if_neg hc
  have e2:cy n (zz am x)=-1:=if_neg (by omega)
  rw[e1,e2];rfl
 have e1:cy ((n - ((zz aF x.2.1:Nat):Int))) (zz aF x.2.2.2.1)=(n - ((zz aF x.2.1:Nat):Int)) - ((zz aF x.2.2.2.1:Nat):Int):=if_pos hc
 have n1:¬ ((n - ((zz aF x.2.1:Nat):Int)) - ((zz aF x.2.2.2.1:Nat):Int) < 0):=by omega
 simp only[e1,n1,decide_false,cond_false]
 clear e1 n1
 have e2:cy n (zz am x)=((n - ((zz aF x.2.1:Nat):Int)) - ((zz aF x.2.2.2.1:Nat):Int)):=by unfold cy;rw[if_pos (by omega)];omega
 rw[e2]
theorem Dc (x:List Change) (n:Int) (hx:mI (.U am) x) (h0:0<=n) (h1:n<=1048576):cB.ab (x,n,())=some (cy n (zz (.U am) x),()):=by
 obtain ⟨hl,jy⟩:=hx
 have iw:=hl
 rw[ah] at iw
 have iw:List.length x<=9223372036854775807:=iw
 have hw:ae (n - (List.length x:Int))=n - (List.length x:Int):=aE (by omega)
 have hz:zz (.U am) x=List.length x+d8 (zz am) x:=rfl
 by_cases hc:n - (List.length x:Int) < 0
 ·have e1:cy n (zz (.U am) x)=-1:=if_neg (by omega)
  rw[e1]
  refine ag (k:=0) fun k _=>(cB.aa k _).trans ?_
  unfold cB.p
  simp only[hw,hc,decide_true,cond_true]
  try rfl
 ·have e1:cy n (zz (.U am) x)=cy (n - (List.length x:Int)) (d8 (zz am) x):=by rw[hz,zP (by omega)]
  rw[e1]
  refine ag (k:=List.length x+1) fun k hk=>(cB.aa k _).trans ?_
  unfold cB.p
  simp only[hw,hc,decide_false,cond_false]
  exact zO (B:=fun self v=>cB.B0 0 self (fun z=>cB.Q0 0 (x,n,()) z) (x,n,()) v) (xs:=x) hl (zz am) (fun i hi m self Da pu=>by
    show cB.b0 _ _ _ _=_
    unfold cB.b0
    have ai:(i:Int) < (List.length x:Int):=by omega
    simp only[ai,decide_true,cond_true,Int.natCast_nonneg,if_true,Int.toNat_natCast,List.getElem?_eq_getElem hi,Option.bind_some,Ee x[i] m (jy _ (List.getElem_mem hi)) Da pu]
    by_cases hs:cy m (zz am x[i]) < 0 <;> simp[hs]) (fun m self=>by
    show cB.b0 _ _ _ _=_
    unfold cB.b0
    simp[cB.Q0,cB.q0]) _ (by omega) (by omega) k (by omega)
theorem Ef (x:List Int) (n:Int) (hx:mI (.U i64) x) (h0:0<=n) (h1:n<=1048576):iT.ab (x,n,())=some (cy n (zz (.U i64) x),()):=by
 obtain ⟨hl,jy⟩:=hx
 have iw:=hl
 rw[ah] at iw
 have iw:List.length x<=9223372036854775807:=iw
 have hw:ae (n - (List.length x:Int))=n - (List.length x:Int):=aE (by omega)
 have hz:zz (.U i64) x=List.length x+0:=by show List.length x+d8 _ _=_;exact congrArg (List.length x+·) (oI _ (fun _=>rfl) x)
 refine ag (k:=0) fun k _=>(iT.aa k _).trans ?_
 show iT.p _=_
 unfold iT.p
 simp only[hw,hz,Nat.add_zero]
 by_cases hc:(List.length x:Int)<=n
 ·have e1:cy n (List.length x)=n - (List.length x:Int):=if_pos hc
  have n1:¬ (n - (List.length x:Int) < 0):=by omega
  simp[e1,n1]
 ·have e1:cy n (List.length x)=-1:=if_neg hc
  have n1:n - (List.length x:Int) < 0:=by omega
  simp[e1,n1]
theorem IT (x:List Key) (n:Int) (hx:mI (.U aC) x) (h0:0<=n) (h1:n<=1048576):km.ab (x,n,())=some (cy n (zz (.U aC) x),()):=by
 obtain ⟨hl,jy⟩:=hx
 have iw:=hl
 rw[ah] at iw
 have iw:List.length x<=9223372036854775807:=iw
 have hw:ae (n - (List.length x:Int))=n - (List.length x:Int):=aE (by omega)
 have hz:zz (.U aC) x=List.length x+0:=by show List.length x+d8 _ _=_;exact congrArg (List.length x+·) (oI _ (fun _=>rfl) x)
 refine ag (k:=0) fun k _=>(km.aa k _).trans ?_
 show km.p _=_
 unfold km.p
 simp only[hw,hz,Nat.add_zero]
 by_cases hc:(List.length x:Int)<=n
 ·have e1:cy n (List.length x)=n - (List.length x:Int):=if_pos hc
  have n1:¬ (n - (List.length x:Int) < 0):=by omega
  simp[e1,n1]
 ·have e1:cy n (List.length x)=-1:=if_neg hc
  have n1:n - (List.length x:Int) < 0:=by omega
  simp[e1,n1]
theorem MO (x:Tx) (n:Int) (hx:mI aR x) (h0:0<=n) (h1:n<=1048576):lV.ab (x,n,())=some (cy n (zz aR x),()):=by
 have hz:zz aR x=(0+(zz (.U am) x.2.1+(zz (.U i64) x.2.2.1+(zz (.U aC) x.2.2.2.1+0)))):=rfl
 refine ag (k:=0) fun k _=>(lV.aa k _).trans ?_
 show lV.p _=_
 unfold lV.p
 simp only[Dc x.2.1 (n) hx.2.1 (by omega) (by omega),Option.bind_some]
 by_cases hc:((zz (.U am) x.2.1:Nat):Int)<=n
 rotate_left
 ·have e1:cy (n) (zz (.U am) x.2.1)=-1:=if_neg hc
  have e2:cy n (zz aR x)=-1:=if_neg (by omega)
  rw[e1,e2];rfl
 have e1:cy (n) (zz (.U am) x.2.1)=n - ((zz (.U am) x.2.1:Nat):Int):=if_pos hc
 have n1:¬ (n - ((zz (.U am) x.2.1:Nat):Int) < 0):=by omega
 simp only[e1,n1,decide_false,cond_false]
 clear e1 n1
 simp only[Ef x.2.2.1 ((n - ((zz (.U am) x.2.1:Nat):Int))) hx.2.2.1 (by omega) (by omega),Option.bind_some]
 by_cases hc:((zz (.U i64) x.2.2.1:Nat):Int)<=(n - ((zz (.U am) x.2.1:Nat):Int))
 rotate_left
 ·have e1:cy ((n - ((zz (.U am) x.2.1:Nat):Int))) (zz (.U i64) x.2.2.1)=-1:=if_neg hc
  have e2:cy n (zz aR x)=-1:=if_neg (by omega)
  rw[e1,e2];rfl
 have e1:cy ((n - ((zz (.U am) x.2.1:Nat):Int))) (zz (.U i64) x.2.2.1)=(n - ((zz (.U am) x.2.1:Nat):Int)) - ((zz (.U i64) x.2.2.1:Nat):Int):=if_pos hc
 have n1:¬ ((n - ((zz (.U am) x.2.1:Nat):Int)) - ((zz (.U i64) x.2.2.1:Nat):Int) < 0):=by omega
 simp only[e1,n1,decide_false,cond_false]
 clear e1 n1
 simp only[IT x.2.2.2.1 (((n - ((zz (.U am) x.2.1:Nat):Int)) - ((zz (.U i64) x.2.2.1:Nat):Int))) hx.2.2.2.1 (by omega) (by omega),Option.bind_some]
 by_cases hc:((zz (.U aC) x.2.2.2.1:Nat):Int)<=((n - ((zz (.U am) x.2.1:Nat):Int)) - ((zz (.U i64) x.2.2.1:Nat):Int))
 rotate_left
 ·have e1:cy (((n - ((zz (.U am) x.2.1:Nat):Int)) - ((zz (.U i64) x.2.2.1:Nat):Int))) (zz (.U aC) x.2.2.2.1)=-1:=if_neg hc
  have e2:cy n (zz aR x)=-1:=if_neg (by omega)
  rw[e1,e2];rfl
 have e1:cy (((n - ((zz (.U am) x.2.1:Nat):Int)) - ((zz (.U i64) x.2.2.1:Nat):Int))) (zz (.U aC) x.2.2.2.1)=((n - ((zz (.U am) x.2.1:Nat):Int)) - ((zz (.U i64) x.2.2.1:Nat):Int)) - ((zz (.U aC) x.2.2.2.1:Nat):Int):=if_pos hc
 have n1:¬ (((n - ((zz (.U am) x.2.1:Nat):Int)) - ((zz (.U i64) x.2.2.1:Nat):Int)) - ((zz (.U aC) x.2.2.2.1:Nat):Int) < 0):=by omega
 simp only[e1,n1,decide_false,cond_false]
 clear e1 n1
 have e2:cy n (zz aR x)=(((n - ((zz (.U am) x.2.1:Nat):Int)) - ((zz (.U i64) x.2.2.1:Nat):Int)) - ((zz (.U aC) x.2.2.2.1:Nat):Int)):=by unfold cy;rw[if_pos (by omega)];omega
 rw[e2]
theorem Kt (x:List Tx) (n:Int) (hx:mI (.U aR) x) (h0:0<=n) (h1:n<=1048576):eJ.ab (x,n,())=some (cy n (zz (.U aR) x),()):=by
 obtain ⟨hl,jy⟩:=hx
 have iw:=hl
 rw[ah] at iw
 have iw:List.length x<=9223372036854775807:=iw
 have hw:ae (n - (List.length x:Int))=n - (List.length x:Int):=aE (by omega)
 have hz:zz (.U aR) x=List.length x+d8 (zz aR) x:=rfl
 by_cases hc:n - (List.length x:Int) < 0
 ·have e1:cy n (zz (.U aR) x)=-1:=if_neg (by omega)
  rw[e1]
  refine ag (k:=0) fun k _=>(eJ.aa k _).trans ?_
  unfold eJ.p
  simp only[hw,hc,decide_true,cond_true]
  try rfl
 ·have e1:cy n (zz (.U aR) x)=cy (n - (List.length x:Int)) (d8 (zz aR) x):=by rw[hz,zP (by omega)]
  rw[e1]
  refine ag (k:=List.length x+1) fun k hk=>(eJ.aa k _).trans ?_
  unfold eJ.p
  simp only[hw,hc,decide_false,cond_false]
  exact zO (B:=fun self v=>eJ.B0 0 self (fun z=>eJ.Q0 0 (x,n,()) z) (x,n,()) v) (xs:=x) hl (zz aR) (fun i hi m self Da pu=>by
    show eJ.b0 _ _ _ _=_
    unfold eJ.b0
    have ai:(i:Int) < (List.length x:Int):=by omega
    simp only[ai,decide_true,cond_true,Int.natCast_nonneg,if_true,Int.toNat_natCast,List.getElem?_eq_getElem hi,Option.bind_some,MO x[i] m (jy _ (List.getElem_mem hi)) Da pu]
    by_cases hs:cy m (zz aR x[i]) < 0 <;> simp[hs]) (fun m self=>by
    show eJ.b0 _ _ _ _=_
    unfold eJ.b0
    simp[eJ.Q0,eJ.q0]) _ (by omega) (by omega) k (by omega)
theorem GY (x:eZ) (n:Int) (hx:mI co x) (h0:0<=n) (h1:n<=1048576):jz.ab (x,n,())=some (cy n (zz co x),()):=by
 have hz:zz co x=(0+(zz (.U (.U u8)) x.2.1+((zz (.U u8) x.2.2.1.1+(zz (.U u8) x.2.2.1.2.1+0))+(zz (.U aR) x.2.2.2.1+(0+0))))):=rfl
 refine ag (k:=0) fun k _=>(jz.aa k _).trans ?_
 show jz.p _=_
 unfold jz.p
 simp only[Ed x.2.1 (n) hx.2.1 (by omega) (by omega),Option.bind_some]
 by_cases hc:((zz (.U (.U u8)) x.2.1:Nat):Int)<=n
 rotate_left
 ·have e1:cy (n) (zz (.U (.U u8)) x.2.1)=-1:=if_neg hc
  have e2:cy n (zz co x)=-1:=if_neg (by omega)
  rw[e1,e2];rfl
 have e1:cy (n) (zz (.U (.U u8)) x.2.1)=n - ((zz (.U (.U u8)) x.2.1:Nat):Int):=if_pos hc
 have n1:¬ (n - ((zz (.U (.U u8)) x.2.1:Nat):Int) < 0):=by omega
 simp only[e1,n1,decide_false,cond_false]
 clear e1 n1
 have vy:zz cD x.2.2.1=(zz (.U u8) x.2.2.1.1+(zz (.U u8) x.2.2.1.2.1+0)):=rfl
 simp only[Ks x.2.2.1 ((n - ((zz (.U (.U u8)) x.2.1:Nat):Int))) hx.2.2.1 (by omega) (by omega),Option.bind_some]
 by_cases hc:((zz cD x.2.2.1:Nat):Int)<=(n - ((zz (.U (.U u8)) x.2.1:Nat):Int))
 rotate_left
 ·have e1:cy ((n - ((zz (.U (.U u8)) x.2.1:Nat):Int))) (zz cD x.2.2.1)=-1:=if_neg hc
  have e2:cy n (zz co x)=-1:=if_neg (by omega)
  rw[e1,e2];rfl
 have e1:cy ((n - ((zz (.U (.U u8)) x.2.1:Nat):Int))) (zz cD x.2.2.1)=(n - ((zz (.U (.U u8)) x.2.1:Nat):Int)) - ((zz cD x.2.2.1:Nat):Int):=if_pos hc
 have n1:¬ ((n - ((zz (.U (.U u8)) x.2.1:Nat):Int)) - ((zz cD x.2.2.1:Nat):Int) < 0):=by omega
 simp only[e1,n1,decide_false,cond_false]
 clear e1 n1
 simp only[Kt x.2.2.2.1 (((n - ((zz (.U (.U u8)) x.2.1:Nat):Int)) - ((zz cD x.2.2.1:Nat):Int))) hx.2.2.2.1 (by omega) (by omega),Option.bind_some]
 by_cases hc:((zz (.U aR) x.2.2.2.1:Nat):Int)<=((n - ((zz (.U (.U u8)) x.2.1:Nat):Int)) - ((zz cD x.2.2.1:Nat):Int))
 rotate_left
 ·have e1:cy (((n - ((zz (.U (.U u8)) x.2.1:Nat):Int)) - ((zz cD x.2.2.1:Nat):Int))) (zz (.U aR) x.2.2.2.1)=-1:=if_neg hc
  have e2:cy n (zz co x)=-1:=if_neg (by omega)
  rw[e1,e2];rfl
 have e1:cy (((n - ((zz (.U (.U u8)) x.2.1:Nat):Int)) - ((zz cD x.2.2.1:Nat):Int))) (zz (.U aR) x.2.2.2.1)=((n - ((zz (.U (.U u8)) x.2.1:Nat):Int)) - ((zz cD x.2.2.1:Nat):Int)) - ((zz (.U aR) x.2.2.2.1:Nat):Int):=if_pos hc
 have n1:¬ (((n - ((zz (.U (.U u8)) x.2.1:Nat):Int)) - ((zz cD x.2.2.1:Nat):Int)) - ((zz (.U aR) x.2.2.2.1:Nat):Int) < 0):=by omega
 simp only[e1,n1,decide_false,cond_false]
 clear e1 n1
 have e2:cy n (zz co x)=(((n - ((zz (.U (.U u8)) x.2.1:Nat):Int)) - ((zz cD x.2.2.1:Nat):Int)) - ((zz (.U aR) x.2.2.2.1:Nat):Int)):=by unfold cy;rw[if_pos (by omega)];omega
 rw[e2]
theorem ui (x:List UInt8) (h:zz (.U u8) x<=1048576):cS.ab (x,())=some (x,()):=by
 have hl:x.length<=1048576:=Nat.le_trans (d0 (e:=u8) x) h
 refine ag (k:=x.length+1) fun k hk=>(cS.aa k _).trans ?_
 unfold cS.p
 have hc:0<=(x.length:Int)/\(x.length:Int)<=(x.length:Int)/\(x.length:Int)<=(bf:Int):=by simp only[bf];omega
 simp only[hc,and_self,if_true,Int.toNat_natCast]
 exact oH (B:=fun self v=>cS.B0 k self (fun z=>cS.Q0 k (x,()) z) (x,()) v) (xs:=x) (by rw[ah];omega) (fun i hi acc self ha=>by
  show cS.b0 _ _ _ _=_
  unfold cS.b0
  have ai:(i:Int) < (x.length:Int):=by omega
  have ng:(i:Int) < (acc.length:Int):=by omega
  simp only[ai,ng,decide_true,cond_true,Int.natCast_nonneg,and_self,if_true,Int.toNat_natCast,List.getElem?_eq_getElem hi,List.getElem?_eq_getElem (show i < acc.length by omega),Option.bind_some]) (fun acc self=>by
  show cS.b0 _ _ _ _=_
  unfold cS.b0
  simp[cS.Q0,cS.q0]) _ k (by omega)
theorem Eg (x:List (List UInt8)) (h:zz (.U (.U u8)) x<=1048576):dH.ab (x,())=some (x,()):=by
 have hl:x.length<=1048576:=Nat.le_trans (d0 (e:=(.U u8)) x) h
 refine ag (k:=x.length+1) fun k hk=>(dH.aa k _).trans ?_
 unfold dH.p
 have hc:0<=(x.length:Int)/\(x.length:Int)<=(x.length:Int)/\(x.length:Int)<=(bf:Int):=by simp only[bf];omega
 simp only[hc,and_self,if_true,Int.toNat_natCast]
 exact oH (B:=fun self v=>dH.B0 k self (fun z=>dH.Q0 k (x,()) z) (x,()) v) (xs:=x) (by rw[ah];omega) (fun i hi acc self ha=>by
  show dH.b0 _ _ _ _=_
  unfold dH.b0
  have ai:(i:Int) < (x.length:Int):=by omega
  have ng:(i:Int) < (acc.length:Int):=by omega
  simp only[ai,ng,decide_true,cond_true,Int.natCast_nonneg,and_self,if_true,Int.toNat_natCast,List.getElem?_eq_getElem hi,List.getElem?_eq_getElem (show i < acc.length by omega),Option.bind_some,ui x[i] (by have:=nP (e:=(.U u8)) (List.getElem_mem hi);omega)]) (fun acc self=>by
  show dH.b0 _ _ _ _=_
  unfold dH.b0
  simp[dH.Q0,dH.q0]) _ k (by omega)
theorem Ku (x:Log) (h:zz cD x<=1048576):ld.ab (x,())=some (x,()):=by
 have hz:zz cD x=(zz (.U u8) x.1+(zz (.U u8) x.2.1+0)):=rfl
 refine ag (k:=0) fun k _=>(ld.aa k _).trans ?_
 show ld.p _=_
 unfold ld.p
 simp only[ui x.1 (by omega),ui x.2.1 (by omega),Option.bind_some]
theorem Dd (x:Row) (h:zz aF x<=1048576):j0.ab (x,())=some (x,()):=by
 have hz:zz aF x=(0+(0+(0+(List.length x.2.2.2.1+0)))):=rfl
 refine ag (k:=0) fun k _=>(j0.aa k _).trans ?_
 show j0.p _=_
 unfold j0.p
 rfl
theorem Eh (x:Change) (h:zz am x<=1048576):iY.ab (x,())=some (x,()):=by
 have hz:zz am x=(0+((0+(0+(0+(List.length x.2.1.2.2.2.1+0))))+(0+((0+(0+(0+(List.length x.2.2.2.1.2.2.2.1+0))))+0)))):=rfl
 have s9:zz aF x.2.1=(0+(0+(0+(List.length x.2.1.2.2.2.1+0)))):=rfl
 have QV:zz aF x.2.2.2.1=(0+(0+(0+(List.length x.2.2.2.1.2.2.2.1+0)))):=rfl
 refine ag (k:=0) fun k _=>(iY.aa k _).trans ?_
 show iY.p _=_
 unfold iY.p
 simp only[Dd x.2.1 (by omega),Dd x.2.2.2.1 (by omega),Option.bind_some]
theorem De (x:List Change) (h:zz (.U am) x<=1048576):de.ab (x,())=some (x,()):=by
 have hl:x.length<=1048576:=Nat.le_trans (d0 (e:=am) x) h
 refine ag (k:=x.length+1) fun k hk=>(de.aa k _).trans ?_
 unfold de.p
 have hc:0<=(x.length:Int)/\(x.length:Int)<=(x.length:Int)/\(x.length:Int)<=(bf:Int):=by simp only[bf];omega
 simp only[hc,and_self,if_true,Int.toNat_natCast]
 exact oH (B:=fun self v=>de.B0 k self (fun z=>de.Q0 k (x,()) z) (x,()) v) (xs:=x) (by rw[ah];omega) (fun i hi acc self ha=>by
  show de.b0 _ _ _ _=_
  unfold de.b0
  have ai:(i:Int) < (x.length:Int):=by omega
  have ng:(i:Int) < (acc.length:Int):=by omega
  simp only[ai,ng,decide_true,cond_true,Int.natCast_nonneg,and_self,if_true,Int.toNat_natCast,List.getElem?_eq_getElem hi,List.getElem?_eq_getElem (show i < acc.length by omega),Option.bind_some,Eh x[i] (by have:=nP (e:=am) (List.getElem_mem hi);omega)]) (fun acc self=>by
  show de.b0 _ _ _ _=_
  unfold de.b0
  simp[de.Q0,de.q0]) _ k (by omega)
theorem Ei (x:List Int) (h:zz (.U i64) x<=1048576):dI.ab (x,())=some (x,()):=by
 have hl:x.length<=1048576:=Nat.le_trans (d0 (e:=i64) x) h
 refine ag (k:=x.length+1) fun k hk=>(dI.aa k _).trans ?_
 unfold dI.p
 have hc:0<=(x.length:Int)/\(x.length:Int)<=(x.length:Int)/\(x.length:Int)<=(bf:Int):=by simp only[bf];omega
 simp only[hc,and_self,if_true,Int.toNat_natCast]
 exact oH (B:=fun self v=>dI.B0 k self (fun z=>dI.Q0 k (x,()) z) (x,()) v) (xs:=x) (by rw[ah];omega) (fun i hi acc self ha=>by
  show dI.b0 _ _ _ _=_
  unfold dI.b0
  have ai:(i:Int) < (x.length:Int):=by omega
  have ng:(i:Int) < (acc.length:Int):=by omega
  simp only[ai,ng,decide_true,cond_true,Int.natCast_nonneg,and_self,if_true,Int.toNat_natCast,List.getElem?_eq_getElem hi,List.getElem?_eq_getElem (show i < acc.length by omega),Option.bind_some]) (fun acc self=>by
  show dI.b0 _ _ _ _=_
  unfold dI.b0
  simp[dI.Q0,dI.q0]) _ k (by omega)
theorem Kv (x:Key) (h:zz aC x<=1048576):lg.ab (x,())=some (x,()):=by
 have hz:zz aC x=(0+(0+0)):=rfl
 refine ag (k:=0) fun k _=>(lg.aa k _).trans ?_
 show lg.p _=_
 unfold lg.p
 rfl
theorem IU (x:List Key) (h:zz (.U aC) x<=1048576):eW.ab (x,())=some (x,()):=by
 have hl:x.length<=1048576:=Nat.le_trans (d0 (e:=aC) x) h
 refine ag (k:=x.length+1) fun k hk=>(eW.aa k _).trans ?_
 unfold eW.p
 have hc:0<=(x.length:Int)/\(x.length:Int)<=(x.length:Int)/\(x.length:Int)<=(bf:Int):=by simp only[bf];omega
 simp only[hc,and_self,if_true,Int.toNat_natCast]
 exact oH (B:=fun self v=>eW.B0 k self (fun z=>eW.Q0 k (x,()) z) (x,()) v) (xs:=x) (by rw[ah];omega) (fun i hi acc self ha=>by
  show eW.b0 _ _ _ _=_
  unfold eW.b0
  have ai:(i:Int) < (x.length:Int):=by omega
  have ng:(i:Int) < (acc.length:Int):=by omega
  simp only[ai,ng,decide_true,cond_true,Int.natCast_nonneg,and_self,if_true,Int.toNat_natCast,List.getElem?_eq_getElem hi,List.getElem?_eq_getElem (show i < acc.length by omega),Option.bind_some,Kv x[i] (by have:=nP (e:=aC) (List.getElem_mem hi);omega)]) (fun acc self=>by
  show eW.b0 _ _ _ _=_
  unfold eW.b0
  simp[eW.Q0,eW.q0]) _ k (by omega)
theorem MP (x:Tx) (h:zz aR x<=1048576):lW.ab (x,())=some (x,()):=by
 have hz:zz aR x=(0+(zz (.U am) x.2.1+(zz (.U i64) x.2.2.1+(zz (.U aC) x.2.2.2.1+0)))):=rfl
 refine ag (k:=0) fun k _=>(lW.aa k _).trans ?_
 show lW.p _=_
 unfold lW.p
 simp only[De x.2.1 (by omega),Ei x.2.2.1 (by omega),IU x.2.2.2.1 (by omega),Option.bind_some]
theorem Kw (x:List Tx) (h:zz (.U aR) x<=1048576):fI.ab (x,())=some (x,()):=by
 have hl:x.length<=1048576:=Nat.le_trans (d0 (e:=aR) x) h
 refine ag (k:=x.length+1) fun k hk=>(fI.aa k _).trans ?_
 unfold fI.p
 have hc:0<=(x.length:Int)/\(x.length:Int)<=(x.length:Int)/\(x.length:Int)<=(bf:Int):=by simp only[bf];omega
 simp only[hc,and_self,if_true,Int.toNat_natCast]
 exact oH (B:=fun self v=>fI.B0 k self (fun z=>fI.Q0 k (x,()) z) (x,()) v) (xs:=x) (by rw[ah];omega) (fun i hi acc self ha=>by
  show fI.b0 _ _ _ _=_
  unfold fI.b0
  have ai:(i:Int) < (x.length:Int):=by omega
  have ng:(i:Int) < (acc.length:Int):=by omega
  simp only[ai,ng,decide_true,cond_true,Int.natCast_nonneg,and_self,if_true,Int.toNat_natCast,List.getElem?_eq_getElem hi,List.getElem?_eq_getElem (show i < acc.length by omega),Option.bind_some,MP x[i] (by have:=nP (e:=aR) (List.getElem_mem hi);omega)]) (fun acc self=>by
  show fI.b0 _ _ _ _=_
  unfold fI.b0
  simp[fI.Q0,fI.q0]) _ k (by omega)
theorem GZ (x:eZ) (h:zz co x<=1048576):gu.ab (x,())=some (x,()):=by
 have hz:zz co x=(0+(zz (.U (.U u8)) x.2.1+((zz (.U u8) x.2.2.1.1+(zz (.U u8) x.2.2.1.2.1+0))+(zz (.U aR) x.2.2.2.1+(0+0))))):=rfl
 have vy:zz cD x.2.2.1=(zz (.U u8) x.2.2.1.1+(zz (.U u8) x.2.2.1.2.1+0)):=rfl
 refine ag (k:=0) fun k _=>(gu.aa k _).trans ?_
 show gu.p _=_
 unfold gu.p
 simp only[Eg x.2.1 (by omega),Ku x.2.2.1 (by omega),Kw x.2.2.2.1 (by omega),Option.bind_some]
theorem rY (x:List UInt8) (h:zz (.U u8) x<=4611686018427387904):cU.ab (x,x,())=some (true,()):=by
 have hl:x.length<=4611686018427387904:=Nat.le_trans (d0 (e:=u8) x) h
 refine ag (k:=x.length+1) fun k hk=>(cU.aa k _).trans ?_
 unfold cU.p
 simp only[decide_true,Bool.not_true,cond_false]
 have:=nc (B:=fun self v=>cU.B0 k self (fun z=>cU.Q0 k (x,x,()) z) (x,x,()) v) (xs:=x) (ys:=x) (fun _ _=>true) rfl (by rw[ah];omega) (fun i hi hj self=>by
   show cU.b0 _ _ _ _=_
   unfold cU.b0
   have ai:(i:Int) < (x.length:Int):=by omega
   simp only[ai,decide_true,cond_true,Int.natCast_nonneg,if_true,Int.toNat_natCast,List.getElem?_eq_getElem hi,Option.bind_some,Bool.not_true,cond_false]) (fun self=>by
   show cU.b0 _ _ _ _=_
   unfold cU.b0
   simp[cU.Q0,cU.q0]) k (by omega)
 rw[show lz (fun _ _=>true) x x=true by simp[lz]] at this
 exact this
theorem A_ (x:List (List UInt8)) (h:zz (.U (.U u8)) x<=4611686018427387904):dL.ab (x,x,())=some (true,()):=by
 have hl:x.length<=4611686018427387904:=Nat.le_trans (d0 (e:=(.U u8)) x) h
 refine ag (k:=x.length+1) fun k hk=>(dL.aa k _).trans ?_
 unfold dL.p
 simp only[decide_true,Bool.not_true,cond_false]
 have:=nc (B:=fun self v=>dL.B0 k self (fun z=>dL.Q0 k (x,x,()) z) (x,x,()) v) (xs:=x) (ys:=x) (fun _ _=>true) rfl (by rw[ah];omega) (fun i hi hj self=>by
   show dL.b0 _ _ _ _=_
   unfold dL.b0
   have ai:(i:Int) < (x.length:Int):=by omega
   simp only[ai,decide_true,cond_true,Int.natCast_nonneg,if_true,Int.toNat_natCast,List.getElem?_eq_getElem hi,Option.bind_some,Bool.not_true,cond_false,rY x[i] (by have:=nP (e:=(.U u8)) (List.getElem_mem hi);omega)]) (fun self=>by
   show dL.b0 _ _ _ _=_
   unfold dL.b0
   simp[dL.Q0,dL.q0]) k (by omega)
 rw[show lz (fun _ _=>true) x x=true by simp[lz]] at this
 exact this
theorem G0 (x:Log) (h:zz cD x<=4611686018427387904):li.ab (x,x,())=some (true,()):=by
 have hz:zz cD x=(zz (.U u8) x.1+(zz (.U u8) x.2.1+0)):=rfl
 refine ag (k:=0) fun k _=>(li.aa k _).trans ?_
 show li.p _=_
 unfold li.p
 have q0:=rY x.1 (by omega)
 have q1:=rY x.2.1 (by omega)
 simp[q0,q1]
theorem yL (x:Row) (h:zz aF x<=4611686018427387904):j6.ab (x,x,())=some (true,()):=by
 have hz:zz aF x=(0+(0+(0+(List.length x.2.2.2.1+0)))):=rfl
 refine ag (k:=0) fun k _=>(j6.aa k _).trans ?_
 show j6.p _=_
 unfold j6.p
 simp[]
theorem Ba (x:Change) (h:zz am x<=4611686018427387904):i9.ab (x,x,())=some (true,()):=by
 have hz:zz am x=(0+((0+(0+(0+(List.length x.2.1.2.2.2.1+0))))+(0+((0+(0+(0+(List.length x.2.2.2.1.2.2.2.1+0))))+0)))):=rfl
 have s9:zz aF x.2.1=(0+(0+(0+(List.length x.2.1.2.2.2.1+0)))):=rfl
 have QV:zz aF x.2.2.2.1=(0+(0+(0+(List.length x.2.2.2.1.2.2.2.1+0)))):=rfl
 refine ag (k:=0) fun k _=>(i9.aa k _).trans ?_
 show i9.p _=_
 unfold i9.p
 have q0:=yL x.2.1 (by omega)
 have q1:=yL x.2.2.2.1 (by omega)
 simp[q0,q1]
theorem zU (x:List Change) (h:zz (.U am) x<=4611686018427387904):dh.ab (x,x,())=some (true,()):=by
 have hl:x.length<=4611686018427387904:=Nat.le_trans (d0 (e:=am) x) h
 refine ag (k:=x.length+1) fun k hk=>(dh.aa k _).trans ?_
 unfold dh.p
 simp only[decide_true,Bool.not_true,cond_false]
 have:=nc (B:=fun self v=>dh.B0 k self (fun z=>dh.Q0 k (x,x,()) z) (x,x,()) v) (xs:=x) (ys:=x) (fun _ _=>true) rfl (by rw[ah];omega) (fun i hi hj self=>by
   show dh.b0 _ _ _ _=_
   unfold dh.b0
   have ai:(i:Int) < (x.length:Int):=by omega
   simp only[ai,decide_true,cond_true,Int.natCast_nonneg,if_true,Int.toNat_natCast,List.getElem?_eq_getElem hi,Option.bind_some,Bool.not_true,cond_false,Ba x[i] (by have:=nP (e:=am) (List.getElem_mem hi);omega)]) (fun self=>by
   show dh.b0 _ _ _ _=_
   unfold dh.b0
   simp[dh.Q0,dh.q0]) k (by omega)
 rw[show lz (fun _ _=>true) x x=true by simp[lz]] at this
 exact this
theorem Bb (x:List Int) (h:zz (.U i64) x<=4611686018427387904):dM.ab (x,x,())=some (true,()):=by
 have hl:x.length<=4611686018427387904:=Nat.le_trans (d0 (e:=i64) x) h
 refine ag (k:=x.length+1) fun k hk=>(dM.aa k _).trans ?_
 unfold dM.p
 simp only[decide_true,Bool.not_true,cond_false]
 have:=nc (B:=fun self v=>dM.B0 k self (fun z=>dM.Q0 k (x,x,()) z) (x,x,()) v) (xs:=x) (ys:=x) (fun _ _=>true) rfl (by rw[ah];omega) (fun i hi hj self=>by
   show dM.b0 _ _ _ _=_
   unfold dM.b0
   have ai:(i:Int) < (x.length:Int):=by omega
   simp only[ai,decide_true,cond_true,Int.natCast_nonneg,if_true,Int.toNat_natCast,List.getElem?_eq_getElem hi,Option.bind_some,Bool.not_true,cond_false]) (fun self=>by
   show dM.b0 _ _ _ _=_
   unfold dM.b0
   simp[dM.Q0,dM.q0]) k (by omega)
 rw[show lz (fun _ _=>true) x x=true by simp[lz]] at this
 exact this
theorem G3 (x:Key) (h:zz aC x<=4611686018427387904):lj.ab (x,x,())=some (true,()):=by
 have hz:zz aC x=(0+(0+0)):=rfl
 refine ag (k:=0) fun k _=>(lj.aa k _).trans ?_
 show lj.p _=_
 unfold lj.p
 simp[]
theorem Ej (x:List Key) (h:zz (.U aC) x<=4611686018427387904):eY.ab (x,x,())=some (true,()):=by
 have hl:x.length<=4611686018427387904:=Nat.le_trans (d0 (e:=aC) x) h
 refine ag (k:=x.length+1) fun k hk=>(eY.aa k _).trans ?_
 unfold eY.p
 simp only[decide_true,Bool.not_true,cond_false]
 have:=nc (B:=fun self v=>eY.B0 k self (fun z=>eY.Q0 k (x,x,()) z) (x,x,()) v) (xs:=x) (ys:=x) (fun _ _=>true) rfl (by rw[ah];omega) (fun i hi hj self=>by
   show eY.b0 _ _ _ _=_
   unfold eY.b0
   have ai:(i:Int) < (x.length:Int):=by omega
   simp only[ai,decide_true,cond_true,Int.natCast_nonneg,if_true,Int.toNat_natCast,List.getElem?_eq_getElem hi,Option.bind_some,Bool.not_true,cond_false,G3 x[i] (by have:=nP (e:=aC) (List.getElem_mem hi);omega)]) (fun self=>by
   show eY.b0 _ _ _ _=_
   unfold eY.b0
   simp[eY.Q0,eY.q0]) k (by omega)
 rw[show lz (fun _ _=>true) x x=true by simp[lz]] at this
 exact this
theorem IV (x:Tx) (h:zz aR x<=4611686018427387904):lX.ab (x,x,())=some (true,()):=by
 have hz:zz aR x=(0+(zz (.U am) x.2.1+(zz (.U i64) x.2.2.1+(zz (.U aC) x.2.2.2.1+0)))):=rfl
 refine ag (k:=0) fun k _=>(lX.aa k _).trans ?_
 show lX.p _=_
 unfold lX.p
 have q0:=zU x.2.1 (by omega)
 have q1:=Bb x.2.2.1 (by omega)
 have q2:=Ej x.2.2.2.1 (by omega)
 simp[q0,q1,q2]
theorem G4 (x:List Tx) (h:zz (.U aR) x<=4611686018427387904):fJ.ab (x,x,())=some (true,()):=by
 have hl:x.length<=4611686018427387904:=Nat.le_trans (d0 (e:=aR) x) h
 refine ag (k:=x.length+1) fun k hk=>(fJ.aa k _).trans ?_
 unfold fJ.p
 simp only[decide_true,Bool.not_true,cond_false]
 have:=nc (B:=fun self v=>fJ.B0 k self (fun z=>fJ.Q0 k (x,x,()) z) (x,x,()) v) (xs:=x) (ys:=x) (fun _ _=>true) rfl (by rw[ah];omega) (fun i hi hj self=>by
   show fJ.b0 _ _ _ _=_
   unfold fJ.b0
   have ai:(i:Int) < (x.length:Int):=by omega
   simp only[ai,decide_true,cond_true,Int.natCast_nonneg,if_true,Int.toNat_natCast,List.getElem?_eq_getElem hi,Option.bind_some,Bool.not_true,cond_false,IV x[i] (by have:=nP (e:=aR) (List.getElem_mem hi);omega)]) (fun self=>by
   show fJ.b0 _ _ _ _=_
   unfold fJ.b0
   simp[fJ.Q0,fJ.q0]) k (by omega)
 rw[show lz (fun _ _=>true) x x=true by simp[lz]] at this
 exact this
theorem vP (x:eZ) (h:zz co x<=4611686018427387904):gy.ab (x,x,())=some (true,()):=by
 have hz:zz co x=(0+(zz (.U (.U u8)) x.2.1+((zz (.U u8) x.2.2.1.1+(zz (.U u8) x.2.2.1.2.1+0))+(zz (.U aR) x.2.2.2.1+(0+0))))):=rfl
 have vy:zz cD x.2.2.1=(zz (.U u8) x.2.2.1.1+(zz (.U u8) x.2.2.1.2.1+0)):=rfl
 refine ag (k:=0) fun k _=>(gy.aa k _).trans ?_
 show gy.p _=_
 unfold gy.p
 have q0:=A_ x.2.1 (by omega)
 have q1:=G0 x.2.2.1 (by omega)
 have q2:=G4 x.2.2.2.1 (by omega)
 simp[q0,q1,q2]
def OD (x:UInt8) (k:Int) (y:UInt8) (k':Int):Prop:=y=(UInt8.ofInt (k))/\k+1=k'
theorem zV (x:List UInt8) (k:Int) (h0:0<=k) (h1:k+32*((zz (.U u8) x:Nat):Int)<=im):∃ (k':Int) (y:List UInt8),aX.ab (x,k,())=some (k',y,())/\k<=k'/\k'<=k+32*((zz (.U u8) x:Nat):Int):=by
 have hB:im=4611686018427387904:=rfl
 have hl:List.length x<=zz (.U u8) x:=d0 (e:=u8) x
 have hs:d8 (fun x:UInt8=>32*(zz u8 x+1)) x=32*zz (.U u8) x:=ku (zz u8) x
 obtain ⟨ys,k',g1,g2,g3,g4,g5⟩:=iR (B:=fun self v=>aX.B0 0 self (fun z=>aX.Q0 0 (x,k,()) z) (x,k,()) v) (xs:=x) (by rw[ah];omega) OD (fun x:UInt8=>32*(zz u8 x+1)) (fun x hx k h0 h1=>by
   exact ⟨_,_,by omega,by omega,⟨rfl,rfl⟩⟩) (fun i acc k self x y k' hi hx h0 h1 Y h3 hE=>by
   obtain ⟨rfl,rfl⟩:=hE
   show aX.b0 _ _ _ _=_
   unfold aX.b0
   have ai:(i:Int) < (acc.length:Int):=by omega
   simp (disch:=omega) only [ai,decide_true,cond_true,Int.natCast_nonneg,and_self,if_true,Int.toNat_natCast,hx,Option.bind_some,List.length_set,fN,List.set_set,aE,dD]) (fun acc k self=>by
   show aX.b0 _ _ _ _=_
   unfold aX.b0
   simp[aX.Q0,aX.q0]) k h0 (by rw[hs];omega)
 refine ⟨k',ys,ag (k:=x.length+1) fun f hf=>(aX.aa f _).trans (g5 f (by omega)),g1,by rw[hs] at g2;omega⟩
def MQ (x:List UInt8) (k:Int) (y:List UInt8) (k':Int):Prop:=∃ (r1:Int) (y1:List UInt8),aX.ab (x,k,())=some (r1,y1,())/\k<=r1/\r1<=k+32*((zz (.U u8) x:Nat):Int)/\y=y1/\r1=k'
theorem Kx (x:List (List UInt8)) (k:Int) (h0:0<=k) (h1:k+32*((zz (.U (.U u8)) x:Nat):Int)<=im):∃ (k':Int) (y:List (List UInt8)),bg.ab (x,k,())=some (k',y,())/\k<=k'/\k'<=k+32*((zz (.U (.U u8)) x:Nat):Int):=by
 have hB:im=4611686018427387904:=rfl
 have hl:List.length x<=zz (.U (.U u8)) x:=d0 (e:=(.U u8)) x
 have hs:d8 (fun x:List UInt8=>32*(zz (.U u8) x+1)) x=32*zz (.U (.U u8)) x:=ku (zz (.U u8)) x
 obtain ⟨ys,k',g1,g2,g3,g4,g5⟩:=iR (B:=fun self v=>bg.B0 0 self (fun z=>bg.Q0 0 (x,k,()) z) (x,k,()) v) (xs:=x) (by rw[ah];omega) MQ (fun x:List UInt8=>32*(zz (.U u8) x+1)) (fun x hx k h0 h1=>by
   obtain ⟨r1,y1,e1,g1,i1⟩:=zV x (k) (by omega) (by omega)
   exact ⟨_,_,by omega,by omega,⟨r1,y1,e1,g1,i1,rfl,rfl⟩⟩) (fun i acc k self x y k' hi hx h0 h1 Y h3 hE=>by
   obtain ⟨r1,y1,e1,g1,i1,rfl,rfl⟩:=hE
   show bg.b0 _ _ _ _=_
   unfold bg.b0
   have ai:(i:Int) < (acc.length:Int):=by omega
   simp (disch:=omega) only [ai,decide_true,cond_true,Int.natCast_nonneg,and_self,if_true,Int.toNat_natCast,hx,Option.bind_some,List.length_set,fN,List.set_set,aE,dD,e1]) (fun acc k self=>by
   show bg.b0 _ _ _ _=_
   unfold bg.b0
   simp[bg.Q0,bg.q0]) k h0 (by rw[hs];omega)
 refine ⟨k',ys,ag (k:=x.length+1) fun f hf=>(bg.aa f _).trans (g5 f (by omega)),g1,by rw[hs] at g2;omega⟩
theorem PL (x:Log) (k:Int) (h0:0<=k) (h1:k+32*((zz cD x:Nat):Int)<=im):∃ (k':Int) (y:Log),fU.ab (x,k,())=some (k',y,())/\k<=k'/\k'<=k+32*((zz cD x:Nat):Int):=by
 have hB:im=4611686018427387904:=rfl
 have hz:zz cD x=(zz (.U u8) x.1+(zz (.U u8) x.2.1+0)):=rfl
 obtain ⟨k1,y1,e1,g1,i1⟩:=zV x.1 k (by omega) (by omega)
 have n1:¬ k1 < 0:=by omega
 obtain ⟨k2,y2,e2,g2,i2⟩:=zV x.2.1 k1 (by omega) (by omega)
 have n2:¬ k2 < 0:=by omega
 refine ⟨k2,(y1,y2,x.2.2),ag (k:=0) fun f _=>(fU.aa f _).trans ?_,by omega,by omega⟩
 ·show fU.p _=_
  unfold fU.p
  simp only[e1,e2,Option.bind_some]
def Ky (x:Change) (k:Int) (y:Change) (k':Int):Prop:=y=((decide ((k).tmod (3:Int)=(0:Int))),((k+1),(k+1+1),(k+1+1+1),(wC (k+1+1+1+1)),x.2.1.2.2.2.2),(decide ((k+1+1+1+1+1).tmod (3:Int)=(0:Int))),((k+1+1+1+1+1+1),(k+1+1+1+1+1+1+1),(k+1+1+1+1+1+1+1+1),(wC (k+1+1+1+1+1+1+1+1+1)),x.2.2.2.1.2.2.2.2),x.2.2.2.2)/\k+1+1+1+1+1+1+1+1+1+1=k'
theorem IW (x:List Change) (k:Int) (h0:0<=k) (h1:k+32*((zz (.U am) x:Nat):Int)<=im):∃ (k':Int) (y:List Change),aY.ab (x,k,())=some (k',y,())/\k<=k'/\k'<=k+32*((zz (.U am) x:Nat):Int):=by
 have hB:im=4611686018427387904:=rfl
 have hl:List.length x<=zz (.U am) x:=d0 (e:=am) x
 have hs:d8 (fun x:Change=>32*(zz am x+1)) x=32*zz (.U am) x:=ku (zz am) x
 obtain ⟨ys,k',g1,g2,g3,g4,g5⟩:=iR (B:=fun self v=>aY.B0 0 self (fun z=>aY.Q0 0 (x,k,()) z) (x,k,()) v) (xs:=x) (by rw[ah];omega) Ky (fun x:Change=>32*(zz am x+1)) (fun x hx k h0 h1=>by
   have hz:zz am x=(0+((0+(0+(0+(List.length x.2.1.2.2.2.1+0))))+(0+((0+(0+(0+(List.length x.2.2.2.1.2.2.2.1+0))))+0)))):=rfl
   exact ⟨_,_,by omega,by omega,⟨rfl,rfl⟩⟩) (fun i acc k self x y k' hi hx h0 h1 Y h3 hE=>by
   have hz:zz am x=(0+((0+(0+(0+(List.length x.2.1.2.2.2.1+0))))+(0+((0+(0+(0+(List.length x.2.2.2.1.2.2.2.1+0))))+0)))):=rfl
   obtain ⟨rfl,rfl⟩:=hE
   show aY.b0 _ _ _ _=_
   unfold aY.b0
   have ai:(i:Int) < (acc.length:Int):=by omega
   simp (disch:=omega) only [ai,decide_true,cond_true,Int.natCast_nonneg,and_self,if_true,Int.toNat_natCast,hx,Option.bind_some,List.length_set,fN,List.set_set,aE,dD]) (fun acc k self=>by
   show aY.b0 _ _ _ _=_
   unfold aY.b0
   simp[aY.Q0,aY.q0]) k h0 (by rw[hs];omega)
 refine ⟨k',ys,ag (k:=x.length+1) fun f hf=>(aY.aa f _).trans (g5 f (by omega)),g1,by rw[hs] at g2;omega⟩
def MR (x:Int) (k:Int) (y:Int) (k':Int):Prop:=y=(k)/\k+1=k'
theorem Kz (x:List Int) (k:Int) (h0:0<=k) (h1:k+32*((zz (.U i64) x:Nat):Int)<=im):∃ (k':Int) (y:List Int),a8.ab (x,k,())=some (k',y,())/\k<=k'/\k'<=k+32*((zz (.U i64) x:Nat):Int):=by
 have hB:im=4611686018427387904:=rfl
 have hl:List.length x<=zz (.U i64) x:=d0 (e:=i64) x
 have hs:d8 (fun x:Int=>32*(zz i64 x+1)) x=32*zz (.U i64) x:=ku (zz i64) x
 obtain ⟨ys,k',g1,g2,g3,g4,g5⟩:=iR (B:=fun self v=>a8.B0 0 self (fun z=>a8.Q0 0 (x,k,()) z) (x,k,()) v) (xs:=x) (by rw[ah];omega) MR (fun x:Int=>32*(zz i64 x+1)) (fun x hx k h0 h1=>by
   exact ⟨_,_,by omega,by omega,⟨rfl,rfl⟩⟩) (fun i acc k self x y k' hi hx h0 h1 Y h3 hE=>by
   obtain ⟨rfl,rfl⟩:=hE
   show a8.b0 _ _ _ _=_
   unfold a8.b0
   have ai:(i:Int) < (acc.length:Int):=by omega
   simp (disch:=omega) only [ai,decide_true,cond_true,Int.natCast_nonneg,and_self,if_true,Int.toNat_natCast,hx,Option.bind_some,List.length_set,fN,List.set_set,aE,dD]) (fun acc k self=>by
   show a8.b0 _ _ _ _=_
   unfold a8.b0
   simp[a8.Q0,a8.q0]) k h0 (by rw[hs];omega)
 refine ⟨k',ys,ag (k:=x.length+1) fun f hf=>(a8.aa f _).trans (g5 f (by omega)),g1,by rw[hs] at g2;omega⟩
def PN (x:Key) (k:Int) (y:Key) (k':Int):Prop:=y=((k),(k+1),x.2.2)/\k+1+1=k'
theorem OE (x:List Key) (k:Int) (h0:0<=k) (h1:k+32*((zz (.U aC) x:Nat):Int)<=im):∃ (k':Int) (y:List Key),bs.ab (x,k,())=some (k',y,())/\k<=k'/\k'<=k+32*((zz (.U aC) x:Nat):Int):=by
 have hB:im=4611686018427387904:=rfl
 have hl:List.length x<=zz (.U aC) x:=d0 (e:=aC) x
 have hs:d8 (fun x:Key=>32*(zz aC x+1)) x=32*zz (.U aC) x:=ku (zz aC) x
 obtain ⟨ys,k',g1,g2,g3,g4,g5⟩:=iR (B:=fun self v=>bs.B0 0 self (fun z=>bs.Q0 0 (x,k,()) z) (x,k,()) v) (xs:=x) (by rw[ah];omega) PN (fun x:Key=>32*(zz aC x+1)) (fun x hx k h0 h1=>by
   have hz:zz aC x=(0+(0+0)):=rfl
   exact ⟨_,_,by omega,by omega,⟨rfl,rfl⟩⟩) (fun i acc k self x y k' hi hx h0 h1 Y h3 hE=>by
   have hz:zz aC x=(0+(0+0)):=rfl
   obtain ⟨rfl,rfl⟩:=hE
   show bs.b0 _ _ _ _=_
   unfold bs.b0
   have ai:(i:Int) < (acc.length:Int):=by omega
   simp (disch:=omega) only [ai,decide_true,cond_true,Int.natCast_nonneg,and_self,if_true,Int.toNat_natCast,hx,Option.bind_some,List.length_set,fN,List.set_set,aE,dD]) (fun acc k self=>by
   show bs.b0 _ _ _ _=_
   unfold bs.b0
   simp[bs.Q0,bs.q0]) k h0 (by rw[hs];omega)
 refine ⟨k',ys,ag (k:=x.length+1) fun f hf=>(bs.aa f _).trans (g5 f (by omega)),g1,by rw[hs] at g2;omega⟩
def RP (x:Tx) (k:Int) (y:Tx) (k':Int):Prop:=∃ (r1:Int) (y1:List Change),∃ (r2:Int) (y2:List Int),∃ (r3:Int) (y3:List Key),aY.ab (x.2.1,k+1,())=some (r1,y1,())/\k+1<=r1/\r1<=k+1+32*((zz (.U am) x.2.1:Nat):Int)/\a8.ab (x.2.2.1,r1,())=some (r2,y2,())/\r1<=r2/\r2<=r1+32*((zz (.U i64) x.2.2.1:Nat):Int)/\bs.ab (x.2.2.2.1,r2,())=some (r3,y3,())/\r2<=r3/\r3<=r2+32*((zz (.U aC) x.2.2.2.1:Nat):Int)/\y=((k),y1,y2,y3,x.2.2.2.2)/\r3=k'
theorem PO (x:List Tx) (k:Int) (h0:0<=k) (h1:k+32*((zz (.U aR) x:Nat):Int)<=im):∃ (k':Int) (y:List Tx),bQ.ab (x,k,())=some (k',y,())/\k<=k'/\k'<=k+32*((zz (.U aR) x:Nat):Int):=by
 have hB:im=4611686018427387904:=rfl
 have hl:List.length x<=zz (.U aR) x:=d0 (e:=aR) x
 have hs:d8 (fun x:Tx=>32*(zz aR x+1)) x=32*zz (.U aR) x:=ku (zz aR) x
 obtain ⟨ys,k',g1,g2,g3,g4,g5⟩:=iR (B:=fun self v=>bQ.B0 0 self (fun z=>bQ.Q0 0 (x,k,()) z) (x,k,()) v) (xs:=x) (by rw[ah];omega) RP (fun x:Tx=>32*(zz aR x+1)) (fun x hx k h0 h1=>by
   have hz:zz aR x=(0+(zz (.U am) x.2.1+(zz (.U i64) x.2.2.1+(zz (.U aC) x.2.2.2.1+0)))):=rfl
   obtain ⟨r1,y1,e1,g1,i1⟩:=IW x.2.1 (k+1) (by omega) (by omega)
   obtain ⟨r2,y2,e2,g2,i2⟩:=Kz x.2.2.1 (r1) (by omega) (by omega)
   obtain ⟨r3,y3,e3,g3,i3⟩:=OE x.2.2.2.1 (r2) (by omega) (by omega)
   exact ⟨_,_,by omega,by omega,⟨r1,y1,r2,y2,r3,y3,e1,g1,i1,e2,g2,i2,e3,g3,i3,rfl,rfl⟩⟩) (fun i acc k self x y k' hi hx h0 h1 Y h3 hE=>by
   have hz:zz aR x=(0+(zz (.U am) x.2.1+(zz (.U i64) x.2.2.1+(zz (.U aC) x.2.2.2.1+0)))):=rfl
   obtain ⟨r1,y1,r2,y2,r3,y3,e1,g1,i1,e2,g2,i2,e3,g3,i3,rfl,rfl⟩:=hE
   show bQ.b0 _ _ _ _=_
   unfold bQ.b0
   have ai:(i:Int) < (acc.length:Int):=by omega
   simp (disch:=omega) only [ai,decide_true,cond_true,Int.natCast_nonneg,and_self,if_true,Int.toNat_natCast,hx,Option.bind_some,List.length_set,fN,List.set_set,aE,dD,e1,e2,e3]) (fun acc k self=>by
   show bQ.b0 _ _ _ _=_
   unfold bQ.b0
   simp[bQ.Q0,bQ.q0]) k h0 (by rw[hs];omega)
 refine ⟨k',ys,ag (k:=x.length+1) fun f hf=>(bQ.aa f _).trans (g5 f (by omega)),g1,by rw[hs] at g2;omega⟩
theorem MS (x:eZ) (k:Int) (h0:0<=k) (h1:k+32*((zz co x:Nat):Int)<=im):∃ (k':Int) (y:eZ),di.ab (x,k,())=some (k',y,())/\k<=k'/\k'<=k+32*((zz co x:Nat):Int):=by
 have hB:im=4611686018427387904:=rfl
 have hz:zz co x=(0+(zz (.U (.U u8)) x.2.1+((zz (.U u8) x.2.2.1.1+(zz (.U u8) x.2.2.1.2.1+0))+(zz (.U aR) x.2.2.2.1+(0+0))))):=rfl
 obtain ⟨k1,y1,e1,g1,i1⟩:=Kx x.2.1 k (by omega) (by omega)
 have n1:¬ k1 < 0:=by omega
 have vy:zz cD x.2.2.1=(zz (.U u8) x.2.2.1.1+(zz (.U u8) x.2.2.1.2.1+0)):=rfl
 obtain ⟨k2,y2,e2,g2,i2⟩:=PL x.2.2.1 k1 (by omega) (by omega)
 have n2:¬ k2 < 0:=by omega
 obtain ⟨k3,y3,e3,g3,i3⟩:=PO x.2.2.2.1 k2 (by omega) (by omega)
 have n3:¬ k3 < 0:=by omega
 refine ⟨k3,(x.1,y1,y2,y3,x.2.2.2.2.1,x.2.2.2.2.2),ag (k:=0) fun f _=>(di.aa f _).trans ?_,by omega,by omega⟩
 ·show di.p _=_
  unfold di.p
  simp only[e1,e2,e3,Option.bind_some]
theorem vQ (x:fW) (h:zz cQ x<=4611686018427387904):d6.ab (x,x,())=some (true,()):=by
 have hz:zz cQ x=(0+(0+((0+(zz (.U (.U u8)) x.2.2.1.2.1+((zz (.U u8) x.2.2.1.2.2.1.1+(zz (.U u8) x.2.2.1.2.2.1.2.1+0))+(zz (.U aR) x.2.2.1.2.2.2.1+(0+0)))))+0))):=rfl
 have vy:zz co x.2.2.1=(0+(zz (.U (.U u8)) x.2.2.1.2.1+((zz (.U u8) x.2.2.1.2.2.1.1+(zz (.U u8) x.2.2.1.2.2.1.2.1+0))+(zz (.U aR) x.2.2.1.2.2.2.1+(0+0))))):=rfl
 refine ag (k:=0) fun k _=>(d6.aa k _).trans ?_
 show d6.p _=_
 unfold d6.p
 have q0:=vP x.2.2.1 (by omega)
 simp[q0]
def OF (x:UInt8) (k:Int) (y:UInt8) (k':Int):Prop:=y=(UInt8.ofInt (k))/\k+1=k'
theorem zW (x:List UInt8) (k:Int) (h0:0<=k) (h1:k+32*((zz (.U u8) x:Nat):Int)<=im):∃ (k':Int) (y:List UInt8),aX.ab (x,k,())=some (k',y,())/\bY.ab (y,k,())=some (k',())/\k<=k'/\k'<=k+32*((zz (.U u8) x:Nat):Int):=by
 have hB:im=4611686018427387904:=rfl
 have hl:List.length x<=zz (.U u8) x:=d0 (e:=u8) x
 have hs:d8 (fun x:UInt8=>32*(zz u8 x+1)) x=32*zz (.U u8) x:=ku (zz u8) x
 obtain ⟨ys,k',g1,g2,g3,g4,g5⟩:=iR (B:=fun self v=>aX.B0 0 self (fun z=>aX.Q0 0 (x,k,()) z) (x,k,()) v) (xs:=x) (by rw[ah];omega) OF (fun x:UInt8=>32*(zz u8 x+1)) (fun x hx k h0 h1=>by
   exact ⟨_,_,by omega,by omega,⟨rfl,rfl⟩⟩) (fun i acc k self x y k' hi hx h0 h1 Y h3 hE=>by
   obtain ⟨rfl,rfl⟩:=hE
   show aX.b0 _ _ _ _=_
   unfold aX.b0
   have ai:(i:Int) < (acc.length:Int):=by omega
   simp (disch:=omega) only [ai,decide_true,cond_true,Int.natCast_nonneg,and_self,if_true,Int.toNat_natCast,hx,Option.bind_some,List.length_set,fN,List.set_set,aE,dD]) (fun acc k self=>by
   show aX.b0 _ _ _ _=_
   unfold aX.b0
   simp[aX.Q0,aX.q0]) k h0 (by rw[hs];omega)
 refine ⟨k',ys,ag (k:=x.length+1) fun f hf=>(aX.aa f _).trans (g5 f (by omega)),?_,g1,by rw[hs] at g2;omega⟩
 refine ag (k:=ys.length+1) fun f hf=>(bY.aa f _).trans ?_
 exact oJ (B:=fun self v=>bY.B0 0 self (fun z=>bY.Q0 0 (ys,k,()) z) (ys,k,()) v) (by rw[ah];omega) g4 (fun i k self x y k' hi hx h0 h1 Y h3 hE=>by
   obtain ⟨rfl,rfl⟩:=hE
   show bY.b0 _ _ _ _=_
   unfold bY.b0
   have ai:(i:Int) < (ys.length:Int):=by omega
   simp (disch:=omega) only [ai,decide_true,cond_true,Int.natCast_nonneg,and_self,if_true,Int.toNat_natCast,hx,Option.bind_some,aE,dD,beq_self_eq_true,Bool.not_true,cond_false,decide_false]) (fun k self=>by
   show bY.b0 _ _ _ _=_
   unfold bY.b0
   simp[bY.Q0,bY.q0]) f (by omega)
def MT (x:List UInt8) (k:Int) (y:List UInt8) (k':Int):Prop:=∃ (r1:Int) (y1:List UInt8),aX.ab (x,k,())=some (r1,y1,())/\bY.ab (y1,k,())=some (r1,())/\k<=r1/\r1<=k+32*((zz (.U u8) x:Nat):Int)/\y=y1/\r1=k'
theorem KA (x:List (List UInt8)) (k:Int) (h0:0<=k) (h1:k+32*((zz (.U (.U u8)) x:Nat):Int)<=im):∃ (k':Int) (y:List (List UInt8)),bg.ab (x,k,())=some (k',y,())/\da.ab (y,k,())=some (k',())/\k<=k'/\k'<=k+32*((zz (.U (.U u8)) x:Nat):Int):=by
 have hB:im=4611686018427387904:=rfl
 have hl:List.length x<=zz (.U (.U u8)) x:=d0 (e:=(.U u8)) x
 have hs:d8 (fun x:List UInt8=>32*(zz (.U u8) x+1)) x=32*zz (.U (.U u8)) x:=ku (zz (.U u8)) x
 obtain ⟨ys,k',g1,g2,g3,g4,g5⟩:=iR (B:=fun self v=>bg.B0 0 self (fun z=>bg.Q0 0 (x,k,()) z) (x,k,()) v) (xs:=x) (by rw[ah];omega) MT (fun x:List UInt8=>32*(zz (.U u8) x+1)) (fun x hx k h0 h1=>by
   obtain ⟨r1,y1,e1,f1,g1,i1⟩:=zW x (k) (by omega) (by omega)
   exact ⟨_,_,by omega,by omega,⟨r1,y1,e1,f1,g1,i1,rfl,rfl⟩⟩) (fun i acc k self x y k' hi hx h0 h1 Y h3 hE=>by
   obtain ⟨r1,y1,e1,f1,g1,i1,rfl,rfl⟩:=hE
   show bg.b0 _ _ _ _=_
   unfold bg.b0
   have ai:(i:Int) < (acc.length:Int):=by omega
   simp (disch:=omega) only [ai,decide_true,cond_true,Int.natCast_nonneg,and_self,if_true,Int.toNat_natCast,hx,Option.bind_some,List.length_set,fN,List.set_set,aE,dD,e1]) (fun acc k self=>by
   show bg.b0 _ _ _ _=_
   unfold bg.b0
   simp[bg.Q0,bg.q0]) k h0 (by rw[hs];omega)
 refine ⟨k',ys,ag (k:=x.length+1) fun f hf=>(bg.aa f _).trans (g5 f (by omega)),?_,g1,by rw[hs] at g2;omega⟩
 refine ag (k:=ys.length+1) fun f hf=>(da.aa f _).trans ?_
 exact oJ (B:=fun self v=>da.B0 0 self (fun z=>da.Q0 0 (ys,k,()) z) (ys,k,()) v) (by rw[ah];omega) g4 (fun i k self x y k' hi hx h0 h1 Y h3 hE=>by
   obtain ⟨r1,y1,e1,f1,g1,i1,rfl,rfl⟩:=hE
   show da.b0 _ _ _ _=_
   unfold da.b0
   have ai:(i:Int) < (ys.length:Int):=by omega
   have n1:¬ r1 < 0:=by omega
   simp (disch:=omega) only [ai,decide_true,cond_true,Int.natCast_nonneg,and_self,if_true,Int.toNat_natCast,hx,Option.bind_some,aE,dD,beq_self_eq_true,Bool.not_true,cond_false,decide_false,f1,n1]) (fun k self=>by
   show da.b0 _ _ _ _=_
   unfold da.b0
   simp[da.Q0,da.q0]) f (by omega)
theorem PP (x:Log) (k:Int) (h0:0<=k) (h1:k+32*((zz cD x:Nat):Int)<=im):∃ (k':Int) (y:Log),fU.ab (x,k,())=some (k',y,())/\jE.ab (y,k,())=some (k',())/\k<=k'/\k'<=k+32*((zz cD x:Nat):Int):=by
 have hB:im=4611686018427387904:=rfl
 have hz:zz cD x=(zz (.U u8) x.1+(zz (.U u8) x.2.1+0)):=rfl
 obtain ⟨k1,y1,e1,f1,g1,i1⟩:=zW x.1 k (by omega) (by omega)
 have n1:¬ k1 < 0:=by omega
 obtain ⟨k2,y2,e2,f2,g2,i2⟩:=zW x.2.1 k1 (by omega) (by omega)
 have n2:¬ k2 < 0:=by omega
 refine ⟨k2,(y1,y2,x.2.2),ag (k:=0) fun f _=>(fU.aa f _).trans ?_,ag (k:=0) fun f _=>(jE.aa f _).trans ?_,by omega,by omega⟩
 ·show fU.p _=_
  unfold fU.p
  simp only[e1,e2,Option.bind_some]
 ·show jE.p _=_
  unfold jE.p
  simp only[f1,f2,n1,n2,Option.bind_some,decide_false,cond_false]
def KB (x:Change) (k:Int) (y:Change) (k':Int):Prop:=y=((decide ((k).tmod (3:Int)=(0:Int))),((k+1),(k+1+1),(k+1+1+1),(wC (k+1+1+1+1)),x.2.1.2.2.2.2),(decide ((k+1+1+1+1+1).tmod (3:Int)=(0:Int))),((k+1+1+1+1+1+1),(k+1+1+1+1+1+1+1),(k+1+1+1+1+1+1+1+1),(wC (k+1+1+1+1+1+1+1+1+1)),x.2.2.2.1.2.2.2.2),x.2.2.2.2)/\k+1+1+1+1+1+1+1+1+1+1=k'
theorem IX (x:List Change) (k:Int) (h0:0<=k) (h1:k+32*((zz (.U am) x:Nat):Int)<=im):∃ (k':Int) (y:List Change),aY.ab (x,k,())=some (k',y,())/\cx.ab (y,k,())=some (k',())/\k<=k'/\k'<=k+32*((zz (.U am) x:Nat):Int):=by
 have hB:im=4611686018427387904:=rfl
 have hl:List.length x<=zz (.U am) x:=d0 (e:=am) x
 have hs:d8 (fun x:Change=>32*(zz am x+1)) x=32*zz (.U am) x:=ku (zz am) x
 obtain ⟨ys,k',g1,g2,g3,g4,g5⟩:=iR (B:=fun self v=>aY.B0 0 self (fun z=>aY.Q0 0 (x,k,()) z) (x,k,()) v) (xs:=x) (by rw[ah];omega) KB (fun x:Change=>32*(zz am x+1)) (fun x hx k h0 h1=>by
   have hz:zz am x=(0+((0+(0+(0+(List.length x.2.1.2.2.2.1+0))))+(0+((0+(0+(0+(List.length x.2.2.2.1.2.2.2.1+0))))+0)))):=rfl
   exact ⟨_,_,by omega,by omega,⟨rfl,rfl⟩⟩) (fun i acc k self x y k' hi hx h0 h1 Y h3 hE=>by
   have hz:zz am x=(0+((0+(0+(0+(List.length x.2.1.2.2.2.1+0))))+(0+((0+(0+(0+(List.length x.2.2.2.1.2.2.2.1+0))))+0)))):=rfl
   obtain ⟨rfl,rfl⟩:=hE
   show aY.b0 _ _ _ _=_
   unfold aY.b0
   have ai:(i:Int) < (acc.length:Int):=by omega
   simp (disch:=omega) only [ai,decide_true,cond_true,Int.natCast_nonneg,and_self,if_true,Int.toNat_natCast,hx,Option.bind_some,List.length_set,fN,List.set_set,aE,dD]) (fun acc k self=>by
   show aY.b0 _ _ _ _=_
   unfold aY.b0
   simp[aY.Q0,aY.q0]) k h0 (by rw[hs];omega)
 refine ⟨k',ys,ag (k:=x.length+1) fun f hf=>(aY.aa f _).trans (g5 f (by omega)),?_,g1,by rw[hs] at g2;omega⟩
 refine ag (k:=ys.length+1) fun f hf=>(cx.aa f _).trans ?_
 exact oJ (B:=fun self v=>cx.B0 0 self (fun z=>cx.Q0 0 (ys,k,()) z) (ys,k,()) v) (by rw[ah];omega) g4 (fun i k self x y k' hi hx h0 h1 Y h3 hE=>by
   have hz:zz am x=(0+((0+(0+(0+(List.length x.2.1.2.2.2.1+0))))+(0+((0+(0+(0+(List.length x.2.2.2.1.2.2.2.1+0))))+0)))):=rfl
   obtain ⟨rfl,rfl⟩:=hE
   show cx.b0 _ _ _ _=_
   unfold cx.b0
   have ai:(i:Int) < (ys.length:Int):=by omega
   simp (disch:=omega) only [ai,decide_true,cond_true,Int.natCast_nonneg,and_self,if_true,Int.toNat_natCast,hx,Option.bind_some,aE,dD,beq_self_eq_true,Bool.not_true,cond_false,decide_false]) (fun k self=>by
   show cx.b0 _ _ _ _=_
   unfold cx.b0
   simp[cx.Q0,cx.q0]) f (by omega)
def MU (x:Int) (k:Int) (y:Int) (k':Int):Prop:=y=(k)/\k+1=k'
theorem KC (x:List Int) (k:Int) (h0:0<=k) (h1:k+32*((zz (.U i64) x:Nat):Int)<=im):∃ (k':Int) (y:List Int),a8.ab (x,k,())=some (k',y,())/\cV.ab (y,k,())=some (k',())/\k<=k'/\k'<=k+32*((zz (.U i64) x:Nat):Int):=by
 have hB:im=4611686018427387904:=rfl
 have hl:List.length x<=zz (.U i64) x:=d0 (e:=i64) x
 have hs:d8 (fun x:Int=>32*(zz i64 x+1)) x=32*zz (.U i64) x:=ku (zz i64) x
 obtain ⟨ys,k',g1,g2,g3,g4,g5⟩:=iR (B:=fun self v=>a8.B0 0 self (fun z=>a8.Q0 0 (x,k,()) z) (x,k,()) v) (xs:=x) (by rw[ah];omega) MU (fun x:Int=>32*(zz i64 x+1)) (fun x hx k h0 h1=>by
   exact ⟨_,_,by omega,by omega,⟨rfl,rfl⟩⟩) (fun i acc k self x y k' hi hx h0 h1 Y h3 hE=>by
   obtain ⟨rfl,rfl⟩:=hE
   show a8.b0 _ _ _ _=_
   unfold a8.b0
   have ai:(i:Int) < (acc.length:Int):=by omega
   simp (disch:=omega) only [ai,decide_true,cond_true,Int.natCast_nonneg,and_self,if_true,Int.toNat_natCast,hx,Option.bind_some,List.length_set,fN,List.set_set,aE,dD]) (fun acc k self=>by
   show a8.b0 _ _ _ _=_
   unfold a8.b0
   simp[a8.Q0,a8.q0]) k h0 (by rw[hs];omega)
 refine ⟨k',ys,ag (k:=x.length+1) fun f hf=>(a8.aa f _).trans (g5 f (by omega)),?_,g1,by rw[hs] at g2;omega⟩
 refine ag (k:=ys.length+1) fun f hf=>(cV.aa f _).trans ?_
 exact oJ (B:=fun self v=>cV.B0 0 self (fun z=>cV.Q0 0 (ys,k,()) z) (ys,k,()) v) (by rw[ah];omega) g4 (fun i k self x y k' hi hx h0 h1 Y h3 hE=>by
   obtain ⟨rfl,rfl⟩:=hE
   show cV.b0 _ _ _ _=_
   unfold cV.b0
   have ai:(i:Int) < (ys.length:Int):=by omega
   simp (disch:=omega) only [ai,decide_true,cond_true,Int.natCast_nonneg,and_self,if_true,Int.toNat_natCast,hx,Option.bind_some,aE,dD,beq_self_eq_true,Bool.not_true,cond_false,decide_false]) (fun k self=>by
   show cV.b0 _ _ _ _=_
   unfold cV.b0
   simp[cV.Q0,cV.q0]) f (by omega)
def PR (x:Key) (k:Int) (y:Key) (k':Int):Prop:=y=((k),(k+1),x.2.2)/\k+1+1=k'
theorem OG (x:List Key) (k:Int) (h0:0<=k) (h1:k+32*((zz (.U aC) x:Nat):Int)<=im):∃ (k':Int) (y:List Key),bs.ab (x,k,())=some (k',y,())/\dN.ab (y,k,())=some (k',())/\k<=k'/\k'<=k+32*((zz (.U aC) x:Nat):Int):=by
 have hB:im=4611686018427387904:=rfl
 have hl:List.length x<=zz (.U aC) x:=d0 (e:=aC) x
 have hs:d8 (fun x:Key=>32*(zz aC x+1)) x=32*zz (.U aC) x:=ku (zz aC) x
 obtain ⟨ys,k',g1,g2,g3,g4,g5⟩:=iR (B:=fun self v=>bs.B0 0 self (fun z=>bs.Q0 0 (x,k,()) z) (x,k,()) v) (xs:=x) (by rw[ah];omega) PR (fun x:Key=>32*(zz aC x+1)) (fun x hx k h0 h1=>by
   have hz:zz aC x=(0+(0+0)):=rfl
   exact ⟨_,_,by omega,by omega,⟨rfl,rfl⟩⟩) (fun i acc k self x y k' hi hx h0 h1 Y h3 hE=>by
   have hz:zz aC x=(0+(0+0)):=rfl
   obtain ⟨rfl,rfl⟩:=hE
   show bs.b0 _ _ _ _=_
   unfold bs.b0
   have ai:(i:Int) < (acc.length:Int):=by omega
   simp (disch:=omega) only [ai,decide_true,cond_true,Int.natCast_nonneg,and_self,if_true,Int.toNat_natCast,hx,Option.bind_some,List.length_set,fN,List.set_set,aE,dD]) (fun acc k self=>by
   show bs.b0 _ _ _ _=_
   unfold bs.b0
   simp[bs.Q0,bs.q0]) k h0 (by rw[hs];omega)
 refine ⟨k',ys,ag (k:=x.length+1) fun f hf=>(bs.aa f _).trans (g5 f (by omega)),?_,g1,by rw[hs] at g2;omega⟩
 refine ag (k:=ys.length+1) fun f hf=>(dN.aa f _).trans ?_
 exact oJ (B:=fun self v=>dN.B0 0 self (fun z=>dN.Q0 0 (ys,k,()) z) (ys,k,()) v) (by rw[ah];omega) g4 (fun i k self x y k' hi hx h0 h1 Y h3 hE=>by
   have hz:zz aC x=(0+(0+0)):=rfl
   obtain ⟨rfl,rfl⟩:=hE
   show dN.b0 _ _ _ _=_
   unfold dN.b0
   have ai:(i:Int) < (ys.length:Int):=by omega
   simp (disch:=omega) only [ai,decide_true,cond_true,Int.natCast_nonneg,and_self,if_true,Int.toNat_natCast,hx,Option.bind_some,aE,dD,beq_self_eq_true,Bool.not_true,cond_false,decide_false]) (fun k self=>by
   show dN.b0 _ _ _ _=_
   unfold dN.b0
   simp[dN.Q0,dN.q0]) f (by omega)
def RR (x:Tx) (k:Int) (y:Tx) (k':Int):Prop:=∃ (r1:Int) (y1:List Change),∃ (r2:Int) (y2:List Int),∃ (r3:Int) (y3:List Key),aY.ab (x.2.1,k+1,())=some (r1,y1,())/\cx.ab (y1,k+1,())=some (r1,())/\k+1<=r1/\r1<=k+1+32*((zz (.U am) x.2.1:Nat):Int)/\a8.ab (x.2.2.1,r1,())=some (r2,y2,())/\cV.ab (y2,r1,())=some (r2,())/\r1<=r2/\r2<=r1+32*((zz (.U i64) x.2.2.1:Nat):Int)/\bs.ab (x.2.2.2.1,r2,())=some (r3,y3,())/\dN.ab (y3,r2,())=some (r3,())/\r2<=r3/\r3<=r2+32*((zz (.U aC) x.2.2.2.1:Nat):Int)/\y=((k),y1,y2,y3,x.2.2.2.2)/\r3=k'
theorem PT (x:List Tx) (k:Int) (h0:0<=k) (h1:k+32*((zz (.U aR) x:Nat):Int)<=im):∃ (k':Int) (y:List Tx),bQ.ab (x,k,())=some (k',y,())/\eQ.ab (y,k,())=some (k',())/\k<=k'/\k'<=k+32*((zz (.U aR) x:Nat):Int):=by
 have hB:im=4611686018427387904:=rfl
 have hl:List.length x<=zz (.U aR) x:=d0 (e:=aR) x
 have hs:d8 (fun x:Tx=>32*(zz aR x+1)) x=32*zz (.U aR) x:=ku (zz aR) x
 obtain ⟨ys,k',g1,g2,g3,g4,g5⟩:=iR (B:=fun self v=>bQ.B0 0 self (fun z=>bQ.Q0 0 (x,k,()) z) (x,k,()) v) (xs:=x) (by rw[ah];omega) RR (fun x:Tx=>32*(zz aR x+1)) (fun x hx k h0 h1=>by
   have hz:zz aR x=(0+(zz (.U am) x.2.1+(zz (.U i64) x.2.2.1+(zz (.U aC) x.2.2.2.1+0)))):=rfl
   obtain ⟨r1,y1,e1,f1,g1,i1⟩:=IX x.2.1 (k+1) (by omega) (by omega)
   obtain ⟨r2,y2,e2,f2,g2,i2⟩:=KC x.2.2.1 (r1) (by omega) (by omega)
   obtain ⟨r3,y3,e3,f3,g3,i3⟩:=OG x.2.2.2.1 (r2) (by omega) (by omega)
   exact ⟨_,_,by omega,by omega,⟨r1,y1,r2,y2,r3,y3,e1,f1,g1,i1,e2,f2,g2,i2,e3,f3,g3,i3,rfl,rfl⟩⟩) (fun i acc k self x y k' hi hx h0 h1 Y h3 hE=>by
   have hz:zz aR x=(0+(zz (.U am) x.2.1+(zz (.U i64) x.2.2.1+(zz (.U aC) x.2.2.2.1+0)))):=rfl
   obtain ⟨r1,y1,r2,y2,r3,y3,e1,f1,g1,i1,e2,f2,g2,i2,e3,f3,g3,i3,rfl,rfl⟩:=hE
   show bQ.b0 _ _ _ _=_
   unfold bQ.b0
   have ai:(i:Int) < (acc.length:Int):=by omega
   simp (disch:=omega) only [ai,decide_true,cond_true,Int.natCast_nonneg,and_self,if_true,Int.toNat_natCast,hx,Option.bind_some,List.length_set,fN,List.set_set,aE,dD,e1,e2,e3]) (fun acc k self=>by
   show bQ.b0 _ _ _ _=_
   unfold bQ.b0
   simp[bQ.Q0,bQ.q0]) k h0 (by rw[hs];omega)
 refine ⟨k',ys,ag (k:=x.length+1) fun f hf=>(bQ.aa f _).trans (g5 f (by omega)),?_,g1,by rw[hs] at g2;omega⟩
 refine ag (k:=ys.length+1) fun f hf=>(eQ.aa f _).trans ?_
 exact oJ (B:=fun self v=>eQ.B0 0 self (fun z=>eQ.Q0 0 (ys,k,()) z) (ys,k,()) v) (by rw[ah];omega) g4 (fun i k self x y k' hi hx h0 h1 Y h3 hE=>by
   have hz:zz aR x=(0+(zz (.U am) x.2.1+(zz (.U i64) x.2.2.1+(zz (.U aC) x.2.2.2.1+0)))):=rfl
   obtain ⟨r1,y1,r2,y2,r3,y3,e1,f1,g1,i1,e2,f2,g2,i2,e3,f3,g3,i3,rfl,rfl⟩:=hE
   show eQ.b0 _ _ _ _=_
   unfold eQ.b0
   have ai:(i:Int) < (ys.length:Int):=by omega
   have n1:¬ r1 < 0:=by omega
   have n2:¬ r2 < 0:=by omega
   have n3:¬ r3 < 0:=by omega
   simp (disch:=omega) only [ai,decide_true,cond_true,Int.natCast_nonneg,and_self,if_true,Int.toNat_natCast,hx,Option.bind_some,aE,dD,beq_self_eq_true,Bool.not_true,cond_false,decide_false,f1,n1,f2,n2,f3,n3]) (fun k self=>by
   show eQ.b0 _ _ _ _=_
   unfold eQ.b0
   simp[eQ.Q0,eQ.q0]) f (by omega)
theorem MV (x:eZ) (k:Int) (h0:0<=k) (h1:k+32*((zz co x:Nat):Int)<=im):∃ (k':Int) (y:eZ),di.ab (x,k,())=some (k',y,())/\iq.ab (y,k,())=some (k',())/\k<=k'/\k'<=k+32*((zz co x:Nat):Int):=by
 have hB:im=4611686018427387904:=rfl
 have hz:zz co x=(0+(zz (.U (.U u8)) x.2.1+((zz (.U u8) x.2.2.1.1+(zz (.U u8) x.2.2.1.2.1+0))+(zz (.U aR) x.2.2.2.1+(0+0))))):=rfl
 obtain ⟨k1,y1,e1,f1,g1,i1⟩:=KA x.2.1 k (by omega) (by omega)
 have n1:¬ k1 < 0:=by omega
 have vy:zz cD x.2.2.1=(zz (.U u8) x.2.2.1.1+(zz (.U u8) x.2.2.1.2.1+0)):=rfl
 obtain ⟨k2,y2,e2,f2,g2,i2⟩:=PP x.2.2.1 k1 (by omega) (by omega)
 have n2:¬ k2 < 0:=by omega
 obtain ⟨k3,y3,e3,f3,g3,i3⟩:=PT x.2.2.2.1 k2 (by omega) (by omega)
 have n3:¬ k3 < 0:=by omega
 refine ⟨k3,(x.1,y1,y2,y3,x.2.2.2.2.1,x.2.2.2.2.2),ag (k:=0) fun f _=>(di.aa f _).trans ?_,ag (k:=0) fun f _=>(iq.aa f _).trans ?_,by omega,by omega⟩
 ·show di.p _=_
  unfold di.p
  simp only[e1,e2,e3,Option.bind_some]
 ·show iq.p _=_
  unfold iq.p
  simp only[f1,f2,f3,n1,n2,n3,Option.bind_some,decide_false,cond_false]
theorem Bc (x:fW) (k:Int) (h0:0<=k) (h1:k+32*((zz cQ x:Nat):Int)<=im):∃ (k':Int) (y:fW),eP.ab (x,k,())=some (k',y,())/\dW.ab (y,k,())=some (k',())/\k<=k'/\k'<=k+32*((zz cQ x:Nat):Int):=by
 have hB:im=4611686018427387904:=rfl
 have hz:zz cQ x=(0+(0+((0+(zz (.U (.U u8)) x.2.2.1.2.1+((zz (.U u8) x.2.2.1.2.2.1.1+(zz (.U u8) x.2.2.1.2.2.1.2.1+0))+(zz (.U aR) x.2.2.1.2.2.2.1+(0+0)))))+0))):=rfl
 have s9:zz co x.2.2.1=(0+(zz (.U (.U u8)) x.2.2.1.2.1+((zz (.U u8) x.2.2.1.2.2.1.1+(zz (.U u8) x.2.2.1.2.2.1.2.1+0))+(zz (.U aR) x.2.2.1.2.2.2.1+(0+0))))):=rfl
 obtain ⟨k1,y1,e1,f1,g1,i1⟩:=MV x.2.2.1 k (by omega) (by omega)
 have n1:¬ k1 < 0:=by omega
 refine ⟨k1,(x.1,x.2.1,y1,x.2.2.2),ag (k:=0) fun f _=>(eP.aa f _).trans ?_,ag (k:=0) fun f _=>(dW.aa f _).trans ?_,by omega,by omega⟩
 ·show eP.p _=_
  unfold eP.p
  simp only[e1,Option.bind_some]
 ·show dW.p _=_
  unfold dW.p
  simp only[f1,n1,Option.bind_some,decide_false,cond_false]
end OT
set_option linter.unusedVariables false
set_option linter.unusedSimpArgs false
namespace OT
open Go
theorem ir (a b c:Int):aP.ab (a,b,c,())=some (decide (b<=a)&&decide (a<=c),()):=by
 refine ag (k:=0) fun k _=>(aP.aa k _).trans ?_
 show aP.p _=_
 unfold aP.p
 by_cases h:b<=a <;> simp[h]
theorem lk (a b c:Int):b_.ab (a,b,c,())=some (decide (b<=a)&&decide (a<=c),()):=by
 refine ag (k:=0) fun k _=>(b_.aa k _).trans ?_
 show b_.p _=_
 unfold b_.p
 by_cases h:b<=a <;> simp[h]
theorem Fq (a:Int):jC.ab (a,())=some (decide (1<=a)&&decide (a<=99),()):=by
 refine ag (k:=0) fun k _=>(jC.aa k _).trans ?_
 show jC.p _=_
 unfold jC.p
 simp[lk]
def ct (a b c:Int):Bool:=decide (b<=a)&&decide (a<=c)
theorem nY (s:List UInt8) (h:s.length<=200000000000):eX.ab (s,())=some (s,()):=by
 refine ag (k:=0) fun k _=>(eX.aa k _).trans ?_
 show eX.p _=_
 unfold eX.p
 have:([]:List UInt8).length+s.length<=bf:=cA (by simpa using h)
 rw[if_pos this,List.nil_append]
theorem nS (s:List UInt8) (h:s.length<=200000000000):cL.ab (s,())=some (s,()):=by
 refine ag (k:=0) fun k _=>(cL.aa k _).trans ?_
 show cL.p _=_
 unfold cL.p
 have:([]:List UInt8).length+s.length<=bf:=cA (by simpa using h)
 rw[if_pos this,List.nil_append]
theorem eA {S O α:Type} {g:S->α->S} {fin:S->O}:∀ (xs:List α) (i:Nat) (s:S),aW (fun _ s x=>.inr (g s x)) fin i xs s=fin (xs.foldl g s)
 | [],_,_=>rfl
 | x::xs,i,s=>by simp only[aW,List.foldl_cons];exact eA xs _ _
theorem Az {α:Type}:∀ (xs s:List α),xs.foldl (fun s x=>s++[x]) s=s++xs
 | [],s=>by simp
 | x::xs,s=>by rw[List.foldl_cons,Az];simp
abbrev gj:Type:=List (List UInt8)
def gp (ps:gj):Prop:=ps.length<=12/\∀ p ∈ ps,p.length=64
def uj:List UInt8:=((List.replicate 64 (0:UInt8)).set 0 0).set 1 64
theorem xv:uj.length=64:=by simp[uj]
theorem Bd (ps:gj) (h:gp ps):gB.ab (ps,())=some (ps,()):=by
 obtain ⟨h1,Y⟩:=h
 refine ag (k:=14) fun k hk=>(gB.aa k _).trans ?_
 have:=bH (B:=fun self v=>gB.B0 0 self (fun z=>gB.Q0 0 (ps,()) z) (ps,()) v) ps (fun (s:gj) (i:Int)=>(s,i)) (fun _ s x=>.inr (s++[x])) (fun s=>(s,())) (fun i s=>s.length=i) (by rw[ah];omega)
  (fun i hi s self hI=>by
   show gB.b0 _ _ _ _=_
   unfold gB.b0
   have ai:(i:Int) < (ps.length:Int):=by omega
   have hx:=Y ps[i] (List.getElem_mem hi)
   simp only[ai,decide_true,cond_true,Int.natCast_nonneg,if_true,Int.toNat_natCast,List.getElem?_eq_getElem hi,Option.bind_some]
   rw[nS _ (by omega)]
   have hc:s.length+[ps[i]].length<=bf:=cA (by simp only[List.length_cons,List.length_nil];omega)
   simp only[Option.bind_some,hc,if_true])
  (fun i hi s s' hI hs=>by injection hs with hs;rw[<-hs];simp[hI]) (fun s self hI=>by
   show gB.b0 _ _ _ _=_
   unfold gB.b0
   simp only[Int.lt_irrefl,decide_false,cond_false]
   rfl) [] rfl k (by omega)
 rw[eA,Az] at this
 exact this
end OT
set_option linter.unusedVariables false
set_option linter.unusedSimpArgs false
namespace OT
open Go
def pc (c:UInt8):Bool:=!decide ((c.toNat:Int) < 97)&&!decide ((122:Int) < (c.toNat:Int))
def wD (s:List UInt8):Bool:=s.all pc&&decide (s.length<=8)
def h_ (x:Row):Int:=if ct x.1 0 3&&(ct x.2.1 1 99&&ct x.2.2.1 0 999) then (if wD x.2.2.2.1 then 0 else 5) else 3
theorem len8 (s:List UInt8):decide ((s.length:Int)<=8)=decide (s.length<=8):=by
 by_cases h:s.length<=8
 ·have:(s.length:Int)<=8:=by omega
  simp[h,this]
 ·have:¬ (s.length:Int)<=8:=by omega
  simp[h,this]
theorem Ek (s:List UInt8) (h:s.length<=maxLen):fx.ab (s,())=some (wD s,()):=by
 refine ag (k:=s.length+1) fun k hk=>(fx.aa k _).trans ?_
 have:=bH (B:=fun self v=>fx.B0 0 self (fun z=>fx.Q0 0 (s,()) z) (s,()) v) s (fun (_:Unit) (i:Int)=>i) (fun _ _ x=>if pc x then .inr () else .inl (false,())) (fun _=>(decide (s.length<=8),())) (fun _ _=>True) h
  (fun i hi _ self _=>by
   show fx.b0 _ _ _ _=_
   unfold fx.b0
   have ai:(i:Int) < (s.length:Int):=by omega
   simp only[ai,decide_true,cond_true,Int.natCast_nonneg,if_true,Int.toNat_natCast,List.getElem?_eq_getElem hi,Option.bind_some]
   unfold pc
   by_cases h1:((s[i].toNat:Int) < 97) <;> by_cases Y:((122:Int) < (s[i].toNat:Int)) <;> simp[h1,Y]) (fun _ _ _ _ _ _=>trivial) (fun _ self _=>by
   show fx.b0 _ _ _ _=_
   unfold fx.b0
   simp[fx.Q0,fx.q0,len8]) () trivial k (by omega)
 refine this.trans ?_
 rw[kY pc (false,()) (fun _=>(decide (s.length<=8),()))]
 unfold wD
 cases s.all pc <;> rfl
theorem qO (x:Row) (h:List.length x.2.2.2.1<=maxLen):dt.ab (x,())=some (h_ x,()):=by
 refine ag (k:=0) fun k _=>(dt.aa k _).trans ?_
 show dt.p _=_
 unfold dt.p h_ ct
 simp only[ir,Ek _ h,Option.bind_some]
 cases decide ((0:Int)<=x.1) <;> cases decide (x.1<=3) <;> cases decide ((1:Int)<=x.2.1) <;> cases decide (x.2.1<=99) <;> cases decide ((0:Int)<=x.2.2.1) <;> cases decide (x.2.2.1<=999) <;> cases wD x.2.2.2.1 <;> rfl
theorem qP (x:Row) (h:List.length x.2.2.2.1<=maxLen):bv.ab (x,())=some (h_ x,()):=by
 refine ag (k:=List.length x.2.2.2.1+1) fun k hk=>(bv.aa k _).trans ?_
 have:=bH (B:=fun self v=>bv.B0 0 self (fun z=>bv.Q0 0 (x,()) z) (x,()) v) x.2.2.2.1 (fun (_:Unit) (i:Int)=>i) (fun _ _ c=>if pc c then .inr () else .inl (5,())) (fun _=>(0,())) (fun _ _=>True) h
  (fun i hi _ self _=>by
   show bv.b0 _ _ _ _=_
   unfold bv.b0
   have ai:(i:Int) < (List.length x.2.2.2.1:Int):=by omega
   simp only[ai,decide_true,cond_true,Int.natCast_nonneg,if_true,Int.toNat_natCast,List.getElem?_eq_getElem hi,Option.bind_some]
   unfold pc
   by_cases h1:(((x.2.2.2.1)[i].toNat:Int) < 97) <;> by_cases Y:((122:Int) < ((x.2.2.2.1)[i].toNat:Int)) <;> simp[h1,Y]) (fun _ _ _ _ _ _=>trivial) (fun _ self _=>by
   show bv.b0 _ _ _ _=_
   unfold bv.b0
   simp[bv.Q0,bv.q0]) () trivial k (by omega)
 rw[kY pc (5,()) (fun _=>(0,()))] at this
 have this:bv.r0 k (x,()) 0=_:=this
 unfold bv.p h_ ct wD
 simp only[lk,this,Option.bind_some]
 have h8:decide ((8:Int) < (List.length x.2.2.2.1:Int))=!decide (List.length x.2.2.2.1<=8):=by
  by_cases hc:List.length x.2.2.2.1<=8
  ·have:¬ (8:Int) < (List.length x.2.2.2.1:Int):=by omega
   simp[hc,this]
  ·have:(8:Int) < (List.length x.2.2.2.1:Int):=by omega
   simp[hc,this]
 rw[h8]
 cases decide ((0:Int)<=x.1) <;> cases decide (x.1<=3) <;> cases decide ((1:Int)<=x.2.1) <;> cases decide (x.2.1<=99) <;> cases decide ((0:Int)<=x.2.2.1) <;> cases decide (x.2.2.1<=999) <;> cases decide (List.length x.2.2.2.1<=8) <;> cases (x.2.2.2.1).all pc <;> rfl
def rl (x:Row):Prop:=List.length x.2.2.2.1<=maxLen
def cl (c:Change):Prop:=rl c.2.1/\rl c.2.2.2.1
def sameKey (a b:Row):Bool:=decide (a.1=b.1)&&decide (a.2.1=b.2.1)
def bU (a b:Int×Int):Bool:=decide (a.1 < b.1)||(decide (a.1=b.1)&&decide (a.2 < b.2))
def mL (c:Change):Int:=if (!c.1&&!c.2.2.1)||(c.1&&c.2.2.1&&!sameKey c.2.1 c.2.2.2.1) then 1 else if c.1&&!decide (h_ c.2.1=0) then h_ c.2.1 else if c.2.2.1 then h_ c.2.2.2.1 else 0
def yM (c:Change):Int:=if mL c=0 then (if c.1&&c.2.2.1&&Ty.eq aF c.2.1 c.2.2.2.1 then 1 else 0) else mL c
def ck (c:Change):Int×Int:=if c.2.2.1 then (c.2.2.2.1.1,c.2.2.2.1.2.1) else (c.2.1.1,c.2.1.2.1)
theorem Be (c:Change) (h:cl c):iU.ab (c,())=some (mL c,()):=by
 refine ag (k:=0) fun k _=>(iU.aa k _).trans ?_
 show iU.p _=_
 unfold iU.p mL sameKey
 simp only[qO _ h.1,qO _ h.2,Option.bind_some]
 cases c.1 <;> cases c.2.2.1 <;> by_cases h1:c.2.1.1=c.2.2.2.1.1 <;> by_cases Y:c.2.1.2.1=c.2.2.2.1.2.1 <;> by_cases h3:h_ c.2.1=0 <;> simp[h1,Y,h3]
theorem sO (a b:Row):dJ.ab (a,b,())=some (bU (a.1,a.2.1) (b.1,b.2.1),()):=by
 refine ag (k:=0) fun k _=>(dJ.aa k _).trans ?_
 show dJ.p _=_
 unfold dJ.p bU
 by_cases h1:a.1 < b.1 <;> by_cases Y:a.1=b.1 <;> simp[h1,Y]
theorem uk (a b:Row):fe.ab (a,b,())=some (if bU (a.1,a.2.1) (b.1,b.2.1) then -1 else if bU (b.1,b.2.1) (a.1,a.2.1) then 1 else 0,()):=by
 refine ag (k:=0) fun k _=>(fe.aa k _).trans ?_
 show fe.p _=_
 unfold fe.p
 simp only[sO,Option.bind_some]
 cases bU (a.1,a.2.1) (b.1,b.2.1) <;> cases bU (b.1,b.2.1) (a.1,a.2.1) <;> rfl
theorem yN (a b:Row):decide ((if bU (a.1,a.2.1) (b.1,b.2.1) then (-1:Int) else if bU (b.1,b.2.1) (a.1,a.2.1) then 1 else 0)=0)=sameKey a b:=by
 unfold bU sameKey
 by_cases h1:a.1 < b.1
 ·have:¬ a.1=b.1:=by omega
  simp[h1,this]
 ·by_cases Y:a.1=b.1
  ·by_cases h3:a.2.1 < b.2.1
   ·have:¬ a.2.1=b.2.1:=by omega
    simp[Y,h3,this]
   ·by_cases h4:b.2.1 < a.2.1
    ·have:¬ a.2.1=b.2.1:=by omega
     simp[Y,h3,h4,this]
    ·have:a.2.1=b.2.1:=by omega
     simp[Y,this]
  ·have:b.1 < a.1:=by omega
   simp[h1,Y,this]
theorem uP (c:Change) (h:cl c):ej.ab (c,())=some (mL c,()):=by
 refine ag (k:=0) fun k _=>(ej.aa k _).trans ?_
 show ej.p _=_
 unfold ej.p mL
 simp only[qP _ h.1,qP _ h.2,uk,Option.bind_some,yN]
 cases c.1 <;> cases c.2.2.1 <;> cases sameKey c.2.1 c.2.2.2.1 <;> by_cases h3:h_ c.2.1=0 <;> simp[h3]
theorem zX (c:Change) (h:cl c):iV.ab (c,())=some (yM c,()):=by
 refine ag (k:=0) fun k _=>(iV.aa k _).trans ?_
 show iV.p _=_
 unfold iV.p yM
 simp only[Be c h,Option.bind_some]
 by_cases h1:mL c=0
 ·simp only[h1,decide_true,Bool.not_true,cond_false,if_true]
  cases c.1 <;> cases c.2.2.1 <;> cases Ty.eq aF c.2.1 c.2.2.2.1 <;> rfl
 ·simp[h1]
theorem IY (c:Change) (h:cl c):gw.ab (c,())=some (yM c,()):=by
 refine ag (k:=0) fun k _=>(gw.aa k _).trans ?_
 show gw.p _=_
 unfold gw.p yM
 simp only[uP c h,Option.bind_some]
 by_cases h1:mL c=0
 ·simp only[h1,decide_true,Bool.not_true,cond_false,if_true]
  cases c.1 <;> cases c.2.2.1 <;> cases Ty.eq aF c.2.1 c.2.2.2.1 <;> rfl
 ·simp[h1]
theorem yO (c:Change):iz.ab (c,())=some ((ck c).1,(ck c).2,()):=by
 refine ag (k:=0) fun k _=>(iz.aa k _).trans ?_
 show iz.p _=_
 unfold iz.p ck
 cases c.2.2.1 <;> rfl
def td (c:Change):Row:=if c.2.2.1 then c.2.2.2.1 else c.2.1
theorem AA (c:Change):((td c).1,(td c).2.1)=ck c:=by unfold td ck;cases c.2.2.1 <;> rfl
theorem ul (c:Change):cT.ab (c,())=some (td c,()):=by
 refine ag (k:=0) fun k _=>(cT.aa k _).trans ?_
 show cT.p _=_
 unfold cT.p td
 cases c.2.2.1 <;> rfl
theorem G5 (n:Nat) (m:Nat):decide ((m:Int) < (n:Int))=decide (m < n):=by
 by_cases h:m < n
 ·have:(m:Int) < (n:Int):=by omega
  simp[h,this]
 ·have:¬ (m:Int) < (n:Int):=by omega
  simp[h,this]
theorem yP {i:Nat} (hi:0 < i) (h:i<=maxLen):ae ((i:Int) - 1)=((i - 1:Nat):Int):=by
 rw[ah] at h
 rw[aE (by omega)];omega
theorem G6 {x:Row} (h:mI aF x):rl x:=h.2.2.2.1
theorem PU {c:Change} (h:mI am c):cl c:=⟨G6 h.2.1,G6 h.2.2.2.1⟩
end OT
set_option linter.unusedVariables false
set_option linter.unusedSimpArgs false
namespace OT
open Go
theorem bK {V S O α:Type} {B:(V->Option O)->V->Option O} (xs:List α) (enc:S->Int->V) (f:Nat->S->α->Sum (Option O) S) (fin:S->Option O) (I:Nat->S->Prop) (qp:xs.length<=maxLen)
  (dY:∀ (i:Nat) (hi:i < xs.length) (s:S) self,I i s->B self (enc s (i:Int))=match f i s xs[i] with | .inl o=>o | .inr s'=>self (enc s' (ae ((i:Int)+1))))
  (hI:∀ (i:Nat) (hi:i < xs.length) (s s':S),I i s->f i s xs[i]=.inr s'->I (i+1) s')
  (ja:∀ (s:S) self,I xs.length s->B self (enc s (xs.length:Int))=fin s) (s:S) (h0:I 0 s):∀ k,xs.length < k->ak B k (enc s 0)=aW f fin 0 xs s:=by
 have main:∀ (m i:Nat) (s:S),xs.length - i=m->i<=xs.length->I i s->∀ k,m < k->ak B k (enc s (i:Int))=aW f fin i (xs.drop i) s:=by
  intro m
  induction m with
  | zero=>
   intro i s hm hi hs k hk
   have fj:i=xs.length:=by omega
   subst fj
   cases k with
   | zero=>omega
   | succ k=>
    show B (ak B k) _=_
    rw[ja s _ hs]
    simp[aW]
  | succ m ih=>
   intro i s hm hi hs k hk
   have ai:i < xs.length:=by omega
   cases k with
   | zero=>omega
   | succ k=>
    show B (ak B k) _=_
    rw[dY i ai s _ hs,List.drop_eq_getElem_cons ai]
    simp only[aW]
    cases hf:f i s xs[i] with
    | inl o=>rfl
    | inr s'=>
     have hw:ae ((i:Int)+1)=((i+1:Nat):Int):=by rw[aE (by rw[ah] at qp;omega)];omega
     simp only[hw]
     exact ih (i+1) s' (by omega) (by omega) (hI i ai s s' hs hf) k (by omega)
 intro k hk
 simpa using main xs.length 0 s (by omega) (by omega) h0 k hk
theorem pH {O α:Type} (p:α->Bool) (a:O) (fin:Unit->O):∀ (xs:List α) (i:Nat),aW (fun _ _ x=>if p x then .inl a else .inr ()) fin i xs ()=if xs.any p then a else fin ()
 | [],_=>rfl
 | x::xs,i=>by
  simp only[aW,List.any_cons]
  by_cases h:p x=true
  ·simp[h]
  ·simp[h,pH p a fin xs (i+1)]
def tf {α:Type} (p:α->Bool):Nat->List α->Int
 | _,[]=>-1
 | i,x::xs=>if p x then (i:Int) else tf p (i+1) xs
theorem yQ {α:Type} (p:α->Bool):∀ (xs:List α) (i:Nat),aW (fun i _ x=>if p x then .inl ((i:Int),()) else .inr ()) (fun _=>((-1:Int),())) i xs ()=(tf p i xs,())
 | [],_=>rfl
 | x::xs,i=>by
  simp only[aW,tf]
  by_cases h:p x=true
  ·simp[h]
  ·simp[h,yQ p xs (i+1)]
theorem AB {α:Type} (p:α->Bool):∀ (xs:List α) (i:Nat),decide (0<=tf p i xs)=xs.any p
 | [],_=>rfl
 | x::xs,i=>by
  simp only[tf,List.any_cons]
  by_cases h:p x=true
  ·simp[h]
  ·simp[h,AB p xs (i+1)]
theorem um (a b:Key):Ty.eq aC a b=decide (a=b):=by
 obtain ⟨a1,a2,⟨⟩⟩:=a
 obtain ⟨b1,b2,⟨⟩⟩:=b
 show (decide (a1=b1)&&(decide (a2=b2)&&true))=decide ((a1,a2,())=(b1,b2,()))
 by_cases h1:a1=b1 <;> by_cases Y:a2=b2 <;> simp[h1,Y]
def tg (c:Change):Key:=((ck c).1,(ck c).2,())
def dp (ks:List Key) (k:Key):Bool:=ks.any fun x=>decide (x=k)
theorem kG {ks:List Key} {k:Key}:dp ks k=true↔k ∈ ks:=by simp[dp]
def pT (k:Key):Bool:=ct k.1 0 3&&ct k.2.1 1 99
theorem Df (c:Change):iW.ab (c,())=some (tg c,()):=by
 refine ag (k:=0) fun k _=>(iW.aa k _).trans ?_
 show iW.p _=_
 unfold iW.p
 simp only[yO,Option.bind_some]
 rfl
theorem MW (c:Change):gx.ab (c,())=some (tg c,()):=by
 refine ag (k:=0) fun k _=>(gx.aa k _).trans ?_
 show gx.p _=_
 unfold gx.p tg
 simp only[ul,Option.bind_some,<- AA]
theorem El (x:Key):ko.ab (x,())=some (pT x,()):=by
 refine ag (k:=0) fun k _=>(ko.aa k _).trans ?_
 show ko.p _=_
 unfold ko.p pT ct
 simp only[ir,Option.bind_some]
 cases decide ((0:Int)<=x.1) <;> cases decide (x.1<=3) <;> rfl
theorem KD (x:Key):lh.ab (x.1,x.2.1,())=some (pT x,()):=by
 refine ag (k:=0) fun k _=>(lh.aa k _).trans ?_
 show lh.p _=_
 unfold lh.p pT ct
 simp only[lk,Option.bind_some]
 cases decide ((0:Int)<=x.1) <;> cases decide (x.1<=3) <;> rfl
theorem Dg (x:Tx) (k0:Key) (h:List.length x.2.2.2.1<=maxLen):dF.ab (x,k0,())=some (dp x.2.2.2.1 k0,()):=by
 refine ag (k:=List.length x.2.2.2.1+1) fun k hk=>(dF.aa k _).trans ?_
 have:=bH (B:=fun self v=>dF.B0 0 self (fun z=>dF.Q0 0 (x,k0,()) z) (x,k0,()) v) x.2.2.2.1 (fun (_:Unit) (i:Int)=>i) (fun _ _ y=>if decide (y=k0) then .inl (true,()) else .inr ()) (fun _=>(false,())) (fun _ _=>True) h
  (fun i hi s self _=>by
   show dF.b0 _ _ _ _=_
   unfold dF.b0
   have ai:(i:Int) < (List.length x.2.2.2.1:Int):=by omega
   simp only[ai,decide_true,cond_true,Int.natCast_nonneg,if_true,Int.toNat_natCast,List.getElem?_eq_getElem hi,Option.bind_some,um]
   by_cases hh:(x.2.2.2.1)[i]=k0
   ·simp only[hh,decide_true,cond_true,if_true]
   ·simp only[hh,decide_false,cond_false,Bool.false_eq_true,if_false])
  (fun _ _ _ _ _ _=>trivial) (fun s self _=>by
   show dF.b0 _ _ _ _=_
   unfold dF.b0
   simp only[Int.lt_irrefl,decide_false,cond_false]
   rfl) () trivial k (by omega)
 rw[pH] at this
 refine Eq.trans this ?_
 unfold dp
 cases x.2.2.2.1.any (fun y=>decide (y=k0)) <;> rfl
theorem contains_eq (ks:List Key) (k0:Key) (h:ks.length<=maxLen):et.ab (ks,k0,())=some (dp ks k0,()):=by
 have Fc:dK.ab (ks,k0,())=some (tf (fun y=>decide (k0=y)) 0 ks,()):=by
  refine ag (k:=ks.length+1) fun k hk=>(dK.aa k _).trans ?_
  have:=bH (B:=fun self v=>dK.B0 0 self (fun z=>dK.Q0 0 (ks,k0,()) z) (ks,k0,()) v) ks (fun (_:Unit) (i:Int)=>i) (fun i _ y=>if decide (k0=y) then .inl ((i:Int),()) else .inr ()) (fun _=>((-1:Int),())) (fun _ _=>True) h
   (fun i hi s self _=>by
    show dK.b0 _ _ _ _=_
    unfold dK.b0
    have ai:(i:Int) < (ks.length:Int):=by omega
    simp only[ai,decide_true,cond_true,Int.natCast_nonneg,if_true,Int.toNat_natCast,List.getElem?_eq_getElem hi,Option.bind_some,um]
    by_cases hh:k0=ks[i]
    ·simp only[<-hh,decide_true,cond_true,if_true]
    ·simp only[hh,decide_false,cond_false,Bool.false_eq_true,if_false])
   (fun _ _ _ _ _ _=>trivial) (fun s self _=>by
    show dK.b0 _ _ _ _=_
    unfold dK.b0
    simp only[Int.lt_irrefl,decide_false,cond_false]
    rfl) () trivial k (by omega)
  rw[yQ] at this
  exact this
 refine ag (k:=0) fun k _=>(et.aa k _).trans ?_
 show et.p _=_
 unfold et.p
 rw[Fc]
 simp only[Option.bind_some,AB]
 congr 2
 unfold dp
 congr 1
 funext y
 by_cases hh:k0=y
 ·simp[hh]
 ·have:¬ y=k0:=fun e=>hh e.symm
  simp[hh,this]
def tl (x:Tx):Prop:=List.length x.2.1<=1048576/\List.length x.2.2.1<=1048576/\List.length x.2.2.2.1<=1048576/\∀ c ∈ x.2.1,cl c
def pU (ks:List Key) (c:Change):Int:=if yM c=0 then (if dp ks (tg c) then 0 else 8) else yM c
def yR (n last:Int) (ms:List Int):Bool:=aW (fun _ last m=>if ct m last n then .inr m else .inl false) (fun _=>true) 0 ms last
def j9 (ks:List Key) (i:Nat) (k:Key):Int:=if pT k then (if dp (ks.take i) k then 6 else 0) else 3
def pe (ks:List Key):Int:=aW (fun i (_:Unit) k=>if j9 ks i k=0 then .inr () else .inl (j9 ks i k)) (fun _=>(0:Int)) 0 ks ()
def mw (x:Tx):Int:=if decide (8 < List.length x.2.2.1)||decide (12 < List.length x.2.2.2.1) then 2 else if yR (List.length x.2.1:Int) 0 x.2.2.1 then pe x.2.2.2.1 else 3
def su (x:Tx):Int:=ip (pU x.2.2.2.1) x.2.1
theorem Dh (n:Int) (E:Option (Int×Unit)):∀ (ms:List Int) (i:Nat) (last:Int),aW (fun _ last m=>if ct m last n then .inr m else .inl (some ((3:Int),()))) (fun _=>E) i ms last=if aW (fun _ last m=>if ct m last n then .inr m else .inl false) (fun _=>true) i ms last then E else some ((3:Int),())
 | [],_,_=>rfl
 | m::ms,i,last=>by
  simp only[aW]
  by_cases hb:ct m last n=true
  ·simp only[hb,if_true];exact Dh n E ms _ _
  ·simp[hb]
theorem Em (x:Tx) (h:tl x):fQ.ab (x,())=some (su x,()):=by
 obtain ⟨h1,Y,h3,h4⟩:=h
 refine ag (k:=List.length x.2.1+1) fun k hk=>(fQ.aa k _).trans ?_
 have:=bH (B:=fun self v=>fQ.B0 0 self (fun z=>fQ.Q0 0 (x,()) z) (x,()) v) x.2.1 (fun (_:Unit) (i:Int)=>i) (fun _ _ c=>if pU x.2.2.2.1 c=0 then .inr () else .inl (pU x.2.2.2.1 c,())) (fun _=>(0,())) (fun _ _=>True) (by rw[ah];omega)
  (fun i hi s self _=>by
   show fQ.b0 _ _ _ _=_
   unfold fQ.b0
   have ai:(i:Int) < (List.length x.2.1:Int):=by omega
   simp only[ai,decide_true,cond_true,Int.natCast_nonneg,if_true,Int.toNat_natCast,List.getElem?_eq_getElem hi,Option.bind_some,zX _ (h4 _ (List.getElem_mem hi)),Df]
   rw[Dg x _ (by rw[ah];omega)]
   unfold pU
   by_cases hc:yM (x.2.1)[i]=0
   ·simp only[hc,decide_true,Bool.not_true,cond_false,if_true,Option.bind_some]
    cases dp x.2.2.2.1 (tg (x.2.1)[i]) <;> rfl
   ·simp only[hc,decide_false,Bool.not_false,cond_true,if_false])
  (fun _ _ _ _ _ _=>trivial) (fun s self _=>by
   show fQ.b0 _ _ _ _=_
   unfold fQ.b0
   simp only[Int.lt_irrefl,decide_false,cond_false]
   rfl) () trivial k (by omega)
 rw[qI (pU x.2.2.2.1) (fun c=>(c,())) (fun _=>((0:Int),()))] at this
 refine Eq.trans this ?_
 unfold su
 split
 ·rename_i h0;rw[h0]
 ·rfl
theorem KE {m last n:Int} (h:0<=last):(ct m 0 n&&decide (last<=m))=ct m last n:=by
 unfold ct
 by_cases h1:last<=m
 ·have:(0:Int)<=m:=by omega
  simp[h1,this]
 ·simp[h1]
theorem Di (x:Tx) (h:tl x):bc.ab (x,())=some (mw x,()):=by
 obtain ⟨h1,Y,h3,h4⟩:=h
 refine ag (k:=20) fun k hk=>(bc.aa k _).trans ?_
 unfold bc.p mw
 by_cases hm:8 < List.length x.2.2.1
 ·have:(8:Int) < (List.length x.2.2.1:Int):=by omega
  simp only[this,hm,decide_true,cond_true,Bool.true_or,if_true]
  (try rfl)
 have wO:¬ (8:Int) < (List.length x.2.2.1:Int):=by omega
 by_cases gD:12 < List.length x.2.2.2.1
 ·have:(12:Int) < (List.length x.2.2.2.1:Int):=by omega
  simp only[this,hm,wO,gD,decide_true,decide_false,cond_true,cond_false,Bool.false_or,if_true]
  (try rfl)
 have rJ:¬ (12:Int) < (List.length x.2.2.2.1:Int):=by omega
 simp only[hm,wO,rJ,gD,decide_false,cond_false,Bool.or_self,Bool.false_eq_true,if_false]
 have second:bc.r1 k (x,()) (x,(0:Int))=some (pe x.2.2.2.1,()):=by
  have inner:∀ (self:(Tx×Int)->Option bc.Out) (e2:Unit->Option bc.Out) (i:Nat) (hi:i < List.length x.2.2.2.1),bc.r2 k self e2 (x,()) x (i:Int) (0:Int)=if dp (x.2.2.2.1.take i) (x.2.2.2.1)[i] then some ((6:Int),()) else self (x,ae ((i:Int)+1)):=fun self e2 i hi=>by
   have eD:(x.2.2.2.1.take i).length=i:=by simp;omega
   have:=bK (B:=fun cn v=>bc.B2 k cn (fun z=>bc.Q1 k self e2 (x,()) x (i:Int) z) (x,()) x (i:Int) v) (x.2.2.2.1.take i) (fun (_:Unit) (j:Int)=>j) (fun _ _ y=>if decide (y=(x.2.2.2.1)[i]) then .inl (some ((6:Int),())) else .inr ()) (fun _=>self (x,ae ((i:Int)+1))) (fun _ _=>True) (by rw[ah];omega)
    (fun j hj s cn _=>by
     show bc.b2 _ _ _ _ _ _=_
     unfold bc.b2
     rw[eD] at hj
     have ai:(j:Int) < (i:Int):=by omega
     have Fh:j < List.length x.2.2.2.1:=by omega
     simp only[ai,decide_true,cond_true,Int.natCast_nonneg,if_true,Int.toNat_natCast,List.getElem?_eq_getElem Fh,List.getElem?_eq_getElem hi,Option.bind_some,um,List.getElem_take]
     by_cases hh:(x.2.2.2.1)[j]=(x.2.2.2.1)[i]
     ·simp only[hh,decide_true,cond_true,if_true]
     ·simp only[hh,decide_false,cond_false,Bool.false_eq_true,if_false])
    (fun _ _ _ _ _ _=>trivial) (fun s cn _=>by
     show bc.b2 _ _ _ _ _ _=_
     unfold bc.b2
     simp only[eD,Int.lt_irrefl,decide_false,cond_false]
     rfl) () trivial k (by omega)
   rw[pH] at this
   exact this
  have:=bH (B:=fun self v=>bc.B1 k self (fun z=>bc.Q2 k (x,()) z) (x,()) v) x.2.2.2.1 (fun (_:Unit) (i:Int)=>(x,i)) (fun i _ y=>if j9 x.2.2.2.1 i y=0 then .inr () else .inl (j9 x.2.2.2.1 i y,())) (fun _=>(0,())) (fun _ _=>True) (by rw[ah];omega)
   (fun i hi s self _=>by
    show bc.b1 _ _ _ _ _=_
    unfold bc.b1 j9
    have ai:(i:Int) < (List.length x.2.2.2.1:Int):=by omega
    simp only[ai,decide_true,cond_true,Int.natCast_nonneg,if_true,Int.toNat_natCast,List.getElem?_eq_getElem hi,Option.bind_some,El]
    rw[inner self _ i hi]
    cases pT (x.2.2.2.1)[i] <;> cases dp (x.2.2.2.1.take i) (x.2.2.2.1)[i] <;> rfl)
   (fun _ _ _ _ _ _=>trivial) (fun s self _=>by
    show bc.b1 _ _ _ _ _=_
    unfold bc.b1
    simp only[Int.lt_irrefl,decide_false,cond_false]
    rfl) () trivial k (by omega)
  refine Eq.trans this ?_
  unfold pe
  generalize L8:x.2.2.2.1=ks
  have gen:∀ (f:Nat->Key->Int) (ys:List Key) (i:Nat),aW (fun i (_:Unit) y=>if f i y=0 then .inr () else .inl (f i y,())) (fun _=>((0:Int),())) i ys ()=(aW (fun i (_:Unit) y=>if f i y=0 then .inr () else .inl (f i y)) (fun _=>(0:Int)) i ys (),()):=by
   intro f ys
   induction ys with
   | nil=>intro i;rfl
   | cons y ys ih=>intro i;simp only[aW];by_cases h0:f i y=0 <;> simp[h0,ih]
  rw[gen (j9 ks)]
 have:=bK (B:=fun self v=>bc.B0 k self (fun z=>bc.Q0 k (x,()) z) (x,()) v) x.2.2.1 (fun (_:Int) (i:Int)=>i) (fun i last m=>if ct m last (List.length x.2.1:Int) then .inr m else .inl (some ((3:Int),()))) (fun _=>some (pe x.2.2.2.1,()))
  (fun i last=>0<=last/\(i=0->last=0)/\∀ y,0 < i->x.2.2.1[i - 1]?=some y->last=y) (by rw[ah];omega)
  (fun i hi last self hI=>by
   obtain ⟨i1,i2,i3⟩:=hI
   show bc.b0 _ _ _ _=_
   unfold bc.b0
   have ai:(i:Int) < (List.length x.2.2.1:Int):=by omega
   simp only[ai,decide_true,cond_true,Int.natCast_nonneg,if_true,Int.toNat_natCast,List.getElem?_eq_getElem hi,Option.bind_some,ir]
   generalize Ob:(x.2.2.1)[i]=m
   rw[<-KE i1]
   show (bif !ct m 0 (List.length x.2.1:Int) then _ else _)=_
   cases Ca:ct m 0 (List.length x.2.1:Int) with
   | false=>rfl
   | true=>
    have Da:0<=m:=by
     simp only[ct,Bool.and_eq_true,decide_eq_true_eq] at Ca
     exact Ca.1
    simp only[Bool.not_true,cond_false,Bool.true_and]
    by_cases h0:i=0
    ·subst h0
     have:=i2 rfl
     subst this
     have hz:¬ (0:Int) < ((0:Nat):Int):=by omega
     simp only[hz,Da,decide_true,decide_false,cond_false,if_true]
    ·have yS:i - 1 < List.length x.2.2.1:=by omega
     have hl:=i3 (x.2.2.1)[i - 1] (by omega) (List.getElem?_eq_getElem yS)
     have hp:(0:Int) < (i:Int):=by omega
     simp only[hp,decide_true,cond_true,yP (show 0 < i by omega) (by rw[ah];omega),Int.natCast_nonneg,if_true,Int.toNat_natCast,List.getElem?_eq_getElem yS,Option.bind_some]
     rw[<-hl]
     by_cases hc:last<=m
     ·have:¬ m < last:=by omega
      simp only[hc,this,decide_true,decide_false,cond_false,if_true]
     ·have:m < last:=by omega
      simp only[hc,this,decide_true,decide_false,cond_true,Bool.false_eq_true,if_false])
  (fun i hi last Uf hI hs=>by
   split at hs
   ·rename_i hb
    injection hs with hs
    subst hs
    simp only[ct,Bool.and_eq_true,decide_eq_true_eq] at hb
    refine ⟨by omega,fun e=>by omega,fun y _ hy=>?_⟩
    rw[Nat.add_sub_cancel,List.getElem?_eq_getElem hi] at hy
    injection hy
   ·cases hs)
  (fun last self hI=>by
   show bc.b0 _ _ _ _=_
   unfold bc.b0
   simp only[Int.lt_irrefl,decide_false,cond_false]
   exact second) 0 ⟨Int.le_refl _,fun _=>rfl,fun _ h=>by omega⟩ k (by omega)
 refine Eq.trans this ?_
 unfold yR
 rw[Dh]
 cases aW (fun _ last m=>if ct m last (List.length x.2.1:Int) then .inr m else .inl false) (fun _=>true) 0 x.2.2.1 0 <;> rfl
end OT
set_option linter.unusedVariables false
set_option linter.unusedSimpArgs false
namespace OT
open Go
def pb (D:List UInt8) (i:Nat):Nat:=(D.getD i 0).toNat
theorem gG (D:List UInt8) (i:Nat):pb D i < 256:=UInt8.toNat_lt _
theorem ek {D:List UInt8} {i:Nat} (h:i < D.length):D[i]?=some D[i]/\(D[i]).toNat=pb D i:=⟨List.getElem?_eq_getElem h,by simp[pb,h]⟩
theorem IZ {A B:List UInt8} (h:A.length=B.length) (Y:∀ j,j < A.length->pb A j=pb B j):A=B:=by
 refine List.ext_getElem h fun i h1 h3=>?_
 have:=Y i h1
 rw[<-(ek h1).2,<- (ek h3).2] at this
 exact UInt8.toNat_inj.1 this
theorem KF (D:List UInt8) (a n j:Nat) (h:j < n):pb ((D.drop a).take n) j=pb D (a+j):=by
 unfold pb
 simp only[List.getD_eq_getElem?_getD,List.getElem?_take,h,if_true,List.getElem?_drop]
def pn (p:List UInt8):Nat:=pb p 0
def gz (p:List UInt8):Nat:=pb p 1
def pat (p:List UInt8) (i:Nat):Nat:=pb p (2+2*i)
def aN (p:List UInt8) (i:Nat):Nat:=pb p (3+2*i)
def nZ (p:List UInt8) (i:Nat):Bool:=if pat p i=0\/aN p i=0 then decide (pat p i=aN p i) else decide (gz p<=pat p i)&&decide (pat p i+aN p i<=64)
def kH (p:List UInt8) (i k:Nat):Bool:=(decide (aN p i=0)||decide (aN p k=0))||(decide (pat p i+aN p i<=pat p k)||decide (pat p k+aN p k<=pat p i))
def pg (p:List UInt8):Int:=
 if p.length=64 then
  if pn p<=16/\2+2*pn p<=gz p/\gz p<=64 then
   if (List.range (pn p)).all (nZ p) then
    if (List.range (pn p)).all (fun i=>(List.range i).all (kH p i)) then
     if 0 < pn p/\aN p (pn p - 1)=0 then 8 else 0
    else 8
   else 3
  else 3
 else 1
structure ll (p:List UInt8):Prop where
 len:p.length=64
 n:pn p<=16
 lo:2+2*pn p<=gz p
 hi:gz p<=64
 slot:∀ i,i < pn p->aN p i≠0->gz p<=pat p i/\pat p i+aN p i<=64
 zero:∀ i,i < pn p->aN p i=0->pat p i=0
 apart:∀ i k,i < pn p->k < pn p->i≠k->aN p i≠0->aN p k≠0->pat p i+aN p i<=pat p k\/pat p k+aN p k<=pat p i
 last:0 < pn p->aN p (pn p - 1)≠0
theorem vR {p:List UInt8} {i:Nat} (s8:2<=gz p):nZ p i=true↔(aN p i≠0->gz p<=pat p i/\pat p i+aN p i<=64)/\(aN p i=0->pat p i=0):=by
 unfold nZ
 by_cases h1:aN p i=0
 ·simp[h1]
 ·by_cases Y:pat p i=0
  ·simp[h1,Y]
   omega
  ·simp[h1,Y]
theorem qQ {p:List UInt8} {i k:Nat}:kH p i k=true↔(aN p i≠0->aN p k≠0->pat p i+aN p i<=pat p k\/pat p k+aN p k<=pat p i):=by
 unfold kH
 by_cases h1:aN p i=0
 ·simp[h1]
 ·by_cases Y:aN p k=0
  ·simp[Y]
  ·simp[h1,Y]
theorem vS {p:List UInt8}:pg p=0↔ll p:=by
 constructor
 ·intro h
  unfold pg at h
  split at h
  ·rename_i h1
   split at h
   ·rename_i Y
    split at h
    ·rename_i h3
     split at h
     ·rename_i h4
      split at h
      ·cases h
      ·rename_i h5
       have hs:∀ i,i < pn p->(aN p i≠0->gz p<=pat p i/\pat p i+aN p i<=64)/\(aN p i=0->pat p i=0):=fun i hi=>(vR (by omega)).1 (List.all_eq_true.1 h3 i (List.mem_range.2 hi))
       have ha:∀ i k,i < pn p->k < i->aN p i≠0->aN p k≠0->pat p i+aN p i<=pat p k\/pat p k+aN p k<=pat p i:=fun i k hi hk=>qQ.1 (List.all_eq_true.1 (List.all_eq_true.1 h4 i (List.mem_range.2 hi)) k (List.mem_range.2 hk))
       refine ⟨h1,Y.1,Y.2.1,Y.2.2,fun i hi=>(hs i hi).1,fun i hi=>(hs i hi).2,fun i k hi hk L9 z1 z2=>?_,fun hn hz=>h5 ⟨hn,hz⟩⟩
       rcases Nat.lt_or_gt_of_ne L9 with h6 | h6
       ·exact (ha k i hk h6 z2 z1).symm
       ·exact ha i k hi h6 z1 z2
     ·cases h
    ·cases h
   ·cases h
  ·cases h
 ·intro h
  unfold pg
  rw[if_pos h.len,if_pos ⟨h.n,h.lo,h.hi⟩,if_pos,if_pos,if_neg]
  ·intro ⟨h1,Y⟩
   exact h.last h1 Y
  ·refine List.all_eq_true.2 fun i hi=>List.all_eq_true.2 fun k hk=>qQ.2 ?_
   have:=List.mem_range.1 hi
   have:=List.mem_range.1 hk
   exact h.apart i k (by omega) (by omega) (by omega)
  ·exact List.all_eq_true.2 fun i hi=>(vR (by have:=h.lo;omega)).2 ⟨h.slot i (List.mem_range.1 hi),h.zero i (List.mem_range.1 hi)⟩
def eE (p:List UInt8) (i:Nat):List UInt8:=(p.drop (pat p i)).take (aN p i)
def cellOf (p:List UInt8) (i:Nat):List UInt8:=if i < pn p then eE p i else []
theorem sv {p:List UInt8} (h:ll p) {i:Nat} (hi:i < pn p):(eE p i).length=aN p i:=by
 unfold eE
 by_cases hz:aN p i=0
 ·simp[hz]
 ·have:=h.slot i hi hz
  have:=h.len
  simp only[List.length_take,List.length_drop]
  omega
theorem xw (p:List UInt8) (i j:Nat) (h:j < aN p i):pb (eE p i) j=pb p (pat p i+j):=KF p _ _ j h
theorem KG {p q:List UInt8} {i k:Nat} (hp:(eE p i).length=aN p i) (hq:(eE q k).length=aN q k) (hs:aN p i=aN q k) (hb:∀ j,j < aN p i->pb p (pat p i+j)=pb q (pat q k+j)):eE p i=eE q k:=by
 refine IZ (by omega) fun j hj=>?_
 rw[xw p i j (by omega),xw q k j (by omega)]
 exact hb j (by omega)
theorem KH {p c:List UInt8} {i:Nat} (hp:(eE p i).length=aN p i) (hs:aN p i=c.length) (hb:∀ j,j < c.length->pb p (pat p i+j)=pb c j):eE p i=c:=by
 refine IZ (by omega) fun j hj=>?_
 rw[xw p i j (by omega)]
 exact hb j (by omega)
def Ug (p:List UInt8) (s a:Nat) (c:List UInt8):List UInt8:=((lu p a c.length c).set (2+2*s) (UInt8.ofNat a)).set (3+2*s) (UInt8.ofNat c.length)
structure qe (p q:List UInt8) (s a m:Nat):Prop where
 len:q.length=64
 n:pn q=pn p\/(pn q=pn p+1/\s=pn p)
 OH:s < pn q
 n16:pn q<=16
 lo:2+2*pn q<=gz q
 TP:gz q<=gz p
 at_:pat q s=a
 sz:aN q s=m
 pos:0 < m
 RS:gz q<=a
 RU:a+m<=64
 Dj:∀ i,i < pn q->i≠s->pat q i=pat p i/\aN q i=aN p i
 free:∀ i,i < pn p->i≠s->aN p i≠0->a+m<=pat p i\/pat p i+aN p i<=a
 same:∀ j,gz p<=j->j < 64->(j < a\/a+m<=j)->pb q j=pb p j
theorem qe.ok {p q:List UInt8} {s a m:Nat} (t:qe p q s a m) (h:ll p):ll q:=by
 have ai:∀ i,i < pn q->i≠s->i < pn p:=fun i hi hs=>by rcases t.n with h1 | ⟨h1,Y⟩ <;> omega
 have ha:=t.at_
 have hm:=t.sz
 have zF:=t.pos
 have s8:=t.RS
 have NA:=t.RU
 have Um:=t.TP
 have hh:=h.hi
 refine ⟨t.len,t.n16,t.lo,by omega,fun i hi hz=>?_,fun i hi hz=>?_,fun i k hi hk L9 z1 z2=>?_,fun hn=>?_⟩
 ·by_cases hs:i=s
  ·subst hs;omega
  ·obtain ⟨h1,Y⟩:=t.Dj i hi hs
   have:=h.slot i (ai i hi hs) (by omega)
   omega
 ·by_cases hs:i=s
  ·subst hs;omega
  ·obtain ⟨h1,Y⟩:=t.Dj i hi hs
   have:=h.zero i (ai i hi hs) (by omega)
   omega
 ·by_cases hs:i=s
  ·subst hs
   have L8:k≠i:=fun e=>L9 e.symm
   obtain ⟨h1,Y⟩:=t.Dj k hk L8
   have:=t.free k (ai k hk L8) L8 (by omega)
   omega
  ·obtain ⟨h1,Y⟩:=t.Dj i hi hs
   by_cases nE:k=s
   ·subst nE
    have:=t.free i (ai i hi hs) hs (by omega)
    omega
   ·obtain ⟨h3,h4⟩:=t.Dj k hk nE
    have:=h.apart i k (ai i hi hs) (ai k hk nE) L9 (by omega) (by omega)
    omega
 ·by_cases hs:pn q - 1=s
  ·rw[hs];omega
  ·obtain ⟨h1,Y⟩:=t.Dj (pn q - 1) (by omega) hs
   have hq:pn q=pn p:=by
    rcases t.n with h3 | ⟨h3,h4⟩
    ·exact h3
    ·omega
   rw[Y,hq]
   exact h.last (by omega)
theorem qe.G7 {p q:List UInt8} {s a m:Nat} (t:qe p q s a m) (h:ll p) {i:Nat} (hi:i < pn q) (hs:i≠s):eE q i=eE p i:=by
 have wN:i < pn p:=by rcases t.n with h1 | ⟨h1,Y⟩ <;> omega
 obtain ⟨h1,Y⟩:=t.Dj i hi hs
 refine KG (sv (t.ok h) hi) (sv h wN) Y fun j hj=>?_
 have hz:aN p i≠0:=by omega
 have h3:=h.slot i wN hz
 have h4:=t.free i wN hs hz
 rw[h1]
 exact t.same _ (by omega) (by omega) (by omega)
theorem qe.I0 {p q:List UInt8} {s a:Nat} {c:List UInt8} (t:qe p q s a c.length) (h:ll p) (hc:∀ j,j < c.length->pb q (a+j)=pb c j):eE q s=c:=
 KH (sv (t.ok h) t.OH) t.sz fun j hj=>by rw[t.at_];exact hc j hj
theorem qe.cells {p q:List UInt8} {s a:Nat} {c:List UInt8} (t:qe p q s a c.length) (h:ll p) (hc:∀ j,j < c.length->pb q (a+j)=pb c j) (i:Nat):cellOf q i=if i=s then c else cellOf p i:=by
 have hs:=t.OH
 unfold cellOf
 by_cases uO:i=s
 ·subst uO
  rw[if_pos hs,if_pos rfl,t.I0 h hc]
 ·rw[if_neg uO]
  by_cases hi:i < pn q
  ·have wN:i < pn p:=by rcases t.n with h1 | ⟨h1,Y⟩ <;> omega
   rw[if_pos hi,if_pos wN,t.G7 h hi uO]
  ·have wN:¬ i < pn p:=by rcases t.n with h1 | ⟨h1,Y⟩ <;> omega
   rw[if_neg hi,if_neg wN]
end OT
set_option linter.unusedVariables false
set_option linter.unusedSimpArgs false
namespace OT
open Go
def G8 (p:List UInt8):Nat->Nat
 | 0=>0
 | m+1=>G8 p m+aN p m
def nI (p:List UInt8):Nat->Nat->Bool
 | 0,_=>false
 | k+1,j=>nI p k j||decide (pat p k<=j/\j < pat p k+aN p k)
structure Uh (p:List UInt8) (k:Nat) (o:List UInt8) (a:Nat):Prop where
 len:o.length=64
 n:pb o 0=pn p
 a:a=64 - G8 p k
 sz:∀ i,i < pn p->aN o i=aN p i
 UD:∀ i,i < pn p->(k<=i\/aN p i=0)->pat o i=pat p i
 new:∀ i,i < k->aN p i≠0->pat o i=64 - G8 p (i+1)/\∀ j,j < aN p i->pb o (64 - G8 p (i+1)+j)=pb p (pat p i+j)
end OT
set_option linter.unusedVariables false
set_option linter.unusedSimpArgs false
namespace OT
open Go
theorem OI {i:Nat} (h:i < 1000):ae ((3:Int)+ae ((2:Int)*(i:Int)))=((3+2*i:Nat):Int):=by
 rw[aE (n:=(2:Int)*(i:Int)) (by omega),aE (by omega)];omega
theorem L_ {i:Nat} (h:i < 1000):ae ((2:Int)+ae ((2:Int)*(i:Int)))=((2+2*i:Nat):Int):=by
 rw[aE (n:=(2:Int)*(i:Int)) (by omega),aE (by omega)];omega
theorem uQ (p:List UInt8) (i:Nat):ae ((pb p i:Nat):Int)=((pb p i:Nat):Int):=by
 have:=gG p i
 exact aE (by omega)
theorem dR {R:Type} {p:List UInt8} {i:Nat} (h:i < p.length) (K:UInt8->Option R):(p[i]?).bind K=K p[i]:=by rw[(ek h).1];rfl
section
variable {p:List UInt8} (hp:p.length=64)
include hp
theorem oK:du.ab (p,())=some ((pn p:Int),()):=by
 refine ag (k:=0) fun k _=>(du.aa k _).trans ?_
 show du.p _=_
 unfold du.p
 simp only[dR (show 0 < p.length by omega),(ek (show 0 < p.length by omega)).2,uQ]
 rfl
theorem sw:eN.ab (p,())=some ((pn p:Int),()):=by
 refine ag (k:=0) fun k _=>(eN.aa k _).trans ?_
 show eN.p _=_
 unfold eN.p
 simp only[dR (show 0 < p.length by omega),(ek (show 0 < p.length by omega)).2,uQ]
 rfl
theorem Fs:gS.ab (p,())=some ((gz p:Int),()):=by
 refine ag (k:=0) fun k _=>(gS.aa k _).trans ?_
 show gS.p _=_
 unfold gS.p
 simp only[dR (show 1 < p.length by omega),(ek (show 1 < p.length by omega)).2,uQ]
 rfl
theorem ni {i:Nat} (hi:i < 16):bD.ab (p,(i:Int),())=some ((aN p i:Int),()):=by
 refine ag (k:=0) fun k _=>(bD.aa k _).trans ?_
 show bD.p _=_
 unfold bD.p
 simp only[OI (show i < 1000 by omega),Int.natCast_nonneg,if_true,Int.toNat_natCast,dR (show 3+2*i < p.length by omega),(ek (show 3+2*i < p.length by omega)).2,uQ]
 rfl
theorem sx {i:Nat} (hi:i < 16):dv.ab (p,(i:Int),())=some ((pat p i:Int),()):=by
 refine ag (k:=0) fun k _=>(dv.aa k _).trans ?_
 show dv.p _=_
 unfold dv.p
 simp only[L_ (show i < 1000 by omega),Int.natCast_nonneg,if_true,Int.toNat_natCast,dR (show 2+2*i < p.length by omega),(ek (show 2+2*i < p.length by omega)).2,uQ]
 rfl
theorem xx {i:Nat} (hi:i < 16):i6.ab (p,(i:Int),())=some ((pat p i:Int),(aN p i:Int),()):=by
 refine ag (k:=0) fun k _=>(i6.aa k _).trans ?_
 show i6.p _=_
 unfold i6.p
 simp only[L_ (show i < 1000 by omega),OI (show i < 1000 by omega),Int.natCast_nonneg,if_true,Int.toNat_natCast,dR (show 2+2*i < p.length by omega),(ek (show 2+2*i < p.length by omega)).2,dR (show 3+2*i < p.length by omega),(ek (show 3+2*i < p.length by omega)).2,uQ]
 rfl
theorem KI {i:Nat} (hi:i < 16):kq.ab (p,(i:Int),())=some (nZ p i,()):=by
 refine ag (k:=0) fun k _=>(kq.aa k _).trans ?_
 show kq.p _=_
 unfold kq.p nZ
 have h1:=gG p (2+2*i)
 have Y:=gG p (3+2*i)
 have hw:ae ((pat p i:Int)+(aN p i:Int))=((pat p i+aN p i:Nat):Int):=by
  have:pat p i < 256:=h1
  have:aN p i < 256:=Y
  rw[aE (by omega)];omega
 simp only[sx hp hi,ni hp hi,Fs hp,Option.bind_some,hw]
 have e1:decide ((pat p i:Int)=0)=decide (pat p i=0):=by rw[decide_eq_decide];omega
 have e2:decide ((aN p i:Int)=0)=decide (aN p i=0):=by rw[decide_eq_decide];omega
 have e3:decide ((pat p i:Int)=(aN p i:Int))=decide (pat p i=aN p i):=by rw[decide_eq_decide];omega
 have e4:decide ((gz p:Int)<=(pat p i:Int))=decide (gz p<=pat p i):=by rw[decide_eq_decide];omega
 have e5:decide (((pat p i+aN p i:Nat):Int)<=64)=decide (pat p i+aN p i<=64):=by rw[decide_eq_decide];omega
 rw[e1,e2,e3,e4,e5]
 by_cases c1:pat p i=0
 ·simp[c1]
 ·by_cases c2:aN p i=0
  ·simp[c1,c2]
  ·simp only[c1,c2,decide_false,cond_false,or_self,if_false]
   cases decide (gz p<=pat p i) <;> rfl
theorem I1 {i j:Nat} (hi:i < 16) (hj:j < 16):jB.ab (p,(i:Int),(j:Int),())=some (kH p i j,()):=by
 refine ag (k:=0) fun k _=>(jB.aa k _).trans ?_
 show jB.p _=_
 unfold jB.p kH
 have h1:pat p i < 256:=gG p _
 have Y:aN p i < 256:=gG p _
 have h3:pat p j < 256:=gG p _
 have h4:aN p j < 256:=gG p _
 have hw:ae ((pat p i:Int)+(aN p i:Int))=((pat p i+aN p i:Nat):Int):=by rw[aE (by omega)];omega
 have o3:ae ((pat p j:Int)+(aN p j:Int))=((pat p j+aN p j:Nat):Int):=by rw[aE (by omega)];omega
 simp only[sx hp hi,ni hp hi,sx hp hj,ni hp hj,Option.bind_some,hw,o3]
 have e1:decide ((aN p i:Int)=0)=decide (aN p i=0):=by rw[decide_eq_decide];omega
 have e2:decide ((aN p j:Int)=0)=decide (aN p j=0):=by rw[decide_eq_decide];omega
 have e3:decide (((pat p i+aN p i:Nat):Int)<=(pat p j:Int))=decide (pat p i+aN p i<=pat p j):=by rw[decide_eq_decide];omega
 have e4:decide (((pat p j+aN p j:Nat):Int)<=(pat p i:Int))=decide (pat p j+aN p j<=pat p i):=by rw[decide_eq_decide];omega
 rw[e1,e2,e3,e4]
 cases decide (aN p i=0) <;> cases decide (aN p j=0) <;> cases decide (pat p i+aN p i<=pat p j) <;> rfl
end
theorem mD {O:Type} (q:Nat->Bool) (bad e:O):∀ (xs:List Nat) (i:Nat),aW (fun _ (_:Unit) x=>if q x then .inr () else .inl bad) (fun _=>e) i xs ()=if xs.all q then e else bad:=fun xs i=>kY q bad (fun _=>e) xs i
theorem En (p:List UInt8) (hl:p.length<=maxLen):aU.ab (p,())=some (pg p,()):=by
 refine ag (k:=100) fun k hk=>(aU.aa k _).trans ?_
 unfold aU.p pg
 have e0:decide ((p.length:Int)=64)=decide (p.length=64):=by rw[decide_eq_decide];omega
 rw[e0]
 by_cases hp:p.length=64
 rotate_left
 ·simp only[hp,decide_false,Bool.not_false,cond_true,if_false]
 have hn:pn p < 256:=gG p 0
 have s8:gz p < 256:=gG p 1
 have hw:ae ((2:Int)+ae ((2:Int)*(pn p:Int)))=((2+2*pn p:Nat):Int):=L_ (by omega)
 simp only[hp,decide_true,Bool.not_true,cond_false,oK hp,Fs hp,Option.bind_some,hw,if_true]
 by_cases c1:pn p<=16
 rotate_left
 ·have:((16:Int) < (pn p:Int)):=by omega
  simp only[this,decide_true,cond_true,c1,false_and,if_false]
 have n1:¬ ((16:Int) < (pn p:Int)):=by omega
 simp only[n1,decide_false,cond_false,c1,true_and]
 by_cases c2:2+2*pn p<=gz p
 rotate_left
 ·have:((gz p:Int) < ((2+2*pn p:Nat):Int)):=by omega
  simp only[this,decide_true,cond_true,c2,false_and,if_false]
 have n2:¬ ((gz p:Int) < ((2+2*pn p:Nat):Int)):=by omega
 simp only[n2,decide_false,cond_false,c2,true_and]
 by_cases c3:gz p<=64
 rotate_left
 ·have:((64:Int) < (gz p:Int)):=by omega
  simp only[this,decide_true,cond_true,c3,if_false]
 have n3:¬ ((64:Int) < (gz p:Int)):=by omega
 simp only[n3,decide_false,cond_false,c3,if_true]
 have inner:∀ (self:((List UInt8)×Int×Int)->Option aU.Out) (e2:((List UInt8)×Int)->Option aU.Out) (i:Nat) (hi:i < pn p),aU.r2 k self e2 (p,()) p (pn p:Int) (i:Int) (0:Int)=if (List.range i).all (kH p i) then self (p,(pn p:Int),ae ((i:Int)+1)) else some ((8:Int),()):=fun self e2 i hi=>by
  have:=bK (B:=fun cn v=>aU.B2 k cn (fun z=>aU.Q1 k self e2 (p,()) p (pn p:Int) (i:Int) z) (p,()) p (pn p:Int) (i:Int) v) (List.range i) (fun (_:Unit) (j:Int)=>j) (fun _ _ x=>if kH p i x then .inr () else .inl (some ((8:Int),()))) (fun _=>self (p,(pn p:Int),ae ((i:Int)+1))) (fun _ _=>True) (by rw[ah,List.length_range];omega)
   (fun j hj s cn _=>by
    rw[List.length_range] at hj
    show aU.b2 _ _ _ _ _ _ _=_
    unfold aU.b2
    have ai:(j:Int) < (i:Int):=by omega
    simp only[ai,decide_true,cond_true,I1 hp (show i < 16 by omega) (show j < 16 by omega),Option.bind_some,List.getElem_range]
    cases kH p i j <;> rfl)
   (fun _ _ _ _ _ _=>trivial) (fun s cn _=>by
    rw[List.length_range]
    show aU.b2 _ _ _ _ _ _ _=_
    unfold aU.b2
    simp only[Int.lt_irrefl,decide_false,cond_false]
    rfl) () trivial k (by rw[List.length_range];omega)
  rw[mD] at this
  exact this
 have outer:aU.r1 k (p,()) (pn p:Int) (p,(pn p:Int),(0:Int))=if (List.range (pn p)).all (fun i=>(List.range i).all (kH p i)) then aU.Q2 k (p,()) (p,(pn p:Int)) else some ((8:Int),()):=by
  have:=bK (B:=fun self v=>aU.B1 k self (fun z=>aU.Q2 k (p,()) z) (p,()) v) (List.range (pn p)) (fun (_:Unit) (i:Int)=>(p,(pn p:Int),i)) (fun _ _ x=>if (List.range x).all (kH p x) then .inr () else .inl (some ((8:Int),()))) (fun _=>aU.Q2 k (p,()) (p,(pn p:Int))) (fun _ _=>True) (by rw[ah,List.length_range];omega)
   (fun i hi s self _=>by
    rw[List.length_range] at hi
    show aU.b1 _ _ _ _ _=_
    unfold aU.b1
    have ai:(i:Int) < (pn p:Int):=by omega
    simp only[ai,decide_true,cond_true,inner self _ i hi,List.getElem_range]
    cases (List.range i).all (kH p i) <;> rfl)
   (fun _ _ _ _ _ _=>trivial) (fun s self _=>by
    rw[List.length_range]
    show aU.b1 _ _ _ _ _=_
    unfold aU.b1
    simp only[Int.lt_irrefl,decide_false,cond_false]) () trivial k (by rw[List.length_range];omega)
  rw[mD] at this
  exact this
 have first:aU.r0 k (p,()) (pn p:Int) (0:Int)=if (List.range (pn p)).all (nZ p) then aU.r1 k (p,()) (pn p:Int) (p,(pn p:Int),(0:Int)) else some ((3:Int),()):=by
  have:=bK (B:=fun self v=>aU.B0 k self (fun z=>aU.Q0 k (p,()) (pn p:Int) z) (p,()) (pn p:Int) v) (List.range (pn p)) (fun (_:Unit) (i:Int)=>i) (fun _ _ x=>if nZ p x then .inr () else .inl (some ((3:Int),()))) (fun _=>aU.r1 k (p,()) (pn p:Int) (p,(pn p:Int),(0:Int))) (fun _ _=>True) (by rw[ah,List.length_range];omega)
   (fun i hi s self _=>by
    rw[List.length_range] at hi
    show aU.b0 _ _ _ _ _=_
    unfold aU.b0
    have ai:(i:Int) < (pn p:Int):=by omega
    simp only[ai,decide_true,cond_true,KI hp (show i < 16 by omega),Option.bind_some,List.getElem_range]
    cases nZ p i <;> rfl)
   (fun _ _ _ _ _ _=>trivial) (fun s self _=>by
    rw[List.length_range]
    show aU.b0 _ _ _ _ _=_
    unfold aU.b0
    simp only[Int.lt_irrefl,decide_false,cond_false]
    rfl) () trivial k (by rw[List.length_range];omega)
  rw[mD] at this
  exact this
 rw[first]
 split
 ·rw[outer]
  split
  ·show aU.q2 _ _=_
   unfold aU.q2
   by_cases h0:0 < pn p
   ·have ai:(0:Int) < (pn p:Int):=by omega
    have OJ:ae ((pn p:Int) - 1)=((pn p - 1:Nat):Int):=by rw[aE (by omega)];omega
    simp only[ai,decide_true,cond_true,OJ,ni hp (show pn p - 1 < 16 by omega),Option.bind_some,h0,true_and]
    by_cases hz:aN p (pn p - 1)=0
    ·simp[hz]
    ·have:¬ ((aN p (pn p - 1):Int)=0):=by omega
     simp only[this,decide_false,cond_false,hz,if_false]
   ·have ai:¬ ((0:Int) < (pn p:Int)):=by omega
    simp only[ai,decide_false,cond_false,h0,false_and,if_false]
  ·rfl
 ·rfl
theorem vT {S O:Type} (q:Nat->Bool) (g:Nat->S) (bad e:O):∀ (xs:List Nat) (i:Nat) (s:S),aW (fun _ s x=>if q x then .inl bad else .inr (g x)) (fun _=>e) i xs s=if xs.any q then bad else e
 | [],_,_=>rfl
 | x::xs,i,s=>by
  simp only[aW,List.any_cons]
  by_cases h:q x=true
  ·simp[h]
  ·simp[h,vT q g bad e xs (i+1)]
def oo (p:List UInt8) (i t:Nat):List Bool:=(List.range 64).map fun j=>nI p i j||decide (pat p i<=j/\j < pat p i+t)
def un (p:List UInt8) (i:Nat):Bool:=(List.range (aN p i)).any fun t=>nI p i (pat p i+t)
theorem I2 (p:List UInt8) (i:Nat):oo p i 0=(List.range 64).map (nI p i):=by
 unfold oo
 refine List.map_congr_left fun j _=>?_
 have:¬ (pat p i<=j/\j < pat p i+0):=by omega
 simp only[this,decide_false,Bool.or_false]
theorem I3 (p:List UInt8) (i:Nat):oo p i (aN p i)=(List.range 64).map (nI p (i+1)):=rfl
theorem xy (p:List UInt8) (i t j:Nat) (h:j < 64):(oo p i t)[j]?=some (nI p i j||decide (pat p i<=j/\j < pat p i+t)):=by
 unfold oo
 simp[h]
theorem uo (p:List UInt8) (i t:Nat):(oo p i t).length=64:=by simp[oo]
theorem I4 (p:List UInt8) (i t:Nat) (h:pat p i+t < 64):(oo p i t).set (pat p i+t) true=oo p i (t+1):=by
 refine List.ext_getElem? fun j=>?_
 rw[List.getElem?_set,uo]
 by_cases hj:j < 64
 ·rw[xy p i t j hj,xy p i (t+1) j hj]
  by_cases e:pat p i+t=j
  ·subst e
   have:pat p i<=pat p i+t/\pat p i+t < pat p i+(t+1):=by omega
   simp[h,this]
  ·rw[if_neg e]
   have:(pat p i<=j/\j < pat p i+t)↔(pat p i<=j/\j < pat p i+(t+1)):=by omega
   simp only[this]
 ·have h1:(oo p i t)[j]?=none:=List.getElem?_eq_none (by rw[uo];omega)
  have Y:(oo p i (t+1))[j]?=none:=List.getElem?_eq_none (by rw[uo];omega)
  rw[h1,Y,if_neg (by omega)]
theorem Dk {p:List UInt8}:∀ {k j:Nat},nI p k j=true↔∃ i,i < k/\pat p i<=j/\j < pat p i+aN p i
 | 0,j=>by simp[nI]
 | k+1,j=>by
  simp only[nI,Bool.or_eq_true,decide_eq_true_eq,Dk (k:=k)]
  constructor
  ·rintro (⟨i,h1,Y⟩ | h)
   ·exact ⟨i,by omega,Y⟩
   ·exact ⟨k,by omega,h⟩
  ·rintro ⟨i,h1,Y⟩
   by_cases e:i=k
   ·subst e;exact .inr Y
   ·exact .inl ⟨i,by omega,Y⟩
theorem G9 (p:List UInt8) (i:Nat):un p i=!(List.range i).all (kH p i):=by
 rw[Bool.eq_iff_iff]
 simp only[un,List.any_eq_true,List.mem_range,Dk,Bool.not_eq_true',List.all_eq_false,Bool.not_eq_true]
 constructor
 ·rintro ⟨t,ht,k,hk,h1,Y⟩
  refine ⟨k,hk,?_⟩
  cases h:kH p i k with
  | false=>rfl
  | true=>have:=qQ.1 h (by omega) (by omega);omega
 ·rintro ⟨k,hk,h⟩
  have hn:¬ (aN p i≠0->aN p k≠0->pat p i+aN p i<=pat p k\/pat p k+aN p k<=pat p i):=fun Y=>by rw[qQ.2 Y] at h;cases h
  by_cases c1:aN p i=0
  ·exact absurd (fun h=>absurd c1 h) hn
  ·by_cases c2:aN p k=0
   ·exact absurd (fun _ h=>absurd c2 h) hn
   ·have c3:¬ (pat p i+aN p i<=pat p k):=fun h3=>hn fun _ _=>.inl h3
    have c4:¬ (pat p k+aN p k<=pat p i):=fun h3=>hn fun _ _=>.inr h3
    exact ⟨max (pat p i) (pat p k) - pat p i,by omega,k,hk,by omega,by omega⟩
theorem KJ (p:List UInt8) (n:Nat):(List.range n).any (un p)=!(List.range n).all (fun i=>(List.range i).all (kH p i)):=by
 rw[List.not_all_eq_any_not]
 congr 1
 funext i
 exact G9 p i
theorem Eo (p:List UInt8) (hl:p.length<=maxLen):aJ.ab (p,())=some (pg p,()):=by
 refine ag (k:=300) fun k hk=>(aJ.aa k _).trans ?_
 unfold aJ.p pg
 have e0:decide ((p.length:Int)=64)=decide (p.length=64):=by rw[decide_eq_decide];omega
 rw[e0]
 by_cases hp:p.length=64
 rotate_left
 ·simp only[hp,decide_false,Bool.not_false,cond_true,if_false]
 have hn:pn p < 256:=gG p 0
 have s8:gz p < 256:=gG p 1
 have hw:ae ((2:Int)+ae ((2:Int)*(pn p:Int)))=((2+2*pn p:Nat):Int):=L_ (by omega)
 have Nh:((p[1]'(by omega)).toNat)=gz p:=(ek (show 1 < p.length by omega)).2
 have TQ:ae (gz p:Int)=(gz p:Int):=uQ p 1
 simp only[hp,decide_true,Bool.not_true,cond_false,dR (show 1 < p.length by omega),Nh,TQ,sw hp,Option.bind_some,hw,if_true]
 by_cases c1:pn p<=16
 rotate_left
 ·have:((16:Int) < (pn p:Int)):=by omega
  simp only[this,decide_true,cond_true,c1,false_and,if_false]
 have n1:¬ ((16:Int) < (pn p:Int)):=by omega
 simp only[n1,decide_false,cond_false,c1,true_and]
 by_cases c2:2+2*pn p<=gz p
 rotate_left
 ·have:((gz p:Int) < ((2+2*pn p:Nat):Int)):=by omega
  simp only[this,decide_true,cond_true,c2,false_and,if_false]
 have n2:¬ ((gz p:Int) < ((2+2*pn p:Nat):Int)):=by omega
 simp only[n2,decide_false,cond_false,c2,true_and]
 by_cases c3:gz p<=64
 rotate_left
 ·have:((64:Int) < (gz p:Int)):=by omega
  simp only[this,decide_true,cond_true,c3,if_false]
 have n3:¬ ((64:Int) < (gz p:Int)):=by omega
 simp only[n3,decide_false,cond_false,c3,if_true]
 have first:aJ.r0 k (p,()) (pn p:Int) (gz p:Int) (0:Int)=if (List.range (pn p)).all (nZ p) then aJ.Q0 k (p,()) (pn p:Int) (gz p:Int) () else some ((3:Int),()):=by
  have:=bK (B:=fun self v=>aJ.B0 k self (fun z=>aJ.Q0 k (p,()) (pn p:Int) (gz p:Int) z) (p,()) (pn p:Int) (gz p:Int) v) (List.range (pn p)) (fun (_:Unit) (i:Int)=>i) (fun _ _ x=>if nZ p x then .inr () else .inl (some ((3:Int),()))) (fun _=>aJ.Q0 k (p,()) (pn p:Int) (gz p:Int) ()) (fun _ _=>True) (by rw[ah,List.length_range];omega)
   (fun i hi s self _=>by
    rw[List.length_range] at hi
    show aJ.b0 _ _ _ _ _ _=_
    unfold aJ.b0
    have ai:(i:Int) < (pn p:Int):=by omega
    have h1:pat p i < 256:=gG p _
    have Y:aN p i < 256:=gG p _
    have o3:ae ((pat p i:Int)+(aN p i:Int))=((pat p i+aN p i:Nat):Int):=by rw[aE (by omega)];omega
    simp only[ai,decide_true,cond_true,xx hp (show i < 16 by omega),Option.bind_some,List.getElem_range,o3]
    have e1:decide ((pat p i:Int)=0)=decide (pat p i=0):=by rw[decide_eq_decide];omega
    have e2:decide ((aN p i:Int)=0)=decide (aN p i=0):=by rw[decide_eq_decide];omega
    have e4:decide ((pat p i:Int) < (gz p:Int))=decide (pat p i < gz p):=by rw[decide_eq_decide];omega
    have e5:decide ((64:Int) < ((pat p i+aN p i:Nat):Int))=decide (64 < pat p i+aN p i):=by rw[decide_eq_decide];omega
    rw[e1,e2,e4,e5]
    unfold nZ
    by_cases d1:pat p i=0
    ·by_cases d2:aN p i=0
     ·simp[d1,d2]
     ·have:¬ (0=aN p i):=fun e=>d2 e.symm
      simp[d1,d2,this]
    ·by_cases d2:aN p i=0
     ·simp[d1,d2]
     ·by_cases d3:pat p i < gz p
      ·have OK:¬ (gz p<=pat p i):=by omega
       simp[d1,d2,d3,OK]
      ·by_cases d4:64 < pat p i+aN p i
       ·have OL:¬ (pat p i+aN p i<=64):=by omega
        simp[d1,d2,d3,d4,OL]
       ·have OK:gz p<=pat p i:=by omega
        have OL:pat p i+aN p i<=64:=by omega
        simp[d1,d2,d3,d4,OK,OL])
   (fun _ _ _ _ _ _=>trivial) (fun s self _=>by
    rw[List.length_range]
    show aJ.b0 _ _ _ _ _ _=_
    unfold aJ.b0
    simp only[Int.lt_irrefl,decide_false,cond_false]) () trivial k (by rw[List.length_range];omega)
  rw[mD] at this
  exact this
 rw[first]
 by_cases ig:(List.range (pn p)).all (nZ p)=true
 rotate_left
 ·simp only[ig,Bool.false_eq_true,if_false]
 simp only[ig,if_true]
 have hs:∀ i,i < pn p->aN p i≠0->gz p<=pat p i/\pat p i+aN p i<=64:=fun i hi=>((vR (by omega)).1 (List.all_eq_true.1 ig i (List.mem_range.2 hi))).1
 have inner:∀ (self:((List UInt8)×Int×(List Bool)×Int×Int)->Option aJ.Out) (e2:((List UInt8)×Int)->Option aJ.Out) (i:Nat) (hi:i < pn p),aJ.r2 k self e2 (p,()) p (pn p:Int) (pat p i:Int) (aN p i:Int) (pn p:Int) (i:Int) ((List.range 64).map (nI p i),(pat p i:Int))=if un p i then some ((8:Int),()) else self (p,(pn p:Int),(List.range 64).map (nI p (i+1)),(pn p:Int),ae ((i:Int)+1)):=fun self e2 i hi=>by
  have h1:pat p i < 256:=gG p _
  have Y:aN p i < 256:=gG p _
  have o3:ae ((pat p i:Int)+(aN p i:Int))=((pat p i+aN p i:Nat):Int):=by rw[aE (by omega)];omega
  have:=bK (B:=fun cn v=>aJ.B2 k cn (fun z=>aJ.Q1 k self e2 (p,()) p (pn p:Int) (pat p i:Int) (aN p i:Int) (pn p:Int) (i:Int) z) (p,()) p (pn p:Int) (pat p i:Int) (aN p i:Int) (pn p:Int) (i:Int) v) (List.range (aN p i)) (fun (s:List Bool) (t:Int)=>(s,(pat p i:Int)+t)) (fun _ s t=>if nI p i (pat p i+t) then .inl (some ((8:Int),())) else .inr (oo p i (t+1))) (fun _=>self (p,(pn p:Int),(List.range 64).map (nI p (i+1)),(pn p:Int),ae ((i:Int)+1))) (fun t s=>s=oo p i t) (by rw[ah,List.length_range];omega)
   (fun t ht s cn hI=>by
    rw[List.length_range] at ht
    subst hI
    obtain ⟨g1,g2⟩:=hs i hi (by omega)
    show aJ.b2 _ _ _ _ _ _ _ _ _ _=_
    unfold aJ.b2
    have ai:(pat p i:Int)+(t:Int) < ((pat p i+aN p i:Nat):Int):=by omega
    have vU:(0:Int)<=(pat p i:Int)+(t:Int):=by omega
    have hlen:(pat p i:Int)+(t:Int) < ((oo p i t).length:Int):=by rw[uo];omega
    have OM:((pat p i:Int)+(t:Int)).toNat=pat p i+t:=by omega
    have JY:¬ (pat p i<=pat p i+t/\pat p i+t < pat p i+t):=by omega
    have TR:ae ((pat p i:Int)+(t:Int)+1)=(pat p i:Int)+ae ((t:Int)+1):=by rw[aE (by omega),aE (by omega)];omega
    simp only[o3,ai,decide_true,cond_true,vU,hlen,and_self,if_true,OM,xy p i t (pat p i+t) (by omega),JY,decide_false,Bool.or_false,Option.bind_some,List.getElem_range,I4 p i t (by omega),TR]
    cases nI p i (pat p i+t) <;> rfl)
   (fun t ht s s' hI hf=>by
    simp only[List.getElem_range] at hf
    split at hf
    ·cases hf
    ·injection hf with hf;exact hf.symm) (fun s cn hI=>by
    rw[List.length_range] at hI ⊢
    show aJ.b2 _ _ _ _ _ _ _ _ _ _=_
    unfold aJ.b2
    have ai:¬ ((pat p i:Int)+(aN p i:Int) < ((pat p i+aN p i:Nat):Int)):=by omega
    simp only[o3,ai,decide_false,cond_false]
    rw[hI,I3]
    rfl) (oo p i 0) rfl k (by rw[List.length_range];omega)
  rw[vT] at this
  rw[<-I2]
  simp only[Int.add_zero] at this
  exact this
 have outer:aJ.r1 k (p,()) (pn p:Int) (gz p:Int) (p,(pn p:Int),List.replicate 64 false,(pn p:Int),(0:Int))=if (List.range (pn p)).any (un p) then some ((8:Int),()) else aJ.Q2 k (p,()) (p,(pn p:Int)):=by
  have:=bK (B:=fun self v=>aJ.B1 k self (fun z=>aJ.Q2 k (p,()) z) (p,()) v) (List.range (pn p)) (fun (s:List Bool) (i:Int)=>(p,(pn p:Int),s,(pn p:Int),i)) (fun _ s x=>if un p x then .inl (some ((8:Int),())) else .inr ((List.range 64).map (nI p (x+1)))) (fun _=>aJ.Q2 k (p,()) (p,(pn p:Int))) (fun i s=>s=(List.range 64).map (nI p i)) (by rw[ah,List.length_range];omega)
   (fun i hi s self hI=>by
    rw[List.length_range] at hi
    subst hI
    show aJ.b1 _ _ _ _ _=_
    unfold aJ.b1
    have ai:(i:Int) < (pn p:Int):=by omega
    simp only[ai,decide_true,cond_true,xx hp (show i < 16 by omega),Option.bind_some,inner self _ i hi,List.getElem_range]
    cases un p i <;> rfl)
   (fun i hi s s' hI hf=>by
    simp only[List.getElem_range] at hf
    split at hf
    ·cases hf
    ·injection hf with hf;exact hf.symm) (fun s self _=>by
    rw[List.length_range]
    show aJ.b1 _ _ _ _ _=_
    unfold aJ.b1
    simp only[Int.lt_irrefl,decide_false,cond_false]) (List.replicate 64 false) (by show _=(List.range 64).map (fun _=>false);decide) k (by rw[List.length_range];omega)
  rw[vT] at this
  exact this
 show aJ.q0 _ _ _ _ _=_
 unfold aJ.q0
 rw[outer,KJ]
 by_cases Iq:(List.range (pn p)).all (fun i=>(List.range i).all (kH p i))=true
 rotate_left
 ·simp only[Iq,Bool.not_false,if_true,Bool.false_eq_true,if_false]
 simp only[Iq,Bool.not_true,Bool.false_eq_true,if_false,if_true]
 show aJ.q2 _ _=_
 unfold aJ.q2
 by_cases h0:0 < pn p
 ·have ai:(0:Int) < (pn p:Int):=by omega
  have OJ:ae (ae ((2:Int)*(pn p:Int))+1)=((2*pn p+1:Nat):Int):=by rw[aE (n:=(2:Int)*(pn p:Int)) (by omega),aE (by omega)];omega
  have hz:((p[2*pn p+1]'(by omega)).toNat)=aN p (pn p - 1):=by
   rw[(ek (show 2*pn p+1 < p.length by omega)).2]
   show pb p _=pb p _
   congr 1;omega
  simp only[ai,decide_true,cond_true,OJ,Int.natCast_nonneg,if_true,Int.toNat_natCast,dR (show 2*pn p+1 < p.length by omega),hz,h0,true_and]
  by_cases hz:aN p (pn p - 1)=0
  ·simp[hz]
  ·have:¬ ((aN p (pn p - 1):Int)=0):=by omega
   simp only[this,decide_false,cond_false,hz,if_false]
 ·have ai:¬ ((0:Int) < (pn p:Int)):=by omega
  simp only[ai,decide_false,cond_false,h0,false_and,if_false]
end OT
set_option linter.unusedVariables false
set_option linter.unusedSimpArgs false
namespace OT
open Go
theorem qR {V S O:Type} {B:(V->Option O)->V->Option O} (n:Nat) (enc:S->Int->V) (f:Nat->S->Sum (Option O) S) (fin:S->Option O) (I:Nat->S->Prop) (hn:n<=1048576)
  (dY:∀ (i:Nat),i < n->∀ (s:S) self,I i s->B self (enc s (i:Int))=match f i s with | .inl o=>o | .inr s'=>self (enc s' (ae ((i:Int)+1))))
  (hI:∀ (i:Nat),i < n->∀ (s s':S),I i s->f i s=.inr s'->I (i+1) s')
  (ja:∀ (s:S) self,I n s->B self (enc s (n:Int))=fin s) (s:S) (h0:I 0 s) (k:Nat) (hk:n < k):ak B k (enc s 0)=aW (fun _ s x=>f x s) fin 0 (List.range n) s:=
 bK (List.range n) enc (fun _ s x=>f x s) fin I (by rw[ah,List.length_range];omega)
  (fun i hi s self h=>by rw[List.length_range] at hi;simp only[List.getElem_range];exact dY i hi s self h)
  (fun i hi s s' h hf=>by rw[List.length_range] at hi;simp only[List.getElem_range] at hf;exact hI i hi s s' h hf)
  (fun s self h=>by rw[List.length_range] at h ⊢;exact ja s self h) s h0 k (by rw[List.length_range];exact hk)
theorem uq {O α β:Type} (g:α->List β) (fin:List β->O):∀ (xs:List α) (i:Nat) (s:List β),aW (fun _ s x=>.inr (s++g x)) fin i xs s=fin (s++xs.flatMap g)
 | [],_,s=>by simp[aW]
 | x::xs,i,s=>by simp only[aW];rw[uq g fin xs (i+1)];simp[List.append_assoc]
abbrev sP:Row:=((0:Int),(0:Int),(0:Int),([]:List UInt8),())
abbrev wE:kZ:=((0:Int),(0:Int),(0:Int),(0:Int),sP,())
abbrev ur:kZ:=((5:Int),(0:Int),(0:Int),(0:Int),sP,())
def mg (d:List UInt8):Row:=((pb d 1:Int),(pb d 2:Int),(pb d 3:Int)*256+(pb d 4:Int),d.drop 6,())
def db (d:List UInt8):kZ×Bool:=
 if d.length=3/\pb d 0=1 then (((0:Int),(1:Int),(pb d 1:Int),(pb d 2:Int),sP,()),decide (pb d 1<=11)&&decide (pb d 2<=15))
 else if d.length < 6\/pb d 0=1\/2 < pb d 0\/d.length≠6+pb d 5 then (wE,false)
 else (((0:Int),(pb d 0:Int),(0:Int),(0:Int),mg d,()),decide (h_ (mg d)=0))
theorem KK {a b:Nat} (ha:a < 256) (hb:b < 256):((BitVec.ofInt 64 (ae ((a:Int)*2 ^ 8)) ||| BitVec.ofInt 64 (b:Int)).toNat:Int)=(a:Int)*256+(b:Int):=by
 have e1:ae ((a:Int)*2 ^ 8)=((2 ^ 8*a:Nat):Int):=by rw[aE (by omega)];omega
 rw[e1,BitVec.toNat_or]
 have e2:(BitVec.ofInt 64 ((2 ^ 8*a:Nat):Int)).toNat=2 ^ 8*a:=by
  rw[BitVec.toNat_ofInt];omega
 have e3:(BitVec.ofInt 64 (b:Int)).toNat=b:=by
  rw[BitVec.toNat_ofInt];omega
 rw[e2,e3,<- Nat.two_pow_add_eq_or_of_lt (by omega) a]
 omega
theorem rZ (d:List UInt8) (hd:d.length<=100):fy.ab (d,())=some ((db d).1,(db d).2,()):=by
 refine ag (k:=0) fun k _=>(fy.aa k _).trans ?_
 show fy.p _=_
 unfold fy.p db
 have b0:=gG d 0
 have b1:=gG d 1
 have b2:=gG d 2
 have b3:=gG d 3
 have b4:=gG d 4
 have b5:=gG d 5
 by_cases h3:d.length=3
 ·have e3:decide ((d.length:Int)=3)=true:=decide_eq_true (by omega)
  have e6:decide ((d.length:Int) < 6)=true:=decide_eq_true (by omega)
  have ON:d.length < 6:=by omega
  simp only[e3,e6,cond_true,dR (show 0 < d.length by omega),(ek (show 0 < d.length by omega)).2]
  by_cases h1:pb d 0=1
  ·have e1:decide ((pb d 0:Int)=1)=true:=decide_eq_true (by omega)
   rw[if_pos ⟨h3,h1⟩]
   simp only[e1,cond_true,dR (show 1 < d.length by omega),(ek (show 1 < d.length by omega)).2,dR (show 2 < d.length by omega),(ek (show 2 < d.length by omega)).2,uQ]
   have dZ:jA.ab ((pb d 1:Int),(pb d 2:Int),())=some (decide (pb d 1<=11)&&decide (pb d 2<=15),()):=by
    refine ag (k:=0) fun k _=>(jA.aa k _).trans ?_
    show jA.p _=_
    unfold jA.p
    simp only[ir,Option.bind_some]
    have g1:decide ((0:Int)<=(pb d 1:Int))=true:=decide_eq_true (by omega)
    have g2:decide ((0:Int)<=(pb d 2:Int))=true:=decide_eq_true (by omega)
    have g3:decide ((pb d 1:Int)<=11)=decide (pb d 1<=11):=by rw[decide_eq_decide];omega
    have g4:decide ((pb d 2:Int)<=15)=decide (pb d 2<=15):=by rw[decide_eq_decide];omega
    rw[g1,g2,g3,g4]
    cases decide (pb d 1<=11) <;> rfl
   simp only[dZ,Option.bind_some]
  ·have e1:decide ((pb d 0:Int)=1)=false:=decide_eq_false (by omega)
   rw[if_neg (fun h=>h1 h.2),if_pos (Or.inl ON)]
   simp only[e1,cond_false]
 ·have e3:decide ((d.length:Int)=3)=false:=decide_eq_false (by omega)
  simp only[e3,cond_false,h3,false_and,if_false]
  by_cases h6:d.length < 6
  ·have e6:decide ((d.length:Int) < 6)=true:=decide_eq_true (by omega)
   simp only[e6,cond_true,h6,true_or,if_true]
  ·have e6:decide ((d.length:Int) < 6)=false:=decide_eq_false (by omega)
   simp only[e6,cond_false,dR (show 0 < d.length by omega),(ek (show 0 < d.length by omega)).2,h6,false_or]
   by_cases h1:pb d 0=1
   ·have e1:decide ((pb d 0:Int)=1)=true:=decide_eq_true (by omega)
    rw[if_pos (Or.inl h1)]
    simp only[e1,cond_true]
   have e1:decide ((pb d 0:Int)=1)=false:=decide_eq_false (by omega)
   simp only[e1,cond_false,h1,false_or]
   by_cases Y:2 < pb d 0
   ·have e2:decide ((2:Int) < (pb d 0:Int))=true:=decide_eq_true (by omega)
    simp only[e2,cond_true,Y,true_or,if_true]
   have e2:decide ((2:Int) < (pb d 0:Int))=false:=decide_eq_false (by omega)
   have w6:ae ((6:Int)+(pb d 5:Int))=((6+pb d 5:Nat):Int):=by rw[aE (by omega)];omega
   simp only[e2,cond_false,Y,false_or,dR (show 5 < d.length by omega),(ek (show 5 < d.length by omega)).2,uQ,w6]
   by_cases h5:d.length=6+pb d 5
   rotate_left
   ·have e5:decide ((d.length:Int)=((6+pb d 5:Nat):Int))=false:=decide_eq_false (by omega)
    simp only[e5,Bool.not_false,cond_true,h5,ne_eq,not_false_eq_true,if_true]
   have e5:decide ((d.length:Int)=((6+pb d 5:Nat):Int))=true:=decide_eq_true (by omega)
   have QW:(0:Int)<=6/\(6:Int)<=(d.length:Int):=by omega
   have w3:ae (ae ((pb d 3:Int)*256)+(pb d 4:Int))=(pb d 3:Int)*256+(pb d 4:Int):=by rw[aE (n:=(pb d 3:Int)*256) (by omega),aE (by omega)]
   have ht:(d.take d.length).drop 6=d.drop 6:=by rw[List.take_length]
   have hr:dt.ab (mg d,())=some (h_ (mg d),()):=qO (mg d) (by rw[ah];simp only[mg,List.length_drop];omega)
   unfold mg at hr
   rw[if_neg (fun h=>h h5)]
   simp only[e5,Bool.not_true,cond_false,dR (show 1 < d.length by omega),(ek (show 1 < d.length by omega)).2,dR (show 2 < d.length by omega),(ek (show 2 < d.length by omega)).2,
    dR (show 3 < d.length by omega),(ek (show 3 < d.length by omega)).2,dR (show 4 < d.length by omega),(ek (show 4 < d.length by omega)).2,uQ,w3,ht,hr,Option.bind_some]
   rw[if_pos (by omega)]
   rfl
theorem uR (d:List UInt8) (hd:d.length<=100):ec.ab (d,())=some (if (db d).2 then (db d).1 else ur,()):=by
 refine ag (k:=0) fun k _=>(ec.aa k _).trans ?_
 show ec.p _=_
 unfold ec.p
 have b0:=gG d 0
 have b1:=gG d 1
 have b2:=gG d 2
 have b3:=gG d 3
 have b4:=gG d 4
 have b5:=gG d 5
 by_cases h3:d.length=3
 ·have e3:decide ((d.length:Int)=3)=true:=decide_eq_true (by omega)
  have e6:decide ((d.length:Int) < 6)=true:=decide_eq_true (by omega)
  have ON:d.length < 6:=by omega
  simp only[e3,e6,cond_true,dR (show 0 < d.length by omega),(ek (show 0 < d.length by omega)).2]
  by_cases h1:pb d 0=1
  ·have e1:decide ((pb d 0:Int)=1)=true:=decide_eq_true (by omega)
   have hc:db d=(((0:Int),(1:Int),(pb d 1:Int),(pb d 2:Int),sP,()),decide (pb d 1<=11)&&decide (pb d 2<=15)):=by unfold db;rw[if_pos ⟨h3,h1⟩]
   rw[hc]
   simp only[e1,cond_true,dR (show 1 < d.length by omega),(ek (show 1 < d.length by omega)).2,dR (show 2 < d.length by omega),(ek (show 2 < d.length by omega)).2,uQ]
   by_cases c1:pb d 1<=11
   ·have d1:decide ((pb d 1:Int) < 12)=true:=decide_eq_true (by omega)
    by_cases c2:pb d 2<=15
    ·have d2:decide ((pb d 2:Int) < 16)=true:=decide_eq_true (by omega)
     simp[d1,d2,c1,c2]
    ·have d2:decide ((pb d 2:Int) < 16)=false:=decide_eq_false (by omega)
     simp[d1,d2,c1,c2]
   ·have d1:decide ((pb d 1:Int) < 12)=false:=decide_eq_false (by omega)
    simp[d1,c1]
  ·have e1:decide ((pb d 0:Int)=1)=false:=decide_eq_false (by omega)
   have hc:db d=(wE,false):=by unfold db;rw[if_neg (fun h=>h1 h.2),if_pos (Or.inl ON)]
   rw[hc]
   simp only[e1,cond_false,Bool.false_eq_true,if_false]
 ·have e3:decide ((d.length:Int)=3)=false:=decide_eq_false (by omega)
  simp only[e3,cond_false]
  by_cases h6:d.length < 6
  ·have e6:decide ((d.length:Int) < 6)=true:=decide_eq_true (by omega)
   have hc:db d=(wE,false):=by unfold db;rw[if_neg (fun h=>h3 h.1),if_pos (Or.inl h6)]
   rw[hc]
   simp only[e6,cond_true,Bool.false_eq_true,if_false]
  ·have e6:decide ((d.length:Int) < 6)=false:=decide_eq_false (by omega)
   have hc:db d=if pb d 0=1\/2 < pb d 0\/d.length≠6+pb d 5 then (wE,false) else (((0:Int),(pb d 0:Int),(0:Int),(0:Int),mg d,()),decide (h_ (mg d)=0)):=by
    unfold db
    rw[if_neg (fun h=>h3 h.1)]
    simp only[h6,false_or]
   have hlen:∀ i,i < 6->i < d.length:=fun i hi=>by omega
   have w6:ae ((6:Int)+(pb d 5:Int))=((6+pb d 5:Nat):Int):=by rw[aE (by omega)];omega
   have QW:(0:Int)<=6/\(6:Int)<=(d.length:Int):=by omega
   have w3:ae ((BitVec.ofInt 64 (ae ((pb d 3:Int)*2 ^ 8)) ||| BitVec.ofInt 64 (pb d 4:Int)).toNat:Int)=(pb d 3:Int)*256+(pb d 4:Int):=by rw[KK b3 b4,aE (by omega)]
   have ht:(d.take d.length).drop 6=d.drop 6:=by rw[List.take_length]
   have hr:bv.ab (mg d,())=some (h_ (mg d),()):=qP (mg d) (by rw[ah];simp only[mg,List.length_drop];omega)
   unfold mg at hr
   simp only[e6,cond_false,dR (show 0 < d.length by omega),(ek (show 0 < d.length by omega)).2,dR (show 5 < d.length by omega),(ek (show 5 < d.length by omega)).2,dR (show 1 < d.length by omega),(ek (show 1 < d.length by omega)).2,dR (show 2 < d.length by omega),(ek (show 2 < d.length by omega)).2,
    dR (show 3 < d.length by omega),(ek (show 3 < d.length by omega)).2,dR (show 4 < d.length by omega),(ek (show 4 < d.length by omega)).2,uQ,w6,QW.2,show (0:Int)<=6 by omega,and_self,if_true,w3,ht,hr,Option.bind_some]
   have e5:decide ((d.length:Int)=((6+pb d 5:Nat):Int))=decide (d.length=6+pb d 5):=by rw[decide_eq_decide];omega
   have e0:decide ((pb d 0:Int)=0)=decide (pb d 0=0):=by rw[decide_eq_decide];omega
   have e2:decide ((pb d 0:Int)=2)=decide (pb d 0=2):=by rw[decide_eq_decide];omega
   rw[e5,e0,e2]
   have fin:∀ (c5:d.length=6+pb d 5) (c0:¬ (pb d 0=1\/2 < pb d 0\/d.length≠6+pb d 5)),(bif !decide (h_ ((pb d 1:Int),(pb d 2:Int),(pb d 3:Int)*256+(pb d 4:Int),d.drop 6,())=0) then some (ur,()) else some (((0:Int),(pb d 0:Int),(0:Int),(0:Int),((pb d 1:Int),(pb d 2:Int),(pb d 3:Int)*256+(pb d 4:Int),d.drop 6,()),()),()))=some (if (db d).2 then (db d).1 else ur,()):=fun c5 c0=>by
    rw[hc,if_neg c0]
    show (bif !decide (h_ (mg d)=0) then some (ur,()) else some (((0:Int),(pb d 0:Int),(0:Int),(0:Int),mg d,()),()))=some (if decide (h_ (mg d)=0)=true then ((0:Int),(pb d 0:Int),(0:Int),(0:Int),mg d,()) else ur,())
    cases decide (h_ (mg d)=0) <;> rfl
   have bad:(pb d 0=1\/2 < pb d 0\/d.length≠6+pb d 5)->(some (ur,()):Option ec.Out)=some (if (db d).2 then (db d).1 else ur,()):=fun h=>by
    rw[hc,if_pos h];rfl
   by_cases c5:d.length=6+pb d 5
   ·rw[decide_eq_true c5]
    by_cases c0:pb d 0=0
    ·rw[decide_eq_true c0]
     exact fin c5 (by omega)
    ·rw[decide_eq_false c0]
     by_cases c2:pb d 0=2
     ·rw[decide_eq_true c2]
      exact fin c5 (by omega)
     ·rw[decide_eq_false c2]
      exact bad (by omega)
   ·rw[decide_eq_false c5]
    have hb:=bad (.inr (.inr c5))
    cases decide (pb d 0=0) <;> cases decide (pb d 0=2) <;> exact hb
section
variable {p:List UInt8} (hp:ll p)
include hp
theorem yT (s:Nat):gv.ab (p,(s:Int),())=some (decide (s < pn p)&&!decide (aN p s=0),()):=by
 refine ag (k:=0) fun k _=>(gv.aa k _).trans ?_
 show gv.p _=_
 unfold gv.p
 have h0:(0:Int)<=(s:Int):=by omega
 have hn:=hp.n
 have hl:=hp.len
 simp only[h0,decide_true,cond_true,sw hl,Option.bind_some]
 by_cases hs:s < pn p
 ·have e1:(s:Int) < (pn p:Int):=by omega
  have e2:decide ((aN p s:Int)=0)=decide (aN p s=0):=by rw[decide_eq_decide];omega
  have e3:(p[3+2*s]'(by omega)).toNat=aN p s:=(ek (show 3+2*s < p.length by omega)).2
  simp only[e1,hs,decide_true,cond_true,OI (show s < 1000 by omega),Int.natCast_nonneg,if_true,Int.toNat_natCast,dR (show 3+2*s < p.length by omega),e3,e2,Bool.true_and]
 ·have e1:¬ ((s:Int) < (pn p:Int)):=by omega
  simp only[e1,hs,decide_false,cond_false,Bool.false_and]
theorem G_ (s:Nat):lc.ab (p,(s:Int),())=some (decide (s < pn p)&&!decide (aN p s=0),()):=by
 refine ag (k:=0) fun k _=>(lc.aa k _).trans ?_
 show lc.p _=_
 unfold lc.p
 have hn:=hp.n
 have hl:=hp.len
 have hw:ae ((pn p:Int) - 1)=(pn p:Int) - 1:=aE (by omega)
 have h0:decide ((0:Int)<=(s:Int))=true:=decide_eq_true (by omega)
 have h1:decide ((s:Int)<=(pn p:Int) - 1)=decide (s < pn p):=by rw[decide_eq_decide];omega
 simp only[oK hl,Option.bind_some,hw,ir,h0,h1,Bool.true_and]
 by_cases hs:s < pn p
 ·have e2:decide ((0:Int) < (aN p s:Int))=!decide (aN p s=0):=by
   by_cases hz:aN p s=0
   ·simp[hz]
   ·have:(0:Int) < (aN p s:Int):=by omega
    rw[decide_eq_true this,decide_eq_false hz];rfl
  simp only[hs,decide_true,cond_true,ni hl (show s < 16 by omega),Option.bind_some,e2,Bool.true_and]
 ·simp only[hs,decide_false,cond_false,Bool.false_and]
theorem zY {s:Nat} (hs:s < pn p):pat p s+aN p s<=64:=by
 by_cases hz:aN p s=0
 ·have:=hp.zero s hs hz;omega
 ·exact (hp.slot s hs hz).2
theorem uS {s:Nat} (hs:s < pn p):gR.ab (p,(s:Int),())=some (eE p s,()):=by
 refine ag (k:=0) fun k _=>(gR.aa k _).trans ?_
 show gR.p _=_
 unfold gR.p eE
 have hn:=hp.n
 have hl:=hp.len
 have hc:=zY hp hs
 have hw:ae ((pat p s:Int)+(aN p s:Int))=((pat p s+aN p s:Nat):Int):=by rw[aE (by omega)];omega
 have hb:(0:Int)<=(pat p s:Int)/\(pat p s:Int)<=((pat p s+aN p s:Nat):Int)/\((pat p s+aN p s:Nat):Int)<=(p.length:Int):=by omega
 simp only[xx hl (show s < 16 by omega),Option.bind_some,hw]
 rw[if_pos hb]
 simp only[Int.toNat_natCast,List.drop_take]
 rw[show pat p s+aN p s - pat p s=aN p s by omega]
theorem qu {s:Nat} (hs:s < pn p):fA.ab (p,(s:Int),())=some (eE p s,()):=by
 refine ag (k:=0) fun k _=>(fA.aa k _).trans ?_
 show fA.p _=_
 unfold fA.p eE
 have hn:=hp.n
 have hl:=hp.len
 have hc:=zY hp hs
 have hw:ae ((pat p s:Int)+(aN p s:Int))=((pat p s+aN p s:Nat):Int):=by rw[aE (by omega)];omega
 have hb:(0:Int)<=(pat p s:Int)/\(pat p s:Int)<=((pat p s+aN p s:Nat):Int)/\((pat p s+aN p s:Nat):Int)<=(p.length:Int):=by omega
 simp only[sx hl (show s < 16 by omega),ni hl (show s < 16 by omega),Option.bind_some,hw]
 rw[if_pos hb,if_pos (cA (by simp only[List.length_nil,List.length_drop,List.length_take];omega))]
 simp only[Int.toNat_natCast,List.drop_take,List.nil_append]
 rw[show pat p s+aN p s - pat p s=aN p s by omega]
end
theorem nT {p:List UInt8} (hp:ll p) {s:Nat} (hs:s < pn p):(eE p s).length<=64:=by
 have:=sv hp hs
 have:=zY hp hs
 omega
end OT
set_option linter.unusedVariables false
set_option linter.unusedSimpArgs false
namespace OT
open Go
def rk (x:Row):Int×Int:=(x.1,x.2.1)
theorem r_ (a b:Int×Int):bU a b=true↔a.1 < b.1\/(a.1=b.1/\a.2 < b.2):=by unfold bU;simp
theorem lm {a b c:Int×Int} (h1:bU a b=true) (Y:bU b c=true):bU a c=true:=by
 rw[r_] at *;omega
theorem nj (a:Int×Int):bU a a=false:=by
 cases h:bU a a with
 | false=>rfl
 | true=>rw[r_] at h;omega
theorem I5 {a b:Int×Int} (h:bU a b=true):bU b a=false:=by
 cases Y:bU b a with
 | false=>rfl
 | true=>rw[r_] at h Y;omega
theorem pJ {a b:Int×Int} (h1:bU a b=false) (Y:bU b a=false):a=b:=by
 have n1:¬ (a.1 < b.1\/(a.1=b.1/\a.2 < b.2)):=fun h=>by rw[(r_ a b).2 h] at h1;cases h1
 have n2:¬ (b.1 < a.1\/(b.1=a.1/\b.2 < a.2)):=fun h=>by rw[(r_ b a).2 h] at Y;cases Y
 have e1:a.1=b.1:=by omega
 have e2:a.2=b.2:=by omega
 obtain ⟨a1,a2⟩:=a
 obtain ⟨b1,b2⟩:=b
 simp only at e1 e2
 rw[e1,e2]
def up (xs:List Row):Prop:=xs.Pairwise (fun a b=>bU (rk a) (rk b)=true)
theorem th {x:Row} {xs:List Row}:up (x::xs)↔(∀ y ∈ xs,bU (rk x) (rk y)=true)/\up xs:=List.pairwise_cons
def pos:List Row->Int×Int->Nat
 | [],_=>0
 | x::xs,k=>if bU (rk x) k then pos xs k+1 else 0
theorem tj:∀ (xs:List Row) (k:Int×Int),pos xs k<=xs.length
 | [],_=>Nat.le_refl _
 | x::xs,k=>by simp only[pos];split <;> simp[tj xs k]
theorem Dl:∀ (xs:List Row) (k:Int×Int) (i:Nat) (h:i < xs.length),i < pos xs k->bU (rk xs[i]) k=true
 | x::xs,k,i,h,hp=>by
  simp only[pos] at hp
  split at hp
  ·rename_i hx
   cases i with
   | zero=>exact hx
   | succ i=>exact Dl xs k i (by simpa using h) (by omega)
  ·omega
theorem tk:∀ (xs:List Row) (k:Int×Int) (i:Nat) (h:i < xs.length),up xs->pos xs k<=i->bU (rk xs[i]) k=false
 | x::xs,k,i,h,hu,hp=>by
  simp only[pos] at hp
  split at hp
  ·cases i with
   | zero=>omega
   | succ i=>exact tk xs k i (by simpa using h) (th.1 hu).2 (by omega)
  ·rename_i hx
   have hx:bU (rk x) k=false:=by simpa using hx
   cases i with
   | zero=>exact hx
   | succ i=>
    have fj:i < xs.length:=by simpa using h
    have hm:bU (rk x) (rk xs[i])=true:=(th.1 hu).1 _ (List.getElem_mem _)
    show bU (rk xs[i]) k=false
    cases hb:bU (rk xs[i]) k with
    | false=>rfl
    | true=>rw[lm hm hb] at hx;cases hx
def jF (xs:List Row) (k:Int×Int):Bool:=match xs[pos xs k]? with
 | some x=>decide (rk x=k)
 | none=>false
theorem tm {xs:List Row} {k:Int×Int} (h:jF xs k=true):∃ hp:pos xs k < xs.length,rk xs[pos xs k]=k:=by
 unfold jF at h
 split at h
 ·rename_i x hx
  obtain ⟨hp,e⟩:=List.getElem?_eq_some_iff.1 hx
  subst e
  exact ⟨hp,by simpa using h⟩
 ·cases h
theorem I6 (a b:Row):decide ((if bU (a.1,a.2.1) (b.1,b.2.1) then (-1:Int) else if bU (b.1,b.2.1) (a.1,a.2.1) then 1 else 0) < 0)=bU (rk a) (rk b):=by
 unfold rk
 cases bU (a.1,a.2.1) (b.1,b.2.1) <;> cases bU (b.1,b.2.1) (a.1,a.2.1) <;> rfl
theorem ut (a b:Row):sameKey a b=decide (rk a=rk b):=by
 unfold sameKey rk
 by_cases h1:a.1=b.1 <;> by_cases Y:a.2.1=b.2.1 <;> simp[h1,Y]
theorem half (lo hi:Nat) (h:lo+hi<=4611686018427387904):ae ((IntKind.wrap .u64 (ae ((lo:Int)+(hi:Int)))).fdiv (2 ^ 1))=(((lo+hi) / 2:Nat):Int):=by
 have e1:ae ((lo:Int)+(hi:Int))=((lo+hi:Nat):Int):=by rw[aE (by omega)];omega
 rw[e1]
 have e2:IntKind.wrap .u64 ((lo+hi:Nat):Int)=((lo+hi:Nat):Int):=by
  simp only[IntKind.wrap]
  first | rfl | (simp[IntKind.bits,IntKind.signed];omega) | omega
 rw[e2]
 have e3:(((lo+hi:Nat):Int)).fdiv (2 ^ 1)=(((lo+hi) / 2:Nat):Int):=by
  rw[Int.fdiv_eq_ediv_of_nonneg _ (by omega)]
  omega
 rw[e3,aE (by omega)]
theorem AC (xs:List Row) (key:Row) (f:Nat×Int) (hu:up xs) (hl:xs.length<=2000000):aG.ab (xs,key,f,())=some ((pos xs (rk key):Int),jF xs (rk key),()):=by
 have hp:=tj xs (rk key)
 have hq:aG.Q0 0 (xs,key,f,()) (pos xs (rk key):Int)=some ((pos xs (rk key):Int),jF xs (rk key),()):=by
  show aG.q0 _ _=_
  unfold aG.q0 jF
  by_cases ai:pos xs (rk key) < xs.length
  ·have h1:((pos xs (rk key):Nat):Int) < (xs.length:Int):=by omega
   simp only[h1,decide_true,cond_true,Int.natCast_nonneg,if_true,Int.toNat_natCast,List.getElem?_eq_getElem ai,Option.bind_some,uk,yN,ut]
  ·have h1:¬ ((pos xs (rk key):Nat):Int) < (xs.length:Int):=by omega
   simp only[h1,decide_false,cond_false]
   rw[List.getElem?_eq_none (by omega)]
 refine ag (k:=xs.length+1) fun k hk=>(aG.aa k _).trans ?_
 refine qH (B:=fun self v=>aG.B0 0 self (fun z=>aG.Q0 0 (xs,key,f,()) z) (xs,key,f,()) v) (fun _=>((pos xs (rk key):Int),jF xs (rk key),()))
  (fun v=>∃ lo hi:Nat,v=((lo:Int),(hi:Int))/\lo<=pos xs (rk key)/\pos xs (rk key)<=hi/\hi<=xs.length) (fun v=>(v.2 - v.1).toNat) (fun v hv self=>?_) k (0,(xs.length:Int)) ⟨0,xs.length,rfl,by omega,hp,by omega⟩ (by simp;omega)
 obtain ⟨lo,hi,rfl,h1,Y,h3⟩:=hv
 by_cases ai:lo < hi
 ·right
  have oc:(lo:Int) < (hi:Int):=by omega
  have hm:(lo+hi) / 2 < xs.length:=by omega
  have hb:∀ self,aG.B0 0 self (fun z=>aG.Q0 0 (xs,key,f,()) z) (xs,key,f,()) ((lo:Int),(hi:Int))=if bU (rk xs[(lo+hi) / 2]) (rk key) then self (ae ((((lo+hi) / 2:Nat):Int)+1),(hi:Int)) else self ((lo:Int),(((lo+hi) / 2:Nat):Int)):=fun self=>by
   show aG.b0 _ _ _ _=_
   unfold aG.b0
   simp only[oc,decide_true,cond_true,half lo hi (by omega),Int.natCast_nonneg,if_true,Int.toNat_natCast,List.getElem?_eq_getElem hm,Option.bind_some,uk,I6]
   cases bU (rk xs[(lo+hi) / 2]) (rk key) <;> rfl
  cases hc:bU (rk xs[(lo+hi) / 2]) (rk key) with
  | true=>
   refine ⟨((((lo+hi) / 2+1:Nat):Int),(hi:Int)),?_,rfl,⟨_,_,rfl,?_,Y,h3⟩,by simp only;omega⟩
   ·rw[hb,hc,if_pos rfl,aE (by omega)];rfl
   ·rcases Nat.lt_or_ge ((lo+hi) / 2) (pos xs (rk key)) with h | h
    ·omega
    ·rw[tk xs _ _ hm hu h] at hc;cases hc
  | false=>
   refine ⟨((lo:Int),(((lo+hi) / 2:Nat):Int)),?_,rfl,⟨_,_,rfl,h1,?_,by omega⟩,by simp only;omega⟩
   ·rw[hb,hc];rfl
   ·rcases Nat.lt_or_ge ((lo+hi) / 2) (pos xs (rk key)) with h | h
    ·rw[Dl xs _ _ hm h] at hc;cases hc
    ·exact h
 ·left
  have e:lo=pos xs (rk key):=by omega
  have oc:¬ (lo:Int) < (hi:Int):=by omega
  show aG.b0 _ _ _ _=_
  unfold aG.b0
  simp only[oc,decide_false,cond_false]
  rw[e]
  exact hq
def n7 (xs:List Row) (c:Change):Bool:=(jF xs (ck c) == c.1)&&(!jF xs (ck c)||(match xs[pos xs (ck c)]? with | some x=>Ty.eq aF x c.2.1 | none=>true))
def mh (xs:List Row) (c:Change):List Row:=xs.take (pos xs (ck c))++(if c.2.2.1 then [c.2.2.2.1] else [])++xs.drop (pos xs (ck c)+if jF xs (ck c) then 1 else 0)
theorem I7 (c:Change):rk (td c)=ck c:=AA c
theorem I8 (c:Change) (xs:List Row) (hu:up xs) (hl:xs.length<=2000000):fG.ab (c,xs,())=some (n7 xs c,()):=by
 refine ag (k:=0) fun k _=>(fG.aa k _).trans ?_
 show fG.p _=_
 unfold fG.p n7
 simp only[ul,AC xs _ _ hu hl,I7,Option.bind_some]
 cases hf:jF xs (ck c) with
 | false=>cases c.1 <;> rfl
 | true=>
  obtain ⟨hp,hk⟩:=tm hf
  simp only[Int.natCast_nonneg,if_true,Int.toNat_natCast,List.getElem?_eq_getElem hp,Option.bind_some]
  cases c.1 <;> rfl
theorem Ha (xs:List Row) (c:Change) (hu:up xs) (hl:xs.length<=2000000):jD.ab (xs,c,())=some (mh xs c,()):=by
 refine ag (k:=0) fun k _=>(jD.aa k _).trans ?_
 show jD.p _=_
 unfold jD.p mh
 have hp:=tj xs (ck c)
 have o6:0<=((pos xs (ck c):Nat):Int)/\((pos xs (ck c):Nat):Int)<=(xs.length:Int):=by omega
 have c1:([]:List Row).length+(List.take (pos xs (ck c)) xs).length<=bf:=cA (by simp;omega)
 simp only[ul,AC xs _ _ hu hl,I7,Option.bind_some,o6,and_self,if_true,Int.toNat_natCast,c1,List.drop_zero,List.nil_append,List.take_length]
 have c2:(List.take (pos xs (ck c)) xs).length+[c.2.2.2.1].length<=bf:=cA (by simp;omega)
 have hd:∀ (p7:List Row) (n:Nat),p7.length<=2000001->p7.length+(List.drop n xs).length<=bf:=fun p7 n h=>cA (by rw[List.length_drop];omega)
 have hw:ae (((pos xs (ck c):Nat):Int)+1)=((pos xs (ck c)+1:Nat):Int):=by rw[aE (by omega)];rfl
 have c3:=hd (List.take (pos xs (ck c)) xs++[c.2.2.2.1])
 have c4:=hd (List.take (pos xs (ck c)) xs)
 have l3:(List.take (pos xs (ck c)) xs++[c.2.2.2.1]).length<=2000001:=by simp;omega
 have l4:(List.take (pos xs (ck c)) xs).length<=2000001:=by simp;omega
 cases hf:jF xs (ck c) with
 | false=>
  cases c.2.2.1 with
  | false=>simp only[cond_false,o6,and_self,if_true,Int.toNat_natCast,c4 _ l4,Bool.false_eq_true,if_false,List.append_nil,Nat.add_zero]
  | true=>simp only[cond_true,cond_false,c2,o6,and_self,if_true,Int.toNat_natCast,c3 _ l3,Bool.false_eq_true,if_false,Nat.add_zero]
 | true=>
  obtain ⟨dZ,_⟩:=tm hf
  have OO:0<=((pos xs (ck c)+1:Nat):Int)/\((pos xs (ck c)+1:Nat):Int)<=(xs.length:Int):=by omega
  cases c.2.2.1 with
  | false=>simp only[cond_true,cond_false,hw,OO,and_self,if_true,Int.toNat_natCast,c4 _ l4,Bool.false_eq_true,if_false,List.append_nil]
  | true=>simp only[cond_true,cond_false,c2,hw,OO,and_self,if_true,Int.toNat_natCast,c3 _ l3]
theorem uT (a b:Row):fP.ab (a,b,())=some (bU (rk a) (rk b),()):=by
 refine ag (k:=0) fun k _=>(fP.aa k _).trans ?_
 show fP.p _=_
 unfold fP.p bU rk
 by_cases h1:a.1 < b.1 <;> by_cases Y:a.1=b.1 <;> simp[h1,Y]
theorem Ep {x:Row} {xs:List Row} {k:Int×Int} (h:bU (rk x) k=true):jF (x::xs) k=jF xs k:=by
 unfold jF
 simp only[pos,h,if_true,List.getElem?_cons_succ]
theorem MX {xs:List Row} {k:Int×Int} (h:jF xs k=true):∃ y ∈ xs,rk y=k:=by
 obtain ⟨hp,hk⟩:=tm h
 exact ⟨_,List.getElem_mem hp,hk⟩
theorem Ft (k:Int×Int):∀ (xs:List Row) (j:Nat),up xs->aW (fun i (_:Unit) x=>if rk x=k then .inl ((i:Int),()) else .inr ()) (fun _=>((-1:Int),())) j xs ()=if jF xs k then (((j+pos xs k:Nat):Int),()) else (-1,())
 | [],j,_=>by simp[aW,jF]
 | x::xs,j,hu=>by
  have hu:=th.1 hu
  simp only[aW]
  by_cases hx:rk x=k
  ·have hb:bU (rk x) k=false:=by rw[hx];exact nj k
   have hf:jF (x::xs) k=true:=by
    have TS:pos (x::xs) k=0:=by simp only[pos,hb,Bool.false_eq_true,if_false]
    unfold jF
    rw[TS]
    simp[hx]
   simp[hx,hf,pos,nj]
  ·simp only[hx,if_false]
   rw[Ft k xs (j+1) hu.2]
   cases hb:bU (rk x) k with
   | true=>
    rw[Ep hb]
    simp only[pos,hb,if_true]
    have:j+1+pos xs k=j+(pos xs k+1):=by omega
    rw[this]
   | false=>
    have h1:jF (x::xs) k=false:=by simp[jF,pos,hb,hx]
    have Y:jF xs k=false:=by
     cases h:jF xs k with
     | false=>rfl
     | true=>
      obtain ⟨y,hy,e⟩:=MX h
      have:=hu.1 y hy
      rw[e,hb] at this;cases this
    simp[h1,Y]
def oL (xs:List Row) (k:Int×Int):Int:=if jF xs k then (pos xs k:Int) else -1
theorem I9 (xs:List Row) (t k:Int) (hu:up xs) (hl:xs.length<=2000000):fY.ab (xs,t,k,())=some (oL xs (t,k),()):=by
 refine ag (k:=xs.length+1) fun f hf=>(fY.aa f _).trans ?_
 have:=bH (B:=fun self v=>fY.B0 0 self (fun z=>fY.Q0 0 (xs,t,k,()) z) (xs,t,k,()) v) xs (fun (_:Unit) (i:Int)=>i) (fun i _ x=>if rk x=(t,k) then .inl ((i:Int),()) else .inr ()) (fun _=>((-1:Int),())) (fun _ _=>True) (by rw[ah];omega)
  (fun i hi _ self _=>by
   show fY.b0 _ _ _ _=_
   unfold fY.b0 rk
   have ai:(i:Int) < (xs.length:Int):=by omega
   simp only[ai,decide_true,cond_true,Int.natCast_nonneg,if_true,Int.toNat_natCast,List.getElem?_eq_getElem hi,Option.bind_some]
   by_cases h1:xs[i].1=t <;> by_cases Y:xs[i].2.1=k <;> simp[h1,Y]) (fun _ _ _ _ _ _=>trivial) (fun _ self _=>by
   show fY.b0 _ _ _ _=_
   unfold fY.b0
   simp[fY.Q0,fY.q0]) () trivial f (by omega)
 rw[Ft (t,k) xs 0 hu] at this
 have this:fY.r0 f (xs,t,k,()) 0=_:=this
 unfold fY.p
 rw[this]
 unfold oL
 cases jF xs (t,k) <;> simp <;> rfl
theorem Dm {O:Type} (k:Int×Int) (g:Nat->O) (n:Nat):∀ (xs:List Row) (j:Nat),j+xs.length=n->aW (fun i (_:Unit) x=>if bU (rk x) k then .inr () else .inl (g i)) (fun _=>g n) j xs ()=g (j+pos xs k)
 | [],j,h=>by simp[aW,pos] at *;rw[h]
 | x::xs,j,h=>by
  simp only[aW,pos]
  cases hb:bU (rk x) k with
  | true=>
   simp only[if_true]
   rw[Dm k g n xs (j+1) (by simp at h;omega)]
   congr 1;omega
  | false=>simp
def jT (xs:List Row) (r:Row):List Row:=xs.take (pos xs (rk r))++[r]++xs.drop (pos xs (rk r))
theorem yU (xs:List Row) (r:Row) (hl:xs.length<=2000000):eo.ab (xs,r,())=some (jT xs r,()):=by
 refine ag (k:=xs.length+1) fun f hf=>(eo.aa f _).trans ?_
 have hq:∀ i:Nat,i<=xs.length->eo.Q0 0 (xs,r,()) (i:Int)=some (xs.take i++[r]++xs.drop i,()):=fun i hi=>by
  show eo.q0 _ _=_
  unfold eo.q0
  have o6:0<=(i:Int)/\(i:Int)<=(xs.length:Int):=by omega
  have c1:([]:List Row).length+(List.take i xs).length<=bf:=cA (by simp;omega)
  have c2:(List.take i xs).length+[r].length<=bf:=cA (by simp;omega)
  have c3:(List.take i xs++[r]).length+(List.drop i xs).length<=bf:=cA (by simp;omega)
  simp only[o6,and_self,if_true,Int.toNat_natCast,c1,List.drop_zero,List.nil_append,List.take_length,c2,c3]
 have:=bH (B:=fun self v=>eo.B0 0 self (fun z=>eo.Q0 0 (xs,r,()) z) (xs,r,()) v) xs (fun (_:Unit) (i:Int)=>i) (fun i _ x=>if bU (rk x) (rk r) then .inr () else .inl (xs.take i++[r]++xs.drop i,())) (fun _=>(xs.take xs.length++[r]++xs.drop xs.length,())) (fun _ _=>True) (by rw[ah];omega)
  (fun i hi _ self _=>by
   show eo.b0 _ _ _ _=_
   unfold eo.b0
   have ai:(i:Int) < (xs.length:Int):=by omega
   simp only[ai,decide_true,cond_true,Int.natCast_nonneg,if_true,Int.toNat_natCast,List.getElem?_eq_getElem hi,Option.bind_some,uT]
   cases bU (rk xs[i]) (rk r) with
   | true=>rfl
   | false=>exact hq i (by omega)) (fun _ _ _ _ _ _=>trivial) (fun _ self _=>by
   show eo.b0 _ _ _ _=_
   unfold eo.b0
   have ai:¬ (xs.length:Int) < (xs.length:Int):=by omega
   simp only[ai,decide_false,cond_false]
   exact hq _ (Nat.le_refl _)) () trivial f (by omega)
 rw[Dm (rk r) (fun i=>(xs.take i++[r]++xs.drop i,())) xs.length xs 0 (by omega)] at this
 refine this.trans ?_
 simp[jT]
theorem xz (t:Int):∀ (xs:List Row) (j:Nat) (s:List Row),aW (O:=List Row×Unit) (fun i s x=>if (i:Int)=t then .inr s else .inr (s++[x])) (fun s=>(s,())) j xs s=(s++(if (j:Int)<=t/\t < j+xs.length then xs.take (t - j).toNat++xs.drop ((t - j).toNat+1) else xs),())
 | [],j,s=>by
  have:¬ ((j:Int)<=t/\t < j+(([]:List Row).length:Int)):=fun h=>by
   have Y:(([]:List Row).length:Int)=0:=rfl
   omega
  simp only[aW,this,if_false,List.append_nil]
 | x::xs,j,s=>by
  simp only[aW]
  by_cases h:(j:Int)=t
  ·have h1:¬ (((j+1:Nat):Int)<=t/\t < ((j+1:Nat):Int)+(xs.length:Int)):=by omega
   have Y:(j:Int)<=t/\t < (j:Int)+((x::xs).length:Int):=by simp;omega
   have h3:(t - j).toNat=0:=by omega
   simp only[h,if_true]
   rw[xz t xs (j+1) s,if_neg h1]
   rw[<-h] at Y ⊢
   have h3:((j:Int) - j).toNat=0:=by omega
   rw[if_pos Y,h3]
   simp
  ·simp only[h,if_false]
   rw[xz t xs (j+1) (s++[x])]
   by_cases hc:(j:Int)<=t/\t < (j:Int)+((x::xs).length:Int)
   ·have vD:((j+1:Nat):Int)<=t/\t < ((j+1:Nat):Int)+(xs.length:Int):=by simp at hc;omega
    have h3:(t - j).toNat=(t - ((j+1:Nat):Int)).toNat+1:=by omega
    rw[if_pos hc,if_pos vD,h3]
    simp
   ·have vD:¬ (((j+1:Nat):Int)<=t/\t < ((j+1:Nat):Int)+(xs.length:Int)):=by simp at hc;omega
    rw[if_neg hc,if_neg vD]
    simp
def xA (xs:List Row) (k:Int×Int):List Row:=if jF xs k then xs.take (pos xs k)++xs.drop (pos xs k+1) else xs
theorem yV (k:Int×Int):∀ (l1 l2:List Row),(∀ x ∈ l1,bU (rk x) k=true)->pos (l1++l2) k=l1.length+pos l2 k
 | [],l2,_=>by simp
 | x::l1,l2,h=>by
  simp only[List.cons_append,pos,h x List.mem_cons_self,if_true,List.length_cons]
  rw[yV k l1 l2 fun y hy=>h y (List.mem_cons_of_mem _ hy)]
  omega
theorem uu {xs:List Row} {k:Int×Int} {x:Row} (h:x ∈ xs.take (pos xs k)):bU (rk x) k=true:=by
 obtain ⟨i,hi,e⟩:=List.mem_iff_getElem.1 h
 have hp:=tj xs k
 rw[List.length_take] at hi
 rw[List.getElem_take] at e
 rw[<-e]
 exact Dl xs k i (by omega) (by omega)
theorem KL {xs:List Row} {k:Int×Int} (hu:up xs) {n:Nat} (hn:pos xs k<=n):pos (xs.drop n) k=0:=by
 cases hd:xs.drop n with
 | nil=>rfl
 | cons y ys=>
  have ai:n < xs.length:=by
   rcases Nat.lt_or_ge n xs.length with h | h
   ·exact h
   ·rw[List.drop_eq_nil_of_le h] at hd;cases hd
  rw[List.drop_eq_getElem_cons ai] at hd
  injection hd with h1 Y
  simp only[pos]
  rw[<-h1,tk xs k n ai hu hn]
  rfl
theorem MY {xs:List Row} {k:Int×Int} {r:Row} (hu:up xs) (hk:rk r=k):jT (xA xs k) r=xs.take (pos xs k)++[r]++xs.drop (pos xs k+if jF xs k then 1 else 0):=by
 have hp:=tj xs k
 have key:∀ n,pos xs k<=n->pos (xs.take (pos xs k)++xs.drop n) k=pos xs k:=fun n hn=>by
  rw[yV k _ _ fun x hx=>uu hx,KL hu hn,List.length_take]
  omega
 have hl:(xs.take (pos xs k)).length=pos xs k:=by rw[List.length_take];omega
 unfold jT xA
 rw[hk]
 cases jF xs k with
 | true=>
  simp only[if_true]
  rw[key _ (by omega),List.take_left' hl,List.drop_left' hl]
 | false=>
  simp
theorem I_ (xs:List Row) (c:Change) (hu:up xs) (hl:xs.length<=2000000) (hc:c.2.2.1=true->rk c.2.2.2.1=ck c):fZ.ab (xs,c,())=some (if n7 xs c then (mh xs c,true,()) else ([],false,())):=by
 refine ag (k:=xs.length+1) fun f hf=>(fZ.aa f _).trans ?_
 have hp:=tj xs (ck c)
 have Ja:=bH (B:=fun self v=>fZ.B0 0 self (fun z=>fZ.Q0 0 (xs,c,()) (oL xs (ck c)) z) (xs,c,()) (oL xs (ck c)) v) (O:=List Row×Bool×Unit) xs (fun (s:List Row) (i:Int)=>(s,i)) (fun i s x=>if (i:Int)=oL xs (ck c) then .inr s else .inr (s++[x]))
  (fun s=>(if c.2.2.1 then jT s c.2.2.2.1 else s,true,())) (fun i s=>s.length<=i) (by rw[ah];omega)
  (fun i hi s self hI=>by
   show fZ.b0 _ _ _ _ _=_
   unfold fZ.b0
   have ai:(i:Int) < (xs.length:Int):=by omega
   simp only[ai,decide_true,cond_true,Int.natCast_nonneg,if_true,Int.toNat_natCast,List.getElem?_eq_getElem hi,Option.bind_some]
   have c2:s.length+[xs[i]].length<=bf:=cA (by simp;omega)
   by_cases h:(i:Int)=oL xs (ck c)
   ·simp[h]
   ·simp only[h,decide_false,Bool.not_false,cond_true,c2,if_true,if_false]) (fun i hi s s' hI hf=>by
   split at hf <;> (injection hf with hf;rw[<-hf];first | omega | (simp;omega))) (fun s self hI=>by
   show fZ.b0 _ _ _ _ _=_
   unfold fZ.b0
   have ai:¬ (xs.length:Int) < (xs.length:Int):=by omega
   simp only[ai,decide_false,cond_false,fZ.Q0,fZ.q0,yU s _ (by omega),Option.bind_some]
   cases c.2.2.1 <;> rfl) [] (Nat.le_refl _) f (by omega)
 have C0:∀ (Jb:List Row) (j:Nat) (s:List Row),aW (O:=List Row×Bool×Unit) (fun i s x=>if (i:Int)=oL xs (ck c) then .inr s else .inr (s++[x])) (fun s=>(if c.2.2.1 then jT s c.2.2.2.1 else s,true,())) j Jb s
   = (fun s=>(if c.2.2.1 then jT s c.2.2.2.1 else s,true,())) (aW (O:=List Row×Unit) (fun i s x=>if (i:Int)=oL xs (ck c) then .inr s else .inr (s++[x])) (fun s=>(s,())) j Jb s).1:=by
  intro Jb
  induction Jb with
  | nil=>intro j s;rfl
  | cons x Jb ih=>
   intro j s
   simp only[aW]
   by_cases h:(j:Int)=oL xs (ck c)
   ·simp only[h,if_true];exact ih _ _
   ·simp only[h,if_false];exact ih _ _
 rw[C0,xz (oL xs (ck c)) xs 0 []] at Ja
 have RV:([]++(if ((0:Nat):Int)<=oL xs (ck c)/\oL xs (ck c) < ((0:Nat):Int)+(xs.length:Int) then xs.take (oL xs (ck c) - ((0:Nat):Int)).toNat++xs.drop ((oL xs (ck c) - ((0:Nat):Int)).toNat+1) else xs))=xA xs (ck c):=by
  unfold oL xA
  cases Jc:jF xs (ck c) with
  | true=>
   obtain ⟨dZ,_⟩:=tm Jc
   simp only[if_true]
   rw[if_pos (by omega)]
   have:(((pos xs (ck c):Nat):Int) - ((0:Nat):Int)).toNat=pos xs (ck c):=by omega
   rw[this];rfl
  | false=>simp
 simp only[RV] at Ja
 have Ja:fZ.r0 f (xs,c,()) (oL xs (ck c)) (([]:List Row),(0:Int))=_:=Ja
 unfold fZ.p n7
 simp only[yO,I9 xs _ _ hu hl,Option.bind_some,Ja]
 have PV:(if c.2.2.1 then jT (xA xs (ck c)) c.2.2.2.1 else xA xs (ck c))=mh xs c:=by
  unfold mh
  cases hi:c.2.2.1 with
  | true=>simp only[if_true];exact MY hu (hc hi)
  | false=>
   simp only[Bool.false_eq_true,if_false,List.append_nil]
   unfold xA
   cases jF xs (ck c) with
   | true=>simp
   | false=>simp
 rw[PV]
 cases Jc:jF xs (ck c) with
 | true=>
  obtain ⟨dZ,hk⟩:=tm Jc
  have ha:oL xs (ck c)=(pos xs (ck c):Int):=by unfold oL;rw[Jc];rfl
  simp only[ha,Int.natCast_nonneg,decide_true,cond_true,if_true,Int.toNat_natCast,List.getElem?_eq_getElem dZ,Option.bind_some]
  cases c.1 with
  | true=>cases Ty.eq aF xs[pos xs (ck c)] c.2.1 <;> rfl
  | false=>rfl
 | false=>
  have ha:oL xs (ck c)=-1:=by unfold oL;rw[Jc];rfl
  simp only[ha]
  cases c.1 <;> rfl
end OT
set_option linter.unusedVariables false
set_option linter.unusedSimpArgs false
namespace OT
open Go
def lA (xs:List Row) (i:Nat) (x:Row):Sum (Int×Unit) Unit:=
 if h_ x=0 then (if 0 < i then (match xs[i - 1]? with | some y=>if bU (rk y) (rk x) then .inr () else .inl (1,()) | none=>.inl (1,())) else .inr ()) else .inl (h_ x,())
def mi (xs:List Row):Int:=if 60 < xs.length then 2 else (aW (fun i (_:Unit) x=>lA xs i x) (fun _=>((0:Int),())) 0 xs ()).1
theorem Er (xs:List Row) (hl:xs.length<=maxLen) (h:∀ c ∈ xs,rl c):eB.ab (xs,())=some (mi xs,()):=by
 refine ag (k:=xs.length+1) fun k hk=>(eB.aa k _).trans ?_
 have:=bH (B:=fun self v=>eB.B0 0 self (fun z=>eB.Q0 0 (xs,()) z) (xs,()) v) xs (fun (_:Unit) (i:Int)=>i) (fun i _ x=>lA xs i x) (fun _=>(0,())) (fun _ _=>True) hl
  (fun i hi _ self _=>by
   show eB.b0 _ _ _ _=_
   unfold eB.b0 lA
   have ai:(i:Int) < (xs.length:Int):=by omega
   simp only[ai,decide_true,cond_true,Int.natCast_nonneg,if_true,Int.toNat_natCast,List.getElem?_eq_getElem hi,Option.bind_some,qO _ (h _ (List.getElem_mem hi))]
   by_cases h1:h_ xs[i]=0
   ·simp only[h1,decide_true,Bool.not_true,cond_false,if_true]
    by_cases h0:0 < i
    ·have pv:(0:Int) < (i:Int):=by omega
     have fj:i - 1 < xs.length:=by omega
     simp only[h0,pv,decide_true,cond_true,if_true,yP h0 (by omega),Int.natCast_nonneg,Int.toNat_natCast,List.getElem?_eq_getElem fj,Option.bind_some,uT]
     cases bU (rk xs[i - 1]) (rk xs[i]) <;> rfl
    ·have pv:¬ (0:Int) < (i:Int):=by omega
     simp[h0,pv]
   ·simp[h1]) (fun _ _ _ _ _ _=>trivial) (fun _ self _=>by
   show eB.b0 _ _ _ _=_
   unfold eB.b0
   simp[eB.Q0,eB.q0]) () trivial k (by omega)
 have this:eB.r0 k (xs,()) 0=_:=this
 unfold eB.p mi
 rw[this,show (60:Int)=((60:Nat):Int) from rfl]
 simp only[G5]
 by_cases h1:60 < xs.length <;> simp[h1] <;> rfl
theorem wP (xs:List Row) (hl:xs.length<=maxLen) (h:∀ c ∈ xs,rl c):bX.ab (xs,())=some (mi xs,()):=by
 refine ag (k:=xs.length+1) fun k hk=>(bX.aa k _).trans ?_
 have:=bH (B:=fun self v=>bX.B0 0 self (fun z=>bX.Q0 0 (xs,()) z) (xs,()) v) xs (fun (_:Unit) (i:Int)=>i) (fun i _ x=>lA xs i x) (fun _=>(0,())) (fun _ _=>True) hl
  (fun i hi _ self _=>by
   show bX.b0 _ _ _ _=_
   unfold bX.b0 lA rk
   have ai:(i:Int) < (xs.length:Int):=by omega
   simp only[ai,decide_true,cond_true,Int.natCast_nonneg,if_true,Int.toNat_natCast,List.getElem?_eq_getElem hi,Option.bind_some,qP _ (h _ (List.getElem_mem hi))]
   by_cases h1:h_ xs[i]=0
   ·simp only[h1,decide_true,Bool.not_true,cond_false,if_true]
    by_cases h0:0 < i
    ·have pv:(0:Int) < (i:Int):=by omega
     have fj:i - 1 < xs.length:=by omega
     simp only[h0,pv,decide_true,cond_true,if_true,yP h0 (by omega),Int.natCast_nonneg,Int.toNat_natCast,List.getElem?_eq_getElem fj,Option.bind_some,sO]
     cases bU (xs[i - 1].1,xs[i - 1].2.1) (xs[i].1,xs[i].2.1) <;> rfl
    ·have pv:¬ (0:Int) < (i:Int):=by omega
     simp[h0,pv]
   ·simp[h1]) (fun _ _ _ _ _ _=>trivial) (fun _ self _=>by
   show bX.b0 _ _ _ _=_
   unfold bX.b0
   simp[bX.Q0,bX.q0]) () trivial k (by omega)
 have this:bX.r0 k (xs,()) 0=_:=this
 unfold bX.p mi
 rw[this,show (60:Int)=((60:Nat):Int) from rfl]
 simp only[G5]
 by_cases h1:60 < xs.length <;> simp[h1] <;> rfl
theorem AD {α:Type} {f:Nat->Unit->α->Sum (Int×Unit) Unit} (hf:∀ i s x o,f i s x=.inl o->o.1≠0):∀ (xs:List α) (j:Nat),(aW f (fun _=>((0:Int),())) j xs ()).1=0->∀ i (hi:i < xs.length),f (j+i) () xs[i]=.inr ()
 | x::xs,j,h,i,hi=>by
  simp only[aW] at h
  cases hx:f j () x with
  | inl o=>rw[hx] at h;exact absurd h (hf _ _ _ _ hx)
  | inr u=>
   rw[hx] at h
   cases i with
   | zero=>exact hx
   | succ i=>
    have:=AD hf xs (j+1) h i (by simpa using hi)
    rw[show j+(i+1)=j+1+i by omega]
    exact this
theorem Jd:∀ (xs:List Row),(∀ i (hi:i < xs.length),0 < i->bU (rk (xs[i - 1]'(by omega))) (rk xs[i])=true)->up xs
 | [],_=>List.Pairwise.nil
 | [x],_=>List.pairwise_singleton _ _
 | x::y::xs,h=>by
  have hu:up (y::xs):=Jd (y::xs) fun i hi h0=>by
   have:=h (i+1) (by simp at hi ⊢;omega) (by omega)
   simp only[Nat.add_sub_cancel] at this
   have e:(x::y::xs)[i]'(by simp at hi ⊢;omega)=(y::xs)[i - 1]'(by simp at hi ⊢;omega):=by
    cases i with
    | zero=>omega
    | succ i=>rfl
   rw[e] at this
   exact this
  have qw:bU (rk x) (rk y)=true:=h 1 (by simp) (by omega)
  refine th.2 ⟨fun z hz=>?_,hu⟩
  rcases List.mem_cons.1 hz with rfl | hz
  ·exact qw
  ·exact lm qw ((th.1 hu).1 z hz)
theorem Je {x:Row} (h:h_ x=0):List.length x.2.2.2.1<=8:=by
 unfold h_ at h
 split at h
 ·split at h
  ·rename_i ht
   unfold wD at ht
   simp only[Bool.and_eq_true,decide_eq_true_eq] at ht
   exact ht.2
  ·cases h
 ·cases h
structure Good (xs:List Row):Prop where
 up:up xs
 ok:∀ x ∈ xs,h_ x=0
theorem uw {xs:List Row} (h:mi xs=0):Good xs/\xs.length<=60:=by
 unfold mi at h
 split at h
 ·cases h
 ·rename_i hl
  have hn:=AD (f:=fun i (_:Unit) x=>lA xs i x) (fun i s x o ho=>by
   unfold lA at ho
   split at ho
   ·split at ho
    ·split at ho
     ·split at ho
      ·cases ho
      ·injection ho with ho;rw[<-ho];decide
     ·injection ho with ho;rw[<-ho];decide
    ·cases ho
   ·rename_i hx
    injection ho with ho;rw[<-ho];exact hx) xs 0 h
  have h1:∀ i (hi:i < xs.length),h_ xs[i]=0:=fun i hi=>by
   have:=hn i hi
   unfold lA at this
   split at this
   ·assumption
   ·cases this
  refine ⟨⟨Jd xs fun i hi h0=>?_,fun x hx=>?_⟩,by omega⟩
  ·have:=hn i hi
   unfold lA at this
   rw[if_pos (h1 i hi),Nat.zero_add,if_pos h0,List.getElem?_eq_getElem (show i - 1 < xs.length by omega)] at this
   simp only at this
   split at this
   ·assumption
   ·cases this
  ·obtain ⟨i,hi,rfl⟩:=List.mem_iff_getElem.1 hx
   exact h1 i hi
theorem Fu {c:Change} (h:mL c=0):(c.2.2.1=true->rk c.2.2.2.1=ck c)/\(c.2.2.1=true->h_ c.2.2.2.1=0):=by
 refine ⟨fun hi=>by unfold rk ck;rw[hi];rfl,fun hi=>?_⟩
 unfold mL at h
 split at h
 ·cases h
 ·split at h
  ·rename_i Y
   simp only[Bool.and_eq_true,Bool.not_eq_true',decide_eq_false_iff_not] at Y
   exact absurd h Y.2
  ·first | exact h | (rw[if_pos hi] at h;exact h)
theorem sy {xs:List Row} {c:Change} (h:Good xs) (hc:mL c=0):Good (mh xs c):=by
 obtain ⟨hk,hr⟩:=Fu hc
 have hb:=h.up
 constructor
 ·unfold mh up
  have h1:(xs.take (pos xs (ck c))).Pairwise (fun a b=>bU (rk a) (rk b)=true):=hb.sublist (List.take_sublist _ _)
  have uJ:∀ n,(xs.drop n).Pairwise (fun a b=>bU (rk a) (rk b)=true):=fun n=>hb.sublist (List.drop_sublist _ _)
  have Jf:∀ y ∈ xs.drop (pos xs (ck c)+if jF xs (ck c) then 1 else 0),bU (ck c) (rk y)=true:=fun y hy=>by
   obtain ⟨i,e⟩:=List.mem_iff_getElem?.1 hy
   rw[List.getElem?_drop] at e
   obtain ⟨ai,e1⟩:=List.getElem?_eq_some_iff.1 e
   have hn:=tk xs (ck c) _ ai hb (by omega)
   rw[e1] at hn
   clear e1 ai
   cases qy:bU (ck c) (rk y) with
   | true=>rfl
   | false=>
    have he:=pJ qy hn
    exfalso
    cases hf:jF xs (ck c) with
    | true=>
     obtain ⟨hp,Ac⟩:=tm hf
     rw[hf] at e
     simp only[if_true] at e
     obtain ⟨ai,e⟩:=List.getElem?_eq_some_iff.1 e
     have:=List.pairwise_iff_getElem.1 hb (pos xs (ck c)) (pos xs (ck c)+1+i) hp ai (by omega)
     rw[e,Ac,he] at this
     rw[nj] at this;cases this
    | false=>
     rw[hf] at e
     simp only[Bool.false_eq_true,if_false,Nat.add_zero] at e
     obtain ⟨ai,e⟩:=List.getElem?_eq_some_iff.1 e
     have hp:pos xs (ck c) < xs.length:=by omega
     have yj:=tk xs (ck c) _ hp hb (Nat.le_refl _)
     have eG:rk xs[pos xs (ck c)]≠ck c:=fun e2=>by
      unfold jF at hf
      rw[List.getElem?_eq_getElem hp] at hf
      simp[e2] at hf
     have KM:bU (ck c) (rk xs[pos xs (ck c)])=true:=by
      cases Ca:bU (ck c) (rk xs[pos xs (ck c)]) with
      | true=>rfl
      | false=>exact absurd (pJ Ca yj).symm eG
     cases i with
     | zero=>
      simp only[Nat.add_zero] at e
      rw[e,<- he,nj] at KM;cases KM
     | succ i=>
      have:=List.pairwise_iff_getElem.1 hb (pos xs (ck c)) (pos xs (ck c)+(i+1)) hp ai (by omega)
      rw[e] at this
      have:=lm KM this
      rw[<-he,nj] at this;cases this
  have Jg:∀ a ∈ xs.take (pos xs (ck c)),∀ y ∈ xs.drop (pos xs (ck c)+if jF xs (ck c) then 1 else 0),bU (rk a) (rk y)=true:=fun a ha y hy=>lm (uu ha) (Jf y hy)
  cases hi:c.2.2.1 with
  | true=>
   have QX:=hk hi
   simp only[if_true]
   refine List.pairwise_append.2 ⟨List.pairwise_append.2 ⟨h1,List.pairwise_singleton _ _,fun a ha b hb=>?_⟩,uJ _,fun a ha y hy=>?_⟩
   ·rw[List.mem_singleton] at hb;subst hb;rw[QX];exact uu ha
   ·rcases List.mem_append.1 ha with ha | ha
    ·exact Jg a ha y hy
    ·rw[List.mem_singleton] at ha;subst ha;rw[QX];exact Jf y hy
  | false=>
   simp only[Bool.false_eq_true,if_false,List.append_nil]
   exact List.pairwise_append.2 ⟨h1,uJ _,Jg⟩
 ·intro x hx
  unfold mh at hx
  rcases List.mem_append.1 hx with hx | hx
  ·rcases List.mem_append.1 hx with hx | hx
   ·exact h.ok x (List.mem_of_mem_take hx)
   ·split at hx
    ·rename_i hi
     rw[List.mem_singleton] at hx
     rw[hx];exact hr hi
    ·cases hx
  ·exact h.ok x (List.mem_of_mem_drop hx)
theorem ux (xs:List Row) (c:Change):(mh xs c).length<=xs.length+1:=by
 unfold mh
 rw[List.length_append,List.length_append,List.length_take,List.length_drop]
 have:(if c.2.2.1=true then [c.2.2.2.1] else []).length<=1:=by split <;> simp
 omega
def nk (i:Nat) (s:List Row) (c:Change):Sum (qJ×Unit) (List Row):=if mL c=0 then (if n7 s c then .inr (mh s c) else .inl ((8,[],()),())) else .inl ((mL c,[],()),())
def sa (s:List Row):qJ×Unit:=if 60 < s.length then ((2,[],()),()) else ((0,s,()),())
def yW (xs:List Row) (cs:List Change):qJ:=if mi xs=0 then (aW nk sa 0 cs xs).1 else (mi xs,[],())
theorem KN (n i:Nat) (s s':List Row) (c:Change) (h:Good s/\s.length<=60+i) (hf:nk n s c=.inr s'):Good s'/\s'.length<=60+(i+1):=by
 unfold nk at hf
 split at hf
 ·rename_i hc
  split at hf
  ·injection hf with hf
   subst hf
   exact ⟨sy h.1 hc,by have:=ux s c;omega⟩
  ·cases hf
 ·cases hf
theorem wQ (xs:List Row) (h:xs.length<=1048576):ei.ab (xs,())=some (xs,()):=by
 refine ag (k:=0) fun k _=>(ei.aa k _).trans ?_
 show ei.p _=_
 unfold ei.p
 have c1:([]:List Row).length+xs.length<=bf:=cA (by simp only[List.length_nil];omega)
 exact Fo (fun e=>by have e:xs=[]:=e;subst e;rfl) (by rw[if_pos c1];rfl)
theorem Dn (xs:List Row) (cs:List Change) (hl:xs.length<=maxLen) (h:∀ x ∈ xs,rl x) (Lr:cs.length<=1048576) (hc:∀ c ∈ cs,cl c):cb.ab (xs,cs,())=some (yW xs cs,()):=by
 refine ag (k:=cs.length+1) fun k hk=>(cb.aa k _).trans ?_
 unfold cb.p yW
 simp only[wP xs hl h,Option.bind_some]
 by_cases h0:mi xs=0
 ·obtain ⟨hg,hn⟩:=uw h0
  simp only[h0,decide_true,Bool.not_true,cond_false,if_true,wQ xs (by omega),Option.bind_some]
  exact bH (B:=fun self v=>cb.B0 0 self (fun z=>cb.Q0 0 (xs,cs,()) z) (xs,cs,()) v) cs (fun (s:List Row) (i:Int)=>(s,i)) nk sa (fun i s=>Good s/\s.length<=60+i) (by rw[ah];omega)
   (fun i hi s self hI=>by
    show cb.b0 _ _ _ _=_
    unfold cb.b0 nk
    have ai:(i:Int) < (cs.length:Int):=by omega
    simp only[ai,decide_true,cond_true,Int.natCast_nonneg,if_true,Int.toNat_natCast,List.getElem?_eq_getElem hi,Option.bind_some,uP _ (hc _ (List.getElem_mem hi)),I8 _ s hI.1.up (by omega),Ha s _ hI.1.up (by omega)]
    by_cases h1:mL cs[i]=0
    ·simp only[h1,decide_true,Bool.not_true,cond_false,if_true]
     cases n7 s cs[i] <;> rfl
    ·simp[h1]) (fun i hi s s' hI hf=>KN _ i s s' _ hI hf) (fun s self hI=>by
    show cb.b0 _ _ _ _=_
    unfold cb.b0 sa
    have ai:¬ (cs.length:Int) < (cs.length:Int):=by omega
    simp only[ai,decide_false,cond_false,cb.Q0,cb.q0]
    rw[show (60:Int)=((60:Nat):Int) from rfl,G5]
    by_cases h1:60 < s.length <;> simp[h1]) xs ⟨hg,by omega⟩ k (by omega)
 ·simp[h0];(try rfl)
end OT
set_option linter.unusedVariables false
set_option linter.unusedSimpArgs false
namespace OT
open Go
theorem Do {α β O:Type} [DecidableEq β] (g:α->Option β) (bad:O) (fin:Unit->O) (p:α->α->Bool) (hp:∀ x y,p x y=true↔∃ b,g x=some b/\g y=some b) (all:List α):∀ (xs pre:List α),all=pre++xs->(pre.filterMap g).Nodup->aW (fun i _ x=>if (all.take i).any (p x) then .inl bad else .inr ()) fin pre.length xs ()=if (all.filterMap g).Nodup then fin () else bad
 | [],pre,h,hn=>by
  rw[List.append_nil] at h
  subst h
  simp only[aW,hn,if_true]
 | x::xs,pre,h,hn=>by
  have ht:all.take pre.length=pre:=by rw[h];exact List.take_left
  simp only[aW,ht]
  have jk:all.filterMap g=pre.filterMap g++([x].filterMap g++xs.filterMap g):=by rw[h,<- List.singleton_append (x:=x),List.filterMap_append,List.filterMap_append]
  cases hc:pre.any (p x) with
  | true=>
   simp only[if_true]
   obtain ⟨y,hy,TT⟩:=List.any_eq_true.1 hc
   obtain ⟨b,h1,Y⟩:=(hp x y).1 TT
   rw[if_neg]
   intro lU
   rw[jk,List.nodup_append] at lU
   exact lU.2.2 b (List.mem_filterMap.2 ⟨y,hy,Y⟩) b (by simp[h1]) rfl
  | false=>
   simp only[Bool.false_eq_true,if_false]
   have:=Do g bad fin p hp all xs (pre++[x]) (by rw[h];simp) (by
    rw[List.filterMap_append,List.nodup_append]
    refine ⟨hn,?_,fun a ha b hb e=>?_⟩
    ·cases hg:g x with
     | none=>simp[hg]
     | some b=>simp[hg]
    ·subst e
     obtain ⟨y,hy,TU⟩:=List.mem_filterMap.1 ha
     obtain ⟨z,hz,TV⟩:=List.mem_filterMap.1 hb
     rw[List.mem_singleton] at hz
     subst hz
     have:pre.any (p z)=true:=List.any_eq_true.2 ⟨y,hy,(hp z y).2 ⟨a,TV,TU⟩⟩
     rw[this] at hc;cases hc)
   rw[List.length_append] at this
   exact this
theorem vV {α β O:Type} [DecidableEq β] (g:α->Option β) (bad:O) (fin:Unit->O) (p:α->α->Bool) (hp:∀ x y,p x y=true↔∃ b,g x=some b/\g y=some b) (xs:List α):aW (fun i _ x=>if (xs.take i).any (p x) then .inl bad else .inr ()) fin 0 xs ()=if (xs.filterMap g).Nodup then fin () else bad:=
 Do g bad fin p hp xs xs [] rfl List.nodup_nil
theorem uU {α:Type} {lt:α->α->Prop} (has:∀ a b,lt a b->¬ lt b a):∀ (xs ys:List α),xs.Perm ys->xs.Pairwise lt->ys.Pairwise lt->xs=ys
 | [],ys,h,_,_=>(List.nil_perm.1 h).symm
 | x::xs,[],h,_,_=>by have:=h.length_eq;cases this
 | x::xs,y::ys,h,h1,Y=>by
  obtain ⟨a1,a2⟩:=List.pairwise_cons.1 h1
  obtain ⟨b1,b2⟩:=List.pairwise_cons.1 Y
  by_cases qw:x=y
  ·subst qw
   rw[uU has xs ys ((List.perm_cons x).1 h) a2 b2]
  ·have hx:x ∈ ys:=by
    have:=h.mem_iff.1 (List.mem_cons_self (a:=x) (l:=xs))
    rcases List.mem_cons.1 this with e | e
    ·exact absurd e qw
    ·exact e
   have hy:y ∈ xs:=by
    have:=h.mem_iff.2 (List.mem_cons_self (a:=y) (l:=ys))
    rcases List.mem_cons.1 this with e | e
    ·exact absurd e.symm qw
    ·exact e
   exact absurd (b1 x hx) (has _ _ (a1 y hy))
theorem AE (xs:List Row) (r:Row):(jT xs r).Perm (r::xs):=by
 unfold jT
 rw[List.append_assoc]
 have:=List.perm_middle (a:=r) (l₁:=xs.take (pos xs (rk r))) (l₂:=xs.drop (pos xs (rk r)))
 rw[List.take_append_drop] at this
 exact this
theorem Fx {xs:List Row} {k:Int×Int} {x:Row} (hu:up xs) (h:x ∈ xs.drop (pos xs k)):bU (rk x) k=false:=by
 obtain ⟨i,hi,e⟩:=List.mem_iff_getElem.1 h
 rw[List.length_drop] at hi
 rw[List.getElem_drop] at e
 rw[<-e]
 exact tk xs k _ _ hu (by omega)
theorem MZ {xs:List Row} {r:Row} (hu:up xs) (hn:∀ x ∈ xs,rk x≠rk r):up (jT xs r):=by
 unfold jT up
 rw[List.append_assoc,List.pairwise_append]
 have hd:=hu.drop (i:=pos xs (rk r))
 refine ⟨hu.take,?_,fun a ha b hb=>?_⟩
 ·rw[List.singleton_append,List.pairwise_cons]
  refine ⟨fun b hb=>?_,hd⟩
  have h1:=Fx hu hb
  have Y:=hn b (List.mem_of_mem_drop hb)
  cases h3:bU (rk r) (rk b) with
  | true=>rfl
  | false=>exact absurd (pJ h1 h3) Y
 ·have h1:=uu ha
  rw[List.singleton_append] at hb
  rcases List.mem_cons.1 hb with e | e
  ·subst e;exact h1
  ·have Y:=Fx hu e
   have h3:=hn b (List.mem_of_mem_drop e)
   cases h4:bU (rk a) (rk b) with
   | true=>rfl
   | false=>
    cases h5:bU (rk b) (rk a) with
    | true=>rw[lm h5 h1] at Y;cases Y
    | false=>
     have:=pJ h4 h5
     rw[this] at h1
     rw[h1] at Y;cases Y
def yX (l:List Row):List Row:=l.foldl jT []
theorem yY:∀ (l acc:List Row),(l.foldl jT acc).Perm (l++acc)
 | [],acc=>List.Perm.refl _
 | r::l,acc=>by
  have h1:=yY l (jT acc r)
  have Y:(l++jT acc r).Perm (l++r::acc):=(List.Perm.refl l).append (AE acc r)
  exact h1.trans (Y.trans List.perm_middle)
theorem Hb (l:List Row):(yX l).Perm l:=by
 have:=yY l []
 rw[List.append_nil] at this
 exact this
theorem Dp:∀ (l acc:List Row),up acc->(l.map rk++acc.map rk).Nodup->up (l.foldl jT acc)
 | [],acc,h,_=>h
 | r::l,acc,h,hn=>by
  simp only[List.map_cons,List.cons_append,List.nodup_cons,List.mem_append,not_or] at hn
  refine Dp l (jT acc r) (MZ h fun x hx e=>hn.1.2 (List.mem_map.2 ⟨x,hx,e⟩)) ?_
  have:(l.map rk++(jT acc r).map rk).Perm (rk r::(l.map rk++acc.map rk)):=by
   refine ((List.Perm.refl _).append ((AE acc r).map rk)).trans ?_
   rw[List.map_cons]
   exact List.perm_middle
  rw[this.nodup_iff,List.nodup_cons,List.mem_append,not_or]
  exact hn
theorem KO {l:List Row} (h:(l.map rk).Nodup):up (yX l):=Dp l [] List.Pairwise.nil (by simpa using h)
theorem KP {a b:Int×Int} (h:bU a b=true):¬ bU b a=true:=by rw[I5 h];exact fun h=>by cases h
theorem KQ {xs:List Row} (h:up xs):(xs.map rk).Nodup:=by
 unfold List.Nodup
 rw[List.pairwise_map]
 refine h.imp fun h1 e=>?_
 rw[e,nj] at h1
 cases h1
end OT
set_option linter.unusedVariables false
set_option linter.unusedSimpArgs false
namespace OT
open Go
abbrev f0:Type:=List (List UInt8)
def vW {α β:Type} (g:Nat->α->List β):Nat->List α->List β
 | _,[]=>[]
 | i,x::xs=>g i x++vW g (i+1) xs
theorem vX {O α β:Type} (g:Nat->α->List β) (fin:List β->O):∀ (xs:List α) (i:Nat) (s:List β),aW (fun i s x=>.inr (s++g i x)) fin i xs s=fin (s++vW g i xs)
 | [],_,s=>by simp[aW,vW]
 | x::xs,i,s=>by simp only[aW,vW];rw[vX g fin xs (i+1)];simp[List.append_assoc]
theorem Fy {α β:Type} {g:Nat->α->List β} {n:Nat}:∀ (xs:List α) (i:Nat),(∀ i x,x ∈ xs->(g i x).length<=n)->(vW g i xs).length<=n*xs.length
 | [],_,_=>by simp[vW]
 | x::xs,i,h=>by
  have h1:=h i x List.mem_cons_self
  have Y:=Fy xs (i+1) fun i y hy=>h i y (List.mem_cons_of_mem _ hy)
  simp only[vW,List.length_append,List.length_cons,Nat.mul_add]
  omega
theorem Fz {α β:Type} {g:Nat->α->List β} {y:β}:∀ {xs:List α} {i:Nat},y ∈ vW g i xs↔∃ (j:Nat) (x:α),xs[j]?=some x/\y ∈ g (i+j) x
 | [],i=>by simp[vW]
 | x::xs,i=>by
  simp only[vW,List.mem_append,Fz (xs:=xs)]
  constructor
  ·rintro (h | ⟨j,z,h1,Y⟩)
   ·exact ⟨0,x,rfl,h⟩
   ·exact ⟨j+1,z,h1,by rw[show i+(j+1)=i+1+j by omega];exact Y⟩
  ·rintro ⟨j,z,h1,Y⟩
   cases j with
   | zero=>injection h1 with h1;subst h1;exact .inl Y
   | succ j=>exact .inr ⟨j,z,h1,by rw[show i+1+j=i+(j+1) by omega];exact Y⟩
def dc (x:aw):Int:=x.2.2.1.2.1
def jg (x:aw):Int:=x.2.2.1.2.2.1
def jh (x:aw):Int:=x.2.2.1.2.2.2.1
def f5 (x:aw):Row:=x.2.2.1.2.2.2.2.1
def kM (P:Nat) (p:List UInt8) (s:Nat):List aw:=if aN p s=0 then [] else [((P:Int),(s:Int),(db (eE p s)).1,())]
def mE (P:Nat) (p:List UInt8):List aw:=(List.range (pn p)).flatMap (kM P p)
def aS (ps:f0):List aw:=vW mE 0 ps
def iL (ps:f0) (a b:Int):kZ×Bool:=match ps[a.toNat]? with
 | some p=>if b.toNat < pn p/\aN p b.toNat≠0 then db (eE p b.toNat) else (wE,false)
 | none=>(wE,false)
def nU (p:List UInt8) (s:Nat):Bool:=decide (aN p s=0)||(db (eE p s)).2
def ph (p:List UInt8):Int:=if pg p=0 then (if (List.range (pn p)).all (nU p) then 0 else 5) else pg p
def kI (ps:f0) (x:aw):Bool:=!decide (dc x=1)||((iL ps (jg x) (jh x)).2&&decide ((iL ps (jg x) (jh x)).1.2.1=2))
def pi (x:aw):Option (Int×Int):=if dc x=1 then some (jg x,jh x) else none
def FA (x:aw) (r:Row):aw:=(x.1,x.2.1,(x.2.2.1.1,x.2.2.1.2.1,x.2.2.1.2.2.1,x.2.2.1.2.2.2.1,r,x.2.2.1.2.2.2.2.2),x.2.2.2)
def qS (ps:f0) (x:aw):aw:=if dc x=1 then FA x (iL ps (jg x) (jh x)).1.2.2.2.2.1 else x
def ln (ps:f0) (x:aw):List aw:=if dc x=2 then [] else [qS ps x]
def jc (ps:f0):List aw:=(aS ps).flatMap (ln ps)
def uy (ps:f0):Int:=
 if (aS ps).all (kI ps) then
  if ((aS ps).filterMap pi).Nodup then (if ((jc ps).map fun x=>rk (f5 x)).Nodup then 0 else 8) else 6
 else 4
def lp (ps:f0):Int:=if 12 < ps.length then 2 else if ip ph ps=0 then uy ps else ip ph ps
def nm (ps:f0):Prop:=ps.length<=12/\∀ p ∈ ps,ll p
theorem yZ {p:List UInt8} (h:ph p=0):ll p/\∀ s,s < pn p->aN p s≠0->(db (eE p s)).2=true:=by
 unfold ph at h
 split at h
 ·rename_i h1
  split at h
  ·rename_i Y
   refine ⟨vS.1 h1,fun s hs hz=>?_⟩
   have:=List.all_eq_true.1 Y s (List.mem_range.2 hs)
   simpa [nU,hz] using this
  ·cases h
 ·rename_i h1;exact absurd h h1
theorem pj {α:Type} {c:α->Int}:∀ {xs:List α},ip c xs=0->∀ x ∈ xs,c x=0
 | [],_,_,hx=>by cases hx
 | y::xs,h,x,hx=>by
  simp only[ip] at h
  split at h
  ·rename_i hy
   rcases List.mem_cons.1 hx with rfl | hx
   ·exact hy
   ·exact pj h x hx
  ·rename_i hy;exact absurd h hy
theorem uz {ps:f0} (h:lp ps=0):nm ps/\ip ph ps=0/\uy ps=0:=by
 unfold lp at h
 split at h
 ·cases h
 ·rename_i h1
  split at h
  ·rename_i Y
   exact ⟨⟨by omega,fun p hp=>(yZ (pj Y p hp)).1⟩,Y,h⟩
  ·rename_i Y;exact absurd h Y
theorem sQ {p:List UInt8} (h:ll p) (P:Nat):(mE P p).length<=16:=by
 have:∀ n,((List.range n).flatMap (kM P p)).length<=n:=by
  intro n
  induction n with
  | zero=>simp
  | succ n ih=>
   rw[List.range_succ,List.flatMap_append,List.length_append]
   have:(([n]:List Nat).flatMap (kM P p)).length<=1:=by
    simp only[List.flatMap_cons,List.flatMap_nil,List.append_nil,kM]
    split <;> simp
   omega
 have h1:=this (pn p)
 have Y:=h.n
 unfold mE;omega
theorem sA {ps:f0} (h:nm ps):(aS ps).length<=192:=by
 have:=Fy (g:=mE) (n:=16) ps 0 fun i p hp=>sQ (h.2 p hp) i
 unfold aS;have:=h.1;omega
theorem uA {ps:f0} (h:nm ps):(jc ps).length<=192:=by
 have:∀ xs:List aw,(xs.flatMap (ln ps)).length<=xs.length:=by
  intro xs
  induction xs with
  | nil=>simp
  | cons x xs ih=>
   have:(ln ps x).length<=1:=by unfold ln;split <;> simp
   simp only[List.flatMap_cons,List.length_append,List.length_cons];omega
 have h1:=this (aS ps)
 have Y:=sA h
 unfold jc;omega
theorem Dq (d:List UInt8):0<=(db d).1.2.2.1/\0<=(db d).1.2.2.2.1:=by
 unfold db
 split
 ·exact ⟨Int.natCast_nonneg _,Int.natCast_nonneg _⟩
 ·split
  ·exact ⟨Int.le_refl _,Int.le_refl _⟩
  ·exact ⟨Int.le_refl _,Int.le_refl _⟩
theorem sb {ps:f0} {x:aw}:x ∈ aS ps↔∃ (P:Nat) (p:List UInt8) (s:Nat),ps[P]?=some p/\s < pn p/\aN p s≠0/\x=((P:Int),(s:Int),(db (eE p s)).1,()):=by
 unfold aS
 rw[Fz]
 constructor
 ·rintro ⟨j,p,h1,Y⟩
  obtain ⟨s,h3,h4⟩:=List.mem_flatMap.1 Y
  unfold kM at h4
  split at h4
  ·cases h4
  ·rename_i hz
   rw[List.mem_singleton] at h4
   rw[Nat.zero_add] at h4
   exact ⟨j,p,s,h1,List.mem_range.1 h3,hz,h4⟩
 ·rintro ⟨P,p,s,h1,Y,h3,rfl⟩
  refine ⟨P,p,h1,List.mem_flatMap.2 ⟨s,List.mem_range.2 Y,?_⟩⟩
  unfold kM
  rw[if_neg h3,Nat.zero_add]
  exact List.mem_singleton.2 rfl
theorem pV {ps:f0} {x:aw} (h:x ∈ aS ps):0<=jg x/\0<=jh x:=by
 obtain ⟨P,p,s,_,_,_,rfl⟩:=sb.1 h
 exact Dq _
theorem vY (ps:f0) (h:nm ps):bP.ab (ps,())=some (aS ps,()):=by
 obtain ⟨hl,hp⟩:=h
 refine ag (k:=100) fun k hk=>(bP.aa k _).trans ?_
 have inner:∀ (self:(f0×(List aw)×Int)->Option bP.Out) (e0:(List aw)->Option bP.Out) (i:Nat) (hi:i < ps.length) (s:List aw),s.length<=1000->bP.r1 k self e0 (ps,()) ps (i:Int) (s,(0:Int))=self (ps,s++mE i ps[i],ae ((i:Int)+1)):=fun self e0 i hi s0 QA=>by
  have az:=hp _ (List.getElem_mem hi)
  have hn:=az.n
  have hlen:=az.len
  have:=qR (B:=fun cn v=>bP.B1 k cn (fun z=>bP.Q0 k self e0 (ps,()) ps (i:Int) z) (ps,()) ps (i:Int) v) (pn ps[i]) (fun (s:List aw) (j:Int)=>(s,j)) (fun j s=>.inr (s++kM i ps[i] j)) (fun s=>self (ps,s,ae ((i:Int)+1))) (fun j s=>s.length<=1000+j) (by omega)
   (fun j hj s cn hI=>by
    show bP.b1 _ _ _ _ _ _=_
    unfold bP.b1 kM
    have ai:(j:Int) < (pn ps[i]:Int):=by omega
    simp only[Int.natCast_nonneg,if_true,Int.toNat_natCast,List.getElem?_eq_getElem hi,Option.bind_some,oK hlen,ai,decide_true,cond_true,ni hlen (show j < 16 by omega)]
    by_cases hz:aN ps[i] j=0
    ·have:¬ ((0:Int) < (aN ps[i] j:Int)):=by omega
     rw[decide_eq_false this]
     simp only[cond_false,hz,if_true,List.append_nil]
    ·have:((0:Int) < (aN ps[i] j:Int)):=by omega
     rw[decide_eq_true this]
     simp only[cond_true,qu az hj,rZ _ (Nat.le_trans (nT az hj) (by omega)),Option.bind_some,hz,if_false]
     rw[if_pos (cA (by simp only[List.length_cons,List.length_nil];omega))])
   (fun j hj s s' hI hf=>by
    injection hf with hf
    subst hf
    have:(kM i ps[i] j).length<=1:=by unfold kM;split <;> simp
    rw[List.length_append];omega) (fun s cn hI=>by
    show bP.b1 _ _ _ _ _ _=_
    unfold bP.b1
    simp only[Int.natCast_nonneg,if_true,Int.toNat_natCast,List.getElem?_eq_getElem hi,Option.bind_some,oK hlen,Int.lt_irrefl,decide_false,cond_false]
    rfl) s0 (by omega) k (by omega)
  rw[uq (kM i ps[i])] at this
  exact this
 have:=bK (B:=fun self v=>bP.B0 k self (fun z=>bP.Q1 k (ps,()) z) (ps,()) v) ps (fun (s:List aw) (i:Int)=>(ps,s,i)) (fun i s p=>.inr (s++mE i p)) (fun s=>some (s,())) (fun i s=>s.length<=16*i) (by rw[ah];omega)
  (fun i hi s self hI=>by
   show bP.b0 _ _ _ _ _=_
   unfold bP.b0
   have ai:(i:Int) < (ps.length:Int):=by omega
   simp only[ai,decide_true,cond_true,inner self _ i hi s (by omega)])
  (fun i hi s s' hI hf=>by
   injection hf with hf
   subst hf
   have:=sQ (hp _ (List.getElem_mem hi)) i
   rw[List.length_append];omega) (fun s self _=>by
   show bP.b0 _ _ _ _ _=_
   unfold bP.b0
   simp only[Int.lt_irrefl,decide_false,cond_false]
   rfl) [] (by simp) k (by omega)
 rw[vX] at this
 exact this
theorem Dr (ps:f0) (hl:ps.length<=12) (hp:∀ p ∈ ps,p.length<=maxLen):cq.ab (ps,())=some (ip ph ps,()):=by
 refine ag (k:=100) fun k hk=>(cq.aa k _).trans ?_
 have inner:∀ (self:(f0×Int)->Option cq.Out) (e0:Unit->Option cq.Out) (i:Nat) (hi:i < ps.length),ll ps[i]->cq.r1 k self e0 (ps,()) ps (i:Int) (0:Int)=if (List.range (pn ps[i])).all (nU ps[i]) then self (ps,ae ((i:Int)+1)) else some ((5:Int),()):=fun self e0 i hi az=>by
  have hn:=az.n
  have hlen:=az.len
  have:=qR (B:=fun cn v=>cq.B1 k cn (fun z=>cq.Q0 k self e0 (ps,()) ps (i:Int) z) (ps,()) ps (i:Int) v) (pn ps[i]) (fun (_:Unit) (j:Int)=>j) (fun j _=>if nU ps[i] j then .inr () else .inl (some ((5:Int),()))) (fun s=>self (ps,ae ((i:Int)+1))) (fun _ _=>True) (by omega)
   (fun j hj s cn hI=>by
    show cq.b1 _ _ _ _ _ _=_
    unfold cq.b1 nU
    have ai:(j:Int) < (pn ps[i]:Int):=by omega
    simp only[Int.natCast_nonneg,if_true,Int.toNat_natCast,List.getElem?_eq_getElem hi,Option.bind_some,oK hlen,ai,decide_true,cond_true,ni hlen (show j < 16 by omega)]
    by_cases hz:aN ps[i] j=0
    ·have:¬ ((0:Int) < (aN ps[i] j:Int)):=by omega
     rw[decide_eq_false this]
     simp only[cond_false,hz,decide_true,Bool.true_or,if_true]
    ·have:((0:Int) < (aN ps[i] j:Int)):=by omega
     rw[decide_eq_true this]
     simp only[cond_true,qu az hj,rZ _ (Nat.le_trans (nT az hj) (by omega)),Option.bind_some,hz,decide_false,Bool.false_or]
     cases (db (eE ps[i] j)).2 <;> rfl)
   (fun _ _ _ _ _ _=>trivial) (fun s cn hI=>by
    show cq.b1 _ _ _ _ _ _=_
    unfold cq.b1
    simp only[Int.natCast_nonneg,if_true,Int.toNat_natCast,List.getElem?_eq_getElem hi,Option.bind_some,oK hlen,Int.lt_irrefl,decide_false,cond_false]
    rfl) () trivial k (by omega)
  rw[mD] at this
  exact this
 have:=bK (B:=fun self v=>cq.B0 k self (fun z=>cq.Q1 k (ps,()) z) (ps,()) v) ps (fun (_:Unit) (i:Int)=>(ps,i)) (fun i _ p=>if ph p=0 then .inr () else .inl (some (ph p,()))) (fun _=>some ((0:Int),())) (fun _ _=>True) (by rw[ah];omega)
  (fun i hi s self hI=>by
   show cq.b0 _ _ _ _ _=_
   unfold cq.b0 ph
   have ai:(i:Int) < (ps.length:Int):=by omega
   simp only[ai,decide_true,cond_true,Int.natCast_nonneg,if_true,Int.toNat_natCast,List.getElem?_eq_getElem hi,Option.bind_some,En _ (hp _ (List.getElem_mem hi))]
   by_cases h0:pg ps[i]=0
   ·rw[decide_eq_true h0]
    simp only[Bool.not_true,cond_false,inner self _ i hi (vS.1 h0),h0,if_true]
    by_cases hc:(List.range (pn ps[i])).all (nU ps[i])=true
    ·simp only[hc,if_true]
    ·simp only[hc,Bool.false_eq_true,if_false]
     rfl
   ·rw[decide_eq_false h0]
    simp only[Bool.not_false,cond_true,h0,if_false])
  (fun _ _ _ _ _ _=>trivial) (fun s self _=>by
   show cq.b0 _ _ _ _ _=_
   unfold cq.b0
   simp only[Int.lt_irrefl,decide_false,cond_false]
   rfl) () trivial k (by omega)
 rw[qI ph (fun c=>some (c,())) (fun _=>some ((0:Int),()))] at this
 refine Eq.trans this ?_
 split
 ·rename_i h;rw[h]
 ·rfl
theorem vZ (ps:f0) (h:nm ps) (a b:Int) (ha:0<=a) (hb:0<=b):fX.ab (ps,a,b,())=some ((iL ps a b).1,(iL ps a b).2,()):=by
 obtain ⟨hl,hp⟩:=h
 obtain ⟨a,rfl⟩:=Int.eq_ofNat_of_zero_le ha
 obtain ⟨b,rfl⟩:=Int.eq_ofNat_of_zero_le hb
 refine ag (k:=0) fun k hk=>(fX.aa k _).trans ?_
 show fX.p _=_
 unfold fX.p iL
 have hw:ae ((ps.length:Int) - 1)=(ps.length:Int) - 1:=aE (by omega)
 have h0:decide ((0:Int)<=(a:Int))=true:=decide_eq_true (by omega)
 have h1:decide ((a:Int)<=(ps.length:Int) - 1)=decide (a < ps.length):=by rw[decide_eq_decide];omega
 simp only[ir,hw,h0,h1,Option.bind_some,Bool.true_and,Int.toNat_natCast]
 by_cases Ma:a < ps.length
 rotate_left
 ·rw[decide_eq_false Ma,List.getElem?_eq_none (by omega)]
  rfl
 rw[decide_eq_true Ma]
 have az:=hp _ (List.getElem_mem Ma)
 simp only[Bool.not_true,cond_false,Int.natCast_nonneg,if_true,List.getElem?_eq_getElem Ma,Option.bind_some,G_ az]
 by_cases hc:b < pn ps[a]/\aN ps[a] b≠0
 ·rw[decide_eq_true hc.1,decide_eq_false hc.2,if_pos hc]
  simp only[Bool.not_false,Bool.and_self,Bool.not_true,cond_false,qu az hc.1,rZ _ (Nat.le_trans (nT az hc.1) (by omega)),Option.bind_some]
 ·rw[if_neg hc]
  have:(decide (b < pn ps[a])&&!decide (aN ps[a] b=0))=false:=by
   rw[Bool.and_eq_false_iff]
   by_cases Y:b < pn ps[a]
   ·right
    have:aN ps[a] b=0:=by
     by_cases h3:aN ps[a] b=0
     ·exact h3
     ·exact absurd ⟨Y,h3⟩ hc
    rw[decide_eq_true this];rfl
   ·left;exact decide_eq_false Y
  rw[this]
  rfl
theorem Ds (ps:f0) (h:nm ps):bi.ab (aS ps,ps,())=some (if (aS ps).all (kI ps) then (if ((aS ps).filterMap pi).Nodup then 0 else 6) else 4,()):=by
 have ig:=sA h
 have vU:∀ x ∈ aS ps,0<=jg x/\0<=jh x:=fun x hx=>pV hx
 generalize aS ps=xs at ig vU ⊢
 refine ag (k:=300) fun k hk=>(bi.aa k _).trans ?_
 have inner:∀ (self:(List aw×Int)->Option bi.Out) (e2:Unit->Option bi.Out) (i:Nat) (hi:i < xs.length),bi.r2 k self e2 (xs,ps,()) xs (i:Int) (0:Int)=if (xs.take i).any (fun y=>decide (dc xs[i]=1)&&(decide (dc y=1)&&(decide (jg xs[i]=jg y)&&decide (jh xs[i]=jh y)))) then some ((6:Int),()) else self (xs,ae ((i:Int)+1)):=fun self e2 i hi=>by
  have eD:(xs.take i).length=i:=by rw[List.length_take];omega
  have:=bK (B:=fun cn v=>bi.B2 k cn (fun z=>bi.Q1 k self e2 (xs,ps,()) xs (i:Int) z) (xs,ps,()) xs (i:Int) v) (xs.take i) (fun (_:Unit) (j:Int)=>j) (fun _ _ y=>if decide (dc xs[i]=1)&&(decide (dc y=1)&&(decide (jg xs[i]=jg y)&&decide (jh xs[i]=jh y))) then .inl (some ((6:Int),())) else .inr ()) (fun _=>self (xs,ae ((i:Int)+1))) (fun _ _=>True) (by rw[ah];omega)
   (fun j hj s cn _=>by
    have ge:j < i:=by omega
    have Iw:j < xs.length:=by omega
    show bi.b2 _ _ _ _ _ _=_
    unfold bi.b2
    have ai:(j:Int) < (i:Int):=by omega
    have hg:(xs.take i)[j]=xs[j]:=List.getElem_take
    rw[hg]
    simp only[ai,decide_true,cond_true,Int.natCast_nonneg,if_true,Int.toNat_natCast,List.getElem?_eq_getElem hi,List.getElem?_eq_getElem Iw,Option.bind_some]
    show (bif decide (dc xs[i]=1) then bif decide (dc xs[j]=1) then bif decide (jg xs[i]=jg xs[j]) then bif decide (jh xs[i]=jh xs[j]) then _ else _ else _ else _ else _)=_
    cases decide (dc xs[i]=1) <;> cases decide (dc xs[j]=1) <;> cases decide (jg xs[i]=jg xs[j]) <;> cases decide (jh xs[i]=jh xs[j]) <;> rfl)
   (fun _ _ _ _ _ _=>trivial) (fun s cn _=>by
    rw[eD]
    show bi.b2 _ _ _ _ _ _=_
    unfold bi.b2
    simp only[Int.lt_irrefl,decide_false,cond_false]
    rfl) () trivial k (by omega)
  rw[pH] at this
  exact this
 have second:bi.r1 k (xs,ps,()) (xs,(0:Int))=if (xs.filterMap pi).Nodup then some ((0:Int),()) else some ((6:Int),()):=by
  have:=bK (B:=fun self v=>bi.B1 k self (fun z=>bi.Q2 k (xs,ps,()) z) (xs,ps,()) v) xs (fun (_:Unit) (i:Int)=>(xs,i)) (fun i _ x=>if (xs.take i).any (fun y=>decide (dc x=1)&&(decide (dc y=1)&&(decide (jg x=jg y)&&decide (jh x=jh y)))) then .inl (some ((6:Int),())) else .inr ()) (fun _=>some ((0:Int),())) (fun _ _=>True) (by rw[ah];omega)
   (fun i hi s self _=>by
    show bi.b1 _ _ _ _ _=_
    unfold bi.b1
    have ai:(i:Int) < (xs.length:Int):=by omega
    simp only[ai,decide_true,cond_true,inner self _ i hi]
    split <;> rfl)
   (fun _ _ _ _ _ _=>trivial) (fun s self _=>by
    show bi.b1 _ _ _ _ _=_
    unfold bi.b1
    simp only[Int.lt_irrefl,decide_false,cond_false]
    rfl) () trivial k (by omega)
  rw[vV pi (some ((6:Int),())) (fun _=>some ((0:Int),())) (fun x y=>decide (dc x=1)&&(decide (dc y=1)&&(decide (jg x=jg y)&&decide (jh x=jh y)))) (fun x y=>?_) xs] at this
  ·exact this
  ·unfold pi
   simp only[Bool.and_eq_true,decide_eq_true_eq]
   constructor
   ·rintro ⟨h1,Y,h3,h4⟩
    exact ⟨(jg x,jh x),by rw[if_pos h1],by rw[if_pos Y,h3,h4]⟩
   ·rintro ⟨b,h1,Y⟩
    by_cases c1:dc x=1
    ·by_cases c2:dc y=1
     ·rw[if_pos c1] at h1
      rw[if_pos c2] at Y
      injection h1 with h1
      injection Y with Y
      rw[<-Y] at h1
      injection h1 with h3 h4
      exact ⟨c1,c2,h3,h4⟩
     ·rw[if_neg c2] at Y;cases Y
    ·rw[if_neg c1] at h1;cases h1
 have:=bK (B:=fun self v=>bi.B0 k self (fun z=>bi.Q0 k (xs,ps,()) z) (xs,ps,()) v) xs (fun (_:Unit) (i:Int)=>i) (fun i _ x=>if kI ps x then .inr () else .inl (some ((4:Int),()))) (fun _=>bi.r1 k (xs,ps,()) (xs,(0:Int))) (fun _ _=>True) (by rw[ah];omega)
  (fun i hi s self _=>by
   show bi.b0 _ _ _ _=_
   unfold bi.b0 kI
   have ai:(i:Int) < (xs.length:Int):=by omega
   obtain ⟨g1,g2⟩:=vU _ (List.getElem_mem hi)
   have yD:fX.ab (ps,(xs[i]).2.2.1.2.2.1,(xs[i]).2.2.1.2.2.2.1,())=some ((iL ps (jg xs[i]) (jh xs[i])).1,(iL ps (jg xs[i]) (jh xs[i])).2,()):=vZ ps h _ _ g1 g2
   simp only[ai,decide_true,cond_true,Int.natCast_nonneg,if_true,Int.toNat_natCast,List.getElem?_eq_getElem hi,Option.bind_some,yD]
   show (bif !decide (dc xs[i]=1) then _ else _)=_
   cases decide (dc xs[i]=1) <;> cases (iL ps (jg xs[i]) (jh xs[i])).2 <;> cases decide ((iL ps (jg xs[i]) (jh xs[i])).1.2.1=2) <;> rfl)
  (fun _ _ _ _ _ _=>trivial) (fun s self _=>by
   show bi.b0 _ _ _ _=_
   unfold bi.b0
   simp only[Int.lt_irrefl,decide_false,cond_false]
   rfl) () trivial k (by omega)
 rw[kY (kI ps) (some ((4:Int),())) (fun _=>bi.r1 k (xs,ps,()) (xs,(0:Int)))] at this
 refine Eq.trans this ?_
 rw[second]
 split
 ·split <;> rfl
 ·rfl
theorem wR (ps:f0) (h:nm ps):eC.ab (ps,())=some (jc ps,()):=by
 refine ag (k:=300) fun k hk=>(eC.aa k _).trans ?_
 unfold eC.p
 rw[vY ps h]
 simp only[Option.bind_some]
 have ig:=sA h
 have vU:∀ x ∈ aS ps,0<=jg x/\0<=jh x:=fun x hx=>pV hx
 unfold jc
 generalize aS ps=xs at ig vU ⊢
 have:=bK (B:=fun self v=>eC.B0 k self (fun z=>eC.Q0 k (ps,()) xs z) (ps,()) xs v) xs (fun (s:List aw) (i:Int)=>(s,i)) (fun i s x=>.inr (s++ln ps x)) (fun s=>some (s,())) (fun i s=>s.length<=i) (by rw[ah];omega)
  (fun i hi s self hI=>by
   show eC.b0 _ _ _ _ _=_
   unfold eC.b0 ln
   have ai:(i:Int) < (xs.length:Int):=by omega
   obtain ⟨g1,g2⟩:=vU _ (List.getElem_mem hi)
   have yD:fX.ab (ps,(xs[i]).2.2.1.2.2.1,(xs[i]).2.2.1.2.2.2.1,())=some ((iL ps (jg xs[i]) (jh xs[i])).1,(iL ps (jg xs[i]) (jh xs[i])).2,()):=vZ ps h _ _ g1 g2
   have kC:∀ y:aw,s.length+[y].length<=bf:=fun y=>cA (by simp only[List.length_cons,List.length_nil];omega)
   simp only[ai,decide_true,cond_true,Int.natCast_nonneg,and_self,if_true,Int.toNat_natCast,List.getElem?_eq_getElem hi,Option.bind_some,yD,kC]
   show (bif decide (dc xs[i]=2) then _ else bif decide (dc xs[i]=1) then _ else _)=_
   unfold qS
   by_cases c2:dc xs[i]=2
   ·simp only[c2,decide_true,cond_true,if_true,List.append_nil]
   ·by_cases c1:dc xs[i]=1
    ·simp only[c1,c2,decide_true,decide_false,cond_true,cond_false,if_true,if_false]
     rfl
    ·simp only[c1,c2,decide_false,cond_false,if_false])
  (fun i hi s s' hI hf=>by
   injection hf with hf
   subst hf
   have:(ln ps xs[i]).length<=1:=by unfold ln;split <;> simp
   rw[List.length_append];omega) (fun s self _=>by
   show eC.b0 _ _ _ _ _=_
   unfold eC.b0
   simp only[Int.lt_irrefl,decide_false,cond_false]
   rfl) [] (by simp) k (by omega)
 rw[uq (ln ps)] at this
 exact this
def Hc (x:aw):Option (Int×Int):=some (rk (f5 x))
theorem Es (ps:f0) (hp:∀ p ∈ ps,p.length<=maxLen):b9.ab (ps,())=some (lp ps,()):=by
 refine ag (k:=300) fun k hk=>(b9.aa k _).trans ?_
 unfold b9.p lp
 by_cases hl:12 < ps.length
 ·have:(12:Int) < (ps.length:Int):=by omega
  simp only[this,decide_true,cond_true,hl,if_true]
 have iw:¬ ((12:Int) < (ps.length:Int)):=by omega
 simp only[iw,decide_false,cond_false,hl,if_false,Dr ps (by omega) hp,Option.bind_some]
 by_cases hc:ip ph ps=0
 rotate_left
 ·simp only[hc,decide_false,Bool.not_false,cond_true,if_false]
 have h:nm ps:=⟨by omega,fun p hp=>(yZ (pj hc p hp)).1⟩
 simp only[hc,decide_true,Bool.not_true,cond_false,if_true,vY ps h,Ds ps h,wR ps h,Option.bind_some]
 unfold uy
 by_cases h1:(aS ps).all (kI ps)=true
 rotate_left
 ·simp only[h1,Bool.false_eq_true,if_false]
  rfl
 by_cases Y:((aS ps).filterMap pi).Nodup
 rotate_left
 ·simp only[h1,Y,if_true,if_false]
  rfl
 simp only[h1,Y,if_true,decide_true,Bool.not_true,cond_false]
 have ig:=uA h
 generalize jc ps=xs at ig ⊢
 have inner:∀ (self:(List aw×Int)->Option b9.Out) (e0:Unit->Option b9.Out) (i:Nat) (hi:i < xs.length),b9.r1 k self e0 (ps,()) xs (i:Int) (0:Int)=if (xs.take i).any (fun y=>decide ((f5 xs[i]).1=(f5 y).1)&&decide ((f5 xs[i]).2.1=(f5 y).2.1)) then some ((8:Int),()) else self (xs,ae ((i:Int)+1)):=fun self e0 i hi=>by
  have eD:(xs.take i).length=i:=by rw[List.length_take];omega
  have:=bK (B:=fun cn v=>b9.B1 k cn (fun z=>b9.Q0 k self e0 (ps,()) xs (i:Int) z) (ps,()) xs (i:Int) v) (xs.take i) (fun (_:Unit) (j:Int)=>j) (fun _ _ y=>if decide ((f5 xs[i]).1=(f5 y).1)&&decide ((f5 xs[i]).2.1=(f5 y).2.1) then .inl (some ((8:Int),())) else .inr ()) (fun _=>self (xs,ae ((i:Int)+1))) (fun _ _=>True) (by rw[ah];omega)
   (fun j hj s cn _=>by
    have ge:j < i:=by omega
    have Iw:j < xs.length:=by omega
    show b9.b1 _ _ _ _ _ _=_
    unfold b9.b1
    have ai:(j:Int) < (i:Int):=by omega
    have RW:(i:Int) < (xs.length:Int):=by omega
    have ng:(j:Int) < (xs.length:Int):=by omega
    have hg:(xs.take i)[j]=xs[j]:=List.getElem_take
    rw[hg]
    simp only[ai,RW,ng,decide_true,cond_true,Int.natCast_nonneg,and_self,if_true,Int.toNat_natCast,List.getElem?_eq_getElem hi,List.getElem?_eq_getElem Iw,Option.bind_some]
    show (bif decide ((f5 xs[i]).1=(f5 xs[j]).1) then bif decide ((f5 xs[i]).2.1=(f5 xs[j]).2.1) then _ else _ else _)=_
    cases decide ((f5 xs[i]).1=(f5 xs[j]).1) <;> cases decide ((f5 xs[i]).2.1=(f5 xs[j]).2.1) <;> rfl)
   (fun _ _ _ _ _ _=>trivial) (fun s cn _=>by
    rw[eD]
    show b9.b1 _ _ _ _ _ _=_
    unfold b9.b1
    simp only[Int.lt_irrefl,decide_false,cond_false]
    rfl) () trivial k (by omega)
  rw[pH] at this
  exact this
 have:=bK (B:=fun self v=>b9.B0 k self (fun z=>b9.Q1 k (ps,()) z) (ps,()) v) xs (fun (_:Unit) (i:Int)=>(xs,i)) (fun i _ x=>if (xs.take i).any (fun y=>decide ((f5 x).1=(f5 y).1)&&decide ((f5 x).2.1=(f5 y).2.1)) then .inl (some ((8:Int),())) else .inr ()) (fun _=>some ((0:Int),())) (fun _ _=>True) (by rw[ah];omega)
  (fun i hi s self _=>by
   show b9.b0 _ _ _ _ _=_
   unfold b9.b0
   have ai:(i:Int) < (xs.length:Int):=by omega
   simp only[ai,decide_true,cond_true,inner self _ i hi]
   split <;> rfl)
  (fun _ _ _ _ _ _=>trivial) (fun s self _=>by
   show b9.b0 _ _ _ _ _=_
   unfold b9.b0
   simp only[Int.lt_irrefl,decide_false,cond_false]
   rfl) () trivial k (by omega)
 rw[vV Hc (some ((8:Int),())) (fun _=>some ((0:Int),())) (fun x y=>decide ((f5 x).1=(f5 y).1)&&decide ((f5 x).2.1=(f5 y).2.1)) (fun x y=>?_) xs] at this
 ·refine Eq.trans this ?_
  have:xs.filterMap Hc=xs.map fun x=>rk (f5 x):=by
   unfold Hc
   rw[<-List.filterMap_eq_map]
   rfl
  rw[this]
  split <;> rfl
 ·unfold Hc rk
  simp only[Bool.and_eq_true,decide_eq_true_eq]
  constructor
  ·rintro ⟨h1,Y⟩;exact ⟨_,rfl,by rw[h1,Y]⟩
  ·rintro ⟨b,h1,Y⟩
   injection h1 with h1
   injection Y with Y
   rw[<-Y] at h1
   injection h1 with h3 h4
   exact ⟨h3,h4⟩
end OT
set_option linter.unusedVariables false
set_option linter.unusedSimpArgs false
namespace OT
open Go Go.Sort
abbrev pk:Ty:=.arr 2 i64
theorem tn (a b c d:Int):Ty.eq pk [a,b] [c,d]=(decide (a=c)&&decide (b=d)):=by
 show ([(a,c),(b,d)]:List (Int×Int)).all (fun p=>Ty.eq i64 p.1 p.2)=_
 simp only[List.all_cons,List.all_nil,Bool.and_true]
 rfl
theorem xB (a b:Int):((List.replicate 2 (0:Int)).set 0 a).set 1 b=[a,b]:=rfl
theorem v6 {α:Type} (k:Ty) (m:List (k.den×α)) (x:k.den) (y:α) (h:∀ e ∈ m,k.eq x e.1=false):gP k m x y=m++[(x,y)]:=by
 have:m.findIdx? (fun e=>k.eq x e.1)=none:=by
  rw[List.findIdx?_eq_none_iff]
  exact h
 unfold gP
 rw[this]
def cW (x:aw):List Seen:=if dc x=0 then [(f5 x,x.1,x.2.1,false,x.1,x.2.1,())] else []
def bR (x:aw):List Seen:=if dc x=1 then [(sP,x.1,x.2.1,true,jg x,jh x,())] else []
def eR (x:aw):List (List Int×Row):=if dc x=2 then [([x.1,x.2.1],f5 x)] else []
theorem uB (d:List UInt8):(db d).2=true->(db d).1.1=0/\((db d).1.2.1=0\/(db d).1.2.1=1\/(db d).1.2.1=2):=by
 unfold db
 split
 ·intro _;exact ⟨rfl,.inr (.inl rfl)⟩
 ·split
  ·intro h;cases h
  ·rename_i h
   intro _
   refine ⟨rfl,?_⟩
   show ((pb d 0:Int)=0\/(pb d 0:Int)=1\/(pb d 0:Int)=2)
   omega
def q_ (ps:f0):Prop:=nm ps/\∀ p ∈ ps,∀ s,s < pn p->aN p s≠0->(db (eE p s)).2=true
theorem Dt {ps:f0} (hl:ps.length<=12) (h:ip ph ps=0):q_ ps:=
 ⟨⟨hl,fun p hp=>(yZ (pj h p hp)).1⟩,fun p hp=>(yZ (pj h p hp)).2⟩
theorem Jh {ps:f0} (h:q_ ps) {x:aw} (hx:x ∈ aS ps):dc x=0\/dc x=1\/dc x=2:=by
 obtain ⟨P,p,s,h1,Y,h3,rfl⟩:=sb.1 hx
 exact (uB _ (h.2 p (List.mem_of_getElem? h1) s Y h3)).2
theorem y6 (S:List aw):(S.flatMap cW).length<=S.length/\(S.flatMap bR).length<=S.length:=by
 induction S with
 | nil=>exact ⟨Nat.le_refl _,Nat.le_refl _⟩
 | cons x S ih=>
  have h1:(cW x).length<=1:=by unfold cW;split <;> simp
  have Y:(bR x).length<=1:=by unfold bR;split <;> simp
  simp only[List.flatMap_cons,List.length_append,List.length_cons]
  omega
theorem FB {ps:f0} (h:q_ ps) (a b:Int) (ha:0<=a) (hb:0<=b):dB pk ((aS ps).flatMap eR) [a,b]=if (iL ps a b).2&&decide ((iL ps a b).1.2.1=2) then some (iL ps a b).1.2.2.2.2.1 else none:=by
 obtain ⟨a,rfl⟩:=Int.eq_ofNat_of_zero_le ha
 obtain ⟨b,rfl⟩:=Int.eq_ofNat_of_zero_le hb
 unfold dB
 have at_:∀ x ∈ aS ps,x.1=(a:Int)->x.2.1=(b:Int)->iL ps (a:Int) (b:Int)=(x.2.2.1,true):=fun x hx e1 e2=>by
  obtain ⟨P,p,s,h1,Y,h3,rfl⟩:=sb.1 hx
  have e1:(P:Int)=(a:Int):=e1
  have e2:(s:Int)=(b:Int):=e2
  have e1:P=a:=by omega
  have e2:s=b:=by omega
  subst e1;subst e2
  unfold iL
  simp only[Int.toNat_natCast,h1]
  rw[if_pos ⟨Y,h3⟩]
  have:=h.2 p (List.mem_of_getElem? h1) s Y h3
  rw[<-this]
 cases hf:((aS ps).flatMap eR).find? (fun e=>Ty.eq pk [(a:Int),(b:Int)] e.1) with
 | some e=>
  have hm:=List.mem_of_find?_eq_some hf
  have hp:=List.find?_some hf
  obtain ⟨x,hx,Ap⟩:=List.mem_flatMap.1 hm
  unfold eR at Ap
  split at Ap
  ·rename_i Y
   rw[List.mem_singleton] at Ap
   subst Ap
   rw[tn,Bool.and_eq_true,decide_eq_true_eq,decide_eq_true_eq] at hp
   have hg:=at_ x hx hp.1.symm hp.2.symm
   rw[hg]
   have:(x.2.2.1).2.1=2:=Y
   simp only[this,decide_true,Bool.and_self,if_true,Option.map_some]
   rfl
  ·cases Ap
 | none=>
  rw[if_neg]
  ·rfl
  ·intro hc
   rw[Bool.and_eq_true,decide_eq_true_eq] at hc
   obtain ⟨c1,c2⟩:=hc
   have:∃ x ∈ aS ps,x.1=(a:Int)/\x.2.1=(b:Int)/\dc x=2:=by
    unfold iL at c1 c2
    simp only[Int.toNat_natCast] at c1 c2
    cases OP:ps[a]? with
    | none=>rw[OP] at c1;cases c1
    | some p=>
     rw[OP] at c1 c2
     simp only at c1 c2
     by_cases hc:b < pn p/\aN p b≠0
     ·rw[if_pos hc] at c2
      exact ⟨_,sb.2 ⟨a,p,b,OP,hc.1,hc.2,rfl⟩,rfl,rfl,c2⟩
     ·rw[if_neg hc] at c1;cases c1
   obtain ⟨x,hx,e1,e2,e3⟩:=this
   have hm:([x.1,x.2.1],f5 x) ∈ (aS ps).flatMap eR:=List.mem_flatMap.2 ⟨x,hx,by unfold eR;rw[if_pos e3];exact List.mem_singleton.2 rfl⟩
   have:=List.find?_eq_none.1 hf _ hm
   rw[tn,e1,e2] at this
   simp at this
def po (x:aw):Seen:=(f5 x,x.1,x.2.1,decide (dc x=1),(if dc x=1 then jg x else x.1),(if dc x=1 then jh x else x.2.1),())
def pp (ps:f0) (y:Seen):Seen:=(rn (dB pk ((aS ps).flatMap eR) [y.2.2.2.2.1,y.2.2.2.2.2.1]) sP,y.2)
def wF (ps:f0):List Seen:=(aS ps).flatMap cW++((aS ps).flatMap bR).map (pp ps)
theorem Hd {ps:f0} (h:q_ ps) (hs:(aS ps).all (kI ps)=true):(wF ps).Perm ((jc ps).map po):=by
 unfold wF jc
 have jk:=List.all_eq_true.1 hs
 have AF:∀ x ∈ aS ps,dc x=0\/dc x=1\/dc x=2:=fun x hx=>Jh h hx
 have vU:∀ x ∈ aS ps,0<=jg x/\0<=jh x:=fun x hx=>pV hx
 have key:∀ S:List aw,(∀ x ∈ S,x ∈ aS ps)->(S.flatMap cW++(S.flatMap bR).map (pp ps)).Perm ((S.flatMap (ln ps)).map po):=by
  intro S
  induction S with
  | nil=>intro _;exact List.Perm.refl _
  | cons x S ih=>
   intro hS
   have ih:=ih fun y hy=>hS y (List.mem_cons_of_mem _ hy)
   have hx:=hS x List.mem_cons_self
   simp only[List.flatMap_cons,List.map_append]
   rcases AF x hx with h0 | h1 | Y
   ·have e1:cW x=[po (qS ps x)]:=by
     unfold cW po qS
     have n1:¬ dc x=1:=by omega
     rw[if_pos h0,if_neg n1,if_neg n1,if_neg n1,decide_eq_false n1]
    have e2:bR x=[]:=by unfold bR;rw[if_neg (by omega)]
    have e3:ln ps x=[qS ps x]:=by unfold ln;rw[if_neg (by omega)]
    rw[e1,e2,e3]
    simp only[List.map_nil,List.nil_append,List.map_cons,List.cons_append]
    exact List.Perm.cons _ ih
   ·have e1:cW x=[]:=by unfold cW;rw[if_neg (by omega)]
    have e3:ln ps x=[qS ps x]:=by unfold ln;rw[if_neg (by omega)]
    have e2:(bR x).map (pp ps)=[po (qS ps x)]:=by
     unfold bR
     rw[if_pos h1]
     simp only[List.map_cons,List.map_nil]
     obtain ⟨g1,g2⟩:=vU x hx
     have bh:=jk x hx
     unfold kI at bh
     rw[decide_eq_true h1] at bh
     simp only[Bool.not_true,Bool.false_or] at bh
     have hg:=FB h (jg x) (jh x) g1 g2
     rw[if_pos bh] at hg
     unfold pp
     simp only[hg,rn]
     unfold qS
     rw[if_pos h1]
     have KR:dc (FA x (iL ps (jg x) (jh x)).1.2.2.2.2.1)=1:=h1
     unfold po
     rw[if_pos KR,if_pos KR,decide_eq_true KR]
     rfl
    rw[e1,e2,e3]
    simp only[List.nil_append,List.map_cons,List.map_nil,List.cons_append]
    exact (List.perm_middle).trans (List.Perm.cons _ ih)
   ·have e1:cW x=[]:=by unfold cW;rw[if_neg (by omega)]
    have e2:bR x=[]:=by unfold bR;rw[if_neg (by omega)]
    have e3:ln ps x=[]:=by unfold ln;rw[if_pos Y]
    rw[e1,e2,e3]
    simpa using ih
 exact key (aS ps) fun x hx=>hx
def qA (x y:Seen):Bool:=bU (rk x.1) (rk y.1)
def FC (x y:Seen):Int:=if bU (x.1.1,x.1.2.1) (y.1.1,y.1.2.1) then -1 else if bU (y.1.1,y.1.2.1) (x.1.1,x.1.2.1) then 1 else 0
theorem Ji:Go.Proofs.ltOf FC=qA:=by
 funext x y
 exact I6 x.1 y.1
theorem KS (x y:Seen):iy.ab (x,y,())=some (FC x y,()):=by
 refine ag (k:=0) fun k hk=>(iy.aa k _).trans ?_
 show iy.p _=_
 unfold iy.p
 rw[uk]
 rfl
theorem RX:SWO qA where
 irrefl x:=nj _
 trans x y z h1 Y:=lm h1 Y
 ntrans x y z h1 Y:=by
  cases h3:qA x z with
  | false=>rfl
  | true=>
   unfold qA at h1 Y h3
   cases h4:bU (rk y.1) (rk x.1) with
   | true=>
    have:=lm h4 h3
    rw[this] at Y;cases Y
   | false=>
    have:=pJ h1 h4
    rw[this] at h3
    rw[h3] at Y;cases Y
def v7 (xs:List Seen) (x:Seen):List Seen:=xs.take (pos (xs.map (·.1)) (rk x.1))++[x]++xs.drop (pos (xs.map (·.1)) (rk x.1))
def uC (l:List Seen):List Seen:=l.foldl v7 []
theorem KU (xs:List Seen) (x:Seen):(v7 xs x).map (·.1)=jT (xs.map (·.1)) x.1:=by
 unfold v7 jT
 simp only[List.map_append,List.map_take,List.map_drop,List.map_cons,List.map_nil]
theorem Jj (xs:List Seen) (x:Seen):(v7 xs x).Perm (x::xs):=by
 unfold v7
 rw[List.append_assoc]
 have:=List.perm_middle (a:=x) (l₁:=xs.take (pos (xs.map (·.1)) (rk x.1))) (l₂:=xs.drop (pos (xs.map (·.1)) (rk x.1)))
 rw[List.take_append_drop] at this
 exact this
theorem AG (l:List Seen):(uC l).map (·.1)=yX (l.map (·.1)):=by
 have main:∀ (l acc:List Seen),(l.foldl v7 acc).map (·.1)=(l.map (·.1)).foldl jT (acc.map (·.1)):=by
  intro l
  induction l with
  | nil=>intro acc;rfl
  | cons x l ih=>intro acc;simp only[List.foldl_cons,List.map_cons,ih,KU]
 exact main l []
theorem y7 (l:List Seen):(uC l).Perm l:=by
 have main:∀ (l acc:List Seen),(l.foldl v7 acc).Perm (l++acc):=by
  intro l
  induction l with
  | nil=>intro acc;exact List.Perm.refl _
  | cons x l ih=>
   intro acc
   exact (ih (v7 acc x)).trans (((List.Perm.refl l).append (Jj acc x)).trans List.perm_middle)
 have:=main l []
 rw[List.append_nil] at this
 exact this
def AH (xs:List Seen):Prop:=xs.Pairwise fun x y=>qA x y=true
theorem FE {xs:List Seen}:AH xs↔up (xs.map (·.1)):=by
 unfold AH up
 rw[List.pairwise_map]
 rfl
theorem Du {l r:List Seen} (hp:r.Perm l) (hr:AH r) (hn:(l.map fun x=>rk x.1).Nodup):r=uC l:=by
 refine uU (lt:=fun x y=>qA x y=true) (fun a b h=>KP h) r (uC l) (hp.trans (y7 l).symm) hr (FE.2 ?_)
 rw[AG]
 refine KO ?_
 rw[List.map_map]
 exact hn
theorem Jk {r:List Seen} (h:AH r):(r.map fun x=>rk x.1).Nodup:=by
 have:=KQ (FE.1 h)
 rw[List.map_map] at this
 exact this
def sR:List Seen->Bool
 | x::y::l=>qA x y&&sR (y::l)
 | _=>true
theorem Jl:∀ (l:List Seen),sR l=true->AH l
 | [],_=>List.Pairwise.nil
 | [x],_=>List.pairwise_singleton _ _
 | x::y::l,h=>by
  simp only[sR,Bool.and_eq_true] at h
  have ih:=Jl (y::l) h.2
  refine List.pairwise_cons.2 ⟨fun z hz=>?_,ih⟩
  rcases List.mem_cons.1 hz with rfl | hz
  ·exact h.1
  ·exact lm h.1 ((List.pairwise_cons.1 ih).1 z hz)
theorem FF:∀ (l:List Seen),AH l->sR l=true
 | [],_=>rfl
 | [x],_=>rfl
 | x::y::l,h=>by
  obtain ⟨h1,Y⟩:=List.pairwise_cons.1 h
  simp only[sR,Bool.and_eq_true]
  exact ⟨h1 y List.mem_cons_self,FF (y::l) Y⟩
theorem Jm {r:List Seen} (h:r.Pairwise fun x y=>qA y x=false) (hn:(r.map fun x=>rk x.1).Nodup):AH r:=by
 unfold AH
 have Y:r.Pairwise fun x y=>rk x.1≠rk y.1:=by
  unfold List.Nodup at hn
  rw[List.pairwise_map] at hn
  exact hn
 refine (h.and Y).imp fun {x y} ⟨g1,g2⟩=>?_
 cases h3:qA x y with
 | true=>rfl
 | false=>exact absurd (pJ h3 g1) g2
end OT
