/- The proof's parts, merged: Functions  a body that is run on data gives the contract.. No conditions but those that each states. -/
import Derived.Test.YtledflocbohofaaGreatSc
import Derived.ProofKit
import Derived.Deep.Slices
import Derived.Laws.BitsLemmas
import Derived.Shelf.SlSortCmp.NoneTotal
set_option linter.unusedVariables false
set_option linter.unusedSimpArgs false
namespace OT
open Go
section
variable {P:Program} {w:World} {A:Cells} {R:Type} {x:R} {E:Env}
theorem nQ:∀ (ps:List (PM×Ty)) (v:(bz (ps.map (·.2))).den),(cP ps v).length=ps.length
 | [],_=>rfl
 | (.ro,t)::ps,v=>by cases t <;> simp[cP,nQ ps v.2]
 | (.fix f,t)::ps,v=>by cases t <;> simp[cP,nQ ps v.2]
 | (.i7 m,t)::ps,v=>by simp[cP,nQ ps v.2]
 | (.gG m,t)::ps,v=>by simp[cP,nQ ps v.2]
 | (.lD m,t)::ps,v=>by simp[cP,nQ ps v.2]
 | (.jL m,t)::ps,v=>by simp[cP,nQ ps v.2]
theorem w7:∀ (ps:List (PM×Ty)) {v:(bz (ps.map (·.2))).den} {xs:List Value} {G:FP},kH P w A ps v xs G->xs.length=ps.length
 | [],_,_,_,h=>by have h:_=[]:=h;rw[h];rfl
 | (pm,t)::ps,_,_,_,h=>by
  obtain ⟨y,ys,F1,F2,rfl,_,_,Y⟩:=h
  simp[w7 ps Y]
theorem L7:∀ (ps:List (PM×Ty)) {v:(bz (ps.map (·.2))).den} {xs:List Value} {G:FP},kH P w A ps v xs G->w5 ps=true ->
  ∃ Fi:Nat->FP,(∀ b k,az ps.length Fi b k<=G b k)/\∀ i s,(cP ps v)[i]?=some s->∃ y,xs[i]?=some y/\(∀ σ a,a7 P A σ a w y s (Fi i))/\(∀ t m H v,s=.box t m H v->(i,i,false) ∈ mB 0 ps) /\
   ((i,i,true) ∈ mB 0 ps->∃ t m H v,s=.own t m H v):=by
 have main:∀ (ps:List (PM×Ty)) (n:Nat) {v:(bz (ps.map (·.2))).den} {xs:List Value} {G:FP},kH P w A ps v xs G->w5 ps=true ->
   ∃ Fi:Nat->FP,(∀ b k,az ps.length Fi b k<=G b k)/\∀ i s,(cP ps v)[i]?=some s->∃ y,xs[i]?=some y/\(∀ σ a,a7 P A σ a w y s (Fi i))/\(∀ t m H v,s=.box t m H v->(n+i,n+i,false) ∈ mB n ps) /\
    ((n+i,n+i,true) ∈ mB n ps->∃ t m H v,s=.own t m H v):=by
  have aj:∀ (ps:List (PM×Ty)) (n j k:Nat) (c:Bool),(j,k,c) ∈ mB n ps->n<=j/\j=k:=by
   intro ps
   induction ps with
   | nil=>intro n j k c h;cases h
   | cons p ps ih=>
    intro n j k c h
    obtain ⟨pm,t⟩:=p
    cases pm with
    | ro=>have:=ih (n+1) j k c h;omega
    | fix f=>have:=ih (n+1) j k c h;omega
    | jL m=>have:=ih (n+1) j k c h;omega
    | i7 m=>
     rcases List.mem_cons.1 h with e | h
     ·injection e with e1 e2;injection e2 with e2 e3;omega
     ·have:=ih (n+1) j k c h;omega
    | lD m=>
     rcases List.mem_cons.1 h with e | h
     ·injection e with e1 e2;injection e2 with e2 e3;omega
     ·have:=ih (n+1) j k c h;omega
    | gG m=>
     rcases List.mem_cons.1 h with e | h
     ·injection e with e1 e2;injection e2 with e2 e3;omega
     ·have:=ih (n+1) j k c h;omega
  intro ps
  induction ps with
  | nil=>intro n v xs G h _;exact ⟨fun _ _ _=>0,fun b k=>Nat.zero_le _,fun i s hs=>by cases hs⟩
  | cons p ps ih=>
   intro n v xs G h hp
   obtain ⟨pm,t⟩:=p
   obtain ⟨y,ys,F1,F2,rfl,hs,ha,hr⟩:=h
   have O9:w5 ps=true:=hp
   obtain ⟨Fi,g1,g2⟩:=ih (n+1) hr O9
   obtain ⟨s0,PH,JK,Jq,c_⟩:∃ s0,cP ((pm,t)::ps) v=s0::cP ps v.2/\(∀ σ a,a7 P A σ a w y s0 F1)/\(∀ t' m' H' v',s0=.box t' m' H' v'->∃ m,pm=.i7 m\/pm=.lD m)/\((∃ m,pm=.gG m)->∃ t' m H v,s0=.own t' m H v):=by
    cases pm with
    | ro=>
     obtain ⟨cs,h1,Y⟩:=ha
     cases t with
     | ptr e=>
      refine ⟨.cp e v.1,rfl,fun σ a=>?_,(fun _ _ _ _ e=>by cases e),fun ⟨m,e⟩=>by cases e⟩
      have hl:=Ro.length _ Y
      match cs,hl with
      | [u],_=>
       rw[bq _ _ rfl] at h1
       subst h1
       exact Y
     | _=>exact ⟨.val _ v.1,rfl,fun σ a=>⟨cs,h1,Y⟩,(fun _ _ _ _ e=>by cases e),fun ⟨m,e⟩=>by cases e⟩
    | fix f=>
     obtain ⟨⟨cs,h1,Y⟩,h3⟩:=ha
     cases t with
     | fn=>
      refine ⟨.val .fn (f,v.1.2),rfl,fun σ a=>⟨cs,h1,?_⟩,(fun _ _ _ _ e=>by cases e),fun ⟨m,e⟩=>by cases e⟩
      have e:v.1=(f,v.1.2):=by have:=h3 rfl;rw[<-this]
      rw[<-e];exact Y
     | _=>exact ⟨.dead,rfl,fun σ a=>trivial,(fun _ _ _ _ e=>by cases e),fun ⟨m,e⟩=>by cases e⟩
    | i7 m=>
     obtain ⟨b,o,L,F3,h1,Y,h3,h4,h5,h6⟩:=ha
     exact ⟨.box t m [] v.1,rfl,fun σ a=>⟨b,o,L,F3,h1,Y,h3,h4,h5,h6⟩,fun _ _ _ _ _=>⟨m,.inl rfl⟩,fun ⟨m,e⟩=>by cases e⟩
    | lD m=>
     obtain ⟨b,o,L,F3,h1,Y,h3,h4,h5,h6⟩:=ha
     exact ⟨.box t m [] v.1,rfl,fun σ a=>⟨b,o,L,F3,h1,Y,h3,h4,h5,h6⟩,fun _ _ _ _ _=>⟨m,.inr rfl⟩,fun ⟨m,e⟩=>by cases e⟩
    | gG m=>
     obtain ⟨cs,h1,Y⟩:=ha
     exact ⟨.own t m [] v.1,rfl,fun σ a=>⟨cs,h1,Y⟩,(fun _ _ _ _ e=>by cases e),fun _=>⟨_,_,_,_,rfl⟩⟩
    | jL m=>
     obtain ⟨cs,h1,Y⟩:=ha
     exact ⟨.own t m [] v.1,rfl,fun σ a=>⟨cs,h1,Y⟩,(fun _ _ _ _ e=>by cases e),fun _=>⟨_,_,_,_,rfl⟩⟩
   refine ⟨fun k=>match k with | 0=>F1 | k+1=>Fi k,fun b k=>?_,fun i s hi=>?_⟩
   ·have:az (ps.length+1) (fun k=>match k with | 0=>F1 | k+1=>Fi k) b k=F1 b k+az ps.length Fi b k:=by
     rw[Nat.add_comm,nK]
     congr 1
     ·simp[az]
     ·refine congrFun (congrFun (jM fun j hj=>?_) b) k
      rw[Nat.add_comm]
    show az (ps.length+1) _ b k<=G b k
    rw[this]
    have:=hs b k;have:=g1 b k;omega
   ·rw[PH] at hi
    cases i with
    | zero=>
     injection hi with hi
     subst hi
     refine ⟨y,rfl,JK,fun t' m' H' v' e=>?_,fun hm=>?_⟩
     ·obtain ⟨m,rfl | rfl⟩:=Jq t' m' H' v' e
      ·exact List.mem_cons_self
      ·exact List.mem_cons_self
     ·refine c_ ?_
      cases pm with
      | gG m=>exact ⟨m,rfl⟩
      | ro=>have:=aj ps (n+1) _ _ _ hm;omega
      | fix f=>have:=aj ps (n+1) _ _ _ hm;omega
      | jL m=>have:=aj ps (n+1) _ _ _ hm;omega
      | i7 m=>
       rcases List.mem_cons.1 hm with e | hm
       ·injection e with e1 e2;injection e2 with e2 e3;cases e3
       ·have:=aj ps (n+1) _ _ _ hm;omega
      | lD m=>
       rcases List.mem_cons.1 hm with e | hm
       ·injection e with e1 e2;injection e2 with e2 e3;cases e3
       ·have:=aj ps (n+1) _ _ _ hm;omega
    | succ i=>
     obtain ⟨y',q1,q2,q3,q4⟩:=g2 i s hi
     have Qv:n+1+i=n+(i+1):=by omega
     rw[Qv] at q3 q4
     refine ⟨y',q1,q2,fun t' m' H' v' e=>?_,fun hm=>q4 ?_⟩
     ·have:=q3 t' m' H' v' e
      cases pm with
      | ro=>exact this
      | fix f=>exact this
      | jL m=>exact this
      | i7 m=>exact List.mem_cons_of_mem _ this
      | lD m=>exact List.mem_cons_of_mem _ this
      | gG m=>exact List.mem_cons_of_mem _ this
     ·cases pm with
      | ro=>exact hm
      | fix f=>exact hm
      | jL m=>exact hm
      | i7 m=>
       rcases List.mem_cons.1 hm with e | hm
       ·injection e with e1 e2;omega
       ·exact hm
      | lD m=>
       rcases List.mem_cons.1 hm with e | hm
       ·injection e with e1 e2;omega
       ·exact hm
      | gG m=>
       rcases List.mem_cons.1 hm with e | hm
       ·injection e with e1 e2;omega
       ·exact hm
 intro ps v xs G h hp
 obtain ⟨Fi,g1,g2⟩:=main ps 0 h hp
 exact ⟨Fi,g1,fun i s hi=>by simpa using g2 i s hi⟩
theorem Cr:∀ (ps:List (PM×Ty)) (n j k:Nat) (c:Bool),(j,k,c) ∈ mB n ps->n<=j/\j=k/\j < n+ps.length:=by
 intro ps
 induction ps with
 | nil=>intro n j k c h;cases h
 | cons p ps ih=>
  intro n j k c h
  obtain ⟨pm,t⟩:=p
  simp only[List.length_cons]
  cases pm with
  | ro=>have:=ih (n+1) j k c h;omega
  | fix f=>have:=ih (n+1) j k c h;omega
  | jL m=>have:=ih (n+1) j k c h;omega
  | i7 m=>
   rcases List.mem_cons.1 h with e | h
   ·injection e with e1 e2;injection e2 with e2 e3;omega
   ·have:=ih (n+1) j k c h;omega
  | lD m=>
   rcases List.mem_cons.1 h with e | h
   ·injection e with e1 e2;injection e2 with e2 e3;omega
   ·have:=ih (n+1) j k c h;omega
  | gG m=>
   rcases List.mem_cons.1 h with e | h
   ·injection e with e1 e2;injection e2 with e2 e3;omega
   ·have:=ih (n+1) j k c h;omega
theorem Cs:∀ (ss:List Slot) (n i:Nat),f5 (qJ n ss) i=if n<=i then ss[i - n]? else none
 | [],n,i=>by simp[qJ,f5]
 | s::ss,n,i=>by
  simp only[qJ,f5,Cs ss (n+1) i]
  by_cases hi:n=i
  ·subst hi;simp
  ·have:Nat.beq n i=false:=by
    cases hb:Nat.beq n i with
    | false=>rfl
    | true=>exact absurd (Nat.eq_of_beq_eq_true hb) hi
   simp only[this,Bool.false_eq_true,if_false]
   by_cases hle:n<=i
   ·rw[if_pos (by omega),if_pos hle]
    have e:i - n=(i - (n+1))+1:=by omega
    rw[e,List.getElem?_cons_succ]
   ·rw[if_neg (by omega),if_neg hle]
theorem JL {g:mA} {v:(bz (g.ps.map (·.2))).den} {xs:List Value} {F0:FP} {n:Nat} (h:kH P w A g.ps v xs F0) (hp:w5 g.ps=true) (hn:g.ps.length<=n) (h1:∀ b i,F0 b i<=1) (Y:∀ b i,1<=F0 b i->¬ A b i) (h3:∀ b i,1<=F0 b i\/A b i->b < w.heap.size) :
  ∃ F,bu P { w0:=w,A0:=A,F0:=F0,args:=xs.toArray } A (sv g.ps v n) { tmps:=xs.toArray++Array.replicate (n - xs.toArray.size) undef,defers:=[] } w F:=by
 obtain ⟨Fi,g1,g2⟩:=L7 g.ps h hp
 have hlen:=w7 g.ps h
 have KY:=nQ g.ps v
 have mI:∀ i,(sv g.ps v n).get i=if i < n then (match (cP g.ps v)[i]? with | some s=>s | none=>.dead) else .dead:=fun i=>by
  unfold St.get sv
  simp only[Cs,Nat.zero_le,if_true,Nat.sub_zero]
  by_cases hi:i < n
  ·rw[if_pos (by simpa [Nat.blt_eq] using hi),if_pos hi]
   rfl
  ·rw[if_neg (by simpa [Nat.blt_eq] using hi),if_neg hi]
 have JM:∀ i (y:Value),xs[i]?=some y->tmp { tmps:=xs.toArray++Array.replicate (n - xs.toArray.size) undef,defers:=[] } i=y:=fun i y hy=>by
  have hi:=(List.getElem?_eq_some_iff.1 hy).1
  unfold tmp
  rw[Array.getD_eq_getD_getElem?,Array.getElem?_append_left (by simpa using hi)]
  simp[hy]
 have fF:∀ b k,az n (fun i=>if i < g.ps.length then Fi i else fun _ _=>0) b k<=F0 b k:=fun b k=>by
  have e:n=g.ps.length+(n - g.ps.length):=by omega
  rw[e,nK]
  have e1:=congrFun (congrFun (jM (n:=g.ps.length) (f:=fun i=>if i < g.ps.length then Fi i else fun _ _=>0) (g:=Fi) (fun j hj=>by simp only[if_pos hj])) b) k
  have e2:=congrFun (congrFun (jM (n:=n - g.ps.length) (f:=fun j=>(fun i=>if i < g.ps.length then Fi i else fun _ _=>0) (g.ps.length+j)) (g:=fun _ _ _=>0) (fun j hj=>by simp only;rw[if_neg (by omega)])) b) k
  rw[e1,e2,gC]
  exact g1 b k
 refine ⟨fun i=>if i < g.ps.length then Fi i else fun _ _=>0,?_,rfl,fun i hi=>?_,(fun d r p snap hm=>by cases hm),fun b k=>?_,fun b k hp=>?_,fun b k hp=>?_,fun i=>rfl,Ext.refl _ _,fun b k hp=>?_,fun _ _ h=>h,fun _ _ h=>.inl h,fun j k hm=>?_,fun r t m H v' hg hl=>?_,fun j k hm R hR=>?_⟩
 ·simp only[Array.size_append,List.size_toArray,Array.size_replicate,hlen,sv];omega
 ·rw[mI]
  have hi:i < n:=hi
  rw[if_pos hi]
  cases hs:(cP g.ps v)[i]? with
  | none=>trivial
  | some s=>
   obtain ⟨y,q1,q2,_⟩:=g2 i s hs
   have aj:i < g.ps.length:=by rw[<-KY];exact (List.getElem?_eq_some_iff.1 hs).1
   rw[JM i y q1]
   simp only[if_pos aj]
   exact q2 _ _
 ·have:=fF b k;have:=h1 b k;show 0+az n _ b k<=1;omega
 ·have hp:1<=0+az n (fun i=>if i < g.ps.length then Fi i else fun _ _=>0) b k:=hp
  have:=fF b k
  exact Y b k (by omega)
 ·refine h3 b k (hp.imp (fun hp=>?_) id)
  have hp:1<=0+az n (fun i=>if i < g.ps.length then Fi i else fun _ _=>0) b k:=hp
  have:=fF b k
  omega
 ·have hp:1<=0+az n (fun i=>if i < g.ps.length then Fi i else fun _ _=>0) b k:=hp
  have:=fF b k
  left;show 1<=F0 b k;omega
 ·obtain ⟨_,rfl,hj⟩:=Cr g.ps 0 j k false hm
  have hj:j < xs.length:=by omega
  rw[JM j xs[j] (List.getElem?_eq_getElem hj)]
  simp[hj]
 ·exfalso
  rw[mI] at hg
  split at hg
  ·cases hs:(cP g.ps v)[r]? with
   | none=>rw[hs] at hg;cases hg
   | some s=>
    rw[hs] at hg
    obtain ⟨y,_,_,q3,_⟩:=g2 r s hs
    exact hl r (q3 t m H v' hg)
  ·cases hg
 ·obtain ⟨_,rfl,hj⟩:=Cr g.ps 0 j k true hm
  have n9:j < (cP g.ps v).length:=by omega
  have hs:=List.getElem?_eq_getElem n9
  obtain ⟨y,q1,q2,_,q4⟩:=g2 j _ hs
  obtain ⟨t,m,H,v',e⟩:=q4 hm
  have Si:j < n:=by omega
  rw[mI,if_pos Si,hs] at hR
  simp only[e,bi,Option.some.injEq] at hR
  subst hR
  rw[JM j y q1]
  have Y:=q2 (sv g.ps v n) { tmps:=#[],defers:=[] }
  rw[e] at Y
  obtain ⟨cs,c1,c2⟩:=Y
  have:=fu (ai.length _ c2) (ai.one _ c2)
  show bf t y.cells.toList=_
  rw[c1,this,<- c1]
  have Ny:=(List.getElem?_eq_some_iff.1 q1)
  obtain ⟨Ny,e2⟩:=Ny
  simp[Ny,e2]
noncomputable def A4 (P:Program) (E:Env) (fn:Func) (ps:List (PM×Ty)) (rs:List (Ty×Md)) (es:List Nat):Bool:=
 codeOk P E (uJ fn)&&w4 E rs fn.results.toList&&w5 ps&&Nat.ble ps.length fn.ntmps&&decide es.Nodup
theorem AG (hE:lP P E) {f:FuncId} {fn:Func} (hf:P.funcs[f]?=some fn) (hb:fn.body.isSome=true) {g:mA} {es fr:List Nat} (aA:A4 P E fn g.ps g.rs es=true) (hF:∀ v out,g.F v=some out->∃ k,AQ E k fn g.ps g.rs es fr v=some out):Sound P f g:=by
 intro w A F0 v xs fV h1 Y h3 out jP
 obtain ⟨k,hk⟩:=hF v out jP
 simp only[A4,Bool.and_eq_true,Nat.ble_eq,decide_eq_true_eq] at aA
 obtain ⟨⟨⟨⟨Ld,ym⟩,mM⟩,KM⟩,lG⟩:=aA
 obtain ⟨c,hc⟩:=Option.isSome_iff_exists.1 hb
 have Ht:uJ fn=c:=by simp[uJ,hc]
 rw[Ht] at Ld
 obtain ⟨F,JK⟩:=JL fV mM KM h1 Y h3
 unfold AQ at hk
 rw[Ht] at hk
 have Nz:=w7 g.ps fV
 have NA:∀ (a':Act) (w':World) (σ':St),Bo g.ps g.rs es fn.results.toList (Ky fr) σ'=some out->u7 P { w0:=w,A0:=A,F0:=F0,args:=xs.toArray } σ' a' w' ->
   a'.defers=[]/\∃ rv,(results fn a'.tmps).run P w'=.ok rv w'/\(∃ PI,Ending.returned rv=.returned PI/\Ext w w' F0/\∃ (A':Cells) (G GR GM:FP),(∀ b i,A b i->A' b i)/\(∀ b i,A' b i->A b i\/1<=F0 b i\/w.heap.size<=b) /\
    (∀ b i,1<=G b i->1<=F0 b i\/w.heap.size<=b)/\(∀ b i,G b i<=1)/\(∀ b i,1<=G b i->¬ A' b i)/\(∀ b i,1<=G b i\/A' b i->b < w'.heap.size)/\(∀ b i,GR b i+GM b i<=G b i) /\
    ic P w' A' (fU g.rs out).1 PI GR/\iC P w' A' g.ps (fU g.rs out).2 xs GM):=by
  intro a' w' σ' ho hr
  obtain ⟨A1,F1,hr⟩:=hr
  unfold Bo at ho
  obtain ⟨A2,eI,X2,F2,tB,L,Fi,pre,r1,r2,r3,r4,r5,r6,r7,r8,r9⟩:=Nu hE g.rs fn.results.toList 0 ym hr ho
  obtain ⟨vs,us,Gi,m1,m2,m3,m4,m5,m6⟩:=L6 r2 0 g.ps es mM lG (by simp[Nz]) r3
  have Qw:pre vs=out:=Option.some.inj m1
  have jh:fU g.rs out=(L,vs):=by rw[<-Qw,r4]
  have Il:∀ b i,az L.length Fi b i<=X2 b i:=fun b i=>by have:=r8 b i;omega
  have Qx:∀ b i,gZ Gi us b i<=gZ F2 us b i:=fun b i=>by
   have:∀ l:List Nat,(∀ j ∈ l,j ∈ us)->gZ Gi l b i<=gZ F2 l b i:=by
    intro l
    induction l with
    | nil=>intro _;exact Nat.le_refl _
    | cons j l ih=>
     intro hl
     have:=m5 j b i (hl j List.mem_cons_self)
     have:=ih fun j' n9=>hl j' (List.mem_cons_of_mem _ n9)
     simp only[gZ];omega
   exact this us fun _ h=>h
  have Im:∀ b i,gZ Gi us b i<=az eI.n F2 b i:=fun b i=>Nat.le_trans (Qx b i) (EP us F2 m3 m4 b i)
  refine ⟨r2.defers,_,DK (by rw[r6]) r7,_,rfl,r2.ext,?_⟩
  obtain ⟨A3,jX⟩:∃ A3:Cells,∀ b i,A3 b i↔(A2 b i\/(1<=X2 b i+az eI.n F2 b i/\az L.length Fi b i+gZ Gi us b i=0)):=⟨fun b i=>A2 b i\/(1<=X2 b i+az eI.n F2 b i/\az L.length Fi b i+gZ Gi us b i=0),fun _ _=>Iff.rfl⟩
  have JN:∀ b i,A2 b i->A3 b i:=fun b i h=>(jX b i).2 (.inl h)
  have iR:∀ b i,X2 b i+az eI.n F2 b i<=1:=fun b i=>r2.iD b i
  refine ⟨A3,fun b i=>az L.length Fi b i+gZ Gi us b i,az L.length Fi,gZ Gi us,fun b i ha=>JN b i (r2.a0 b i ha),fun b i ha=>?_,fun b i hp=>?_,fun b i=>?_,fun b i hp ha=>?_,fun b i hp=>?_,fun _ _=>Nat.le_refl _,?_,?_⟩
  ·rcases (jX b i).1 ha with ha | ⟨hp,_⟩
   ·exact r2.a1 b i ha
   ·exact .inr (r2.own b i hp)
  ·have hp:1<=az L.length Fi b i+gZ Gi us b i:=hp
   exact r2.own b i (by have:=Il b i;have:=Im b i;omega)
  ·show az L.length Fi b i+gZ Gi us b i<=1
   have:=Il b i;have:=Im b i;have:=iR b i;omega
  ·have hp:1<=az L.length Fi b i+gZ Gi us b i:=hp
   rcases (jX b i).1 ha with ha | ⟨_,hz⟩
   ·exact r2.jn b i (by have:=Il b i;have:=Im b i;omega) ha
   ·omega
  ·rcases hp with hp | ha
   ·have hp:1<=az L.length Fi b i+gZ Gi us b i:=hp
    exact r2.eh b i (.inl (by have:=Il b i;have:=Im b i;omega))
   ·rcases (jX b i).1 ha with ha | ⟨hp,_⟩
    ·exact r2.eh b i (.inr ha)
    ·exact r2.eh b i (.inl hp)
  ·rw[jh]
   have Ct:=r9 A3 JN (fun b i hx _ hz=>(jX b i).2 (.inr ⟨by omega,by
    have:=Im b i;have:=iR b i;omega⟩))
   show ic P w' A3 L _ _
   match L,r5,Ct with
   | [],_,_=>trivial
   | [y],hl,Ct=>
    match tB,hl with
    | [u],_=>
     obtain ⟨u',cs,e1,e2,e3⟩:=Ct 0 y rfl
     injection e1 with e1
     subst e1
     refine ⟨cs,by simpa using e2,e3.le fun b i=>by simp[az]⟩
   | y::z::L,hl,Ct=>
    refine ⟨tB.toArray,Fi,?_,fun _ _=>Nat.le_refl _,fun j q hq=>?_⟩
    ·rw[dif_neg]
     simp only[List.size_toArray,hl,List.length_cons];omega
    ·obtain ⟨u,cs,e1,e2,e3⟩:=Ct j q hq
     exact ⟨u,cs,by simpa using e1,e2,e3⟩
  ·rw[jh]
   refine m6 A3 JN fun i b k' hi hp hz=>(jX b k').2 (.inr ⟨by have:=be F2 (m4 i hi) b k';omega,?_⟩)
   have h4:=be F2 (m4 i hi) b k'
   have h5:=iR b k'
   have h6:=Il b k'
   have h7:gZ Gi us b k'=0:=by
    rcases Nat.eq_zero_or_pos (gZ Gi us b k') with h0 | h0
    ·exact h0
    ·obtain ⟨j,hj,K3⟩:=Cn h0
     by_cases iX:j=i
     ·subst iX;omega
     ·have:=m5 j b k' hj
      have:=mC F2 (m4 j hj) (m4 i hi) iX b k'
      omega
   omega
 refine calls_of_wp hf hc (wp_mono (L5 hE c Ld JK hk) fun e a' w' hq=>?_)
 cases e with
 | normal=>obtain ⟨σ',h4,h5⟩:=hq;exact NA a' w' σ' h4 h5
 | ret=>obtain ⟨σ',h4,h5⟩:=hq;exact NA a' w' σ' h4 h5
 | exit j=>obtain ⟨σ',h4,h5⟩:=hq;cases h4
 | _=>exact hq.elim
end
end OT
set_option linter.unusedVariables false
set_option linter.unusedSimpArgs false
namespace OT
open Go
def Cu (w:World):Cells:=fun b _=>b < w.heap.size
def sj:Ty->Bool
 | .int _ | .bool | .str | .unit=>true
 | .pair a b=>sj a&&sj b
 | .U e=>sj e
 | _=>false
def lH:(T:Ty)->T.den->Prop
 | .int k,n=>k.min<=jg k n/\jg k n<=k.max
 | .str,s=>List.length s<=maxLen
 | .pair a b,v=>lH a v.1/\lH b v.2
 | .U e,v=>List.length v<=maxLen/\∀ x ∈ (v:List e.den),lH e x
 | _,_=>True
def In:(ps:List (PM×Ty))->(bz (ps.map (·.2))).den->Prop
 | [],_=>True
 | (_,T)::ps,v=>lH T v.1/\In ps v.2
section
variable {P:Program} {w:World} {H:Type} {enc:TypeId×Value->H}
theorem w8 {T:Ty} {i:TypeId} (h:aD P T (.inl i)=true):P.cellsOf i=T.sz:=by
 obtain ⟨inf,h1,Y,_⟩:=eJ (gc h)
 simp[Program.cellsOf,h1,Y]
theorem JO {a:Addr} {k:Nat} {u:Value} (h:w.cell? (a.add k)=some u) (hk:k=0\/a.spot=none):a.spot=none:=by
 rcases hk with rfl | hk
 ·unfold Addr.add at h
  rw[if_pos rfl] at h
  unfold World.cell? at h
  split at h
  ·split at h
   ·cases h
   ·rename_i hs
    cases jh:a.spot with
    | none=>rfl
    | some s=>rw[jh] at hs;simp at hs
  ·cases h
 ·exact hk
theorem L8:∀ (T:Ty),sj T=true ->
  (∀ i,aD P T (.inl i)=true->∀ fuel cs x,DataW.trod enc P w 0 (fun _=>true) true fuel i cs=some x->∃ v:T.den,lH T v/\Ro P w (Cu w) T v cs) /\
  (∀ fs off,aD P T (.inr (fs,off))=true->∀ n (cs:List Value),cs.length=off+T.sz->(∀ f ∈ fs,∃ x,DataW.trod enc P w 0 (fun _=>true) true n f.type ((cs.drop f.offset).take (P.cellsOf f.type))=some x)->∃ v:T.den,lH T v/\Ro P w (Cu w) T v (cs.drop off)):=by
 intro T
 induction T with
 | int k=>
  intro _
  refine ⟨fun i hl fuel cs x h=>?_,fun fs off hl=>by simp[aD] at hl⟩
  obtain ⟨n,rfl,_,Ip⟩:=DataW.trod_int (jB hl) h
  simp only[Lit.wf,Bool.and_eq_true,decide_eq_true_eq] at Ip
  cases k with
  | u8=>
   have h1:jg .u8 (UInt8.ofInt n)=n:=by
    have:=zo .u8 n (fun _=>by
     have h1:(0:Int)<=n:=Ip.1
     have Y:n<=(255:Int):=Ip.2
     omega)
    exact this
   refine ⟨(UInt8.ofInt n:UInt8),?_,?_⟩
   ·show IntKind.u8.min<=jg .u8 (UInt8.ofInt n)/\jg .u8 (UInt8.ofInt n)<=IntKind.u8.max
    rw[h1];exact Ip
   ·show [Value.int .u8 n]=[Value.int .u8 (jg .u8 (UInt8.ofInt n))]
    rw[h1]
  | _=>exact ⟨n,Ip,rfl⟩
 | bool=>
  intro _
  refine ⟨fun i hl fuel cs x h=>?_,fun fs off hl=>by simp[aD] at hl⟩
  have hu:P.underlying i=some .bool:=by
   simp only[aD,Bool.and_eq_true] at hl
   have Y:=hl.2
   split at Y
   ·assumption
   ·cases Y
  obtain ⟨b,rfl,_⟩:=DataW.trod_bool hu h
  exact ⟨b,trivial,rfl⟩
 | str=>
  intro _
  refine ⟨fun i hl fuel cs x h=>?_,fun fs off hl=>by simp[aD] at hl⟩
  obtain ⟨s,rfl,_,Sj⟩:=DataW.trod_string (f0 hl) h
  exact ⟨s.data.toList,(by show s.data.toList.length<=maxLen;rw[Array.length_toList];exact Sj),by simp only[Ro]⟩
 | unit=>
  intro _
  refine ⟨fun i hl fuel cs x h=>?_,fun fs off hl n cs hlen _=>⟨(),trivial,?_⟩⟩
  ·simp only[aD,Bool.and_eq_true] at hl
   have Y:=hl.2
   split at Y
   ·rename_i fs hu
    obtain ⟨xs,n,_,_,hlen,_⟩:=DataW.trod_struct hu h
    have ez:P.cellsOf i=0:=by
     obtain ⟨inf,h1,h3,_⟩:=eJ hl.1
     simp[Program.cellsOf,h1,h3,Ty.sz]
    rw[ez] at hlen
    exact ⟨(),trivial,by simp only[Ro];exact List.eq_nil_of_length_eq_zero hlen⟩
   ·cases Y
  ·simp only[Ro]
   exact List.drop_of_length_le (by simp only[Ty.sz] at hlen;omega)
 | pair a b eg dZ=>
  intro ha
  simp only[sj,Bool.and_eq_true] at ha
  have NB:∀ fs off,aD P (.pair a b) (.inr (fs,off))=true->∀ n (cs:List Value),cs.length=off+(Ty.pair a b).sz->(∀ f ∈ fs,∃ x,DataW.trod enc P w 0 (fun _=>true) true n f.type ((cs.drop f.offset).take (P.cellsOf f.type))=some x)->∃ v:(Ty.pair a b).den,lH (.pair a b) v/\Ro P w (Cu w) (.pair a b) v (cs.drop off):=by
   intro fs off hl n cs hlen hf
   cases fs with
   | nil=>simp[aD] at hl
   | cons f r=>
    simp only[aD,Bool.and_eq_true,Nat.beq_eq,Nat.ble_eq] at hl
    obtain ⟨⟨⟨ho,_⟩,h1⟩,Y⟩:=hl
    simp only[Ty.sz] at hlen
    obtain ⟨x,hx⟩:=hf f List.mem_cons_self
    rw[ho,w8 h1] at hx
    obtain ⟨v1,o1,r1⟩:=(eg ha.1).1 _ h1 _ _ _ hx
    obtain ⟨v2,o2,r2⟩:=(dZ ha.2).2 r (off+a.sz) Y n cs (by omega) (fun f' Le=>hf f' (List.mem_cons_of_mem _ Le))
    exact ⟨(v1,v2),⟨o1,o2⟩,r1,by rw[List.drop_drop];exact r2⟩
  refine ⟨fun i hl fuel cs x h=>?_,NB⟩
  have Pk:=hl
  simp only[aD,Bool.and_eq_true] at hl
  have Y:=hl.2
  split at Y
  ·rename_i fs hu
   split at Y
   ·rename_i f r va
    have h3:aD P (.pair a b) (.inr (f::r,0))=true:=by
     simp only[aD,Nat.zero_add];exact Y
    obtain ⟨xs,n,_,_,hlen,Nz,L9⟩:=DataW.trod_struct hu h
    rw[w8 Pk] at hlen
    have:=NB (f::r) 0 h3 n cs (by omega) (fun f' Le=>by
     rw[<-va] at Le
     obtain ⟨j,hj,e⟩:=List.mem_iff_getElem.1 Le
     have n9:j < fs.size:=by simpa using hj
     have:=L9 j f' (by rw[Array.getElem?_eq_getElem n9];simpa using e)
     rw[this,List.getElem?_eq_getElem (by omega)]
     exact ⟨_,rfl⟩)
    simpa using this
   ·cases Y
  ·cases Y
 | U e ih=>
  intro ha
  simp only[sj] at ha
  refine ⟨fun i hl fuel cs x h=>?_,fun fs off hl=>by simp[aD] at hl⟩
  obtain ⟨el,hu,ez,hle⟩:=mm hl
  rcases DataW.trod_slice hu h with ⟨rfl,_⟩ | ⟨a,len,cap,elems,rest,n,_,rfl,_,_,Pf,PJ,iY,JP,jC,_⟩
  ·exact ⟨[],⟨Nat.zero_le _,fun x hx=>by cases hx⟩,none,0,rfl,Nat.le_refl _,fun _=>rfl,fun ad e=>by cases e⟩
  ·rw[w8 hle] at JP jC
   have lj:∀ k y,(w.cells? 0 (a.add (k*e.sz)) e.sz).bind (DataW.trod enc P w 0 (fun _=>true) true n el)=some y->∃ aJ,w.cells? 0 (a.add (k*e.sz)) e.sz=some aJ/\DataW.trod enc P w 0 (fun _=>true) true n el aJ=some y:=fun k y hk=>by
    cases hc:w.cells? 0 (a.add (k*e.sz)) e.sz with
    | none=>rw[hc] at hk;cases hk
    | some aJ=>rw[hc] at hk;exact ⟨aJ,rfl,hk⟩
   have Lf:0 < cap->a.spot=none:=fun zn=>by
    have BX:∃ aJ,w.cells? 0 (a.add (0*e.sz)) e.sz=some aJ:=by
     by_cases hlen:0 < len
     ·have h0:=JP 0 hlen
      rw[List.getElem?_eq_getElem (by omega)] at h0
      obtain ⟨aJ,h1,_⟩:=lj 0 _ h0
      exact ⟨aJ,h1⟩
     ·obtain rfl:len=0:=by omega
      obtain ⟨mF,nv⟩:=jC rfl
      have h0:=nv 0 (by omega)
      rw[List.getElem?_eq_getElem (by omega)] at h0
      obtain ⟨aJ,h1,_⟩:=lj (0+0) _ h0
      exact ⟨aJ,by simpa using h1⟩
    obtain ⟨aJ,h1⟩:=BX
    obtain ⟨_,BS,Y⟩:=World.cells?_some h1
    have h3:=Y 0 (by omega)
    rw[List.getElem?_eq_getElem (by omega),Nat.zero_mul] at h3
    have h4:(a.add 0).add 0=a.add 0:=by unfold Addr.add;simp
    rw[h4] at h3
    exact JO h3 (.inl rfl)
   have each:∀ k:Fin len,∃ v:e.den,lH e v/\∃ L:List Value,L.length=e.sz/\(∀ j u,L[j]?=some u->ce w a.block (a.off+k.val*e.sz+j)=some u/\Cu w a.block (a.off+k.val*e.sz+j))/\Ro P w (Cu w) e v L:=fun k=>by
    have h0:=JP k.val k.isLt
    rw[List.getElem?_eq_getElem (by have:=k.isLt;omega)] at h0
    obtain ⟨aJ,h1,Y⟩:=lj k.val _ h0
    obtain ⟨v,ho,hv⟩:=(ih ha).1 _ hle _ _ _ Y
    obtain ⟨_,BS,h3⟩:=World.cells?_some h1
    refine ⟨v,ho,aJ,BS,fun j u hu=>?_,hv⟩
    have hj:=(List.getElem?_eq_some_iff.1 hu).1
    have h4:=h3 j (by omega)
    rw[hu] at h4
    have jh:=Lf (by have:=k.isLt;omega)
    obtain ⟨b,off,sp⟩:=a
    simp only at jh
    subst jh
    rw[jH,jH] at h4
    have h5:ce w b (off+k.val*e.sz+j)=some u:=vX h4 (Ro.one e hv u (List.mem_of_getElem? hu))
    exact ⟨h5,oD h5⟩
   obtain ⟨f,hf⟩:=Classical.axiomOfChoice each
   refine ⟨List.ofFn f,⟨by simp;omega,fun x hx=>?_⟩,some a,cap,by simp,by simpa using Pf,(fun e=>by cases e),fun ad e=>?_⟩
   ·obtain ⟨j,rfl⟩:=List.mem_ofFn.1 hx
    exact (hf j).1
   injection e with e
   subst e
   refine ⟨Lf,fun k y hk=>?_⟩
   rw[List.getElem?_ofFn] at hk
   split at hk
   ·rename_i aj
    injection hk with hk
    subst hk
    exact (hf ⟨k,aj⟩).2
   ·cases hk
 | _=>intro ha;simp[sj] at ha
theorem arg_val {T:Ty} (ha:sj T=true) {i:TypeId} (hl:aD P T (.inl i)=true) {r:Reach} {b0:Nat} {v:Value} (h:Value.okWide P w r b0 i v):v=bf T v.cells.toList:=by
 cases T with
 | int k=>
  have hu:=jB hl
  cases v <;> simp[Value.okWide,Cell.okWide,Cell.ok,hu] at h <;> simp[bf,isAgg,Value.cells]
 | bool=>
  have hu:P.underlying i=some .bool:=by
   simp only[aD,Bool.and_eq_true] at hl
   have Y:=hl.2
   split at Y
   ·assumption
   ·cases Y
  cases v <;> simp[Value.okWide,Cell.okWide,Cell.ok,hu] at h <;> simp[bf,isAgg,Value.cells]
 | str=>
  have hu:=f0 hl
  cases v <;> simp[Value.okWide,Cell.okWide,Cell.ok,hu] at h <;> simp[bf,isAgg,Value.cells]
 | U e=>
  obtain ⟨el,hu,_⟩:=mm hl
  cases v <;> simp[Value.okWide,Cell.okWide,Cell.ok,hu] at h <;> simp[bf,isAgg,Value.cells]
 | unit=>
  simp only[aD,Bool.and_eq_true] at hl
  have Y:=hl.2
  split at Y
  ·rename_i fs hu
   simp only[Value.okWide,hu] at h
   obtain ⟨cs,rfl,_⟩:=h
   simp[bf,isAgg,Value.cells]
  ·cases Y
 | pair a b=>
  simp only[aD,Bool.and_eq_true] at hl
  have Y:=hl.2
  split at Y
  ·rename_i fs hu
   simp only[Value.okWide,hu] at h
   obtain ⟨cs,rfl,_⟩:=h
   simp[bf,isAgg,Value.cells]
  ·cases Y
 | _=>simp[sj] at ha
def rO (P:Program):List (PM×Ty)->List TypeId->Bool
 | [],[]=>true
 | (.ro,T)::ps,t::ts=>sj T&&aD P T (.inl t)&&P.readableRec t&&Nat.blt t P.types.size&&rO P ps ts
 | _,_=>false
theorem EQ:∀ (ps:List (PM×Ty)) (ts:List TypeId) (args:List Value) (ds:List (DataW H)) (p:List MemPlace) {b0:Nat},rO P ps ts=true->DataW.TrodAll enc P w 0 (fun _=>true) true ts args ds p ->
  (∀ (j:Nat) t v,ts[j]?=some t->args[j]?=some v->Value.okWide P w .any b0 t v)->∃ v,In ps v/\kH P w (Cu w) ps v args (fun _ _=>0)
 | [],[],args,ds,p,b0,_,h,_=>by
  cases args with
  | nil=>exact ⟨(),trivial,rfl⟩
  | cons _ _=>simp[DataW.TrodAll] at h
 | (.ro,T)::ps,t::ts,args,ds,p,b0,hl,h,aA=>by
  simp only[rO,Bool.and_eq_true] at hl
  cases args with
  | nil=>simp[DataW.TrodAll] at h
  | cons v args=>
   cases ds with
   | nil=>simp[DataW.TrodAll] at h
   | cons d ds=>
    obtain ⟨p1,q1,⟨fuel,h1⟩,Y,_⟩:=h
    obtain ⟨x,Sk,hx⟩:=(L8 T hl.1.1.1.1).1 t hl.1.1.1.2 _ _ _ h1
    obtain ⟨xs,Qy,Sl⟩:=EQ ps ts args ds q1 (b0:=b0) hl.2 Y (fun j t' v' ht hv=>aA (j+1) t' v' ht hv)
    exact ⟨(x,xs),⟨Sk,Qy⟩,v,args,fun _ _=>0,fun _ _=>0,rfl,fun _ _=>Nat.le_refl _,⟨_,arg_val hl.1.1.1.1 hl.1.1.1.2 (aA 0 t v rfl rfl),hx⟩,Sl⟩
theorem z_ (sB:laidOutB P=true) {W W':World} (hb:RowKit.Below W.heap.size W W') {sp:Nat->Bool}:∀ (ps:List (PM×Ty)) (ts:List TypeId) (args:List Value) (ds:List (DataW H)) (p:List MemPlace),rO P ps ts=true->DataW.TrodAll enc P W 0 (fun _=>true) true ts args ds p ->
  (∀ x ∈ p,x.block < W.heap.size)->(∀ x ∈ p,sp x.block=true)->DataW.TrodAll enc P W' 0 sp true ts args ds p
 | [],[],args,ds,p,_,h,_,_=>by
  cases args with
  | nil=>
   cases ds with
   | nil=>exact h
   | cons _ _=>simp[DataW.TrodAll] at h
  | cons _ _=>simp[DataW.TrodAll] at h
 | (.ro,T)::ps,t::ts,args,ds,p,hl,h,aj,jh=>by
  simp only[rO,Bool.and_eq_true] at hl
  cases args with
  | nil=>simp[DataW.TrodAll] at h
  | cons v args=>
   cases ds with
   | nil=>simp[DataW.TrodAll] at h
   | cons d ds=>
    obtain ⟨p1,q1,h1,Y,rfl⟩:=h
    have ht:t < P.types.size:=by have:=hl.1.2;rwa [Nat.blt_eq] at this
    exact ⟨p1,q1,WideElems.Trod_stays sB hl.1.1.2 ht h1 (fun x hx=>hb.same (aj x (List.mem_append_left _ hx))) (fun x hx=>jh x (List.mem_append_left _ hx)),
     z_ sB hb ps ts args ds q1 hl.2 Y (fun x hx=>aj x (List.mem_append_right _ hx)) (fun x hx=>jh x (List.mem_append_right _ hx)),rfl⟩
theorem Iq {f:FuncId} {cap:Bool} {ps:List (PM×Ty)} {Fn:(bz (ps.map (·.2))).den->Option (bz ([((Ty.bool,ay .bool):Ty×Md)].map (·.1)++eP ps)).den} (hs:Sound P f { cap:=cap,ps:=ps,rs:=[(.bool,ay .bool)],F:=Fn }) (FZ:∀ v,In ps v->∃ u,Fn v=some (true,u))
  {ts:List TypeId} (hl:rO P ps ts=true) {args:List Value} {ds:List (DataW H)} {p:List MemPlace} (hA:DataW.TrodAll enc P w 0 (fun _=>true) true ts args ds p) {b0:Nat} (aA:∀ (j:Nat) t v,ts[j]?=some t->args[j]?=some v->Value.okWide P w .any b0 t v) :
  Calls P f args.toArray w fun e W'=>e=.returned (.bool true)/\RowKit.Below w.heap.size w W':=by
 obtain ⟨v,M0,hv⟩:=EQ ps ts args ds p hl hA aA
 obtain ⟨u,hu⟩:=FZ v M0
 refine (hs w (Cu w) (fun _ _=>0) v args hv (fun _ _=>Nat.zero_le _) (fun b i h=>by omega) (fun b i h=>?_) _ hu).mono fun e W' h=>?_
 ·rcases h with h | h
  ·omega
  ·exact h
 ·obtain ⟨rv,rfl,ca,A',G,GR,GM,_,_,_,_,_,_,_,mp,_⟩:=h
  obtain ⟨cs,h1,Y⟩:=mp
  simp only[fU] at h1 Y
  have Y:cs=[.bool true]:=Y
  subst Y
  exact ⟨by rw[h1];rfl,ca.os,ca.tape,ca.output,ca.size,fun b hb=>ca.obj b hb fun _=>rfl⟩
theorem JQ {C:Checked} {f:Func} {s:ChangeSpec} {W W':World} {args:Array Value} {ds:List (DataW H)} {p:List MemPlace} {apart fresh handsOn:Bool} (sB:laidOutB P=true) {ps:List (PM×Ty)} {ts:List TypeId} (Sm:f.params.toList=ts) (hl:rO P ps ts=true) {tb:TypeId} (hr:f.resultTypes=#[tb]) (hu:P.underlying tb=some .bool)
  (Oy:s.vars=[]) (hW:DataW.Whole enc P f.params.toList s.vars apart W args.toList ds [] p) (hA:DataW.TrodAll enc P W 0 (fun _=>true) true ts args.toList ds p) (Ir:s.fn H (ds++[])={ results:=[.lit (.bool true)],args:=ds }) (hb:RowKit.Below W.heap.size W W') :
  s.post enc P f apart fresh handsOn false W args (.bool true) W':=by
 have aj:∀ x ∈ p,x.block < W.heap.size:=fun x hx=>by simpa using hW.lt x hx
 refine ⟨ds,[],p,[],p,[],hW,?_,?_,?_,World.keptBut_mono (fun x hx=>⟨hx,.inr (.inl hx)⟩) (hb.frame (· ∈ p)),fun e=>by cases e⟩
 ·rw[Ir,hr]
  exact ⟨[],[],RowKit.shut_bool hu true,rfl,rfl⟩
 ·rw[Ir,Sm]
  exact z_ sB hb ps ts args.toList ds p hl hA aj (fun x hx=>by simpa using aj x hx)
 ·rw[Ir,Oy]
  rfl
end
end OT
namespace OT
open Go
def F5 (P:Program) (l:List (Nat×Ty)):Bool:=l.all fun p=>aD P p.2 (.inl p.1)
def A5 (P:Program) (l:List (Nat×Ty)):Bool:=l.all fun p=>!(p.2.gV&&isAgg p.2)||(jZ P p.2 (.inl p.1)&&(P.eqGuardType P.depth p.1 == false)&&Nat.ble (dep p.2) 10000)
theorem w9 {α:Type}:∀ {l:List (Nat×α)} {i:Nat} {x:α},f5 l i=some x->(i,x) ∈ l
 | (k,y)::l,i,x,h=>by
  simp only[f5] at h
  split at h
  ·rename_i hk
   injection h with h
   rw[Nat.eq_of_beq_eq_true hk,h];exact List.mem_cons_self
  ·exact List.mem_cons_of_mem _ (w9 h)
def vq (P:Program) (l:List (Nat×mA)):Prop:=∀ f g,f5 l f=some g->Sound P f g/\n_ P f g.cap
theorem ak (P:Program):vq P []:=fun f g h=>by cases h
theorem L_ {P:Program} {f:Nat} {g:mA} {l:List (Nat×mA)} (h1:Sound P f g) (Y:n_ P f g.cap) (h3:vq P l):vq P ((f,g)::l):=fun f' g' h=>by
 simp only[f5] at h
 split at h
 ·rename_i hk
  injection h with h
  subst h
  rw[<-Nat.eq_of_beq_eq_true hk]
  exact ⟨h1,Y⟩
 ·exact h3 f' g' h
theorem NC {P:Program} {E:Env} {tl:List (Nat×Ty)} {gl:List (Nat×mA)} (h1:E.TI=f5 tl) (Y:E.G=f5 gl) (h3:F5 P tl=true) (h4:A5 P tl=true) (h5:vq P gl):lP P E where
 ti i T h:=by rw[h1] at h;exact List.all_eq_true.1 h3 _ (w9 h)
 eq i T h hq ha:=by
  rw[h1] at h
  have:=List.all_eq_true.1 h4 _ (w9 h)
  simp only[hq,ha,Bool.and_self,Bool.not_true,Bool.false_or,Bool.and_eq_true,beq_iff_eq,Nat.ble_eq] at this
  exact ⟨this.1.1,this.1.2,this.2⟩
 fn f g h:=by rw[Y] at h;exact h5 f g h
def Ok (P:Program) (f:FuncId) (g:mA):Prop:=Sound P f g/\n_ P f g.cap
theorem fc {P:Program} {f:Nat} {g:mA} {l:List (Nat×mA)} (h:Ok P f g) (h3:vq P l):vq P ((f,g)::l):=L_ h.1 h.2 h3
def Cv (fn:Func) (cap:Bool):Bool:=!(fn.name == "runtime.NumGoroutine")&&!fn.body.isNone&&Nat.beq fn.nfree (match cap with | true=>1 | false=>0)
noncomputable def okB (P:Program) (E:Env) (fn:Func) (ps:PQ) (rs:RQ) (es:List Nat) (cap:Bool) (tl:TL):Bool:=(F5 P tl&&A5 P tl)&&(Cv fn cap&&A4 P E fn ps rs es)
theorem Oz {P:Program} {E:Env} {f:FuncId} {fn:Func} (hf:P.funcs[f]?=some fn) {g:mA} {es fr:List Nat} {tl:TL} {gl:GL} (h1:E.TI=f5 tl) (Y:E.G=f5 gl) (aA:okB P E fn g.ps g.rs es g.cap tl=true) (hg:vq P gl) (hF:∀ v,g.F v=lift fun k=>AQ E k fn g.ps g.rs es fr v):Ok P f g:=by
 simp only[okB,Cv,Bool.and_eq_true,Bool.not_eq_true',Nat.beq_eq] at aA
 obtain ⟨⟨a1,a2⟩,⟨⟨b1,b2⟩,b3⟩,c⟩:=aA
 have hb:fn.body.isSome=true:=by
  cases h:fn.body with
  | none=>rw[h] at b2;cases b2
  | some _=>rfl
 exact ⟨AG (NC h1 Y a1 a2 hg) hf hb c fun v out h=>Hh (by rw[<-hF];exact h),fn,hf,b1,b2,b3⟩
structure FD where
 fn:Func
 tl:TL
 ps:PQ
 rs:RQ
 gl:GL:=[]
 es:List Nat:=[]
 fr:List Nat:=[]
 cap:Bool:=false
 fz:List (Nat×Nat×Nat):=[]
 lv:List (Nat×List Nat):=[]
 lx:List (Nat×List Nat):=[]
 lf:List (Nat×List (Nat×Md)):=[]
 od:List (Nat×List Nat):=[]
 ar:List (Nat×List Nat):=[]
 bx:List (Nat×List Nat):=[]
 pd:List (Nat×List Nat):=[]
 er:List (Nat×List (Nat×Nat)):=[]
noncomputable def FD.E (D:FD):Env:={ TI:=f5 D.tl,G:=f5 D.gl,fz:=D.fz,lv:=D.lv,lx:=D.lx,lf:=D.lf,od:=D.od,ar:=D.ar,bx:=D.bx,pd:=D.pd,er:=D.er }
noncomputable def FD.W (D:FD) (k:Nat) (a:(bz (D.ps.map (·.2))).den):Option (bz (D.rs.map (·.1)++eP D.ps)).den:=AQ D.E k D.fn D.ps D.rs D.es D.fr a
noncomputable def FD.F (D:FD) (a:(bz (D.ps.map (·.2))).den):Option (bz (D.rs.map (·.1)++eP D.ps)).den:=lift fun k=>D.W k a
noncomputable def FD.sig (D:FD):mA:={ cap:=D.cap,ps:=D.ps,rs:=D.rs,F:=D.F }
noncomputable def FD.fin (D:FD):St->Option (bz (D.rs.map (·.1)++eP D.ps)).den:=Bo D.ps D.rs D.es D.fn.results.toList (Ky D.fr)
noncomputable def FD.K0 (D:FD):KT (bz (D.rs.map (·.1)++eP D.ps)).den:=Ms D.fin
noncomputable def FD.N (D:FD) (k:Nat) (p:List Nat):St->KT (bz (D.rs.map (·.1)++eP D.ps)).den->Option (bz (D.rs.map (·.1)++eP D.ps)).den:=mr D.E k D.fin (sub p (uJ D.fn))
noncomputable def FD.L (D:FD) (k:Nat) (p live:List Nat) (qI:List (Nat×Md)) (K:KT (bz (D.rs.map (·.1)++eP D.ps)).den) (σ:St):Option (bz (D.rs.map (·.1)++eP D.ps)).den:=sX (D.N k p) (bY live qI) K k σ
theorem ao {P:Program} {D:FD} {f:FuncId} (hf:P.funcs[f]?=some D.fn) (ht:(F5 P D.tl&&A5 P D.tl)=true) (aA:(Cv D.fn D.cap&&A4 P D.E D.fn D.ps D.rs D.es)=true) (hg:vq P D.gl):Ok P f D.sig:=
 Oz (es:=D.es) (fr:=D.fr) (tl:=D.tl) (gl:=D.gl) (E:=D.E) hf rfl rfl (by rw[okB,ht,Bool.true_and];exact aA) hg fun _=>rfl
end OT
namespace OT
open Go
theorem aP {n:Int} (h:-9223372036854775808<=n/\n<=9223372036854775807):ae n=n:=by
 unfold ae
 rw[IntKind.wrap_i64]
 omega
theorem ah:maxLen=9223372036854775807:=by simp[maxLen]
theorem qh {V R:Type} {B:(V->Option R)->V->Option R} (f:V->R) (I:V->Prop) (μ:V->Nat)
  (h:∀ v,I v->∀ self,B self v=some (f v)\/∃ v',B self v=self v'/\f v'=f v/\I v'/\μ v' < μ v):∀ (k:Nat) (v:V),I v->μ v < k->al B k v=some (f v)
 | 0,v,_,hk=>by omega
 | k+1,v,hI,hk=>by
  show B (al B k) v=some (f v)
  rcases h v hI (al B k) with h1 | ⟨v',h1,Y,h3,h4⟩
  ·exact h1
  ·rw[h1,qh f I μ h k v' h3 (by omega),Y]
def gd {α:Type} (e:α->α->Bool) (xs ys:List α):Bool:=(xs.zip ys).all fun p=>e p.1 p.2
theorem Is {α:Type} (e:α->α->Bool) (xs ys:List α) (i:Nat) (hx:i < xs.length) (hy:i < ys.length):gd e (xs.drop i) (ys.drop i)=(e xs[i] ys[i]&&gd e (xs.drop (i+1)) (ys.drop (i+1))):=by
 unfold gd
 rw[List.drop_eq_getElem_cons hx,List.drop_eq_getElem_cons hy]
 simp only[List.zip_cons_cons,List.all_cons]
theorem ge {α:Type} {B:(Int->Option (Bool×Unit))->Int->Option (Bool×Unit)} {xs ys:List α} (e:α->α->Bool) (hlen:xs.length=ys.length) (tD:xs.length<=maxLen)
  (en:∀ (i:Nat) (hx:i < xs.length) (hy:i < ys.length) self,B self (i:Int)=if e xs[i] ys[i]=true then self (ae ((i:Int)+1)) else some (false,()))
  (jP:∀ self,B self (xs.length:Int)=some (true,())):∀ k,xs.length < k->al B k 0=some (gd e xs ys,()):=by
 intro k hk
 have h:=qh (B:=B) (fun v=>(gd e (xs.drop v.toNat) (ys.drop v.toNat),())) (fun v=>0<=v/\v<=(xs.length:Int)) (fun v=>xs.length - v.toNat) (fun v hv self=>by
  obtain ⟨h0,h1⟩:=hv
  obtain ⟨i,rfl⟩:=Int.eq_ofNat_of_zero_le h0
  simp only[Int.toNat_natCast]
  by_cases hi:i < xs.length
  ·have hy:i < ys.length:=by omega
   rw[Is e xs ys i hi hy,en i hi hy]
   cases he:e xs[i] ys[i] with
   | true=>
    right
    have hw:ae ((i:Int)+1)=((i+1:Nat):Int):=by rw[aP (by rw[ah] at tD;omega)];omega
    refine ⟨_,by rw[hw];rfl,by simp,by omega,?_⟩
    simp only[Int.toNat_natCast];omega
   | false=>left;simp
  ·have eZ:i=xs.length:=by omega
   subst eZ
   left
   rw[jP]
   simp[gd]) k 0 ⟨by omega,by omega⟩ (by simpa using hk)
 simpa using h
theorem mQ {α:Type} {B:((List α×Int)->Option (List α×Unit))->(List α×Int)->Option (List α×Unit)} {xs:List α} (tD:xs.length<=maxLen)
  (en:∀ (i:Nat) (hx:i < xs.length) (acc:List α) self,acc.length=xs.length->B self (acc,(i:Int))=self (acc.set i xs[i],ae ((i:Int)+1)))
  (jP:∀ acc self,B self (acc,(xs.length:Int))=some (acc,())) (z:α):∀ k,xs.length < k->al B k (List.replicate xs.length z,0)=some (xs,()):=by
 intro k hk
 refine qh (B:=B) (fun _=>(xs,())) (fun v=>0<=v.2/\v.2<=(xs.length:Int)/\v.1.length=xs.length/\∀ j,j < v.2.toNat->v.1[j]?=xs[j]?) (fun v=>xs.length - v.2.toNat) (fun v hv self=>?_) k _ ⟨by simp,by simp,by simp,by simp⟩ (by simpa using hk)
 obtain ⟨acc,i⟩:=v
 obtain ⟨h0,h1,Y,h3⟩:=hv
 simp only at h0 h1 Y h3
 obtain ⟨i,rfl⟩:=Int.eq_ofNat_of_zero_le h0
 simp only[Int.toNat_natCast] at h3 ⊢
 by_cases hi:i < xs.length
 ·right
  have hw:ae ((i:Int)+1)=((i+1:Nat):Int):=by rw[aP (by rw[ah] at tD;omega)];omega
  refine ⟨(acc.set i xs[i],((i+1:Nat):Int)),by rw[en i hi acc self Y,hw],trivial,⟨by omega,by simp only;omega,by simpa using Y,fun j hj=>?_⟩,?_⟩
  ·simp only[Int.toNat_natCast] at hj
   by_cases fZ:j=i
   ·subst fZ;simp[Y,hi]
   ·simp only[List.getElem?_set]
    rw[if_neg (fun e=>fZ e.symm)]
    exact h3 j (by omega)
  ·simp only[Int.toNat_natCast];omega
 ·have eZ:i=xs.length:=by omega
  subst eZ
  left
  rw[jP]
  have:acc=xs:=List.ext_getElem? fun j=>by
   by_cases hj:j < xs.length
   ·exact h3 j hj
   ·rw[List.getElem?_eq_none (by omega),List.getElem?_eq_none (by omega)]
  rw[this]
end OT
set_option linter.unusedVariables false
set_option linter.unusedSimpArgs false
namespace OT
open Go
def jQ {α:Type} (f:α->Nat):List α->Nat
 | []=>0
 | x::xs=>f x+jQ f xs
theorem Cw {α:Type} (f:α->Nat):∀ (xs:List α) (x:α),x ∈ xs->f x<=jQ f xs
 | y::xs,x,h=>by
  simp only[jQ]
  rcases List.mem_cons.1 h with rfl | h
  ·omega
  ·have:=Cw f xs x h;omega
 | [],_,h=>by cases h
theorem rP {α:Type} (f:α->Nat) (h:∀ x,f x=0):∀ (xs:List α),jQ f xs=0
 | []=>rfl
 | x::xs=>by simp[jQ,h x,rP f h xs]
def zz:(t:Ty)->t.den->Nat
 | .str,v=>List.length v
 | .pair a b,v=>zz a v.1+zz b v.2
 | .U e,v=>List.length v+jQ (zz e) v
 | _,_=>0
theorem mg {e:Ty} {xs:List e.den} {x:e.den} (h:x ∈ xs):zz e x+1<=zz (.U e) xs:=by
 have:=Cw (zz e) xs x h
 have:1<=xs.length:=List.length_pos_of_mem h
 show _<=List.length xs+_
 omega
theorem gx {e:Ty} (xs:List e.den):xs.length<=zz (.U e) xs:=Nat.le_add_right _ _
def bH (n:Int) (z:Nat):Int:=if (z:Int)<=n then n - z else -1
theorem wc {α:Type} {B:((Int×Int)->Option (Int×Unit))->(Int×Int)->Option (Int×Unit)} {xs:List α} (tD:xs.length<=maxLen) (z:α->Nat)
  (en:∀ (i:Nat) (hx:i < xs.length) (n:Int) self,0<=n->n<=1048576->B self (n,(i:Int))=if bH n (z xs[i]) < 0 then some (-1,()) else self (bH n (z xs[i]),ae ((i:Int)+1)))
  (jP:∀ n self,B self (n,(xs.length:Int))=some (n,())) (n:Int) (h0:0<=n) (h1:n<=1048576) :
  ∀ k,xs.length < k->al B k (n,0)=some (bH n (jQ z xs),()):=by
 have main:∀ (m i:Nat) (n:Int),xs.length - i=m->i<=xs.length->0<=n->n<=1048576->∀ k,m < k->al B k (n,(i:Int))=some (bH n (jQ z (xs.drop i)),()):=by
  intro m
  induction m with
  | zero=>
   intro i n hm hi h0 h1 k hk
   have eZ:i=xs.length:=by omega
   subst eZ
   cases k with
   | zero=>omega
   | succ k=>
    have:al B (k+1) (n,(xs.length:Int))=some (n,()):=jP n _
    rw[this]
    simp[bH,jQ,h0]
  | succ m ih=>
   intro i n hm hi h0 h1 k hk
   have aj:i < xs.length:=by omega
   rw[List.drop_eq_getElem_cons aj]
   simp only[jQ]
   cases k with
   | zero=>omega
   | succ k=>
    show B (al B k) _=_
    rw[en i aj n _ h0 h1]
    by_cases hz:(z xs[i]:Int)<=n
    ·have e:bH n (z xs[i])=n - (z xs[i]:Int):=if_pos hz
     have Qz:¬ (n - (z xs[i]:Int) < 0):=by omega
     have hw:ae ((i:Int)+1)=((i+1:Nat):Int):=by rw[aP (by rw[ah] at tD;omega)];omega
     rw[e,if_neg Qz,hw,ih (i+1) _ (by omega) (by omega) (by omega) (by omega) k (by omega)]
     unfold bH
     by_cases hc:((jQ z (xs.drop (i+1)):Nat):Int)<=n - (z xs[i]:Int)
     ·rw[if_pos hc,if_pos (by omega)]
      have:n - (z xs[i]:Int) - (jQ z (xs.drop (i+1)):Nat)=n - ((z xs[i]+jQ z (xs.drop (i+1)):Nat):Int):=by omega
      rw[this]
     ·rw[if_neg hc,if_neg (by omega)]
    ·have e:bH n (z xs[i])=-1:=if_neg hz
     rw[e,if_pos (by omega)]
     unfold bH
     rw[if_neg (by omega)]
 intro k hk
 simpa using main xs.length 0 n (by omega) (by omega) h0 h1 k hk
theorem wd {n:Int} {a b:Nat} (h:(a:Int)<=n):bH (n - a) b=bH n (a+b):=by
 unfold bH
 by_cases hc:(b:Int)<=n - a
 ·rw[if_pos hc,if_pos (by omega)];omega
 ·rw[if_neg hc,if_neg (by omega)]
end OT
set_option linter.unusedVariables false
set_option linter.unusedSimpArgs false
namespace OT
open Go
def aU {S O α:Type} (f:Nat->S->α->Sum O S) (fin:S->O):Nat->List α->S->O
 | _,[],s=>fin s
 | i,x::xs,s=>match f i s x with
  | .inl o=>o
  | .inr s'=>aU f fin (i+1) xs s'
theorem br {V S O α:Type} {B:(V->Option O)->V->Option O} (xs:List α) (enc:S->Int->V) (f:Nat->S->α->Sum O S) (fin:S->O) (I:Nat->S->Prop) (tD:xs.length<=maxLen)
  (en:∀ (i:Nat) (hi:i < xs.length) (s:S) self,I i s->B self (enc s (i:Int))=match f i s xs[i] with | .inl o=>some o | .inr s'=>self (enc s' (ae ((i:Int)+1))))
  (hI:∀ (i:Nat) (hi:i < xs.length) (s s':S),I i s->f i s xs[i]=.inr s'->I (i+1) s')
  (jP:∀ (s:S) self,I xs.length s->B self (enc s (xs.length:Int))=some (fin s)) (s:S) (h0:I 0 s):∀ k,xs.length < k->al B k (enc s 0)=some (aU f fin 0 xs s):=by
 have main:∀ (m i:Nat) (s:S),xs.length - i=m->i<=xs.length->I i s->∀ k,m < k->al B k (enc s (i:Int))=some (aU f fin i (xs.drop i) s):=by
  intro m
  induction m with
  | zero=>
   intro i s hm hi hs k hk
   have eZ:i=xs.length:=by omega
   subst eZ
   cases k with
   | zero=>omega
   | succ k=>
    show B (al B k) _=_
    rw[jP s _ hs]
    simp[aU]
  | succ m ih=>
   intro i s hm hi hs k hk
   have aj:i < xs.length:=by omega
   cases k with
   | zero=>omega
   | succ k=>
    show B (al B k) _=_
    rw[en i aj s _ hs,List.drop_eq_getElem_cons aj]
    simp only[aU]
    cases hf:f i s xs[i] with
    | inl o=>rfl
    | inr s'=>
     have hw:ae ((i:Int)+1)=((i+1:Nat):Int):=by rw[aP (by rw[ah] at tD;omega)];omega
     simp only[hw]
     exact ih (i+1) s' (by omega) (by omega) (hI i aj s s' hs hf) k (by omega)
 intro k hk
 simpa using main xs.length 0 s (by omega) (by omega) h0 k hk
theorem kL {O α:Type} (p:α->Bool) (bad:O) (fin:Unit->O):∀ (xs:List α) (i:Nat),aU (fun _ _ x=>if p x then .inr () else .inl bad) fin i xs ()=if xs.all p then fin () else bad
 | [],_=>rfl
 | x::xs,i=>by
  simp only[aU,List.all_cons]
  by_cases h:p x=true
  ·simp[h,kL p bad fin xs (i+1)]
  ·simp[h]
def ig {α:Type} (c:α->Int):List α->Int
 | []=>0
 | x::xs=>if c x=0 then ig c xs else c x
theorem qi {O α:Type} (c:α->Int) (bad:Int->O) (fin:Unit->O):∀ (xs:List α) (i:Nat),aU (fun _ _ x=>if c x=0 then .inr () else .inl (bad (c x))) fin i xs ()=if ig c xs=0 then fin () else bad (ig c xs)
 | [],_=>rfl
 | x::xs,i=>by
  simp only[aU,ig]
  by_cases h:c x=0
  ·simp[h,qi c bad fin xs (i+1)]
  ·simp[h]
theorem It {R:Type} (a:Option R):both a a=a:=by simp[both]
theorem ER {R α:Type} {v:List α} {a b r:Option R} (h1:v=[]->a=r) (Y:b=r):uF v a b=r:=by
 cases v with
 | nil=>rw[uF,h1 rfl,Y,It]
 | cons _ _=>exact Y
theorem cD {n:Nat} (h:n<=200000000000):n<=bm:=by simp only[bm];omega
end OT
set_option linter.unusedVariables false
set_option linter.unusedSimpArgs false
namespace OT
open Go
def ne:Ty->Bool
 | .int _ | .bool | .str | .unit=>true
 | .pair a b=>ne a&&ne b
 | _=>false
def ja:(t:Ty)->t.den->List Value
 | .int k,v=>[.int k (jg k v)]
 | .bool,v=>[.bool v]
 | .str,v=>[.string ⟨List.toArray v⟩]
 | .unit,_=>[]
 | .pair a b,v=>ja a v.1++ja b v.2
 | _,_=>[]
section
variable {P:Program} {w:World} {A:Cells}
theorem nz:∀ (t:Ty),ne t=true->∀ (v:t.den),Ro P w A t v (ja t v):=by
 intro t
 induction t with
 | pair a b eg dZ=>
  intro h v
  simp only[ne,Bool.and_eq_true] at h
  have h1:=eg h.1 v.1
  have hl:=Ro.length a h1
  show Ro P w A a v.1 ((ja a v.1++ja b v.2).take a.sz)/\Ro P w A b v.2 ((ja a v.1++ja b v.2).drop a.sz)
  rw[List.take_append_of_le_length (by omega),List.take_of_length_le (by omega),List.drop_append_of_le_length (by omega),List.drop_of_length_le (by omega),List.nil_append]
  exact ⟨h1,dZ h.2 v.2⟩
 | int k=>intro _ v;rfl
 | bool=>intro _ v;rfl
 | str=>intro _ v;rfl
 | unit=>intro _ v;rfl
 | _=>intro h;simp[ne] at h
theorem ND:∀ (t:Ty),ne t=true->∀ {v:t.den} {cs:List Value},Ro P w A t v cs->cs=ja t v:=by
 intro t
 induction t with
 | pair a b eg dZ=>
  intro h v cs hr
  simp only[ne,Bool.and_eq_true] at h
  have h1:=eg h.1 hr.1
  have Y:=dZ h.2 hr.2
  rw[<-List.take_append_drop a.sz cs,h1,Y]
  rfl
 | int k=>intro _ v cs h;exact h
 | bool=>intro _ v cs h;exact h
 | str=>intro _ v cs h;exact h
 | unit=>intro _ v cs h;exact h
 | _=>intro h;simp[ne] at h
theorem Aa:∀ (t:Ty),ne t=true->t.flat=true:=by
 intro t
 induction t with
 | pair a b eg dZ=>intro h;simp only[ne,Bool.and_eq_true] at h;simp only[Ty.flat,eg h.1,dZ h.2,Bool.and_self]
 | int k=>intro _;rfl
 | bool=>intro _;rfl
 | str=>intro _;rfl
 | unit=>intro _;rfl
 | _=>intro h;simp[ne] at h
end
theorem JR {w:World} {b i:Nat} {u:Value} {c:Array Value} {e:TypeId} {fr:Nat×Nat} (h:w.heap[b]?=some (.cells c e fr)) (hu:ce w b i=some u):c[i]?=some u:=by
 unfold ce at hu
 simp only[h,World.cell?] at hu
 cases hc:c[i]? with
 | none=>simp[hc] at hu
 | some v=>
  simp only[hc,Option.isSome_none,Bool.false_eq_true,if_false,Option.bind_some] at hu
  rw[(uK hu).1]
theorem DL {w:World} {b i:Nat} {u:Value} {c:Array Value} {e:TypeId} {fr:Nat×Nat} (h:w.heap[b]?=some (.cells c e fr)) (hg:c[i]?=some u) (hu:u.oneCell'=true):ce w b i=some u:=by
 refine vX ?_ hu
 simp only[World.cell?,h,Option.isSome_none,Bool.false_eq_true,if_false,hg]
end OT
set_option linter.unusedVariables false
set_option linter.unusedSimpArgs false
namespace OT
open Go Go.Sort
instance Sn (e:Ty):Inhabited e.den:=⟨e.zero⟩
noncomputable def pt (e:Ty) (cs:e.den×e.den×Unit->Option (Int×Unit)) (v:List e.den):Option (List e.den):=open Classical in
 if List.length v<=bm then (if h:∃ cf:e.den->e.den->Int,(∀ x y,cs (x,y,())=some (cf x y,()))/\SWO (Go.Proofs.ltOf cf) then some (pdq (Go.Proofs.ltOf h.choose) v.toArray 0 v.toArray.size (Lib.bitLen v.toArray.size) true true).toList else none) else none
theorem Cx {e:Ty} {cs:e.den×e.den×Unit->Option (Int×Unit)} {cf:e.den->e.den->Int} (h1:∀ x y,cs (x,y,())=some (cf x y,())) (Y:SWO (Go.Proofs.ltOf cf)) (v:List e.den) (hl:List.length v<=bm):pt e cs v=some (pdq (Go.Proofs.ltOf cf) v.toArray 0 v.toArray.size (Lib.bitLen v.toArray.size) true true).toList:=by
 have hex:∃ cf:e.den->e.den->Int,(∀ x y,cs (x,y,())=some (cf x y,()))/\SWO (Go.Proofs.ltOf cf):=⟨cf,h1,Y⟩
 have he:hex.choose=cf:=by
  funext x y
  have:=(hex.choose_spec.1 x y).symm.trans (h1 x y)
  injection this with this
  exact congrArg Prod.fst this
 unfold pt
 rw[if_pos hl,dif_pos hex,he]
theorem F6 {e:Ty} {cs:e.den×e.den×Unit->Option (Int×Unit)} {v r:List e.den} (h:pt e cs v=some r):∃ cf:e.den->e.den->Int,(∀ x y,cs (x,y,())=some (cf x y,()))/\SWO (Go.Proofs.ltOf cf)/\List.length v<=bm/\r=(pdq (Go.Proofs.ltOf cf) v.toArray 0 v.toArray.size (Lib.bitLen v.toArray.size) true true).toList:=by
 by_cases hl:List.length v<=bm
 ·by_cases hex:∃ cf:e.den->e.den->Int,(∀ x y,cs (x,y,())=some (cf x y,()))/\SWO (Go.Proofs.ltOf cf)
  ·obtain ⟨cf,h1,Y⟩:=hex
   rw[Cx h1 Y v hl] at h
   injection h with h
   exact ⟨cf,h1,Y,hl,h.symm⟩
  ·unfold pt at h
   rw[if_pos hl,dif_neg hex] at h
   cases h
 ·unfold pt at h
  rw[if_neg hl] at h
  cases h
theorem Cy {α:Type} [Inhabited α] {lt:α->α->Bool} (h:SWO lt) (v:List α):(pdq lt v.toArray 0 v.toArray.size (Lib.bitLen v.toArray.size) true true).toList.Perm v/\(pdq lt v.toArray 0 v.toArray.size (Lib.bitLen v.toArray.size) true true).toList.Pairwise fun x y=>lt y x=false:=by
 have hs:=pdq_sorts lt h v.toArray 0 v.toArray.size (Lib.bitLen v.toArray.size) true true (Nat.zero_le _) (Nat.le_refl _) (Or.inl rfl)
 generalize pdq lt v.toArray 0 v.toArray.size (Lib.bitLen v.toArray.size) true true=p at hs ⊢
 obtain ⟨⟨h1,Y,h3⟩,h4⟩:=hs
 refine ⟨?_,?_⟩
 ·have e1:p.extract 0 v.toArray.size=p:=by rw[<-h1];exact Array.extract_size ..
  have e2:v.toArray.extract 0 v.toArray.size=v.toArray:=Array.extract_size ..
  rw[e1,e2] at h3
  exact h3
 ·rw[List.pairwise_iff_getElem]
  intro i j hi hj iX
  have n9:j < p.size:=by simpa using hj
  have:=h4 i j (Nat.zero_le _) iX (by omega)
  rw[getElem!_pos _ i (by omega),getElem!_pos _ j n9] at this
  simpa using this
section
variable {P:Program}
theorem JS {w w':World} (h:Ext w w' (fun _ _=>0)):∃ q os,w'=grow (w.drewN q) os:=by
 refine ⟨w'.drawn - w.drawn,w'.heap.extract w.heap.size w'.heap.size,?_⟩
 have hh:w'.heap=w.heap++w'.heap.extract w.heap.size w'.heap.size:=by
  apply Array.ext_getElem?
  intro i
  by_cases hi:i < w.heap.size
  ·rw[h.obj i hi fun _=>rfl,Array.getElem?_append_left hi]
  ·rw[Array.getElem?_append_right (by omega),Array.getElem?_extract]
   by_cases eZ:i < w'.heap.size
   ·rw[if_pos (by omega)]
    congr 1
    omega
   ·rw[if_neg (by omega),Array.getElem?_eq_none (by omega)]
 have h1:=h.os
 have Y:=h.tape
 have h3:=h.output
 have h4:=h.drawn
 cases w with
 | mk heap tape drawn os output=>
  cases w' with
  | mk Tc Td So TF Q6=>
   simp only at h1 Y h3 h4 hh
   subst h1;subst Y;subst h3
   simp only[grow,World.drewN,World.mk.injEq,true_and,and_true]
   exact ⟨hh,by omega⟩
theorem JT {e:Ty} (hs:ne e=true) (ha:isAgg e=true) {g:Nat} {cF:e.den×e.den×Unit->Option (Int×Unit)} (hg:Sound P g { ps:=[(.ro,e),(.ro,e)],rs:=[(.int .i64,ay (.int .i64))],F:=cF }) {cf:e.den->e.den->Int} (hc:∀ x y,cF (x,y,())=some (cf x y,())) (b size:Nat) (w:World):Go.Proofs.CmpLays P g #[] (ja e) e.sz cf b 0 size w:=by
 intro m os dk _ x y
 have fV:kH P (Go.Proofs.sortWorldK (ja e) e.sz w b 0 m dk os) (fun _ _=>False) [(.ro,e),(.ro,e)] (x,y,()) [.agg (ja e x).toArray,.agg (ja e y).toArray] (fun _ _=>0):=
  ⟨_,_,fun _ _=>0,fun _ _=>0,rfl,fun _ _=>Nat.le_refl _,⟨ja e x,by simp[bf,ha],nz e hs x⟩,_,_,fun _ _=>0,fun _ _=>0,rfl,fun _ _=>Nat.le_refl _,⟨ja e y,by simp[bf,ha],nz e hs y⟩,rfl⟩
 refine (hg _ (fun _ _=>False) (fun _ _=>0) (x,y,()) _ fV (fun _ _=>Nat.zero_le _) (fun _ _ h=>by omega) (fun _ _ h=>by rcases h with h | h;omega;exact h.elim) (cf x y,()) (hc x y)).mono ?_
 rintro ex w' ⟨rv,rfl,ca,A',G,GR,GM,_,_,_,_,_,_,_,mp,_⟩
 obtain ⟨cs,h1,Y⟩:=mp
 refine ⟨?_,JS ca⟩
 have Y:cs=[.int .i64 (cf x y)]:=Y
 rw[h1,Y]
 rfl
theorem Ma {ρ:Go.Shelf.Ren} (L:Go.Proofs.SlLaysF0.n6 P ρ) {e:Ty} (hs:ne e=true) (ha:isAgg e=true) (hl:aD P e (.inl (ρ.t 24))=true) (h1:1<=e.sz) {g:Nat} {cF:e.den×e.den×Unit->Option (Int×Unit)}
  (hg:Ok P g { ps:=[(.ro,e),(.ro,e)],rs:=[(.int .i64,ay (.int .i64))],F:=cF }) (he:n_ P (ρ.f 6) false) :
  Ok P (ρ.f 6) { ps:=[(.gG (aq (.U e)),.U e),(.fix g,.fn)],rs:=[],F:=fun v=>(pt e cF v.1).map fun r=>(r,()) }:=by
 refine ⟨?_,he⟩
 intro w A F0 v xs fV hle s8 QA out jP
 obtain ⟨vs,⟨fg,fv⟩,⟨⟩⟩:=v
 obtain ⟨x,M5,F1,F2,rfl,hF,⟨cs,rfl,cx⟩,x2,QB,F3,F4,rfl,Nc,⟨⟨bh,rfl,Ir⟩,QC⟩,wV⟩:=fV
 have wV:QB=[]:=wV
 subst wV
 have Sp:fg=g:=QC rfl
 subst Sp
 obtain ⟨pN,rfl,fn,JU,QD⟩:=Ir
 have OA:pN=#[]:=by
  obtain ⟨RR,k1,_,_,k4⟩:=hg.2
  have JU:P.funcs[fg]?=some fn:=JU
  rw[JU] at k1
  injection k1 with k1
  subst k1
  have k4:fn.nfree=0:=k4
  rcases QD with ⟨_,q⟩ | ⟨q,_⟩
  ·exact q
  ·omega
 subst OA
 have Ng:bf .fn [.func (.func fg) #[] #[]]=.func (.func fg) #[] #[]:=rfl
 have jP:(pt e cF vs).map (fun r=>(r,()))=some out:=jP
 cases F7:pt e cF vs with
 | none=>rw[F7] at jP;cases jP
 | some r=>
 rw[F7] at jP
 injection jP with jP
 subst jP
 obtain ⟨cf,hc,hO,km,hr⟩:=F6 F7
 have F8:=Cy hO vs
 rw[<-hr] at F8
 have AT:=cx
 simp only[ai,hole,List.any_nil,Bool.false_eq_true,if_false,aq,mz,Md.own,if_true] at cx
 obtain ⟨xa,cap,rfl,g2,g3,g4,g5⟩:=cx
 have xQ:bf (.U e) [.slice xa (List.length vs) cap]=.slice xa (List.length vs) cap:=rfl
 rw[Ng,xQ]
 have Cz:∀ (w':World) (Lg:FP),Ext w w' F0->(∀ b i,Lg b i<=F1 b i)->ai P w' A (.U e) (aq (.U e)) [] r [.slice xa (List.length vs) cap] Lg ->
   ∃ rv,Ending.returned (.tuple #[])=.returned rv/\Ext w w' F0/\∃ (A':Cells) (G GR GM:FP),(∀ b i,A b i->A' b i)/\(∀ b i,A' b i->A b i\/1<=F0 b i\/w.heap.size<=b)/\(∀ b i,1<=G b i->1<=F0 b i\/w.heap.size<=b)/\(∀ b i,G b i<=1)/\(∀ b i,1<=G b i->¬ A' b i)/\(∀ b i,1<=G b i\/A' b i->b < w'.heap.size)/\(∀ b i,GR b i+GM b i<=G b i) /\
   ic P w' A' [] rv GR/\iC P w' A' [(.gG (aq (.U e)),.U e),(.fix fg,.fn)] (r,()) [.slice xa (List.length vs) cap,.func (.func fg) #[] #[]] GM:=fun w' Lg ca BE Lh=>
  ⟨_,rfl,ca,A,F0,fun _ _=>0,F0,fun _ _ h=>h,fun _ _ h=>.inl h,fun _ _ h=>.inl h,hle,s8,fun b i h=>Nat.lt_of_lt_of_le (QA b i h) ca.size,fun b i=>by show 0+F0 b i<=F0 b i;omega,trivial,Lg,F2,fun b i=>by have:=hF b i;have:=BE b i;omega,⟨_,rfl,Lh⟩,trivial⟩
 by_cases h0:List.length vs=0
 ·have Sq:vs=[]:=List.eq_nil_of_length_eq_zero h0
  have Sr:r=[]:=by
   have:=F8.1.length_eq
   exact List.eq_nil_of_length_eq_zero (by omega)
  rw[h0]
  refine (Go.Proofs.AnyF.slices_SortFunc_none L xa cap (.func (.func fg) #[] #[]) w).mono ?_
  rintro ex w' ⟨rfl,hw⟩
  rw[hw]
  rw[h0] at Cz
  refine Cz w F1 (Ext.refl _ _) (fun _ _=>Nat.le_refl _) ?_
  rw[Sr,<- Sq]
  have:List.length vs=0:=h0
  rw[this] at AT
  exact AT
 ·cases xa with
  | none=>have:=g4 rfl;omega
  | some ad=>
   obtain ⟨q1,q2,q3,Fi,q4,q5⟩:=g5 ad rfl
   obtain ⟨b,off,sp⟩:=ad
   simp only at q1 q2 q3 q4 q5
   subst q1;subst q2
   obtain ⟨c,el,fr,c1,c2,c3,c4⟩:=q3
   have hb:=(Array.getElem?_eq_some_iff.1 c1).1
   have ez:vs.toArray.size=List.length vs:=by simp
   have TG:List.length vs*e.sz<=cap*e.sz:=Nat.mul_le_mul_right _ g2
   have zn:1<=List.length vs*e.sz:=Nat.mul_le_mul (show 1<=List.length vs by omega) h1
   have lj:∀ (i:Nat) (y:e.den),vs[i]?=some y->Has w b (i*e.sz) (ja e y):=fun i y hy=>by
    obtain ⟨L0,l1,l2,l3⟩:=q5 i y hy
    have:=ND e hs (ai.flat e (Aa e hs) l3)
    rw[<-this]
    exact l2
   have hH:Go.Sort.HoldsK (ja e) e.sz w b 0 vs.toArray:=by
    intro j hj
    rw[Go.Sort.size_flatK,ez] at hj
    rw[Nat.zero_add,Go.Sort.get_flatK _ _ _ _ (by rw[ez];exact hj)]
    have hi:j / e.sz < List.length vs:=by rw[Nat.div_lt_iff_lt_mul h1];exact hj
    have hy:=List.getElem?_eq_getElem hi
    have hm:=Nat.mod_lt j h1
    have iY:(ja e (vs[j / e.sz]))[j % e.sz]?=some ((ja e (vs[j / e.sz]))[j % e.sz]!):=by
     have hlen:=Ro.length e (nz (P:=P) (w:=w) (A:=A) e hs (vs[j / e.sz]))
     rw[List.getElem?_eq_getElem (by omega),getElem!_pos _ _ (by omega)]
    have PK:=lj _ _ hy _ _ iY
    have Ss:j / e.sz*e.sz+j % e.sz=j:=by rw[Nat.mul_comm];exact Nat.div_add_mod j e.sz
    rw[Ss] at PK
    have gY:=Ro.one e (nz (P:=P) (w:=w) (A:=A) e hs (vs[j / e.sz])) _ (List.mem_of_getElem? iY)
    have yn:=mZ PK gY
    refine ⟨?_,?_⟩
    ·show _=some (id _)
     rw[yn]
     have:vs.toArray[j / e.sz]! = vs[j / e.sz]:=by rw[getElem!_pos _ _ (by rw[ez];exact hi)];simp
     rw[this]
     rfl
    ·simp only[World.frozen?,c1]
     have:=c3 j (by omega)
     simp only[Bool.and_eq_false_imp,decide_eq_true_eq,decide_eq_false_iff_not,not_and] at this ⊢
     intro h
     first | exact this h | (have:=this (by simpa using h);simpa using this)
   have NE:=Go.Proofs.AnyQ.slices_SortFunc_eq L e.sz (fun w=>by rw[u9 hl,ha]) (fun w=>run_sizeOf hl) (ja e) (fun y=>Ro.length e (nz (P:=P) (w:=w) (A:=A) e hs y)) (fun y u hu=>Ro.one e (nz (P:=P) (w:=w) (A:=A) e hs y) u hu) cf hO fg #[] b 0 cap vs.toArray w
    (fun args w=>vl hg.2 args) (JT hs ha hg.1 hc b _ w) hH hb (by rw[ez];unfold bm at km;omega)
   rw[ez] at NE
   refine NE.mono ?_
   rintro ex w' ⟨rfl,n,os,rfl⟩
   rw[ez] at hr
   have rN:(pdq (Go.Proofs.ltOf cf) vs.toArray 0 (List.length vs) (Lib.bitLen (List.length vs)) true true)=r.toArray:=by rw[hr]
   rw[rN]
   have n8:r.length=List.length vs:=F8.1.length_eq
   have hold:∀ b',b' < w.heap.size->b'≠b->(Go.Proofs.sortWorldK (ja e) e.sz w b 0 n r.toArray os).heap[b']?=w.heap[b']?:=fun b' lA ey=>by
    simp only[Go.Proofs.sortWorldK,grow,Go.Sort.putRowK,Go.Sort.putRow,Go.Sort.mapBlock,Go.Sort.ahead]
    rw[Array.getElem?_append_left (by simpa using lA),Array.getElem?_modify,if_neg (fun e=>ey e.symm)]
   have pR:(Go.Proofs.sortWorldK (ja e) e.sz w b 0 n r.toArray os).heap[b]?=some (.cells (Go.Sort.putCells id 0 (Go.Sort.flatK (ja e) e.sz r.toArray) c) el fr):=by
    simp only[Go.Proofs.sortWorldK,grow,Go.Sort.putRowK,Go.Sort.putRow,Go.Sort.mapBlock,Go.Sort.ahead]
    rw[Array.getElem?_append_left (by simpa using hb),Array.getElem?_modify,if_pos rfl,c1]
    rfl
   have lE:(Go.Sort.putCells id 0 (Go.Sort.flatK (ja e) e.sz r.toArray) c).size=c.size:=by simp[Go.Sort.putCells]
   have ca:Ext w (Go.Proofs.sortWorldK (ja e) e.sz w b 0 n r.toArray os) F0:=by
    have c_:∀ i,i < cap*e.sz->1<=F0 b i:=fun i hi=>by
     have h3:=hF b i
     have h4:=q4 b i
     have h5:bj b 0 (cap*e.sz) b i=1:=by simp only[bj];rw[if_pos ⟨trivial,by omega,by omega⟩]
     omega
    refine ⟨?_,fun b' i lA hz u hu=>?_,fun b' m hm=>?_,fun b' i lA=>?_,rfl,rfl,rfl,fun b' lA hz=>?_,Nat.le_add_right _ _⟩
    ·simp only[Go.Proofs.sortWorldK,grow,Go.Sort.putRowK,Go.Sort.putRow,Go.Sort.mapBlock,Go.Sort.ahead,Array.size_append,Array.size_modify]
     omega
    ·by_cases p6:b'=b
     ·subst p6
      have hi:¬ i < cap*e.sz:=fun hi=>by have:=c_ i hi;omega
      exfalso
      have:=JR c1 hu
      rw[Array.getElem?_eq_none (by omega)] at this
      cases this
     ·rw[o8 (hold b' lA p6)];exact hu
    ·by_cases p6:b'=b
     ·subst p6
      obtain ⟨c',e',f',m1,m2,m3⟩:=hm
      rw[c1] at m1
      injection m1 with m1
      injection m1 with m1 m4 m5
      subst m1;subst m4;subst m5
      exact ⟨_,_,_,pR,by rw[lE];exact m2,m3⟩
     ·have lA:b' < w.heap.size:=hm.lt
      exact (oE (hold b' lA p6) m).1 hm
    ·by_cases p6:b'=b
     ·subst p6
      simp only[World.frozen?,pR,c1]
     ·exact pr (hold b' lA p6) i
    ·by_cases p6:b'=b
     ·subst p6
      have:=c_ 0 (by omega)
      have:=hz 0
      omega
     ·exact hold b' lA p6
   refine Cz _ F1 ca (fun _ _=>Nat.le_refl _) ?_
   simp only[ai,hole,List.any_nil,Bool.false_eq_true,if_false,aq,mz,Md.own,if_true]
   refine ⟨some ⟨b,0,none⟩,cap,by rw[n8],by rw[n8];exact g2,g3,(fun e=>by cases e),fun ad e2=>?_⟩
   injection e2 with e2
   subst e2
   refine ⟨rfl,rfl,⟨_,_,_,pR,by rw[lE];exact c2,c3,c4⟩,fun _ _ _=>0,fun b' i=>?_,fun i y hy=>?_⟩
   ·have h3:=q4 b' i
    have h4:az (List.length r) (fun _ _ _=>0) b' i=0:=by
     generalize List.length r=nn
     induction nn with
     | zero=>rfl
     | succ nn ih=>simp only[az,ih]
    show bj b 0 (cap*e.sz) b' i+az (List.length r) (fun _ _ _=>0) b' i<=F1 b' i
    rw[h4]
    omega
   ·refine ⟨ja e y,Ro.length e (nz (P:=P) (w:=w) (A:=A) e hs y),fun j u hu=>?_,?_⟩
    ·have hj:=(List.getElem?_eq_some_iff.1 hu).1
     have hlen:=Ro.length e (nz (P:=P) (w:=w) (A:=A) e hs y)
     have hi:=(List.getElem?_eq_some_iff.1 hy).1
     have iX:i*e.sz+j < r.length*e.sz:=by
      have:=Nat.mul_le_mul_right e.sz (show i+1<=r.length from hi)
      rw[Nat.add_mul,Nat.one_mul] at this
      omega
     have hdiv:(i*e.sz+j) / e.sz=i:=(Go.Sort.blk_iff e.sz i _ h1).1 ⟨by omega,by omega⟩
     have Jw:(i*e.sz+j) % e.sz=j:=by rw[Nat.mod_eq_sub_div_mul,hdiv];omega
     have mI:(Go.Sort.putCells id 0 (Go.Sort.flatK (ja e) e.sz r.toArray) c)[i*e.sz+j]?=some u:=by
      have aj:i*e.sz+j < c.size:=by rw[n8] at iX;omega
      simp only[Go.Sort.putCells,Array.getElem?_mapIdx,Array.getElem?_eq_getElem aj,Option.map_some,Nat.zero_le,true_and,Nat.zero_add,Nat.sub_zero,Go.Sort.size_flatK,List.size_toArray,iX,if_true,id]
      rw[Go.Sort.get_flatK _ _ _ _ (by simpa using iX),hdiv,Jw]
      have Su:r.toArray[i]! = y:=by
       rw[getElem!_pos _ _ (by simpa using hi)]
       have:=(List.getElem?_eq_some_iff.1 hy).2
       simpa using this
      rw[Su,getElem!_pos (ja e y) j hj]
      exact congrArg some (List.getElem?_eq_some_iff.1 hu).2
     have gY:=Ro.one e (nz (P:=P) (w:=w) (A:=A) e hs y) _ (List.mem_of_getElem? hu)
     exact DL pR mI gY
    ·exact Ro.flat e _ (Aa e hs) (nz e hs y)
end
end OT
