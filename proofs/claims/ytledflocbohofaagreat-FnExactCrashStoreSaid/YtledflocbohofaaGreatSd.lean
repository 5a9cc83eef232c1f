/- The proof's parts, merged: Functions  a body that is run on data gives the contract.. No conditions but those that each states. -/
import Derived.Test.YtledflocbohofaaGreatSc
import Derived.ProofKit
import Derived.Deep.Slices
import Derived.Laws.BitsLemmas
import Derived.Shelf.SlSortCmp.NoneTotal
set_option linter.unusedVariables false
set_option linter.unusedSimpArgs false
namespace OT
open Go
section
variable {P:Program} {w:World} {A:Cells} {R:Type} {x:R} {E:Env}
theorem om:∀ (ps:List (PM×Ty)) (v:(bE (ps.map (·.2))).den),(c9 ps v).length=ps.length
 | [],_=>rfl
 | (.ro,t)::ps,v=>by cases t <;> simp[c9,om ps v.2]
 | (.fix f,t)::ps,v=>by cases t <;> simp[c9,om ps v.2]
 | (.ji m,t)::ps,v=>by simp[c9,om ps v.2]
 | (.fi m,t)::ps,v=>by simp[c9,om ps v.2]
 | (.lR m,t)::ps,v=>by simp[c9,om ps v.2]
 | (.jV m,t)::ps,v=>by simp[c9,om ps v.2]
theorem xo:∀ (ps:List (PM×Ty)) {v:(bE (ps.map (·.2))).den} {xs:List Value} {G:FP},kU P w A ps v xs G->xs.length=ps.length
 | [],_,_,_,h=>by have h:_=[]:=h;rw[h];rfl
 | (pm,t)::ps,_,_,_,h=>by
  obtain ⟨y,ys,F1,F2,rfl,_,_,Y⟩:=h
  simp[xo ps Y]
theorem MH:∀ (ps:List (PM×Ty)) {v:(bE (ps.map (·.2))).den} {xs:List Value} {G:FP},kU P w A ps v xs G->xn ps=true ->
  ∃ Fi:Nat->FP,(∀ b k,ay ps.length Fi b k<=G b k)/\∀ i s,(c9 ps v)[i]?=some s->∃ y,xs[i]?=some y/\(∀ σ a,ba P A σ a w y s (Fi i))/\(∀ t m H v,s=.box t m H v->(i,i,false) ∈ mP 0 ps) /\
   ((i,i,true) ∈ mP 0 ps->∃ t m H v,s=.own t m H v):=by
 have main:∀ (ps:List (PM×Ty)) (n:Nat) {v:(bE (ps.map (·.2))).den} {xs:List Value} {G:FP},kU P w A ps v xs G->xn ps=true ->
   ∃ Fi:Nat->FP,(∀ b k,ay ps.length Fi b k<=G b k)/\∀ i s,(c9 ps v)[i]?=some s->∃ y,xs[i]?=some y/\(∀ σ a,ba P A σ a w y s (Fi i))/\(∀ t m H v,s=.box t m H v->(n+i,n+i,false) ∈ mP n ps) /\
    ((n+i,n+i,true) ∈ mP n ps->∃ t m H v,s=.own t m H v):=by
  have ai:∀ (ps:List (PM×Ty)) (n j k:Nat) (c:Bool),(j,k,c) ∈ mP n ps->n<=j/\j=k:=by
   intro ps
   induction ps with
   | nil=>intro n j k c h;cases h
   | cons p ps ih=>
    intro n j k c h
    obtain ⟨pm,t⟩:=p
    cases pm with
    | ro=>have:=ih (n+1) j k c h;omega
    | fix f=>have:=ih (n+1) j k c h;omega
    | jV m=>have:=ih (n+1) j k c h;omega
    | ji m=>
     rcases List.mem_cons.1 h with e | h
     ·injection e with e1 e2;injection e2 with e2 e3;omega
     ·have:=ih (n+1) j k c h;omega
    | lR m=>
     rcases List.mem_cons.1 h with e | h
     ·injection e with e1 e2;injection e2 with e2 e3;omega
     ·have:=ih (n+1) j k c h;omega
    | fi m=>
     rcases List.mem_cons.1 h with e | h
     ·injection e with e1 e2;injection e2 with e2 e3;omega
     ·have:=ih (n+1) j k c h;omega
  intro ps
  induction ps with
  | nil=>intro n v xs G h _;exact ⟨fun _ _ _=>0,fun b k=>Nat.zero_le _,fun i s hs=>by cases hs⟩
  | cons p ps ih=>
   intro n v xs G h hp
   obtain ⟨pm,t⟩:=p
   obtain ⟨y,ys,F1,F2,rfl,hs,ha,hr⟩:=h
   have P3:xn ps=true:=hp
   obtain ⟨Fi,g1,g2⟩:=ih (n+1) hr P3
   obtain ⟨s0,QA,J3,JJ,dm⟩:∃ s0,c9 ((pm,t)::ps) v=s0::c9 ps v.2/\(∀ σ a,ba P A σ a w y s0 F1)/\(∀ t' m' H' v',s0=.box t' m' H' v'->∃ m,pm=.ji m\/pm=.lR m)/\((∃ m,pm=.fi m)->∃ t' m H v,s0=.own t' m H v):=by
    cases pm with
    | ro=>
     obtain ⟨cs,h1,Y⟩:=ha
     cases t with
     | ptr e=>
      refine ⟨.cp e v.1,rfl,fun σ a=>?_,(fun _ _ _ _ e=>by cases e),fun ⟨m,e⟩=>by cases e⟩
      have hl:=Ro.length _ Y
      match cs,hl with
      | [u],_=>
       rw[bz _ _ rfl] at h1
       subst h1
       exact Y
     | _=>exact ⟨.val _ v.1,rfl,fun σ a=>⟨cs,h1,Y⟩,(fun _ _ _ _ e=>by cases e),fun ⟨m,e⟩=>by cases e⟩
    | fix f=>
     obtain ⟨⟨cs,h1,Y⟩,h3⟩:=ha
     cases t with
     | fn=>
      refine ⟨.val .fn (f,v.1.2),rfl,fun σ a=>⟨cs,h1,?_⟩,(fun _ _ _ _ e=>by cases e),fun ⟨m,e⟩=>by cases e⟩
      have e:v.1=(f,v.1.2):=by have:=h3 rfl;rw[<-this]
      rw[<-e];exact Y
     | _=>exact ⟨.dead,rfl,fun σ a=>trivial,(fun _ _ _ _ e=>by cases e),fun ⟨m,e⟩=>by cases e⟩
    | ji m=>
     obtain ⟨b,o,L,F3,h1,Y,h3,h4,h5,h6⟩:=ha
     exact ⟨.box t m [] v.1,rfl,fun σ a=>⟨b,o,L,F3,h1,Y,h3,h4,h5,h6⟩,fun _ _ _ _ _=>⟨m,.inl rfl⟩,fun ⟨m,e⟩=>by cases e⟩
    | lR m=>
     obtain ⟨b,o,L,F3,h1,Y,h3,h4,h5,h6⟩:=ha
     exact ⟨.box t m [] v.1,rfl,fun σ a=>⟨b,o,L,F3,h1,Y,h3,h4,h5,h6⟩,fun _ _ _ _ _=>⟨m,.inr rfl⟩,fun ⟨m,e⟩=>by cases e⟩
    | fi m=>
     obtain ⟨cs,h1,Y⟩:=ha
     exact ⟨.own t m [] v.1,rfl,fun σ a=>⟨cs,h1,Y⟩,(fun _ _ _ _ e=>by cases e),fun _=>⟨_,_,_,_,rfl⟩⟩
    | jV m=>
     obtain ⟨cs,h1,Y⟩:=ha
     exact ⟨.own t m [] v.1,rfl,fun σ a=>⟨cs,h1,Y⟩,(fun _ _ _ _ e=>by cases e),fun _=>⟨_,_,_,_,rfl⟩⟩
   refine ⟨fun k=>match k with | 0=>F1 | k+1=>Fi k,fun b k=>?_,fun i s hi=>?_⟩
   ·have:ay (ps.length+1) (fun k=>match k with | 0=>F1 | k+1=>Fi k) b k=F1 b k+ay ps.length Fi b k:=by
     rw[Nat.add_comm,n_]
     congr 1
     ·simp[ay]
     ·refine congrFun (congrFun (jW fun j hj=>?_) b) k
      rw[Nat.add_comm]
    show ay (ps.length+1) _ b k<=G b k
    rw[this]
    have:=hs b k;have:=g1 b k;omega
   ·rw[QA] at hi
    cases i with
    | zero=>
     injection hi with hi
     subst hi
     refine ⟨y,rfl,J3,fun t' m' H' v' e=>?_,fun hm=>?_⟩
     ·obtain ⟨m,rfl | rfl⟩:=JJ t' m' H' v' e
      ·exact List.mem_cons_self
      ·exact List.mem_cons_self
     ·refine dm ?_
      cases pm with
      | fi m=>exact ⟨m,rfl⟩
      | ro=>have:=ai ps (n+1) _ _ _ hm;omega
      | fix f=>have:=ai ps (n+1) _ _ _ hm;omega
      | jV m=>have:=ai ps (n+1) _ _ _ hm;omega
      | ji m=>
       rcases List.mem_cons.1 hm with e | hm
       ·injection e with e1 e2;injection e2 with e2 e3;cases e3
       ·have:=ai ps (n+1) _ _ _ hm;omega
      | lR m=>
       rcases List.mem_cons.1 hm with e | hm
       ·injection e with e1 e2;injection e2 with e2 e3;cases e3
       ·have:=ai ps (n+1) _ _ _ hm;omega
    | succ i=>
     obtain ⟨y',q1,q2,q3,q4⟩:=g2 i s hi
     have Rt:n+1+i=n+(i+1):=by omega
     rw[Rt] at q3 q4
     refine ⟨y',q1,q2,fun t' m' H' v' e=>?_,fun hm=>q4 ?_⟩
     ·have:=q3 t' m' H' v' e
      cases pm with
      | ro=>exact this
      | fix f=>exact this
      | jV m=>exact this
      | ji m=>exact List.mem_cons_of_mem _ this
      | lR m=>exact List.mem_cons_of_mem _ this
      | fi m=>exact List.mem_cons_of_mem _ this
     ·cases pm with
      | ro=>exact hm
      | fix f=>exact hm
      | jV m=>exact hm
      | ji m=>
       rcases List.mem_cons.1 hm with e | hm
       ·injection e with e1 e2;omega
       ·exact hm
      | lR m=>
       rcases List.mem_cons.1 hm with e | hm
       ·injection e with e1 e2;omega
       ·exact hm
      | fi m=>
       rcases List.mem_cons.1 hm with e | hm
       ·injection e with e1 e2;omega
       ·exact hm
 intro ps v xs G h hp
 obtain ⟨Fi,g1,g2⟩:=main ps 0 h hp
 exact ⟨Fi,g1,fun i s hi=>by simpa using g2 i s hi⟩
theorem CS:∀ (ps:List (PM×Ty)) (n j k:Nat) (c:Bool),(j,k,c) ∈ mP n ps->n<=j/\j=k/\j < n+ps.length:=by
 intro ps
 induction ps with
 | nil=>intro n j k c h;cases h
 | cons p ps ih=>
  intro n j k c h
  obtain ⟨pm,t⟩:=p
  simp only[List.length_cons]
  cases pm with
  | ro=>have:=ih (n+1) j k c h;omega
  | fix f=>have:=ih (n+1) j k c h;omega
  | jV m=>have:=ih (n+1) j k c h;omega
  | ji m=>
   rcases List.mem_cons.1 h with e | h
   ·injection e with e1 e2;injection e2 with e2 e3;omega
   ·have:=ih (n+1) j k c h;omega
  | lR m=>
   rcases List.mem_cons.1 h with e | h
   ·injection e with e1 e2;injection e2 with e2 e3;omega
   ·have:=ih (n+1) j k c h;omega
  | fi m=>
   rcases List.mem_cons.1 h with e | h
   ·injection e with e1 e2;injection e2 with e2 e3;omega
   ·have:=ih (n+1) j k c h;omega
theorem CT:∀ (ss:List Slot) (n i:Nat),gg (rq n ss) i=if n<=i then ss[i - n]? else none
 | [],n,i=>by simp[rq,gg]
 | s::ss,n,i=>by
  simp only[rq,gg,CT ss (n+1) i]
  by_cases hi:n=i
  ·subst hi;simp
  ·have:Nat.beq n i=false:=by
    cases hb:Nat.beq n i with
    | false=>rfl
    | true=>exact absurd (Nat.eq_of_beq_eq_true hb) hi
   simp only[this,Bool.false_eq_true,if_false]
   by_cases hle:n<=i
   ·rw[if_pos (by omega),if_pos hle]
    have e:i - n=(i - (n+1))+1:=by omega
    rw[e,List.getElem?_cons_succ]
   ·rw[if_neg (by omega),if_neg hle]
theorem J4 {g:mO} {v:(bE (g.ps.map (·.2))).den} {xs:List Value} {F0:FP} {n:Nat} (h:kU P w A g.ps v xs F0) (hp:xn g.ps=true) (hn:g.ps.length<=n) (h1:∀ b i,F0 b i<=1) (Y:∀ b i,1<=F0 b i->¬ A b i) (h3:∀ b i,1<=F0 b i\/A b i->b < w.heap.size) :
  ∃ F,bC P { w0:=w,A0:=A,F0:=F0,args:=xs.toArray } A (sW g.ps v n) { tmps:=xs.toArray++Array.replicate (n - xs.toArray.size) undef,defers:=[] } w F:=by
 obtain ⟨Fi,g1,g2⟩:=MH g.ps h hp
 have hlen:=xo g.ps h
 have LC:=om g.ps v
 have mW:∀ i,(sW g.ps v n).get i=if i < n then (match (c9 g.ps v)[i]? with | some s=>s | none=>.dead) else .dead:=fun i=>by
  unfold St.get sW
  simp only[CT,Nat.zero_le,if_true,Nat.sub_zero]
  by_cases hi:i < n
  ·rw[if_pos (by simpa [Nat.blt_eq] using hi),if_pos hi]
   rfl
  ·rw[if_neg (by simpa [Nat.blt_eq] using hi),if_neg hi]
 have J5:∀ i (y:Value),xs[i]?=some y->tmp { tmps:=xs.toArray++Array.replicate (n - xs.toArray.size) undef,defers:=[] } i=y:=fun i y hy=>by
  have hi:=(List.getElem?_eq_some_iff.1 hy).1
  unfold tmp
  rw[Array.getD_eq_getD_getElem?,Array.getElem?_append_left (by simpa using hi)]
  simp[hy]
 have fM:∀ b k,ay n (fun i=>if i < g.ps.length then Fi i else fun _ _=>0) b k<=F0 b k:=fun b k=>by
  have e:n=g.ps.length+(n - g.ps.length):=by omega
  rw[e,n_]
  have e1:=congrFun (congrFun (jW (n:=g.ps.length) (f:=fun i=>if i < g.ps.length then Fi i else fun _ _=>0) (g:=Fi) (fun j hj=>by simp only[if_pos hj])) b) k
  have e2:=congrFun (congrFun (jW (n:=n - g.ps.length) (f:=fun j=>(fun i=>if i < g.ps.length then Fi i else fun _ _=>0) (g.ps.length+j)) (g:=fun _ _ _=>0) (fun j hj=>by simp only;rw[if_neg (by omega)])) b) k
  rw[e1,e2,gK]
  exact g1 b k
 refine ⟨fun i=>if i < g.ps.length then Fi i else fun _ _=>0,?_,rfl,fun i hi=>?_,(fun d r p snap hm=>by cases hm),fun b k=>?_,fun b k hp=>?_,fun b k hp=>?_,fun i=>rfl,Ext.refl _ _,fun b k hp=>?_,fun _ _ h=>h,fun _ _ h=>.inl h,fun j k hm=>?_,fun r t m H v' hg hl=>?_,fun j k hm R hR=>?_⟩
 ·simp only[Array.size_append,List.size_toArray,Array.size_replicate,hlen,sW];omega
 ·rw[mW]
  have hi:i < n:=hi
  rw[if_pos hi]
  cases hs:(c9 g.ps v)[i]? with
  | none=>trivial
  | some s=>
   obtain ⟨y,q1,q2,_⟩:=g2 i s hs
   have ai:i < g.ps.length:=by rw[<-LC];exact (List.getElem?_eq_some_iff.1 hs).1
   rw[J5 i y q1]
   simp only[if_pos ai]
   exact q2 _ _
 ·have:=fM b k;have:=h1 b k;show 0+ay n _ b k<=1;omega
 ·have hp:1<=0+ay n (fun i=>if i < g.ps.length then Fi i else fun _ _=>0) b k:=hp
  have:=fM b k
  exact Y b k (by omega)
 ·refine h3 b k (hp.imp (fun hp=>?_) id)
  have hp:1<=0+ay n (fun i=>if i < g.ps.length then Fi i else fun _ _=>0) b k:=hp
  have:=fM b k
  omega
 ·have hp:1<=0+ay n (fun i=>if i < g.ps.length then Fi i else fun _ _=>0) b k:=hp
  have:=fM b k
  left;show 1<=F0 b k;omega
 ·obtain ⟨_,rfl,hj⟩:=CS g.ps 0 j k false hm
  have hj:j < xs.length:=by omega
  rw[J5 j xs[j] (List.getElem?_eq_getElem hj)]
  simp[hj]
 ·exfalso
  rw[mW] at hg
  split at hg
  ·cases hs:(c9 g.ps v)[r]? with
   | none=>rw[hs] at hg;cases hg
   | some s=>
    rw[hs] at hg
    obtain ⟨y,_,_,q3,_⟩:=g2 r s hs
    exact hl r (q3 t m H v' hg)
  ·cases hg
 ·obtain ⟨_,rfl,hj⟩:=CS g.ps 0 j k true hm
  have oC:j < (c9 g.ps v).length:=by omega
  have hs:=List.getElem?_eq_getElem oC
  obtain ⟨y,q1,q2,_,q4⟩:=g2 j _ hs
  obtain ⟨t,m,H,v',e⟩:=q4 hm
  have Tf:j < n:=by omega
  rw[mW,if_pos Tf,hs] at hR
  simp only[e,bp,Option.some.injEq] at hR
  subst hR
  rw[J5 j y q1]
  have Y:=q2 (sW g.ps v n) { tmps:=#[],defers:=[] }
  rw[e] at Y
  obtain ⟨cs,c1,c2⟩:=Y
  have:=fE (aj.length _ c2) (aj.one _ c2)
  show bm t y.cells.toList=_
  rw[c1,this,<- c1]
  have Od:=(List.getElem?_eq_some_iff.1 q1)
  obtain ⟨Od,e2⟩:=Od
  simp[Od,e2]
noncomputable def Bu (P:Program) (E:Env) (fn:Func) (ps:List (PM×Ty)) (rs:List (Ty×Md)) (es:List Nat):Bool:=
 codeOk P E (u7 fn)&&xm E rs fn.results.toList&&xn ps&&Nat.ble ps.length fn.ntmps&&decide es.Nodup
theorem A9 (hE:l6 P E) {f:FuncId} {fn:Func} (hf:P.funcs[f]?=some fn) (hb:fn.body.isSome=true) {g:mO} {es fr:List Nat} (az:Bu P E fn g.ps g.rs es=true) (hF:∀ v out,g.F v=some out->∃ k,Bm E k fn g.ps g.rs es fr v=some out):Sound P f g:=by
 intro w A F0 v xs f8 h1 Y h3 out ja
 obtain ⟨k,hk⟩:=hF v out ja
 simp only[Bu,Bool.and_eq_true,Nat.ble_eq,decide_eq_true_eq] at az
 obtain ⟨⟨⟨⟨LQ,yC⟩,m7⟩,Lq⟩,lU⟩:=az
 obtain ⟨c,hc⟩:=Option.isSome_iff_exists.1 hb
 have HQ:u7 fn=c:=by simp[u7,hc]
 rw[HQ] at LQ
 obtain ⟨F,J3⟩:=J4 f8 m7 Lq h1 Y h3
 unfold Bm at hk
 rw[HQ] at hk
 have QB:=xo g.ps f8
 have Oe:∀ (a':Act) (w':World) (σ':St),BP g.ps g.rs es fn.results.toList (Lb fr) σ'=some out->vt P { w0:=w,A0:=A,F0:=F0,args:=xs.toArray } σ' a' w' ->
   a'.defers=[]/\∃ rv,(results fn a'.tmps).run P w'=.ok rv w'/\(∃ QC,Ending.returned rv=.returned QC/\Ext w w' F0/\∃ (A':Cells) (G GR GM:FP),(∀ b i,A b i->A' b i)/\(∀ b i,A' b i->A b i\/1<=F0 b i\/w.heap.size<=b) /\
    (∀ b i,1<=G b i->1<=F0 b i\/w.heap.size<=b)/\(∀ b i,G b i<=1)/\(∀ b i,1<=G b i->¬ A' b i)/\(∀ b i,1<=G b i\/A' b i->b < w'.heap.size)/\(∀ b i,GR b i+GM b i<=G b i) /\
    il P w' A' (f7 g.rs out).1 QC GR/\iN P w' A' g.ps (f7 g.rs out).2 xs GM):=by
  intro a' w' σ' ho hr
  obtain ⟨A1,F1,hr⟩:=hr
  unfold BP at ho
  obtain ⟨A2,eU,X2,F2,tZ,L,Fi,pre,r1,r2,r3,r4,r5,r6,r7,r8,r9⟩:=Oa hE g.rs fn.results.toList 0 yC hr ho
  obtain ⟨vs,us,Gi,m1,m2,m3,m4,m5,m6⟩:=MG r2 0 g.ps es m7 lU (by simp[QB]) r3
  have Ru:pre vs=out:=Option.some.inj m1
  have jq:f7 g.rs out=(L,vs):=by rw[<-Ru,r4]
  have IJ:∀ b i,ay L.length Fi b i<=X2 b i:=fun b i=>by have:=r8 b i;omega
  have Rv:∀ b i,hK Gi us b i<=hK F2 us b i:=fun b i=>by
   have:∀ l:List Nat,(∀ j ∈ l,j ∈ us)->hK Gi l b i<=hK F2 l b i:=by
    intro l
    induction l with
    | nil=>intro _;exact Nat.le_refl _
    | cons j l ih=>
     intro hl
     have:=m5 j b i (hl j List.mem_cons_self)
     have:=ih fun j' oC=>hl j' (List.mem_cons_of_mem _ oC)
     simp only[hK];omega
   exact this us fun _ h=>h
  have IK:∀ b i,hK Gi us b i<=ay eU.n F2 b i:=fun b i=>Nat.le_trans (Rv b i) (Fl us F2 m3 m4 b i)
  refine ⟨r2.defers,_,Ea (by rw[r6]) r7,_,rfl,r2.ext,?_⟩
  obtain ⟨A3,kb⟩:∃ A3:Cells,∀ b i,A3 b i↔(A2 b i\/(1<=X2 b i+ay eU.n F2 b i/\ay L.length Fi b i+hK Gi us b i=0)):=⟨fun b i=>A2 b i\/(1<=X2 b i+ay eU.n F2 b i/\ay L.length Fi b i+hK Gi us b i=0),fun _ _=>Iff.rfl⟩
  have J6:∀ b i,A2 b i->A3 b i:=fun b i h=>(kb b i).2 (.inl h)
  have i_:∀ b i,X2 b i+ay eU.n F2 b i<=1:=fun b i=>r2.iP b i
  refine ⟨A3,fun b i=>ay L.length Fi b i+hK Gi us b i,ay L.length Fi,hK Gi us,fun b i ha=>J6 b i (r2.a0 b i ha),fun b i ha=>?_,fun b i hp=>?_,fun b i=>?_,fun b i hp ha=>?_,fun b i hp=>?_,fun _ _=>Nat.le_refl _,?_,?_⟩
  ·rcases (kb b i).1 ha with ha | ⟨hp,_⟩
   ·exact r2.a1 b i ha
   ·exact .inr (r2.own b i hp)
  ·have hp:1<=ay L.length Fi b i+hK Gi us b i:=hp
   exact r2.own b i (by have:=IJ b i;have:=IK b i;omega)
  ·show ay L.length Fi b i+hK Gi us b i<=1
   have:=IJ b i;have:=IK b i;have:=i_ b i;omega
  ·have hp:1<=ay L.length Fi b i+hK Gi us b i:=hp
   rcases (kb b i).1 ha with ha | ⟨_,hz⟩
   ·exact r2.jx b i (by have:=IJ b i;have:=IK b i;omega) ha
   ·omega
  ·rcases hp with hp | ha
   ·have hp:1<=ay L.length Fi b i+hK Gi us b i:=hp
    exact r2.ez b i (.inl (by have:=IJ b i;have:=IK b i;omega))
   ·rcases (kb b i).1 ha with ha | ⟨hp,_⟩
    ·exact r2.ez b i (.inr ha)
    ·exact r2.ez b i (.inl hp)
  ·rw[jq]
   have CU:=r9 A3 J6 (fun b i hx _ hz=>(kb b i).2 (.inr ⟨by omega,by
    have:=IK b i;have:=i_ b i;omega⟩))
   show il P w' A3 L _ _
   match L,r5,CU with
   | [],_,_=>trivial
   | [y],hl,CU=>
    match tZ,hl with
    | [u],_=>
     obtain ⟨u',cs,e1,e2,e3⟩:=CU 0 y rfl
     injection e1 with e1
     subst e1
     refine ⟨cs,by simpa using e2,e3.le fun b i=>by simp[ay]⟩
   | y::z::L,hl,CU=>
    refine ⟨tZ.toArray,Fi,?_,fun _ _=>Nat.le_refl _,fun j q hq=>?_⟩
    ·rw[dif_neg]
     simp only[List.size_toArray,hl,List.length_cons];omega
    ·obtain ⟨u,cs,e1,e2,e3⟩:=CU j q hq
     exact ⟨u,cs,by simpa using e1,e2,e3⟩
  ·rw[jq]
   refine m6 A3 J6 fun i b k' hi hp hz=>(kb b k').2 (.inr ⟨by have:=bk F2 (m4 i hi) b k';omega,?_⟩)
   have h4:=bk F2 (m4 i hi) b k'
   have h5:=i_ b k'
   have h6:=IJ b k'
   have h7:hK Gi us b k'=0:=by
    rcases Nat.eq_zero_or_pos (hK Gi us b k') with h0 | h0
    ·exact h0
    ·obtain ⟨j,hj,LF⟩:=CO h0
     by_cases jf:j=i
     ·subst jf;omega
     ·have:=m5 j b k' hj
      have:=mQ F2 (m4 j hj) (m4 i hi) jf b k'
      omega
   omega
 refine calls_of_wp hf hc (wp_mono (MF hE c LQ J3 hk) fun e a' w' hq=>?_)
 cases e with
 | normal=>obtain ⟨σ',h4,h5⟩:=hq;exact Oe a' w' σ' h4 h5
 | ret=>obtain ⟨σ',h4,h5⟩:=hq;exact Oe a' w' σ' h4 h5
 | exit j=>obtain ⟨σ',h4,h5⟩:=hq;cases h4
 | _=>exact hq.elim
end
end OT
set_option linter.unusedVariables false
set_option linter.unusedSimpArgs false
namespace OT
open Go
def CV (w:World):Cells:=fun b _=>b < w.heap.size
def sM:Ty->Bool
 | .int _ | .bool | .str | .unit=>true
 | .pair a b=>sM a&&sM b
 | .U e=>sM e
 | _=>false
def mI:(T:Ty)->T.den->Prop
 | .int k,n=>k.min<=jp k n/\jp k n<=k.max
 | .str,s=>List.length s<=maxLen
 | .pair a b,v=>mI a v.1/\mI b v.2
 | .U e,v=>List.length v<=maxLen/\∀ x ∈ (v:List e.den),mI e x
 | _,_=>True
def IL:(ps:List (PM×Ty))->(bE (ps.map (·.2))).den->Prop
 | [],_=>True
 | (_,T)::ps,v=>mI T v.1/\IL ps v.2
section
variable {P:Program} {w:World} {H:Type} {enc:TypeId×Value->H}
theorem xp {T:Ty} {i:TypeId} (h:aD P T (.inl i)=true):P.cellsOf i=T.sz:=by
 obtain ⟨inf,h1,Y,_⟩:=eV (gn h)
 simp[Program.cellsOf,h1,Y]
theorem J7 {a:Addr} {k:Nat} {u:Value} (h:w.cell? (a.add k)=some u) (hk:k=0\/a.spot=none):a.spot=none:=by
 rcases hk with rfl | hk
 ·unfold Addr.add at h
  rw[if_pos rfl] at h
  unfold World.cell? at h
  split at h
  ·split at h
   ·cases h
   ·rename_i hs
    cases jq:a.spot with
    | none=>rfl
    | some s=>rw[jq] at hs;simp at hs
  ·cases h
 ·exact hk
theorem MI:∀ (T:Ty),sM T=true ->
  (∀ i,aD P T (.inl i)=true->∀ fuel cs x,DataW.trod enc P w 0 (fun _=>true) true fuel i cs=some x->∃ v:T.den,mI T v/\Ro P w (CV w) T v cs) /\
  (∀ fs off,aD P T (.inr (fs,off))=true->∀ n (cs:List Value),cs.length=off+T.sz->(∀ f ∈ fs,∃ x,DataW.trod enc P w 0 (fun _=>true) true n f.type ((cs.drop f.offset).take (P.cellsOf f.type))=some x)->∃ v:T.den,mI T v/\Ro P w (CV w) T v (cs.drop off)):=by
 intro T
 induction T with
 | int k=>
  intro _
  refine ⟨fun i hl fuel cs x h=>?_,fun fs off hl=>by simp[aD] at hl⟩
  obtain ⟨n,rfl,_,IM⟩:=DataW.trod_int (jI hl) h
  simp only[Lit.wf,Bool.and_eq_true,decide_eq_true_eq] at IM
  cases k with
  | u8=>
   have h1:jp .u8 (UInt8.ofInt n)=n:=by
    have:=zG .u8 n (fun _=>by
     have h1:(0:Int)<=n:=IM.1
     have Y:n<=(255:Int):=IM.2
     omega)
    exact this
   refine ⟨(UInt8.ofInt n:UInt8),?_,?_⟩
   ·show IntKind.u8.min<=jp .u8 (UInt8.ofInt n)/\jp .u8 (UInt8.ofInt n)<=IntKind.u8.max
    rw[h1];exact IM
   ·show [Value.int .u8 n]=[Value.int .u8 (jp .u8 (UInt8.ofInt n))]
    rw[h1]
  | _=>exact ⟨n,IM,rfl⟩
 | bool=>
  intro _
  refine ⟨fun i hl fuel cs x h=>?_,fun fs off hl=>by simp[aD] at hl⟩
  have hu:P.underlying i=some .bool:=by
   simp only[aD,Bool.and_eq_true] at hl
   have Y:=hl.2
   split at Y
   ·assumption
   ·cases Y
  obtain ⟨b,rfl,_⟩:=DataW.trod_bool hu h
  exact ⟨b,trivial,rfl⟩
 | str=>
  intro _
  refine ⟨fun i hl fuel cs x h=>?_,fun fs off hl=>by simp[aD] at hl⟩
  obtain ⟨s,rfl,_,Tg⟩:=DataW.trod_string (gf hl) h
  exact ⟨s.data.toList,(by show s.data.toList.length<=maxLen;rw[Array.length_toList];exact Tg),by simp only[Ro]⟩
 | unit=>
  intro _
  refine ⟨fun i hl fuel cs x h=>?_,fun fs off hl n cs hlen _=>⟨(),trivial,?_⟩⟩
  ·simp only[aD,Bool.and_eq_true] at hl
   have Y:=hl.2
   split at Y
   ·rename_i fs hu
    obtain ⟨xs,n,_,_,hlen,_⟩:=DataW.trod_struct hu h
    have eH:P.cellsOf i=0:=by
     obtain ⟨inf,h1,h3,_⟩:=eV hl.1
     simp[Program.cellsOf,h1,h3,Ty.sz]
    rw[eH] at hlen
    exact ⟨(),trivial,by simp only[Ro];exact List.eq_nil_of_length_eq_zero hlen⟩
   ·cases Y
  ·simp only[Ro]
   exact List.drop_of_length_le (by simp only[Ty.sz] at hlen;omega)
 | pair a b ey eg=>
  intro ha
  simp only[sM,Bool.and_eq_true] at ha
  have Of:∀ fs off,aD P (.pair a b) (.inr (fs,off))=true->∀ n (cs:List Value),cs.length=off+(Ty.pair a b).sz->(∀ f ∈ fs,∃ x,DataW.trod enc P w 0 (fun _=>true) true n f.type ((cs.drop f.offset).take (P.cellsOf f.type))=some x)->∃ v:(Ty.pair a b).den,mI (.pair a b) v/\Ro P w (CV w) (.pair a b) v (cs.drop off):=by
   intro fs off hl n cs hlen hf
   cases fs with
   | nil=>simp[aD] at hl
   | cons f r=>
    simp only[aD,Bool.and_eq_true,Nat.beq_eq,Nat.ble_eq] at hl
    obtain ⟨⟨⟨ho,_⟩,h1⟩,Y⟩:=hl
    simp only[Ty.sz] at hlen
    obtain ⟨x,hx⟩:=hf f List.mem_cons_self
    rw[ho,xp h1] at hx
    obtain ⟨v1,o1,r1⟩:=(ey ha.1).1 _ h1 _ _ _ hx
    obtain ⟨v2,o2,r2⟩:=(eg ha.2).2 r (off+a.sz) Y n cs (by omega) (fun f' LR=>hf f' (List.mem_cons_of_mem _ LR))
    exact ⟨(v1,v2),⟨o1,o2⟩,r1,by rw[List.drop_drop];exact r2⟩
  refine ⟨fun i hl fuel cs x h=>?_,Of⟩
  have Qe:=hl
  simp only[aD,Bool.and_eq_true] at hl
  have Y:=hl.2
  split at Y
  ·rename_i fs hu
   split at Y
   ·rename_i f r vw
    have h3:aD P (.pair a b) (.inr (f::r,0))=true:=by
     simp only[aD,Nat.zero_add];exact Y
    obtain ⟨xs,n,_,_,hlen,QB,MJ⟩:=DataW.trod_struct hu h
    rw[xp Qe] at hlen
    have:=Of (f::r) 0 h3 n cs (by omega) (fun f' LR=>by
     rw[<-vw] at LR
     obtain ⟨j,hj,e⟩:=List.mem_iff_getElem.1 LR
     have oC:j < fs.size:=by simpa using hj
     have:=MJ j f' (by rw[Array.getElem?_eq_getElem oC];simpa using e)
     rw[this,List.getElem?_eq_getElem (by omega)]
     exact ⟨_,rfl⟩)
    simpa using this
   ·cases Y
  ·cases Y
 | U e ih=>
  intro ha
  simp only[sM] at ha
  refine ⟨fun i hl fuel cs x h=>?_,fun fs off hl=>by simp[aD] at hl⟩
  obtain ⟨el,hu,eH,hle⟩:=mC hl
  rcases DataW.trod_slice hu h with ⟨rfl,_⟩ | ⟨a,len,cap,elems,rest,n,_,rfl,_,_,P_,QD,jy,J8,jJ,_⟩
  ·exact ⟨[],⟨Nat.zero_le _,fun x hx=>by cases hx⟩,none,0,rfl,Nat.le_refl _,fun _=>rfl,fun ad e=>by cases e⟩
  ·rw[xp hle] at J8 jJ
   have lC:∀ k y,(w.cells? 0 (a.add (k*e.sz)) e.sz).bind (DataW.trod enc P w 0 (fun _=>true) true n el)=some y->∃ aL,w.cells? 0 (a.add (k*e.sz)) e.sz=some aL/\DataW.trod enc P w 0 (fun _=>true) true n el aL=some y:=fun k y hk=>by
    cases hc:w.cells? 0 (a.add (k*e.sz)) e.sz with
    | none=>rw[hc] at hk;cases hk
    | some aL=>rw[hc] at hk;exact ⟨aL,rfl,hk⟩
   have LS:0 < cap->a.spot=none:=fun zF=>by
    have Cs:∃ aL,w.cells? 0 (a.add (0*e.sz)) e.sz=some aL:=by
     by_cases hlen:0 < len
     ·have h0:=J8 0 hlen
      rw[List.getElem?_eq_getElem (by omega)] at h0
      obtain ⟨aL,h1,_⟩:=lC 0 _ h0
      exact ⟨aL,h1⟩
     ·obtain rfl:len=0:=by omega
      obtain ⟨mT,nL⟩:=jJ rfl
      have h0:=nL 0 (by omega)
      rw[List.getElem?_eq_getElem (by omega)] at h0
      obtain ⟨aL,h1,_⟩:=lC (0+0) _ h0
      exact ⟨aL,by simpa using h1⟩
    obtain ⟨aL,h1⟩:=Cs
    obtain ⟨_,Cn,Y⟩:=World.cells?_some h1
    have h3:=Y 0 (by omega)
    rw[List.getElem?_eq_getElem (by omega),Nat.zero_mul] at h3
    have h4:(a.add 0).add 0=a.add 0:=by unfold Addr.add;simp
    rw[h4] at h3
    exact J7 h3 (.inl rfl)
   have each:∀ k:Fin len,∃ v:e.den,mI e v/\∃ L:List Value,L.length=e.sz/\(∀ j u,L[j]?=some u->ce w a.block (a.off+k.val*e.sz+j)=some u/\CV w a.block (a.off+k.val*e.sz+j))/\Ro P w (CV w) e v L:=fun k=>by
    have h0:=J8 k.val k.isLt
    rw[List.getElem?_eq_getElem (by have:=k.isLt;omega)] at h0
    obtain ⟨aL,h1,Y⟩:=lC k.val _ h0
    obtain ⟨v,ho,hv⟩:=(ih ha).1 _ hle _ _ _ Y
    obtain ⟨_,Cn,h3⟩:=World.cells?_some h1
    refine ⟨v,ho,aL,Cn,fun j u hu=>?_,hv⟩
    have hj:=(List.getElem?_eq_some_iff.1 hu).1
    have h4:=h3 j (by omega)
    rw[hu] at h4
    have jq:=LS (by have:=k.isLt;omega)
    obtain ⟨b,off,sp⟩:=a
    simp only at jq
    subst jq
    rw[jO,jO] at h4
    have h5:ce w b (off+k.val*e.sz+j)=some u:=wl h4 (Ro.one e hv u (List.mem_of_getElem? hu))
    exact ⟨h5,oY h5⟩
   obtain ⟨f,hf⟩:=Classical.axiomOfChoice each
   refine ⟨List.ofFn f,⟨by simp;omega,fun x hx=>?_⟩,some a,cap,by simp,by simpa using P_,(fun e=>by cases e),fun ad e=>?_⟩
   ·obtain ⟨j,rfl⟩:=List.mem_ofFn.1 hx
    exact (hf j).1
   injection e with e
   subst e
   refine ⟨LS,fun k y hk=>?_⟩
   rw[List.getElem?_ofFn] at hk
   split at hk
   ·rename_i ai
    injection hk with hk
    subst hk
    exact (hf ⟨k,ai⟩).2
   ·cases hk
 | _=>intro ha;simp[sM] at ha
theorem arg_val {T:Ty} (ha:sM T=true) {i:TypeId} (hl:aD P T (.inl i)=true) {r:Reach} {b0:Nat} {v:Value} (h:Value.okWide P w r b0 i v):v=bm T v.cells.toList:=by
 cases T with
 | int k=>
  have hu:=jI hl
  cases v <;> simp[Value.okWide,Cell.okWide,Cell.ok,hu] at h <;> simp[bm,isAgg,Value.cells]
 | bool=>
  have hu:P.underlying i=some .bool:=by
   simp only[aD,Bool.and_eq_true] at hl
   have Y:=hl.2
   split at Y
   ·assumption
   ·cases Y
  cases v <;> simp[Value.okWide,Cell.okWide,Cell.ok,hu] at h <;> simp[bm,isAgg,Value.cells]
 | str=>
  have hu:=gf hl
  cases v <;> simp[Value.okWide,Cell.okWide,Cell.ok,hu] at h <;> simp[bm,isAgg,Value.cells]
 | U e=>
  obtain ⟨el,hu,_⟩:=mC hl
  cases v <;> simp[Value.okWide,Cell.okWide,Cell.ok,hu] at h <;> simp[bm,isAgg,Value.cells]
 | unit=>
  simp only[aD,Bool.and_eq_true] at hl
  have Y:=hl.2
  split at Y
  ·rename_i fs hu
   simp only[Value.okWide,hu] at h
   obtain ⟨cs,rfl,_⟩:=h
   simp[bm,isAgg,Value.cells]
  ·cases Y
 | pair a b=>
  simp only[aD,Bool.and_eq_true] at hl
  have Y:=hl.2
  split at Y
  ·rename_i fs hu
   simp only[Value.okWide,hu] at h
   obtain ⟨cs,rfl,_⟩:=h
   simp[bm,isAgg,Value.cells]
  ·cases Y
 | _=>simp[sM] at ha
def sq (P:Program):List (PM×Ty)->List TypeId->Bool
 | [],[]=>true
 | (.ro,T)::ps,t::ts=>sM T&&aD P T (.inl t)&&P.readableRec t&&Nat.blt t P.types.size&&sq P ps ts
 | _,_=>false
theorem Fm:∀ (ps:List (PM×Ty)) (ts:List TypeId) (args:List Value) (ds:List (DataW H)) (p:List MemPlace) {b0:Nat},sq P ps ts=true->DataW.TrodAll enc P w 0 (fun _=>true) true ts args ds p ->
  (∀ (j:Nat) t v,ts[j]?=some t->args[j]?=some v->Value.okWide P w .any b0 t v)->∃ v,IL ps v/\kU P w (CV w) ps v args (fun _ _=>0)
 | [],[],args,ds,p,b0,_,h,_=>by
  cases args with
  | nil=>exact ⟨(),trivial,rfl⟩
  | cons _ _=>simp[DataW.TrodAll] at h
 | (.ro,T)::ps,t::ts,args,ds,p,b0,hl,h,az=>by
  simp only[sq,Bool.and_eq_true] at hl
  cases args with
  | nil=>simp[DataW.TrodAll] at h
  | cons v args=>
   cases ds with
   | nil=>simp[DataW.TrodAll] at h
   | cons d ds=>
    obtain ⟨p1,q1,⟨fuel,h1⟩,Y,_⟩:=h
    obtain ⟨x,Th,hx⟩:=(MI T hl.1.1.1.1).1 t hl.1.1.1.2 _ _ _ h1
    obtain ⟨xs,Rw,Ti⟩:=Fm ps ts args ds q1 (b0:=b0) hl.2 Y (fun j t' v' ht hv=>az (j+1) t' v' ht hv)
    exact ⟨(x,xs),⟨Th,Rw⟩,v,args,fun _ _=>0,fun _ _=>0,rfl,fun _ _=>Nat.le_refl _,⟨_,arg_val hl.1.1.1.1 hl.1.1.1.2 (az 0 t v rfl rfl),hx⟩,Ti⟩
theorem Au (s8:laidOutB P=true) {W W':World} (hb:RowKit.Below W.heap.size W W') {sp:Nat->Bool}:∀ (ps:List (PM×Ty)) (ts:List TypeId) (args:List Value) (ds:List (DataW H)) (p:List MemPlace),sq P ps ts=true->DataW.TrodAll enc P W 0 (fun _=>true) true ts args ds p ->
  (∀ x ∈ p,x.block < W.heap.size)->(∀ x ∈ p,sp x.block=true)->DataW.TrodAll enc P W' 0 sp true ts args ds p
 | [],[],args,ds,p,_,h,_,_=>by
  cases args with
  | nil=>
   cases ds with
   | nil=>exact h
   | cons _ _=>simp[DataW.TrodAll] at h
  | cons _ _=>simp[DataW.TrodAll] at h
 | (.ro,T)::ps,t::ts,args,ds,p,hl,h,ai,jq=>by
  simp only[sq,Bool.and_eq_true] at hl
  cases args with
  | nil=>simp[DataW.TrodAll] at h
  | cons v args=>
   cases ds with
   | nil=>simp[DataW.TrodAll] at h
   | cons d ds=>
    obtain ⟨p1,q1,h1,Y,rfl⟩:=h
    have ht:t < P.types.size:=by have:=hl.1.2;rwa [Nat.blt_eq] at this
    exact ⟨p1,q1,WideElems.Trod_stays s8 hl.1.1.2 ht h1 (fun x hx=>hb.same (ai x (List.mem_append_left _ hx))) (fun x hx=>jq x (List.mem_append_left _ hx)),
     Au s8 hb ps ts args ds q1 hl.2 Y (fun x hx=>ai x (List.mem_append_right _ hx)) (fun x hx=>jq x (List.mem_append_right _ hx)),rfl⟩
theorem IN {f:FuncId} {cap:Bool} {ps:List (PM×Ty)} {Fn:(bE (ps.map (·.2))).den->Option (bE ([((Ty.bool,ax .bool):Ty×Md)].map (·.1)++e8 ps)).den} (hs:Sound P f { cap:=cap,ps:=ps,rs:=[(.bool,ax .bool)],F:=Fn }) (Gw:∀ v,IL ps v->∃ u,Fn v=some (true,u))
  {ts:List TypeId} (hl:sq P ps ts=true) {args:List Value} {ds:List (DataW H)} {p:List MemPlace} (hA:DataW.TrodAll enc P w 0 (fun _=>true) true ts args ds p) {b0:Nat} (az:∀ (j:Nat) t v,ts[j]?=some t->args[j]?=some v->Value.okWide P w .any b0 t v) :
  Calls P f args.toArray w fun e W'=>e=.returned (.bool true)/\RowKit.Below w.heap.size w W':=by
 obtain ⟨v,NI,hv⟩:=Fm ps ts args ds p hl hA az
 obtain ⟨u,hu⟩:=Gw v NI
 refine (hs w (CV w) (fun _ _=>0) v args hv (fun _ _=>Nat.zero_le _) (fun b i h=>by omega) (fun b i h=>?_) _ hu).mono fun e W' h=>?_
 ·rcases h with h | h
  ·omega
  ·exact h
 ·obtain ⟨rv,rfl,ci,A',G,GR,GM,_,_,_,_,_,_,_,mF,_⟩:=h
  obtain ⟨cs,h1,Y⟩:=mF
  simp only[f7] at h1 Y
  have Y:cs=[.bool true]:=Y
  subst Y
  exact ⟨by rw[h1];rfl,ci.os,ci.tape,ci.output,ci.size,fun b hb=>ci.obj b hb fun _=>rfl⟩
theorem J9 {C:Checked} {f:Func} {s:ChangeSpec} {W W':World} {args:Array Value} {ds:List (DataW H)} {p:List MemPlace} {apart fresh handsOn:Bool} (s8:laidOutB P=true) {ps:List (PM×Ty)} {ts:List TypeId} (Tj:f.params.toList=ts) (hl:sq P ps ts=true) {tb:TypeId} (hr:f.resultTypes=#[tb]) (hu:P.underlying tb=some .bool)
  (Pj:s.vars=[]) (hW:DataW.Whole enc P f.params.toList s.vars apart W args.toList ds [] p) (hA:DataW.TrodAll enc P W 0 (fun _=>true) true ts args.toList ds p) (IP:s.fn H (ds++[])={ results:=[.lit (.bool true)],args:=ds }) (hb:RowKit.Below W.heap.size W W') :
  s.post enc P f apart fresh handsOn false W args (.bool true) W':=by
 have ai:∀ x ∈ p,x.block < W.heap.size:=fun x hx=>by simpa using hW.lt x hx
 refine ⟨ds,[],p,[],p,[],hW,?_,?_,?_,World.keptBut_mono (fun x hx=>⟨hx,.inr (.inl hx)⟩) (hb.frame (· ∈ p)),fun e=>by cases e⟩
 ·rw[IP,hr]
  exact ⟨[],[],RowKit.shut_bool hu true,rfl,rfl⟩
 ·rw[IP,Tj]
  exact Au s8 hb ps ts args.toList ds p hl hA ai (fun x hx=>by simpa using ai x hx)
 ·rw[IP,Pj]
  rfl
end
end OT
namespace OT
open Go
def Gx (P:Program) (l:List (Nat×Ty)):Bool:=l.all fun p=>aD P p.2 (.inl p.1)
def Bv (P:Program) (l:List (Nat×Ty)):Bool:=l.all fun p=>!(p.2.gY&&isAgg p.2)||(ke P p.2 (.inl p.1)&&(P.eqGuardType P.depth p.1 == false)&&Nat.ble (dep p.2) 10000)
theorem xq {α:Type}:∀ {l:List (Nat×α)} {i:Nat} {x:α},gg l i=some x->(i,x) ∈ l
 | (k,y)::l,i,x,h=>by
  simp only[gg] at h
  split at h
  ·rename_i hk
   injection h with h
   rw[Nat.eq_of_beq_eq_true hk,h];exact List.mem_cons_self
  ·exact List.mem_cons_of_mem _ (xq h)
def vK (P:Program) (l:List (Nat×mO)):Prop:=∀ f g,gg l f=some g->Sound P f g/\oD P f g.cap
theorem al (P:Program):vK P []:=fun f g h=>by cases h
theorem MK {P:Program} {f:Nat} {g:mO} {l:List (Nat×mO)} (h1:Sound P f g) (Y:oD P f g.cap) (h3:vK P l):vK P ((f,g)::l):=fun f' g' h=>by
 simp only[gg] at h
 split at h
 ·rename_i hk
  injection h with h
  subst h
  rw[<-Nat.eq_of_beq_eq_true hk]
  exact ⟨h1,Y⟩
 ·exact h3 f' g' h
theorem Og {P:Program} {E:Env} {tl:List (Nat×Ty)} {gl:List (Nat×mO)} (h1:E.TI=gg tl) (Y:E.G=gg gl) (h3:Gx P tl=true) (h4:Bv P tl=true) (h5:vK P gl):l6 P E where
 ti i T h:=by rw[h1] at h;exact List.all_eq_true.1 h3 _ (xq h)
 eq i T h hq ha:=by
  rw[h1] at h
  have:=List.all_eq_true.1 h4 _ (xq h)
  simp only[hq,ha,Bool.and_self,Bool.not_true,Bool.false_or,Bool.and_eq_true,beq_iff_eq,Nat.ble_eq] at this
  exact ⟨this.1.1,this.1.2,this.2⟩
 fn f g h:=by rw[Y] at h;exact h5 f g h
def Ok (P:Program) (f:FuncId) (g:mO):Prop:=Sound P f g/\oD P f g.cap
theorem fc {P:Program} {f:Nat} {g:mO} {l:List (Nat×mO)} (h:Ok P f g) (h3:vK P l):vK P ((f,g)::l):=MK h.1 h.2 h3
def CW (fn:Func) (cap:Bool):Bool:=!(fn.name == "runtime.NumGoroutine")&&!fn.body.isNone&&Nat.beq fn.nfree (match cap with | true=>1 | false=>0)
noncomputable def okB (P:Program) (E:Env) (fn:Func) (ps:PQ) (rs:RQ) (es:List Nat) (cap:Bool) (tl:TL):Bool:=(Gx P tl&&Bv P tl)&&(CW fn cap&&Bu P E fn ps rs es)
theorem Pk {P:Program} {E:Env} {f:FuncId} {fn:Func} (hf:P.funcs[f]?=some fn) {g:mO} {es fr:List Nat} {tl:TL} {gl:GL} (h1:E.TI=gg tl) (Y:E.G=gg gl) (az:okB P E fn g.ps g.rs es g.cap tl=true) (hg:vK P gl) (hF:∀ v,g.F v=lift fun k=>Bm E k fn g.ps g.rs es fr v):Ok P f g:=by
 simp only[okB,CW,Bool.and_eq_true,Bool.not_eq_true',Nat.beq_eq] at az
 obtain ⟨⟨a1,a2⟩,⟨⟨b1,b2⟩,b3⟩,c⟩:=az
 have hb:fn.body.isSome=true:=by
  cases h:fn.body with
  | none=>rw[h] at b2;cases b2
  | some _=>rfl
 exact ⟨A9 (Og h1 Y a1 a2 hg) hf hb c fun v out h=>HG (by rw[<-hF];exact h),fn,hf,b1,b2,b3⟩
structure FD where
 fn:Func
 tl:TL
 ps:PQ
 rs:RQ
 gl:GL:=[]
 es:List Nat:=[]
 fr:List Nat:=[]
 cap:Bool:=false
 fz:List (Nat×Nat×Nat):=[]
 lv:List (Nat×List Nat):=[]
 lx:List (Nat×List Nat):=[]
 lf:List (Nat×List (Nat×Md)):=[]
 od:List (Nat×List Nat):=[]
 ar:List (Nat×List Nat):=[]
 bx:List (Nat×List Nat):=[]
 pd:List (Nat×List Nat):=[]
 er:List (Nat×List (Nat×Nat)):=[]
noncomputable def FD.E (D:FD):Env:={ TI:=gg D.tl,G:=gg D.gl,fz:=D.fz,lv:=D.lv,lx:=D.lx,lf:=D.lf,od:=D.od,ar:=D.ar,bx:=D.bx,pd:=D.pd,er:=D.er }
noncomputable def FD.W (D:FD) (k:Nat) (a:(bE (D.ps.map (·.2))).den):Option (bE (D.rs.map (·.1)++e8 D.ps)).den:=Bm D.E k D.fn D.ps D.rs D.es D.fr a
noncomputable def FD.F (D:FD) (a:(bE (D.ps.map (·.2))).den):Option (bE (D.rs.map (·.1)++e8 D.ps)).den:=lift fun k=>D.W k a
noncomputable def FD.sig (D:FD):mO:={ cap:=D.cap,ps:=D.ps,rs:=D.rs,F:=D.F }
noncomputable def FD.fin (D:FD):St->Option (bE (D.rs.map (·.1)++e8 D.ps)).den:=BP D.ps D.rs D.es D.fn.results.toList (Lb D.fr)
noncomputable def FD.K0 (D:FD):KT (bE (D.rs.map (·.1)++e8 D.ps)).den:=M9 D.fin
noncomputable def FD.N (D:FD) (k:Nat) (p:List Nat):St->KT (bE (D.rs.map (·.1)++e8 D.ps)).den->Option (bE (D.rs.map (·.1)++e8 D.ps)).den:=mH D.E k D.fin (sub p (u7 D.fn))
noncomputable def FD.L (D:FD) (k:Nat) (p live:List Nat) (rp:List (Nat×Md)) (K:KT (bE (D.rs.map (·.1)++e8 D.ps)).den) (σ:St):Option (bE (D.rs.map (·.1)++e8 D.ps)).den:=tA (D.N k p) (cj live rp) K k σ
theorem ap {P:Program} {D:FD} {f:FuncId} (hf:P.funcs[f]?=some D.fn) (ht:(Gx P D.tl&&Bv P D.tl)=true) (az:(CW D.fn D.cap&&Bu P D.E D.fn D.ps D.rs D.es)=true) (hg:vK P D.gl):Ok P f D.sig:=
 Pk (es:=D.es) (fr:=D.fr) (tl:=D.tl) (gl:=D.gl) (E:=D.E) hf rfl rfl (by rw[okB,ht,Bool.true_and];exact az) hg fun _=>rfl
end OT
namespace OT
open Go
theorem aE {n:Int} (h:-9223372036854775808<=n/\n<=9223372036854775807):ae n=n:=by
 unfold ae
 rw[IntKind.wrap_i64]
 omega
theorem ah:maxLen=9223372036854775807:=by simp[maxLen]
theorem qH {V R:Type} {B:(V->Option R)->V->Option R} (f:V->R) (I:V->Prop) (μ:V->Nat)
  (h:∀ v,I v->∀ self,B self v=some (f v)\/∃ v',B self v=self v'/\f v'=f v/\I v'/\μ v' < μ v):∀ (k:Nat) (v:V),I v->μ v < k->ak B k v=some (f v)
 | 0,v,_,hk=>by omega
 | k+1,v,hI,hk=>by
  show B (ak B k) v=some (f v)
  rcases h v hI (ak B k) with h1 | ⟨v',h1,Y,h3,h4⟩
  ·exact h1
  ·rw[h1,qH f I μ h k v' h3 (by omega),Y]
def lz {α:Type} (e:α->α->Bool) (xs ys:List α):Bool:=(xs.zip ys).all fun p=>e p.1 p.2
theorem IQ {α:Type} (e:α->α->Bool) (xs ys:List α) (i:Nat) (hx:i < xs.length) (hy:i < ys.length):lz e (xs.drop i) (ys.drop i)=(e xs[i] ys[i]&&lz e (xs.drop (i+1)) (ys.drop (i+1))):=by
 unfold lz
 rw[List.drop_eq_getElem_cons hx,List.drop_eq_getElem_cons hy]
 simp only[List.zip_cons_cons,List.all_cons]
theorem nc {α:Type} {B:(Int->Option (Bool×Unit))->Int->Option (Bool×Unit)} {xs ys:List α} (e:α->α->Bool) (hlen:xs.length=ys.length) (qp:xs.length<=maxLen)
  (dY:∀ (i:Nat) (hx:i < xs.length) (hy:i < ys.length) self,B self (i:Int)=if e xs[i] ys[i]=true then self (ae ((i:Int)+1)) else some (false,()))
  (ja:∀ self,B self (xs.length:Int)=some (true,())):∀ k,xs.length < k->ak B k 0=some (lz e xs ys,()):=by
 intro k hk
 have h:=qH (B:=B) (fun v=>(lz e (xs.drop v.toNat) (ys.drop v.toNat),())) (fun v=>0<=v/\v<=(xs.length:Int)) (fun v=>xs.length - v.toNat) (fun v hv self=>by
  obtain ⟨h0,h1⟩:=hv
  obtain ⟨i,rfl⟩:=Int.eq_ofNat_of_zero_le h0
  simp only[Int.toNat_natCast]
  by_cases hi:i < xs.length
  ·have hy:i < ys.length:=by omega
   rw[IQ e xs ys i hi hy,dY i hi hy]
   cases he:e xs[i] ys[i] with
   | true=>
    right
    have hw:ae ((i:Int)+1)=((i+1:Nat):Int):=by rw[aE (by rw[ah] at qp;omega)];omega
    refine ⟨_,by rw[hw];rfl,by simp,by omega,?_⟩
    simp only[Int.toNat_natCast];omega
   | false=>left;simp
  ·have fj:i=xs.length:=by omega
   subst fj
   left
   rw[ja]
   simp[lz]) k 0 ⟨by omega,by omega⟩ (by simpa using hk)
 simpa using h
theorem oH {α:Type} {B:((List α×Int)->Option (List α×Unit))->(List α×Int)->Option (List α×Unit)} {xs:List α} (qp:xs.length<=maxLen)
  (dY:∀ (i:Nat) (hx:i < xs.length) (acc:List α) self,acc.length=xs.length->B self (acc,(i:Int))=self (acc.set i xs[i],ae ((i:Int)+1)))
  (ja:∀ acc self,B self (acc,(xs.length:Int))=some (acc,())) (z:α):∀ k,xs.length < k->ak B k (List.replicate xs.length z,0)=some (xs,()):=by
 intro k hk
 refine qH (B:=B) (fun _=>(xs,())) (fun v=>0<=v.2/\v.2<=(xs.length:Int)/\v.1.length=xs.length/\∀ j,j < v.2.toNat->v.1[j]?=xs[j]?) (fun v=>xs.length - v.2.toNat) (fun v hv self=>?_) k _ ⟨by simp,by simp,by simp,by simp⟩ (by simpa using hk)
 obtain ⟨acc,i⟩:=v
 obtain ⟨h0,h1,Y,h3⟩:=hv
 simp only at h0 h1 Y h3
 obtain ⟨i,rfl⟩:=Int.eq_ofNat_of_zero_le h0
 simp only[Int.toNat_natCast] at h3 ⊢
 by_cases hi:i < xs.length
 ·right
  have hw:ae ((i:Int)+1)=((i+1:Nat):Int):=by rw[aE (by rw[ah] at qp;omega)];omega
  refine ⟨(acc.set i xs[i],((i+1:Nat):Int)),by rw[dY i hi acc self Y,hw],trivial,⟨by omega,by simp only;omega,by simpa using Y,fun j hj=>?_⟩,?_⟩
  ·simp only[Int.toNat_natCast] at hj
   by_cases ge:j=i
   ·subst ge;simp[Y,hi]
   ·simp only[List.getElem?_set]
    rw[if_neg (fun e=>ge e.symm)]
    exact h3 j (by omega)
  ·simp only[Int.toNat_natCast];omega
 ·have fj:i=xs.length:=by omega
  subst fj
  left
  rw[ja]
  have:acc=xs:=List.ext_getElem? fun j=>by
   by_cases hj:j < xs.length
   ·exact h3 j hj
   ·rw[List.getElem?_eq_none (by omega),List.getElem?_eq_none (by omega)]
  rw[this]
end OT
set_option linter.unusedVariables false
set_option linter.unusedSimpArgs false
namespace OT
open Go
theorem rV {V R:Type} (B:(V->Option R)->V->Option R) (k:Nat) (v:V):ak B (k+1) v=B (ak B k) v:=rfl
def d8 {α:Type} (f:α->Nat):List α->Nat
 | []=>0
 | x::xs=>f x+d8 f xs
theorem CX {α:Type} (f:α->Nat):∀ (xs:List α) (x:α),x ∈ xs->f x<=d8 f xs
 | y::xs,x,h=>by
  simp only[d8]
  rcases List.mem_cons.1 h with rfl | h
  ·omega
  ·have:=CX f xs x h;omega
 | [],_,h=>by cases h
theorem oI {α:Type} (f:α->Nat) (h:∀ x,f x=0):∀ (xs:List α),d8 f xs=0
 | []=>rfl
 | x::xs=>by simp[d8,h x,oI f h xs]
theorem ku {α:Type} (f:α->Nat):∀ (xs:List α),d8 (fun x=>32*(f x+1)) xs=32*(xs.length+d8 f xs)
 | []=>rfl
 | x::xs=>by simp only[d8,ku f xs,List.length_cons];omega
def zz:(t:Ty)->t.den->Nat
 | .str,v=>List.length v
 | .pair a b,v=>zz a v.1+zz b v.2
 | .U e,v=>List.length v+d8 (zz e) v
 | _,_=>0
theorem nP {e:Ty} {xs:List e.den} {x:e.den} (h:x ∈ xs):zz e x+1<=zz (.U e) xs:=by
 have:=CX (zz e) xs x h
 have:1<=xs.length:=List.length_pos_of_mem h
 show _<=List.length xs+_
 omega
theorem d0 {e:Ty} (xs:List e.den):xs.length<=zz (.U e) xs:=Nat.le_add_right _ _
def cy (n:Int) (z:Nat):Int:=if (z:Int)<=n then n - z else -1
theorem zO {α:Type} {B:((Int×Int)->Option (Int×Unit))->(Int×Int)->Option (Int×Unit)} {xs:List α} (qp:xs.length<=maxLen) (z:α->Nat)
  (dY:∀ (i:Nat) (hx:i < xs.length) (n:Int) self,0<=n->n<=1048576->B self (n,(i:Int))=if cy n (z xs[i]) < 0 then some (-1,()) else self (cy n (z xs[i]),ae ((i:Int)+1)))
  (ja:∀ n self,B self (n,(xs.length:Int))=some (n,())) (n:Int) (h0:0<=n) (h1:n<=1048576) :
  ∀ k,xs.length < k->ak B k (n,0)=some (cy n (d8 z xs),()):=by
 have main:∀ (m i:Nat) (n:Int),xs.length - i=m->i<=xs.length->0<=n->n<=1048576->∀ k,m < k->ak B k (n,(i:Int))=some (cy n (d8 z (xs.drop i)),()):=by
  intro m
  induction m with
  | zero=>
   intro i n hm hi h0 h1 k hk
   have fj:i=xs.length:=by omega
   subst fj
   cases k with
   | zero=>omega
   | succ k=>
    have:ak B (k+1) (n,(xs.length:Int))=some (n,()):=ja n _
    rw[this]
    simp[cy,d8,h0]
  | succ m ih=>
   intro i n hm hi h0 h1 k hk
   have ai:i < xs.length:=by omega
   rw[List.drop_eq_getElem_cons ai]
   simp only[d8]
   cases k with
   | zero=>omega
   | succ k=>
    show B (ak B k) _=_
    rw[dY i ai n _ h0 h1]
    by_cases hz:(z xs[i]:Int)<=n
    ·have e:cy n (z xs[i])=n - (z xs[i]:Int):=if_pos hz
     have Rx:¬ (n - (z xs[i]:Int) < 0):=by omega
     have hw:ae ((i:Int)+1)=((i+1:Nat):Int):=by rw[aE (by rw[ah] at qp;omega)];omega
     rw[e,if_neg Rx,hw,ih (i+1) _ (by omega) (by omega) (by omega) (by omega) k (by omega)]
     unfold cy
     by_cases hc:((d8 z (xs.drop (i+1)):Nat):Int)<=n - (z xs[i]:Int)
     ·rw[if_pos hc,if_pos (by omega)]
      have:n - (z xs[i]:Int) - (d8 z (xs.drop (i+1)):Nat)=n - ((z xs[i]+d8 z (xs.drop (i+1)):Nat):Int):=by omega
      rw[this]
     ·rw[if_neg hc,if_neg (by omega)]
    ·have e:cy n (z xs[i])=-1:=if_neg hz
     rw[e,if_pos (by omega)]
     unfold cy
     rw[if_neg (by omega)]
 intro k hk
 simpa using main xs.length 0 n (by omega) (by omega) h0 h1 k hk
theorem zP {n:Int} {a b:Nat} (h:(a:Int)<=n):cy (n - a) b=cy n (a+b):=by
 unfold cy
 by_cases hc:(b:Int)<=n - a
 ·rw[if_pos hc,if_pos (by omega)];omega
 ·rw[if_neg hc,if_neg (by omega)]
theorem fN {α:Type} (xs:List α) (i:Nat) (a:α) (h:i < xs.length):(xs.set i a)[i]?=some a:=by simp[h]
def im:Int:=4611686018427387904
def chain {α:Type} (E:α->Int->α->Int->Prop) (W:α->Nat):List α->Int->List α->Int->Prop
 | [],k,ys,k'=>ys=[]/\k'=k
 | x::xs,k,ys,k'=>∃ y Av k1,ys=y::Av/\0<=k/\k+W x<=im/\k<=k1/\k1<=k+W x/\E x k y k1/\chain E W xs k1 Av k'
theorem iR {α:Type} {B:((List α×Int×Int)->Option (Int×List α×Unit))->(List α×Int×Int)->Option (Int×List α×Unit)} {xs:List α} (qp:xs.length<=maxLen) (E:α->Int->α->Int->Prop) (W:α->Nat)
  (hE:∀ x ∈ xs,∀ k:Int,0<=k->k+W x<=im->∃ y k',k<=k'/\k'<=k+W x/\E x k y k')
  (dY:∀ (i:Nat) (acc:List α) (k:Int) self (x y:α) (k':Int),i < acc.length->acc[i]?=some x->0<=k->k+W x<=im->k<=k'->k'<=k+W x->E x k y k'->B self (acc,k,(i:Int))=self (acc.set i y,k',ae ((i:Int)+1)))
  (ja:∀ (acc:List α) (k:Int) self,B self (acc,k,(acc.length:Int))=some (k,acc,())) (k:Int) (h0:0<=k) (h1:k+d8 W xs<=im) :
  ∃ ys k',k<=k'/\k'<=k+d8 W xs/\ys.length=xs.length/\chain E W xs k ys k'/\∀ f,xs.length < f->ak B f (xs,k,0)=some (k',ys,()):=by
 have main:∀ (rest pre:List α) (k:Int),(pre++rest).length<=maxLen->(∀ x ∈ rest,x ∈ xs)->0<=k->k+d8 W rest<=im ->
   ∃ ys k',k<=k'/\k'<=k+d8 W rest/\ys.length=rest.length/\chain E W rest k ys k'/\∀ f,rest.length < f->ak B f (pre++rest,k,(pre.length:Int))=some (k',pre++ys,()):=by
  intro rest
  induction rest with
  | nil=>
   intro pre k hm _ h0 h1
   refine ⟨[],k,Int.le_refl _,by simp[d8],rfl,⟨rfl,rfl⟩,fun f hf=>?_⟩
   cases f with
   | zero=>simp at hf
   | succ f=>
    simp only[List.append_nil]
    exact ja pre k _
  | cons x rest ih=>
   intro pre k hm hx h0 h1
   simp only[d8] at h1
   obtain ⟨y,k1,g1,g2,g3⟩:=hE x (hx x List.mem_cons_self) k h0 (by omega)
   obtain ⟨ys,k',i1,i2,i3,i4,i5⟩:=ih (pre++[y]) k1 (by simpa using hm) (fun z hz=>hx z (List.mem_cons_of_mem _ hz)) (by omega) (by omega)
   refine ⟨y::ys,k',by omega,by simp only[d8];omega,by simp[i3],⟨y,ys,k1,rfl,h0,by omega,g1,g2,g3,i4⟩,fun f hf=>?_⟩
   cases f with
   | zero=>omega
   | succ f=>
    show B (ak B f) _=_
    have hlen:pre.length < (pre++x::rest).length:=by simp
    rw[dY pre.length (pre++x::rest) k _ x y k1 hlen (by simp) h0 (by omega) g1 g2 g3]
    have hw:ae ((pre.length:Int)+1)=(((pre++[y]).length:Nat):Int):=by
     have:pre.length+1<=maxLen:=by have:=hm;simp at this;omega
     rw[ah] at this
     rw[aE (by omega)];simp
    have hs:(pre++x::rest).set pre.length y=(pre++[y])++rest:=by simp
    rw[hw,hs,i5 f (by simp only[List.length_cons] at hf;omega)]
    simp
 obtain ⟨ys,k',i1,i2,i3,i4,i5⟩:=main xs [] k (by simpa using qp) (fun x h=>h) h0 h1
 exact ⟨ys,k',i1,i2,i3,i4,fun f hf=>by simpa using i5 f hf⟩
theorem oJ {α:Type} {ys:List α} {B:((Int×Int)->Option (Int×Unit))->(Int×Int)->Option (Int×Unit)} {xs:List α} {k k':Int} (qp:ys.length<=maxLen) {E:α->Int->α->Int->Prop} {W:α->Nat} (hc:chain E W xs k ys k')
  (dY:∀ (i:Nat) (k:Int) self (x y:α) (k':Int),i < ys.length->ys[i]?=some y->0<=k->k+W x<=im->k<=k'->k'<=k+W x->E x k y k'->B self (k,(i:Int))=self (k',ae ((i:Int)+1)))
  (ja:∀ (k:Int) self,B self (k,(ys.length:Int))=some (k,())):∀ f,ys.length < f->ak B f (k,0)=some (k',()):=by
 have main:∀ (xs Av pre:List α) (k:Int),pre++Av=ys->chain E W xs k Av k'->∀ f,Av.length < f->ak B f (k,(pre.length:Int))=some (k',()):=by
  intro xs
  induction xs with
  | nil=>
   intro Av pre k hp hc f hf
   obtain ⟨rfl,rfl⟩:=hc
   cases f with
   | zero=>simp at hf
   | succ f=>
    have:=ja k' (ak B f)
    have e:pre=ys:=by simpa using hp
    subst e
    exact this
  | cons x xs ih=>
   intro Av pre k hp hc f hf
   obtain ⟨y,Tl,k1,rfl,c1,c2,c3,c4,c5,c6⟩:=hc
   cases f with
   | zero=>omega
   | succ f=>
    show B (ak B f) _=_
    have hl:pre.length < ys.length:=by rw[<-hp];simp
    rw[dY pre.length k _ x y k1 hl (by rw[<-hp];simp) c1 c2 c3 c4 c5]
    have hw:ae ((pre.length:Int)+1)=(((pre++[y]).length:Nat):Int):=by
     have:pre.length+1<=maxLen:=by omega
     rw[ah] at this
     rw[aE (by omega)];simp
    rw[hw]
    exact ih Tl (pre++[y]) k1 (by rw[<-hp];simp) c6 f (by simp only[List.length_cons] at hf;omega)
 intro f hf
 simpa using main xs ys [] k rfl hc f hf
end OT
set_option linter.unusedVariables false
set_option linter.unusedSimpArgs false
namespace OT
open Go
def aW {S O α:Type} (f:Nat->S->α->Sum O S) (fin:S->O):Nat->List α->S->O
 | _,[],s=>fin s
 | i,x::xs,s=>match f i s x with
  | .inl o=>o
  | .inr s'=>aW f fin (i+1) xs s'
theorem bH {V S O α:Type} {B:(V->Option O)->V->Option O} (xs:List α) (enc:S->Int->V) (f:Nat->S->α->Sum O S) (fin:S->O) (I:Nat->S->Prop) (qp:xs.length<=maxLen)
  (dY:∀ (i:Nat) (hi:i < xs.length) (s:S) self,I i s->B self (enc s (i:Int))=match f i s xs[i] with | .inl o=>some o | .inr s'=>self (enc s' (ae ((i:Int)+1))))
  (hI:∀ (i:Nat) (hi:i < xs.length) (s s':S),I i s->f i s xs[i]=.inr s'->I (i+1) s')
  (ja:∀ (s:S) self,I xs.length s->B self (enc s (xs.length:Int))=some (fin s)) (s:S) (h0:I 0 s):∀ k,xs.length < k->ak B k (enc s 0)=some (aW f fin 0 xs s):=by
 have main:∀ (m i:Nat) (s:S),xs.length - i=m->i<=xs.length->I i s->∀ k,m < k->ak B k (enc s (i:Int))=some (aW f fin i (xs.drop i) s):=by
  intro m
  induction m with
  | zero=>
   intro i s hm hi hs k hk
   have fj:i=xs.length:=by omega
   subst fj
   cases k with
   | zero=>omega
   | succ k=>
    show B (ak B k) _=_
    rw[ja s _ hs]
    simp[aW]
  | succ m ih=>
   intro i s hm hi hs k hk
   have ai:i < xs.length:=by omega
   cases k with
   | zero=>omega
   | succ k=>
    show B (ak B k) _=_
    rw[dY i ai s _ hs,List.drop_eq_getElem_cons ai]
    simp only[aW]
    cases hf:f i s xs[i] with
    | inl o=>rfl
    | inr s'=>
     have hw:ae ((i:Int)+1)=((i+1:Nat):Int):=by rw[aE (by rw[ah] at qp;omega)];omega
     simp only[hw]
     exact ih (i+1) s' (by omega) (by omega) (hI i ai s s' hs hf) k (by omega)
 intro k hk
 simpa using main xs.length 0 s (by omega) (by omega) h0 k hk
theorem kY {O α:Type} (p:α->Bool) (bad:O) (fin:Unit->O):∀ (xs:List α) (i:Nat),aW (fun _ _ x=>if p x then .inr () else .inl bad) fin i xs ()=if xs.all p then fin () else bad
 | [],_=>rfl
 | x::xs,i=>by
  simp only[aW,List.all_cons]
  by_cases h:p x=true
  ·simp[h,kY p bad fin xs (i+1)]
  ·simp[h]
def ip {α:Type} (c:α->Int):List α->Int
 | []=>0
 | x::xs=>if c x=0 then ip c xs else c x
theorem qI {O α:Type} (c:α->Int) (bad:Int->O) (fin:Unit->O):∀ (xs:List α) (i:Nat),aW (fun _ _ x=>if c x=0 then .inr () else .inl (bad (c x))) fin i xs ()=if ip c xs=0 then fin () else bad (ip c xs)
 | [],_=>rfl
 | x::xs,i=>by
  simp only[aW,ip]
  by_cases h:c x=0
  ·simp[h,qI c bad fin xs (i+1)]
  ·simp[h]
theorem IR {R:Type} (a:Option R):both a a=a:=by simp[both]
theorem Fo {R α:Type} {v:List α} {a b r:Option R} (h1:v=[]->a=r) (Y:b=r):uX v a b=r:=by
 cases v with
 | nil=>rw[uX,h1 rfl,Y,IR]
 | cons _ _=>exact Y
theorem cA {n:Nat} (h:n<=200000000000):n<=bf:=by simp only[bf];omega
end OT
set_option linter.unusedVariables false
set_option linter.unusedSimpArgs false
namespace OT
open Go
def nw:Ty->Bool
 | .int _ | .bool | .str | .unit=>true
 | .pair a b=>nw a&&nw b
 | _=>false
def jl:(t:Ty)->t.den->List Value
 | .int k,v=>[.int k (jp k v)]
 | .bool,v=>[.bool v]
 | .str,v=>[.string ⟨List.toArray v⟩]
 | .unit,_=>[]
 | .pair a b,v=>jl a v.1++jl b v.2
 | _,_=>[]
section
variable {P:Program} {w:World} {A:Cells}
theorem nQ:∀ (t:Ty),nw t=true->∀ (v:t.den),Ro P w A t v (jl t v):=by
 intro t
 induction t with
 | pair a b ey eg=>
  intro h v
  simp only[nw,Bool.and_eq_true] at h
  have h1:=ey h.1 v.1
  have hl:=Ro.length a h1
  show Ro P w A a v.1 ((jl a v.1++jl b v.2).take a.sz)/\Ro P w A b v.2 ((jl a v.1++jl b v.2).drop a.sz)
  rw[List.take_append_of_le_length (by omega),List.take_of_length_le (by omega),List.drop_append_of_le_length (by omega),List.drop_of_length_le (by omega),List.nil_append]
  exact ⟨h1,eg h.2 v.2⟩
 | int k=>intro _ v;rfl
 | bool=>intro _ v;rfl
 | str=>intro _ v;rfl
 | unit=>intro _ v;rfl
 | _=>intro h;simp[nw] at h
theorem Oh:∀ (t:Ty),nw t=true->∀ {v:t.den} {cs:List Value},Ro P w A t v cs->cs=jl t v:=by
 intro t
 induction t with
 | pair a b ey eg=>
  intro h v cs hr
  simp only[nw,Bool.and_eq_true] at h
  have h1:=ey h.1 hr.1
  have Y:=eg h.2 hr.2
  rw[<-List.take_append_drop a.sz cs,h1,Y]
  rfl
 | int k=>intro _ v cs h;exact h
 | bool=>intro _ v cs h;exact h
 | str=>intro _ v cs h;exact h
 | unit=>intro _ v cs h;exact h
 | _=>intro h;simp[nw] at h
theorem Aw:∀ (t:Ty),nw t=true->t.flat=true:=by
 intro t
 induction t with
 | pair a b ey eg=>intro h;simp only[nw,Bool.and_eq_true] at h;simp only[Ty.flat,ey h.1,eg h.2,Bool.and_self]
 | int k=>intro _;rfl
 | bool=>intro _;rfl
 | str=>intro _;rfl
 | unit=>intro _;rfl
 | _=>intro h;simp[nw] at h
end
theorem J_ {w:World} {b i:Nat} {u:Value} {c:Array Value} {e:TypeId} {fr:Nat×Nat} (h:w.heap[b]?=some (.cells c e fr)) (hu:ce w b i=some u):c[i]?=some u:=by
 unfold ce at hu
 simp only[h,World.cell?] at hu
 cases hc:c[i]? with
 | none=>simp[hc] at hu
 | some v=>
  simp only[hc,Option.isSome_none,Bool.false_eq_true,if_false,Option.bind_some] at hu
  rw[(u9 hu).1]
theorem Eb {w:World} {b i:Nat} {u:Value} {c:Array Value} {e:TypeId} {fr:Nat×Nat} (h:w.heap[b]?=some (.cells c e fr)) (hg:c[i]?=some u) (hu:u.oneCell'=true):ce w b i=some u:=by
 refine wl ?_ hu
 simp only[World.cell?,h,Option.isSome_none,Bool.false_eq_true,if_false,hg]
end OT
set_option linter.unusedVariables false
set_option linter.unusedSimpArgs false
namespace OT
open Go Go.Sort
instance Tm (e:Ty):Inhabited e.den:=⟨e.zero⟩
noncomputable def pQ (e:Ty) (cs:e.den×e.den×Unit->Option (Int×Unit)) (v:List e.den):Option (List e.den):=open Classical in
 if List.length v<=bf then (if h:∃ cf:e.den->e.den->Int,(∀ x y,cs (x,y,())=some (cf x y,()))/\SWO (Go.Proofs.ltOf cf) then some (pdq (Go.Proofs.ltOf h.choose) v.toArray 0 v.toArray.size (Lib.bitLen v.toArray.size) true true).toList else none) else none
theorem CY {e:Ty} {cs:e.den×e.den×Unit->Option (Int×Unit)} {cf:e.den->e.den->Int} (h1:∀ x y,cs (x,y,())=some (cf x y,())) (Y:SWO (Go.Proofs.ltOf cf)) (v:List e.den) (hl:List.length v<=bf):pQ e cs v=some (pdq (Go.Proofs.ltOf cf) v.toArray 0 v.toArray.size (Lib.bitLen v.toArray.size) true true).toList:=by
 have hex:∃ cf:e.den->e.den->Int,(∀ x y,cs (x,y,())=some (cf x y,()))/\SWO (Go.Proofs.ltOf cf):=⟨cf,h1,Y⟩
 have he:hex.choose=cf:=by
  funext x y
  have:=(hex.choose_spec.1 x y).symm.trans (h1 x y)
  injection this with this
  exact congrArg Prod.fst this
 unfold pQ
 rw[if_pos hl,dif_pos hex,he]
theorem Gy {e:Ty} {cs:e.den×e.den×Unit->Option (Int×Unit)} {v r:List e.den} (h:pQ e cs v=some r):∃ cf:e.den->e.den->Int,(∀ x y,cs (x,y,())=some (cf x y,()))/\SWO (Go.Proofs.ltOf cf)/\List.length v<=bf/\r=(pdq (Go.Proofs.ltOf cf) v.toArray 0 v.toArray.size (Lib.bitLen v.toArray.size) true true).toList:=by
 by_cases hl:List.length v<=bf
 ·by_cases hex:∃ cf:e.den->e.den->Int,(∀ x y,cs (x,y,())=some (cf x y,()))/\SWO (Go.Proofs.ltOf cf)
  ·obtain ⟨cf,h1,Y⟩:=hex
   rw[CY h1 Y v hl] at h
   injection h with h
   exact ⟨cf,h1,Y,hl,h.symm⟩
  ·unfold pQ at h
   rw[if_pos hl,dif_neg hex] at h
   cases h
 ·unfold pQ at h
  rw[if_neg hl] at h
  cases h
theorem CZ {α:Type} [Inhabited α] {lt:α->α->Bool} (h:SWO lt) (v:List α):(pdq lt v.toArray 0 v.toArray.size (Lib.bitLen v.toArray.size) true true).toList.Perm v/\(pdq lt v.toArray 0 v.toArray.size (Lib.bitLen v.toArray.size) true true).toList.Pairwise fun x y=>lt y x=false:=by
 have hs:=pdq_sorts lt h v.toArray 0 v.toArray.size (Lib.bitLen v.toArray.size) true true (Nat.zero_le _) (Nat.le_refl _) (Or.inl rfl)
 generalize pdq lt v.toArray 0 v.toArray.size (Lib.bitLen v.toArray.size) true true=p at hs ⊢
 obtain ⟨⟨h1,Y,h3⟩,h4⟩:=hs
 refine ⟨?_,?_⟩
 ·have e1:p.extract 0 v.toArray.size=p:=by rw[<-h1];exact Array.extract_size ..
  have e2:v.toArray.extract 0 v.toArray.size=v.toArray:=Array.extract_size ..
  rw[e1,e2] at h3
  exact h3
 ·rw[List.pairwise_iff_getElem]
  intro i j hi hj jf
  have oC:j < p.size:=by simpa using hj
  have:=h4 i j (Nat.zero_le _) jf (by omega)
  rw[getElem!_pos _ i (by omega),getElem!_pos _ j oC] at this
  simpa using this
section
variable {P:Program}
theorem Ka {w w':World} (h:Ext w w' (fun _ _=>0)):∃ q os,w'=grow (w.drewN q) os:=by
 refine ⟨w'.drawn - w.drawn,w'.heap.extract w.heap.size w'.heap.size,?_⟩
 have hh:w'.heap=w.heap++w'.heap.extract w.heap.size w'.heap.size:=by
  apply Array.ext_getElem?
  intro i
  by_cases hi:i < w.heap.size
  ·rw[h.obj i hi fun _=>rfl,Array.getElem?_append_left hi]
  ·rw[Array.getElem?_append_right (by omega),Array.getElem?_extract]
   by_cases fj:i < w'.heap.size
   ·rw[if_pos (by omega)]
    congr 1
    omega
   ·rw[if_neg (by omega),Array.getElem?_eq_none (by omega)]
 have h1:=h.os
 have Y:=h.tape
 have h3:=h.output
 have h4:=h.drawn
 cases w with
 | mk heap tape drawn os output=>
  cases w' with
  | mk Ua Ub Tn UA R4=>
   simp only at h1 Y h3 h4 hh
   subst h1;subst Y;subst h3
   simp only[grow,World.drewN,World.mk.injEq,true_and,and_true]
   exact ⟨hh,by omega⟩
theorem Kb {e:Ty} (hs:nw e=true) (ha:isAgg e=true) {g:Nat} {cF:e.den×e.den×Unit->Option (Int×Unit)} (hg:Sound P g { ps:=[(.ro,e),(.ro,e)],rs:=[(.int .i64,ax (.int .i64))],F:=cF }) {cf:e.den->e.den->Int} (hc:∀ x y,cF (x,y,())=some (cf x y,())) (b size:Nat) (w:World):Go.Proofs.CmpLays P g #[] (jl e) e.sz cf b 0 size w:=by
 intro m os dk _ x y
 have f8:kU P (Go.Proofs.sortWorldK (jl e) e.sz w b 0 m dk os) (fun _ _=>False) [(.ro,e),(.ro,e)] (x,y,()) [.agg (jl e x).toArray,.agg (jl e y).toArray] (fun _ _=>0):=
  ⟨_,_,fun _ _=>0,fun _ _=>0,rfl,fun _ _=>Nat.le_refl _,⟨jl e x,by simp[bm,ha],nQ e hs x⟩,_,_,fun _ _=>0,fun _ _=>0,rfl,fun _ _=>Nat.le_refl _,⟨jl e y,by simp[bm,ha],nQ e hs y⟩,rfl⟩
 refine (hg _ (fun _ _=>False) (fun _ _=>0) (x,y,()) _ f8 (fun _ _=>Nat.zero_le _) (fun _ _ h=>by omega) (fun _ _ h=>by rcases h with h | h;omega;exact h.elim) (cf x y,()) (hc x y)).mono ?_
 rintro ex w' ⟨rv,rfl,ci,A',G,GR,GM,_,_,_,_,_,_,_,mF,_⟩
 obtain ⟨cs,h1,Y⟩:=mF
 refine ⟨?_,Ka ci⟩
 have Y:cs=[.int .i64 (cf x y)]:=Y
 rw[h1,Y]
 rfl
theorem ML {ρ:Go.Shelf.Ren} (L:Go.Proofs.SlLaysF0.n6 P ρ) {e:Ty} (hs:nw e=true) (ha:isAgg e=true) (hl:aD P e (.inl (ρ.t 24))=true) (h1:1<=e.sz) {g:Nat} {cF:e.den×e.den×Unit->Option (Int×Unit)}
  (hg:Ok P g { ps:=[(.ro,e),(.ro,e)],rs:=[(.int .i64,ax (.int .i64))],F:=cF }) (he:oD P (ρ.f 6) false) :
  Ok P (ρ.f 6) { ps:=[(.fi (ao (.U e)),.U e),(.fix g,.fn)],rs:=[],F:=fun v=>(pQ e cF v.1).map fun r=>(r,()) }:=by
 refine ⟨?_,he⟩
 intro w A F0 v xs f8 hle tE Ry out ja
 obtain ⟨vs,⟨fg,fv⟩,⟨⟩⟩:=v
 obtain ⟨x,NN,F1,F2,rfl,hF,⟨cs,rfl,cI⟩,x2,Rz,F3,F4,rfl,NV,⟨⟨bn,rfl,IP⟩,RA⟩,xh⟩:=f8
 have xh:Rz=[]:=xh
 subst xh
 have To:fg=g:=RA rfl
 subst To
 obtain ⟨qk,rfl,fn,Kc,RB⟩:=IP
 have Pm:qk=#[]:=by
  obtain ⟨SM,k1,_,_,k4⟩:=hg.2
  have Kc:P.funcs[fg]?=some fn:=Kc
  rw[Kc] at k1
  injection k1 with k1
  subst k1
  have k4:fn.nfree=0:=k4
  rcases RB with ⟨_,q⟩ | ⟨q,_⟩
  ·exact q
  ·omega
 subst Pm
 have NX:bm .fn [.func (.func fg) #[] #[]]=.func (.func fg) #[] #[]:=rfl
 have ja:(pQ e cF vs).map (fun r=>(r,()))=some out:=ja
 cases Gz:pQ e cF vs with
 | none=>rw[Gz] at ja;cases ja
 | some r=>
 rw[Gz] at ja
 injection ja with ja
 subst ja
 obtain ⟨cf,hc,hO,kC,hr⟩:=Gy Gz
 have GA:=CZ hO vs
 rw[<-hr] at GA
 have Bo:=cI
 simp only[aj,hole,List.any_nil,Bool.false_eq_true,if_false,ao,mN,Md.own,if_true] at cI
 obtain ⟨xa,cap,rfl,g2,g3,g4,g5⟩:=cI
 have yd:bm (.U e) [.slice xa (List.length vs) cap]=.slice xa (List.length vs) cap:=rfl
 rw[NX,yd]
 have C0:∀ (w':World) (LT:FP),Ext w w' F0->(∀ b i,LT b i<=F1 b i)->aj P w' A (.U e) (ao (.U e)) [] r [.slice xa (List.length vs) cap] LT ->
   ∃ rv,Ending.returned (.tuple #[])=.returned rv/\Ext w w' F0/\∃ (A':Cells) (G GR GM:FP),(∀ b i,A b i->A' b i)/\(∀ b i,A' b i->A b i\/1<=F0 b i\/w.heap.size<=b)/\(∀ b i,1<=G b i->1<=F0 b i\/w.heap.size<=b)/\(∀ b i,G b i<=1)/\(∀ b i,1<=G b i->¬ A' b i)/\(∀ b i,1<=G b i\/A' b i->b < w'.heap.size)/\(∀ b i,GR b i+GM b i<=G b i) /\
   il P w' A' [] rv GR/\iN P w' A' [(.fi (ao (.U e)),.U e),(.fix fg,.fn)] (r,()) [.slice xa (List.length vs) cap,.func (.func fg) #[] #[]] GM:=fun w' LT ci B_ LU=>
  ⟨_,rfl,ci,A,F0,fun _ _=>0,F0,fun _ _ h=>h,fun _ _ h=>.inl h,fun _ _ h=>.inl h,hle,tE,fun b i h=>Nat.lt_of_lt_of_le (Ry b i h) ci.size,fun b i=>by show 0+F0 b i<=F0 b i;omega,trivial,LT,F2,fun b i=>by have:=hF b i;have:=B_ b i;omega,⟨_,rfl,LU⟩,trivial⟩
 by_cases h0:List.length vs=0
 ·have Tp:vs=[]:=List.eq_nil_of_length_eq_zero h0
  have Tq:r=[]:=by
   have:=GA.1.length_eq
   exact List.eq_nil_of_length_eq_zero (by omega)
  rw[h0]
  refine (Go.Proofs.AnyF.slices_SortFunc_none L xa cap (.func (.func fg) #[] #[]) w).mono ?_
  rintro ex w' ⟨rfl,hw⟩
  rw[hw]
  rw[h0] at C0
  refine C0 w F1 (Ext.refl _ _) (fun _ _=>Nat.le_refl _) ?_
  rw[Tq,<- Tp]
  have:List.length vs=0:=h0
  rw[this] at Bo
  exact Bo
 ·cases xa with
  | none=>have:=g4 rfl;omega
  | some ad=>
   obtain ⟨q1,q2,q3,Fi,q4,q5⟩:=g5 ad rfl
   obtain ⟨b,off,sp⟩:=ad
   simp only at q1 q2 q3 q4 q5
   subst q1;subst q2
   obtain ⟨c,el,fr,c1,c2,c3,c4⟩:=q3
   have hb:=(Array.getElem?_eq_some_iff.1 c1).1
   have eH:vs.toArray.size=List.length vs:=by simp
   have UB:List.length vs*e.sz<=cap*e.sz:=Nat.mul_le_mul_right _ g2
   have zF:1<=List.length vs*e.sz:=Nat.mul_le_mul (show 1<=List.length vs by omega) h1
   have lC:∀ (i:Nat) (y:e.den),vs[i]?=some y->Has w b (i*e.sz) (jl e y):=fun i y hy=>by
    obtain ⟨L0,l1,l2,l3⟩:=q5 i y hy
    have:=Oh e hs (aj.flat e (Aw e hs) l3)
    rw[<-this]
    exact l2
   have hH:Go.Sort.HoldsK (jl e) e.sz w b 0 vs.toArray:=by
    intro j hj
    rw[Go.Sort.size_flatK,eH] at hj
    rw[Nat.zero_add,Go.Sort.get_flatK _ _ _ _ (by rw[eH];exact hj)]
    have hi:j / e.sz < List.length vs:=by rw[Nat.div_lt_iff_lt_mul h1];exact hj
    have hy:=List.getElem?_eq_getElem hi
    have hm:=Nat.mod_lt j h1
    have jy:(jl e (vs[j / e.sz]))[j % e.sz]?=some ((jl e (vs[j / e.sz]))[j % e.sz]!):=by
     have hlen:=Ro.length e (nQ (P:=P) (w:=w) (A:=A) e hs (vs[j / e.sz]))
     rw[List.getElem?_eq_getElem (by omega),getElem!_pos _ _ (by omega)]
    have QE:=lC _ _ hy _ _ jy
    have Tr:j / e.sz*e.sz+j % e.sz=j:=by rw[Nat.mul_comm];exact Nat.div_add_mod j e.sz
    rw[Tr] at QE
    have hJ:=Ro.one e (nQ (P:=P) (w:=w) (A:=A) e hs (vs[j / e.sz])) _ (List.mem_of_getElem? jy)
    have yD:=nq QE hJ
    refine ⟨?_,?_⟩
    ·show _=some (id _)
     rw[yD]
     have:vs.toArray[j / e.sz]! = vs[j / e.sz]:=by rw[getElem!_pos _ _ (by rw[eH];exact hi)];simp
     rw[this]
     rfl
    ·simp only[World.frozen?,c1]
     have:=c3 j (by omega)
     simp only[Bool.and_eq_false_imp,decide_eq_true_eq,decide_eq_false_iff_not,not_and] at this ⊢
     intro h
     first | exact this h | (have:=this (by simpa using h);simpa using this)
   have Oi:=Go.Proofs.AnyQ.slices_SortFunc_eq L e.sz (fun w=>by rw[vu hl,ha]) (fun w=>run_sizeOf hl) (jl e) (fun y=>Ro.length e (nQ (P:=P) (w:=w) (A:=A) e hs y)) (fun y u hu=>Ro.one e (nQ (P:=P) (w:=w) (A:=A) e hs y) u hu) cf hO fg #[] b 0 cap vs.toArray w
    (fun args w=>vF hg.2 args) (Kb hs ha hg.1 hc b _ w) hH hb (by rw[eH];unfold bf at kC;omega)
   rw[eH] at Oi
   refine Oi.mono ?_
   rintro ex w' ⟨rfl,n,os,rfl⟩
   rw[eH] at hr
   have so:(pdq (Go.Proofs.ltOf cf) vs.toArray 0 (List.length vs) (Lib.bitLen (List.length vs)) true true)=r.toArray:=by rw[hr]
   rw[so]
   have oB:r.length=List.length vs:=GA.1.length_eq
   have hold:∀ b',b' < w.heap.size->b'≠b->(Go.Proofs.sortWorldK (jl e) e.sz w b 0 n r.toArray os).heap[b']?=w.heap[b']?:=fun b' lP eG=>by
    simp only[Go.Proofs.sortWorldK,grow,Go.Sort.putRowK,Go.Sort.putRow,Go.Sort.mapBlock,Go.Sort.ahead]
    rw[Array.getElem?_append_left (by simpa using lP),Array.getElem?_modify,if_neg (fun e=>eG e.symm)]
   have qo:(Go.Proofs.sortWorldK (jl e) e.sz w b 0 n r.toArray os).heap[b]?=some (.cells (Go.Sort.putCells id 0 (Go.Sort.flatK (jl e) e.sz r.toArray) c) el fr):=by
    simp only[Go.Proofs.sortWorldK,grow,Go.Sort.putRowK,Go.Sort.putRow,Go.Sort.mapBlock,Go.Sort.ahead]
    rw[Array.getElem?_append_left (by simpa using hb),Array.getElem?_modify,if_pos rfl,c1]
    rfl
   have lS:(Go.Sort.putCells id 0 (Go.Sort.flatK (jl e) e.sz r.toArray) c).size=c.size:=by simp[Go.Sort.putCells]
   have ci:Ext w (Go.Proofs.sortWorldK (jl e) e.sz w b 0 n r.toArray os) F0:=by
    have dm:∀ i,i < cap*e.sz->1<=F0 b i:=fun i hi=>by
     have h3:=hF b i
     have h4:=q4 b i
     have h5:bq b 0 (cap*e.sz) b i=1:=by simp only[bq];rw[if_pos ⟨trivial,by omega,by omega⟩]
     omega
    refine ⟨?_,fun b' i lP hz u hu=>?_,fun b' m hm=>?_,fun b' i lP=>?_,rfl,rfl,rfl,fun b' lP hz=>?_,Nat.le_add_right _ _⟩
    ·simp only[Go.Proofs.sortWorldK,grow,Go.Sort.putRowK,Go.Sort.putRow,Go.Sort.mapBlock,Go.Sort.ahead,Array.size_append,Array.size_modify]
     omega
    ·by_cases qy:b'=b
     ·subst qy
      have hi:¬ i < cap*e.sz:=fun hi=>by have:=dm i hi;omega
      exfalso
      have:=J_ c1 hu
      rw[Array.getElem?_eq_none (by omega)] at this
      cases this
     ·rw[pz (hold b' lP qy)];exact hu
    ·by_cases qy:b'=b
     ·subst qy
      obtain ⟨c',e',f',m1,m2,m3⟩:=hm
      rw[c1] at m1
      injection m1 with m1
      injection m1 with m1 m4 m5
      subst m1;subst m4;subst m5
      exact ⟨_,_,_,qo,by rw[lS];exact m2,m3⟩
     ·have lP:b' < w.heap.size:=hm.lt
      exact (oZ (hold b' lP qy) m).1 hm
    ·by_cases qy:b'=b
     ·subst qy
      simp only[World.frozen?,qo,c1]
     ·exact pP (hold b' lP qy) i
    ·by_cases qy:b'=b
     ·subst qy
      have:=dm 0 (by omega)
      have:=hz 0
      omega
     ·exact hold b' lP qy
   refine C0 _ F1 ci (fun _ _=>Nat.le_refl _) ?_
   simp only[aj,hole,List.any_nil,Bool.false_eq_true,if_false,ao,mN,Md.own,if_true]
   refine ⟨some ⟨b,0,none⟩,cap,by rw[oB],by rw[oB];exact g2,g3,(fun e=>by cases e),fun ad e2=>?_⟩
   injection e2 with e2
   subst e2
   refine ⟨rfl,rfl,⟨_,_,_,qo,by rw[lS];exact c2,c3,c4⟩,fun _ _ _=>0,fun b' i=>?_,fun i y hy=>?_⟩
   ·have h3:=q4 b' i
    have h4:ay (List.length r) (fun _ _ _=>0) b' i=0:=by
     generalize List.length r=nn
     induction nn with
     | zero=>rfl
     | succ nn ih=>simp only[ay,ih]
    show bq b 0 (cap*e.sz) b' i+ay (List.length r) (fun _ _ _=>0) b' i<=F1 b' i
    rw[h4]
    omega
   ·refine ⟨jl e y,Ro.length e (nQ (P:=P) (w:=w) (A:=A) e hs y),fun j u hu=>?_,?_⟩
    ·have hj:=(List.getElem?_eq_some_iff.1 hu).1
     have hlen:=Ro.length e (nQ (P:=P) (w:=w) (A:=A) e hs y)
     have hi:=(List.getElem?_eq_some_iff.1 hy).1
     have jf:i*e.sz+j < r.length*e.sz:=by
      have:=Nat.mul_le_mul_right e.sz (show i+1<=r.length from hi)
      rw[Nat.add_mul,Nat.one_mul] at this
      omega
     have hdiv:(i*e.sz+j) / e.sz=i:=(Go.Sort.blk_iff e.sz i _ h1).1 ⟨by omega,by omega⟩
     have JP:(i*e.sz+j) % e.sz=j:=by rw[Nat.mod_eq_sub_div_mul,hdiv];omega
     have mW:(Go.Sort.putCells id 0 (Go.Sort.flatK (jl e) e.sz r.toArray) c)[i*e.sz+j]?=some u:=by
      have ai:i*e.sz+j < c.size:=by rw[oB] at jf;omega
      simp only[Go.Sort.putCells,Array.getElem?_mapIdx,Array.getElem?_eq_getElem ai,Option.map_some,Nat.zero_le,true_and,Nat.zero_add,Nat.sub_zero,Go.Sort.size_flatK,List.size_toArray,jf,if_true,id]
      rw[Go.Sort.get_flatK _ _ _ _ (by simpa using jf),hdiv,JP]
      have Ts:r.toArray[i]! = y:=by
       rw[getElem!_pos _ _ (by simpa using hi)]
       have:=(List.getElem?_eq_some_iff.1 hy).2
       simpa using this
      rw[Ts,getElem!_pos (jl e y) j hj]
      exact congrArg some (List.getElem?_eq_some_iff.1 hu).2
     have hJ:=Ro.one e (nQ (P:=P) (w:=w) (A:=A) e hs y) _ (List.mem_of_getElem? hu)
     exact Eb qo mW hJ
    ·exact Ro.flat e _ (Aw e hs) (nQ e hs y)
end
end OT
