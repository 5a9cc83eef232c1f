/- The proof's parts, merged: Functions  a body that is run on data gives the contract.. No conditions but those that each states. -/
import Derived.Test.YtledflocbohofaaGreatSc
import Derived.ProofKit
import Derived.Deep.Slices
import Derived.Laws.BitsLemmas
import Derived.Shelf.SlSortCmp.NoneTotal
set_option linter.unusedVariables false
set_option linter.unusedSimpArgs false
namespace OT
open Go
section
variable {P:Program} {w:World} {A:Cells} {R:Type} {x:R} {E:Env}
theorem nX:∀ (ps:List (PM×Ty)) (v:(bz (ps.map (·.2))).den),(cR ps v).length=ps.length
 | [],_=>rfl
 | (.ro,t)::ps,v=>by cases t <;> simp[cR,nX ps v.2]
 | (.fix f,t)::ps,v=>by cases t <;> simp[cR,nX ps v.2]
 | (.i9 m,t)::ps,v=>by simp[cR,nX ps v.2]
 | (.eU m,t)::ps,v=>by simp[cR,nX ps v.2]
 | (.lJ m,t)::ps,v=>by simp[cR,nX ps v.2]
 | (.jN m,t)::ps,v=>by simp[cR,nX ps v.2]
theorem w_:∀ (ps:List (PM×Ty)) {v:(bz (ps.map (·.2))).den} {xs:List Value} {G:FP},kK P w A ps v xs G->xs.length=ps.length
 | [],_,_,_,h=>by have h:_=[]:=h;rw[h];rfl
 | (pm,t)::ps,_,_,_,h=>by
  obtain ⟨y,ys,F1,F2,rfl,_,_,Y⟩:=h
  simp[w_ ps Y]
theorem Mq:∀ (ps:List (PM×Ty)) {v:(bz (ps.map (·.2))).den} {xs:List Value} {G:FP},kK P w A ps v xs G->w9 ps=true ->
  ∃ Fi:Nat->FP,(∀ b k,ay ps.length Fi b k<=G b k)/\∀ i s,(cR ps v)[i]?=some s->∃ y,xs[i]?=some y/\(∀ σ a,a8 P A σ a w y s (Fi i))/\(∀ t m H v,s=.box t m H v->(i,i,false) ∈ mI 0 ps) /\
   ((i,i,true) ∈ mI 0 ps->∃ t m H v,s=.own t m H v):=by
 have main:∀ (ps:List (PM×Ty)) (n:Nat) {v:(bz (ps.map (·.2))).den} {xs:List Value} {G:FP},kK P w A ps v xs G->w9 ps=true ->
   ∃ Fi:Nat->FP,(∀ b k,ay ps.length Fi b k<=G b k)/\∀ i s,(cR ps v)[i]?=some s->∃ y,xs[i]?=some y/\(∀ σ a,a8 P A σ a w y s (Fi i))/\(∀ t m H v,s=.box t m H v->(n+i,n+i,false) ∈ mI n ps) /\
    ((n+i,n+i,true) ∈ mI n ps->∃ t m H v,s=.own t m H v):=by
  have aj:∀ (ps:List (PM×Ty)) (n j k:Nat) (c:Bool),(j,k,c) ∈ mI n ps->n<=j/\j=k:=by
   intro ps
   induction ps with
   | nil=>intro n j k c h;cases h
   | cons p ps ih=>
    intro n j k c h
    obtain ⟨pm,t⟩:=p
    cases pm with
    | ro=>have:=ih (n+1) j k c h;omega
    | fix f=>have:=ih (n+1) j k c h;omega
    | jN m=>have:=ih (n+1) j k c h;omega
    | i9 m=>
     rcases List.mem_cons.1 h with e | h
     ·injection e with e1 e2;injection e2 with e2 e3;omega
     ·have:=ih (n+1) j k c h;omega
    | lJ m=>
     rcases List.mem_cons.1 h with e | h
     ·injection e with e1 e2;injection e2 with e2 e3;omega
     ·have:=ih (n+1) j k c h;omega
    | eU m=>
     rcases List.mem_cons.1 h with e | h
     ·injection e with e1 e2;injection e2 with e2 e3;omega
     ·have:=ih (n+1) j k c h;omega
  intro ps
  induction ps with
  | nil=>intro n v xs G h _;exact ⟨fun _ _ _=>0,fun b k=>Nat.zero_le _,fun i s hs=>by cases hs⟩
  | cons p ps ih=>
   intro n v xs G h hp
   obtain ⟨pm,t⟩:=p
   obtain ⟨y,ys,F1,F2,rfl,hs,ha,hr⟩:=h
   have PD:w9 ps=true:=hp
   obtain ⟨Fi,g1,g2⟩:=ih (n+1) hr PD
   obtain ⟨s0,Qe,JP,Jv,da⟩:∃ s0,cR ((pm,t)::ps) v=s0::cR ps v.2/\(∀ σ a,a8 P A σ a w y s0 F1)/\(∀ t' m' H' v',s0=.box t' m' H' v'->∃ m,pm=.i9 m\/pm=.lJ m)/\((∃ m,pm=.eU m)->∃ t' m H v,s0=.own t' m H v):=by
    cases pm with
    | ro=>
     obtain ⟨cs,h1,Y⟩:=ha
     cases t with
     | ptr e=>
      refine ⟨.cp e v.1,rfl,fun σ a=>?_,(fun _ _ _ _ e=>by cases e),fun ⟨m,e⟩=>by cases e⟩
      have hl:=Ro.length _ Y
      match cs,hl with
      | [u],_=>
       rw[br _ _ rfl] at h1
       subst h1
       exact Y
     | _=>exact ⟨.val _ v.1,rfl,fun σ a=>⟨cs,h1,Y⟩,(fun _ _ _ _ e=>by cases e),fun ⟨m,e⟩=>by cases e⟩
    | fix f=>
     obtain ⟨⟨cs,h1,Y⟩,h3⟩:=ha
     cases t with
     | fn=>
      refine ⟨.val .fn (f,v.1.2),rfl,fun σ a=>⟨cs,h1,?_⟩,(fun _ _ _ _ e=>by cases e),fun ⟨m,e⟩=>by cases e⟩
      have e:v.1=(f,v.1.2):=by have:=h3 rfl;rw[<-this]
      rw[<-e];exact Y
     | _=>exact ⟨.dead,rfl,fun σ a=>trivial,(fun _ _ _ _ e=>by cases e),fun ⟨m,e⟩=>by cases e⟩
    | i9 m=>
     obtain ⟨b,o,L,F3,h1,Y,h3,h4,h5,h6⟩:=ha
     exact ⟨.box t m [] v.1,rfl,fun σ a=>⟨b,o,L,F3,h1,Y,h3,h4,h5,h6⟩,fun _ _ _ _ _=>⟨m,.inl rfl⟩,fun ⟨m,e⟩=>by cases e⟩
    | lJ m=>
     obtain ⟨b,o,L,F3,h1,Y,h3,h4,h5,h6⟩:=ha
     exact ⟨.box t m [] v.1,rfl,fun σ a=>⟨b,o,L,F3,h1,Y,h3,h4,h5,h6⟩,fun _ _ _ _ _=>⟨m,.inr rfl⟩,fun ⟨m,e⟩=>by cases e⟩
    | eU m=>
     obtain ⟨cs,h1,Y⟩:=ha
     exact ⟨.own t m [] v.1,rfl,fun σ a=>⟨cs,h1,Y⟩,(fun _ _ _ _ e=>by cases e),fun _=>⟨_,_,_,_,rfl⟩⟩
    | jN m=>
     obtain ⟨cs,h1,Y⟩:=ha
     exact ⟨.own t m [] v.1,rfl,fun σ a=>⟨cs,h1,Y⟩,(fun _ _ _ _ e=>by cases e),fun _=>⟨_,_,_,_,rfl⟩⟩
   refine ⟨fun k=>match k with | 0=>F1 | k+1=>Fi k,fun b k=>?_,fun i s hi=>?_⟩
   ·have:ay (ps.length+1) (fun k=>match k with | 0=>F1 | k+1=>Fi k) b k=F1 b k+ay ps.length Fi b k:=by
     rw[Nat.add_comm,nR]
     congr 1
     ·simp[ay]
     ·refine congrFun (congrFun (jO fun j hj=>?_) b) k
      rw[Nat.add_comm]
    show ay (ps.length+1) _ b k<=G b k
    rw[this]
    have:=hs b k;have:=g1 b k;omega
   ·rw[Qe] at hi
    cases i with
    | zero=>
     injection hi with hi
     subst hi
     refine ⟨y,rfl,JP,fun t' m' H' v' e=>?_,fun hm=>?_⟩
     ·obtain ⟨m,rfl | rfl⟩:=Jv t' m' H' v' e
      ·exact List.mem_cons_self
      ·exact List.mem_cons_self
     ·refine da ?_
      cases pm with
      | eU m=>exact ⟨m,rfl⟩
      | ro=>have:=aj ps (n+1) _ _ _ hm;omega
      | fix f=>have:=aj ps (n+1) _ _ _ hm;omega
      | jN m=>have:=aj ps (n+1) _ _ _ hm;omega
      | i9 m=>
       rcases List.mem_cons.1 hm with e | hm
       ·injection e with e1 e2;injection e2 with e2 e3;cases e3
       ·have:=aj ps (n+1) _ _ _ hm;omega
      | lJ m=>
       rcases List.mem_cons.1 hm with e | hm
       ·injection e with e1 e2;injection e2 with e2 e3;cases e3
       ·have:=aj ps (n+1) _ _ _ hm;omega
    | succ i=>
     obtain ⟨y',q1,q2,q3,q4⟩:=g2 i s hi
     have Q8:n+1+i=n+(i+1):=by omega
     rw[Q8] at q3 q4
     refine ⟨y',q1,q2,fun t' m' H' v' e=>?_,fun hm=>q4 ?_⟩
     ·have:=q3 t' m' H' v' e
      cases pm with
      | ro=>exact this
      | fix f=>exact this
      | jN m=>exact this
      | i9 m=>exact List.mem_cons_of_mem _ this
      | lJ m=>exact List.mem_cons_of_mem _ this
      | eU m=>exact List.mem_cons_of_mem _ this
     ·cases pm with
      | ro=>exact hm
      | fix f=>exact hm
      | jN m=>exact hm
      | i9 m=>
       rcases List.mem_cons.1 hm with e | hm
       ·injection e with e1 e2;omega
       ·exact hm
      | lJ m=>
       rcases List.mem_cons.1 hm with e | hm
       ·injection e with e1 e2;omega
       ·exact hm
      | eU m=>
       rcases List.mem_cons.1 hm with e | hm
       ·injection e with e1 e2;omega
       ·exact hm
 intro ps v xs G h hp
 obtain ⟨Fi,g1,g2⟩:=main ps 0 h hp
 exact ⟨Fi,g1,fun i s hi=>by simpa using g2 i s hi⟩
theorem Cy:∀ (ps:List (PM×Ty)) (n j k:Nat) (c:Bool),(j,k,c) ∈ mI n ps->n<=j/\j=k/\j < n+ps.length:=by
 intro ps
 induction ps with
 | nil=>intro n j k c h;cases h
 | cons p ps ih=>
  intro n j k c h
  obtain ⟨pm,t⟩:=p
  simp only[List.length_cons]
  cases pm with
  | ro=>have:=ih (n+1) j k c h;omega
  | fix f=>have:=ih (n+1) j k c h;omega
  | jN m=>have:=ih (n+1) j k c h;omega
  | i9 m=>
   rcases List.mem_cons.1 h with e | h
   ·injection e with e1 e2;injection e2 with e2 e3;omega
   ·have:=ih (n+1) j k c h;omega
  | lJ m=>
   rcases List.mem_cons.1 h with e | h
   ·injection e with e1 e2;injection e2 with e2 e3;omega
   ·have:=ih (n+1) j k c h;omega
  | eU m=>
   rcases List.mem_cons.1 h with e | h
   ·injection e with e1 e2;injection e2 with e2 e3;omega
   ·have:=ih (n+1) j k c h;omega
theorem Cz:∀ (ss:List Slot) (n i:Nat),f_ (qS n ss) i=if n<=i then ss[i - n]? else none
 | [],n,i=>by simp[qS,f_]
 | s::ss,n,i=>by
  simp only[qS,f_,Cz ss (n+1) i]
  by_cases hi:n=i
  ·subst hi;simp
  ·have:Nat.beq n i=false:=by
    cases hb:Nat.beq n i with
    | false=>rfl
    | true=>exact absurd (Nat.eq_of_beq_eq_true hb) hi
   simp only[this,Bool.false_eq_true,if_false]
   by_cases hle:n<=i
   ·rw[if_pos (by omega),if_pos hle]
    have e:i - n=(i - (n+1))+1:=by omega
    rw[e,List.getElem?_cons_succ]
   ·rw[if_neg (by omega),if_neg hle]
theorem JQ {g:mH} {v:(bz (g.ps.map (·.2))).den} {xs:List Value} {F0:FP} {n:Nat} (h:kK P w A g.ps v xs F0) (hp:w9 g.ps=true) (hn:g.ps.length<=n) (h1:∀ b i,F0 b i<=1) (Y:∀ b i,1<=F0 b i->¬ A b i) (h3:∀ b i,1<=F0 b i\/A b i->b < w.heap.size) :
  ∃ F,bu P { w0:=w,A0:=A,F0:=F0,args:=xs.toArray } A (sD g.ps v n) { tmps:=xs.toArray++Array.replicate (n - xs.toArray.size) undef,defers:=[] } w F:=by
 obtain ⟨Fi,g1,g2⟩:=Mq g.ps h hp
 have hlen:=w_ g.ps h
 have Lh:=nX g.ps v
 have mP:∀ i,(sD g.ps v n).get i=if i < n then (match (cR g.ps v)[i]? with | some s=>s | none=>.dead) else .dead:=fun i=>by
  unfold St.get sD
  simp only[Cz,Nat.zero_le,if_true,Nat.sub_zero]
  by_cases hi:i < n
  ·rw[if_pos (by simpa [Nat.blt_eq] using hi),if_pos hi]
   rfl
  ·rw[if_neg (by simpa [Nat.blt_eq] using hi),if_neg hi]
 have JR:∀ i (y:Value),xs[i]?=some y->tmp { tmps:=xs.toArray++Array.replicate (n - xs.toArray.size) undef,defers:=[] } i=y:=fun i y hy=>by
  have hi:=(List.getElem?_eq_some_iff.1 hy).1
  unfold tmp
  rw[Array.getD_eq_getD_getElem?,Array.getElem?_append_left (by simpa using hi)]
  simp[hy]
 have fI:∀ b k,ay n (fun i=>if i < g.ps.length then Fi i else fun _ _=>0) b k<=F0 b k:=fun b k=>by
  have e:n=g.ps.length+(n - g.ps.length):=by omega
  rw[e,nR]
  have e1:=congrFun (congrFun (jO (n:=g.ps.length) (f:=fun i=>if i < g.ps.length then Fi i else fun _ _=>0) (g:=Fi) (fun j hj=>by simp only[if_pos hj])) b) k
  have e2:=congrFun (congrFun (jO (n:=n - g.ps.length) (f:=fun j=>(fun i=>if i < g.ps.length then Fi i else fun _ _=>0) (g.ps.length+j)) (g:=fun _ _ _=>0) (fun j hj=>by simp only;rw[if_neg (by omega)])) b) k
  rw[e1,e2,gC]
  exact g1 b k
 refine ⟨fun i=>if i < g.ps.length then Fi i else fun _ _=>0,?_,rfl,fun i hi=>?_,(fun d r p snap hm=>by cases hm),fun b k=>?_,fun b k hp=>?_,fun b k hp=>?_,fun i=>rfl,Ext.refl _ _,fun b k hp=>?_,fun _ _ h=>h,fun _ _ h=>.inl h,fun j k hm=>?_,fun r t m H v' hg hl=>?_,fun j k hm R hR=>?_⟩
 ·simp only[Array.size_append,List.size_toArray,Array.size_replicate,hlen,sD];omega
 ·rw[mP]
  have hi:i < n:=hi
  rw[if_pos hi]
  cases hs:(cR g.ps v)[i]? with
  | none=>trivial
  | some s=>
   obtain ⟨y,q1,q2,_⟩:=g2 i s hs
   have aj:i < g.ps.length:=by rw[<-Lh];exact (List.getElem?_eq_some_iff.1 hs).1
   rw[JR i y q1]
   simp only[if_pos aj]
   exact q2 _ _
 ·have:=fI b k;have:=h1 b k;show 0+ay n _ b k<=1;omega
 ·have hp:1<=0+ay n (fun i=>if i < g.ps.length then Fi i else fun _ _=>0) b k:=hp
  have:=fI b k
  exact Y b k (by omega)
 ·refine h3 b k (hp.imp (fun hp=>?_) id)
  have hp:1<=0+ay n (fun i=>if i < g.ps.length then Fi i else fun _ _=>0) b k:=hp
  have:=fI b k
  omega
 ·have hp:1<=0+ay n (fun i=>if i < g.ps.length then Fi i else fun _ _=>0) b k:=hp
  have:=fI b k
  left;show 1<=F0 b k;omega
 ·obtain ⟨_,rfl,hj⟩:=Cy g.ps 0 j k false hm
  have hj:j < xs.length:=by omega
  rw[JR j xs[j] (List.getElem?_eq_getElem hj)]
  simp[hj]
 ·exfalso
  rw[mP] at hg
  split at hg
  ·cases hs:(cR g.ps v)[r]? with
   | none=>rw[hs] at hg;cases hg
   | some s=>
    rw[hs] at hg
    obtain ⟨y,_,_,q3,_⟩:=g2 r s hs
    exact hl r (q3 t m H v' hg)
  ·cases hg
 ·obtain ⟨_,rfl,hj⟩:=Cy g.ps 0 j k true hm
  have om:j < (cR g.ps v).length:=by omega
  have hs:=List.getElem?_eq_getElem om
  obtain ⟨y,q1,q2,_,q4⟩:=g2 j _ hs
  obtain ⟨t,m,H,v',e⟩:=q4 hm
  have SN:j < n:=by omega
  rw[mP,if_pos SN,hs] at hR
  simp only[e,bj,Option.some.injEq] at hR
  subst hR
  rw[JR j y q1]
  have Y:=q2 (sD g.ps v n) { tmps:=#[],defers:=[] }
  rw[e] at Y
  obtain ⟨cs,c1,c2⟩:=Y
  have:=fx (ai.length _ c2) (ai.one _ c2)
  show bh t y.cells.toList=_
  rw[c1,this,<- c1]
  have NS:=(List.getElem?_eq_some_iff.1 q1)
  obtain ⟨NS,e2⟩:=NS
  simp[NS,e2]
noncomputable def Ba (P:Program) (E:Env) (fn:Func) (ps:List (PM×Ty)) (rs:List (Ty×Md)) (es:List Nat):Bool:=
 codeOk P E (uQ fn)&&w8 E rs fn.results.toList&&w9 ps&&Nat.ble ps.length fn.ntmps&&decide es.Nodup
theorem AM (hE:lU P E) {f:FuncId} {fn:Func} (hf:P.funcs[f]?=some fn) (hb:fn.body.isSome=true) {g:mH} {es fr:List Nat} (az:Ba P E fn g.ps g.rs es=true) (hF:∀ v out,g.F v=some out->∃ k,AZ E k fn g.ps g.rs es fr v=some out):Sound P f g:=by
 intro w A F0 v xs fW h1 Y h3 out iT
 obtain ⟨k,hk⟩:=hF v out iT
 simp only[Ba,Bool.and_eq_true,Nat.ble_eq,decide_eq_true_eq] at az
 obtain ⟨⟨⟨⟨Lw,yq⟩,mT⟩,K7⟩,lM⟩:=az
 obtain ⟨c,hc⟩:=Option.isSome_iff_exists.1 hb
 have HC:uQ fn=c:=by simp[uQ,hc]
 rw[HC] at Lw
 obtain ⟨F,JP⟩:=JQ fW mT K7 h1 Y h3
 unfold AZ at hk
 rw[HC] at hk
 have Qf:=w_ g.ps fW
 have NT:∀ (a':Act) (w':World) (σ':St),Bv g.ps g.rs es fn.results.toList (KQ fr) σ'=some out->vf P { w0:=w,A0:=A,F0:=F0,args:=xs.toArray } σ' a' w' ->
   a'.defers=[]/\∃ rv,(results fn a'.tmps).run P w'=.ok rv w'/\(∃ Qg,Ending.returned rv=.returned Qg/\Ext w w' F0/\∃ (A':Cells) (G GR GM:FP),(∀ b i,A b i->A' b i)/\(∀ b i,A' b i->A b i\/1<=F0 b i\/w.heap.size<=b) /\
    (∀ b i,1<=G b i->1<=F0 b i\/w.heap.size<=b)/\(∀ b i,G b i<=1)/\(∀ b i,1<=G b i->¬ A' b i)/\(∀ b i,1<=G b i\/A' b i->b < w'.heap.size)/\(∀ b i,GR b i+GM b i<=G b i) /\
    hK P w' A' (fV g.rs out).1 Qg GR/\iC P w' A' g.ps (fV g.rs out).2 xs GM):=by
  intro a' w' σ' ho hr
  obtain ⟨A1,F1,hr⟩:=hr
  unfold Bv at ho
  obtain ⟨A2,eJ,X2,F2,tI,L,Fi,pre,r1,r2,r3,r4,r5,r6,r7,r8,r9⟩:=NP hE g.rs fn.results.toList 0 yq hr ho
  obtain ⟨vs,us,Gi,m1,m2,m3,m4,m5,m6⟩:=Mp r2 0 g.ps es mT lM (by simp[Qf]) r3
  have Q9:pre vs=out:=Option.some.inj m1
  have jh:fV g.rs out=(L,vs):=by rw[<-Q9,r4]
  have Iv:∀ b i,ay L.length Fi b i<=X2 b i:=fun b i=>by have:=r8 b i;omega
  have Q_:∀ b i,gT Gi us b i<=gT F2 us b i:=fun b i=>by
   have:∀ l:List Nat,(∀ j ∈ l,j ∈ us)->gT Gi l b i<=gT F2 l b i:=by
    intro l
    induction l with
    | nil=>intro _;exact Nat.le_refl _
    | cons j l ih=>
     intro hl
     have:=m5 j b i (hl j List.mem_cons_self)
     have:=ih fun j' om=>hl j' (List.mem_cons_of_mem _ om)
     simp only[gT];omega
   exact this us fun _ h=>h
  have Iw:∀ b i,gT Gi us b i<=ay eJ.n F2 b i:=fun b i=>Nat.le_trans (Q_ b i) (E0 us F2 m3 m4 b i)
  refine ⟨r2.defers,_,DV (by rw[r6]) r7,_,rfl,r2.ext,?_⟩
  obtain ⟨A3,jW⟩:∃ A3:Cells,∀ b i,A3 b i↔(A2 b i\/(1<=X2 b i+ay eJ.n F2 b i/\ay L.length Fi b i+gT Gi us b i=0)):=⟨fun b i=>A2 b i\/(1<=X2 b i+ay eJ.n F2 b i/\ay L.length Fi b i+gT Gi us b i=0),fun _ _=>Iff.rfl⟩
  have JS:∀ b i,A2 b i->A3 b i:=fun b i h=>(jW b i).2 (.inl h)
  have iS:∀ b i,X2 b i+ay eJ.n F2 b i<=1:=fun b i=>r2.iD b i
  refine ⟨A3,fun b i=>ay L.length Fi b i+gT Gi us b i,ay L.length Fi,gT Gi us,fun b i ha=>JS b i (r2.a0 b i ha),fun b i ha=>?_,fun b i hp=>?_,fun b i=>?_,fun b i hp ha=>?_,fun b i hp=>?_,fun _ _=>Nat.le_refl _,?_,?_⟩
  ·rcases (jW b i).1 ha with ha | ⟨hp,_⟩
   ·exact r2.a1 b i ha
   ·exact .inr (r2.own b i hp)
  ·have hp:1<=ay L.length Fi b i+gT Gi us b i:=hp
   exact r2.own b i (by have:=Iv b i;have:=Iw b i;omega)
  ·show ay L.length Fi b i+gT Gi us b i<=1
   have:=Iv b i;have:=Iw b i;have:=iS b i;omega
  ·have hp:1<=ay L.length Fi b i+gT Gi us b i:=hp
   rcases (jW b i).1 ha with ha | ⟨_,hz⟩
   ·exact r2.jn b i (by have:=Iv b i;have:=Iw b i;omega) ha
   ·omega
  ·rcases hp with hp | ha
   ·have hp:1<=ay L.length Fi b i+gT Gi us b i:=hp
    exact r2.eh b i (.inl (by have:=Iv b i;have:=Iw b i;omega))
   ·rcases (jW b i).1 ha with ha | ⟨hp,_⟩
    ·exact r2.eh b i (.inr ha)
    ·exact r2.eh b i (.inl hp)
  ·rw[jh]
   have CA:=r9 A3 JS (fun b i hx _ hz=>(jW b i).2 (.inr ⟨by omega,by
    have:=Iw b i;have:=iS b i;omega⟩))
   show hK P w' A3 L _ _
   match L,r5,CA with
   | [],_,_=>trivial
   | [y],hl,CA=>
    match tI,hl with
    | [u],_=>
     obtain ⟨u',cs,e1,e2,e3⟩:=CA 0 y rfl
     injection e1 with e1
     subst e1
     refine ⟨cs,by simpa using e2,e3.le fun b i=>by simp[ay]⟩
   | y::z::L,hl,CA=>
    refine ⟨tI.toArray,Fi,?_,fun _ _=>Nat.le_refl _,fun j q hq=>?_⟩
    ·rw[dif_neg]
     simp only[List.size_toArray,hl,List.length_cons];omega
    ·obtain ⟨u,cs,e1,e2,e3⟩:=CA j q hq
     exact ⟨u,cs,by simpa using e1,e2,e3⟩
  ·rw[jh]
   refine m6 A3 JS fun i b k' hi hp hz=>(jW b k').2 (.inr ⟨by have:=bf F2 (m4 i hi) b k';omega,?_⟩)
   have h4:=bf F2 (m4 i hi) b k'
   have h5:=iS b k'
   have h6:=Iv b k'
   have h7:gT Gi us b k'=0:=by
    rcases Nat.eq_zero_or_pos (gT Gi us b k') with h0 | h0
    ·exact h0
    ·obtain ⟨j,hj,Ll⟩:=Cu h0
     by_cases iZ:j=i
     ·subst iZ;omega
     ·have:=m5 j b k' hj
      have:=mJ F2 (m4 j hj) (m4 i hi) iZ b k'
      omega
   omega
 refine calls_of_wp hf hc (wp_mono (Mo hE c Lw JP hk) fun e a' w' hq=>?_)
 cases e with
 | normal=>obtain ⟨σ',h4,h5⟩:=hq;exact NT a' w' σ' h4 h5
 | ret=>obtain ⟨σ',h4,h5⟩:=hq;exact NT a' w' σ' h4 h5
 | exit j=>obtain ⟨σ',h4,h5⟩:=hq;cases h4
 | _=>exact hq.elim
end
end OT
set_option linter.unusedVariables false
set_option linter.unusedSimpArgs false
namespace OT
open Go
def CB (w:World):Cells:=fun b _=>b < w.heap.size
def sr:Ty->Bool
 | .int _ | .bool | .str | .unit=>true
 | .pair a b=>sr a&&sr b
 | .U e=>sr e
 | _=>false
def mB:(T:Ty)->T.den->Prop
 | .int k,n=>k.min<=jg k n/\jg k n<=k.max
 | .str,s=>List.length s<=maxLen
 | .pair a b,v=>mB a v.1/\mB b v.2
 | .U e,v=>List.length v<=maxLen/\∀ x ∈ (v:List e.den),mB e x
 | _,_=>True
def Ix:(ps:List (PM×Ty))->(bz (ps.map (·.2))).den->Prop
 | [],_=>True
 | (_,T)::ps,v=>mB T v.1/\Ix ps v.2
section
variable {P:Program} {w:World} {H:Type} {enc:TypeId×Value->H}
theorem xd {T:Ty} {i:TypeId} (h:aD P T (.inl i)=true):P.cellsOf i=T.sz:=by
 obtain ⟨inf,h1,Y,_⟩:=eK (gf h)
 simp[Program.cellsOf,h1,Y]
theorem JT {a:Addr} {k:Nat} {u:Value} (h:w.cell? (a.add k)=some u) (hk:k=0\/a.spot=none):a.spot=none:=by
 rcases hk with rfl | hk
 ·unfold Addr.add at h
  rw[if_pos rfl] at h
  unfold World.cell? at h
  split at h
  ·split at h
   ·cases h
   ·rename_i hs
    cases jh:a.spot with
    | none=>rfl
    | some s=>rw[jh] at hs;simp at hs
  ·cases h
 ·exact hk
theorem Mr:∀ (T:Ty),sr T=true ->
  (∀ i,aD P T (.inl i)=true->∀ fuel cs x,DataW.trod enc P w 0 (fun _=>true) true fuel i cs=some x->∃ v:T.den,mB T v/\Ro P w (CB w) T v cs) /\
  (∀ fs off,aD P T (.inr (fs,off))=true->∀ n (cs:List Value),cs.length=off+T.sz->(∀ f ∈ fs,∃ x,DataW.trod enc P w 0 (fun _=>true) true n f.type ((cs.drop f.offset).take (P.cellsOf f.type))=some x)->∃ v:T.den,mB T v/\Ro P w (CB w) T v (cs.drop off)):=by
 intro T
 induction T with
 | int k=>
  intro _
  refine ⟨fun i hl fuel cs x h=>?_,fun fs off hl=>by simp[aD] at hl⟩
  obtain ⟨n,rfl,_,Iy⟩:=DataW.trod_int (jB hl) h
  simp only[Lit.wf,Bool.and_eq_true,decide_eq_true_eq] at Iy
  cases k with
  | u8=>
   have h1:jg .u8 (UInt8.ofInt n)=n:=by
    have:=zq .u8 n (fun _=>by
     have h1:(0:Int)<=n:=Iy.1
     have Y:n<=(255:Int):=Iy.2
     omega)
    exact this
   refine ⟨(UInt8.ofInt n:UInt8),?_,?_⟩
   ·show IntKind.u8.min<=jg .u8 (UInt8.ofInt n)/\jg .u8 (UInt8.ofInt n)<=IntKind.u8.max
    rw[h1];exact Iy
   ·show [Value.int .u8 n]=[Value.int .u8 (jg .u8 (UInt8.ofInt n))]
    rw[h1]
  | _=>exact ⟨n,Iy,rfl⟩
 | bool=>
  intro _
  refine ⟨fun i hl fuel cs x h=>?_,fun fs off hl=>by simp[aD] at hl⟩
  have hu:P.underlying i=some .bool:=by
   simp only[aD,Bool.and_eq_true] at hl
   have Y:=hl.2
   split at Y
   ·assumption
   ·cases Y
  obtain ⟨b,rfl,_⟩:=DataW.trod_bool hu h
  exact ⟨b,trivial,rfl⟩
 | str=>
  intro _
  refine ⟨fun i hl fuel cs x h=>?_,fun fs off hl=>by simp[aD] at hl⟩
  obtain ⟨s,rfl,_,SO⟩:=DataW.trod_string (f9 hl) h
  exact ⟨s.data.toList,(by show s.data.toList.length<=maxLen;rw[Array.length_toList];exact SO),by simp only[Ro]⟩
 | unit=>
  intro _
  refine ⟨fun i hl fuel cs x h=>?_,fun fs off hl n cs hlen _=>⟨(),trivial,?_⟩⟩
  ·simp only[aD,Bool.and_eq_true] at hl
   have Y:=hl.2
   split at Y
   ·rename_i fs hu
    obtain ⟨xs,n,_,_,hlen,_⟩:=DataW.trod_struct hu h
    have ez:P.cellsOf i=0:=by
     obtain ⟨inf,h1,h3,_⟩:=eK hl.1
     simp[Program.cellsOf,h1,h3,Ty.sz]
    rw[ez] at hlen
    exact ⟨(),trivial,by simp only[Ro];exact List.eq_nil_of_length_eq_zero hlen⟩
   ·cases Y
  ·simp only[Ro]
   exact List.drop_of_length_le (by simp only[Ty.sz] at hlen;omega)
 | pair a b eg d0=>
  intro ha
  simp only[sr,Bool.and_eq_true] at ha
  have NU:∀ fs off,aD P (.pair a b) (.inr (fs,off))=true->∀ n (cs:List Value),cs.length=off+(Ty.pair a b).sz->(∀ f ∈ fs,∃ x,DataW.trod enc P w 0 (fun _=>true) true n f.type ((cs.drop f.offset).take (P.cellsOf f.type))=some x)->∃ v:(Ty.pair a b).den,mB (.pair a b) v/\Ro P w (CB w) (.pair a b) v (cs.drop off):=by
   intro fs off hl n cs hlen hf
   cases fs with
   | nil=>simp[aD] at hl
   | cons f r=>
    simp only[aD,Bool.and_eq_true,Nat.beq_eq,Nat.ble_eq] at hl
    obtain ⟨⟨⟨ho,_⟩,h1⟩,Y⟩:=hl
    simp only[Ty.sz] at hlen
    obtain ⟨x,hx⟩:=hf f List.mem_cons_self
    rw[ho,xd h1] at hx
    obtain ⟨v1,o1,r1⟩:=(eg ha.1).1 _ h1 _ _ _ hx
    obtain ⟨v2,o2,r2⟩:=(d0 ha.2).2 r (off+a.sz) Y n cs (by omega) (fun f' Lx=>hf f' (List.mem_cons_of_mem _ Lx))
    exact ⟨(v1,v2),⟨o1,o2⟩,r1,by rw[List.drop_drop];exact r2⟩
  refine ⟨fun i hl fuel cs x h=>?_,NU⟩
  have PT:=hl
  simp only[aD,Bool.and_eq_true] at hl
  have Y:=hl.2
  split at Y
  ·rename_i fs hu
   split at Y
   ·rename_i f r vj
    have h3:aD P (.pair a b) (.inr (f::r,0))=true:=by
     simp only[aD,Nat.zero_add];exact Y
    obtain ⟨xs,n,_,_,hlen,Qf,Ms⟩:=DataW.trod_struct hu h
    rw[xd PT] at hlen
    have:=NU (f::r) 0 h3 n cs (by omega) (fun f' Lx=>by
     rw[<-vj] at Lx
     obtain ⟨j,hj,e⟩:=List.mem_iff_getElem.1 Lx
     have om:j < fs.size:=by simpa using hj
     have:=Ms j f' (by rw[Array.getElem?_eq_getElem om];simpa using e)
     rw[this,List.getElem?_eq_getElem (by omega)]
     exact ⟨_,rfl⟩)
    simpa using this
   ·cases Y
  ·cases Y
 | U e ih=>
  intro ha
  simp only[sr] at ha
  refine ⟨fun i hl fuel cs x h=>?_,fun fs off hl=>by simp[aD] at hl⟩
  obtain ⟨el,hu,ez,hle⟩:=mr hl
  rcases DataW.trod_slice hu h with ⟨rfl,_⟩ | ⟨a,len,cap,elems,rest,n,_,rfl,_,_,PL,Qh,jo,JU,jC,_⟩
  ·exact ⟨[],⟨Nat.zero_le _,fun x hx=>by cases hx⟩,none,0,rfl,Nat.le_refl _,fun _=>rfl,fun ad e=>by cases e⟩
  ·rw[xd hle] at JU jC
   have lq:∀ k y,(w.cells? 0 (a.add (k*e.sz)) e.sz).bind (DataW.trod enc P w 0 (fun _=>true) true n el)=some y->∃ aK,w.cells? 0 (a.add (k*e.sz)) e.sz=some aK/\DataW.trod enc P w 0 (fun _=>true) true n el aK=some y:=fun k y hk=>by
    cases hc:w.cells? 0 (a.add (k*e.sz)) e.sz with
    | none=>rw[hc] at hk;cases hk
    | some aK=>rw[hc] at hk;exact ⟨aK,rfl,hk⟩
   have Ly:0 < cap->a.spot=none:=fun zp=>by
    have B9:∃ aK,w.cells? 0 (a.add (0*e.sz)) e.sz=some aK:=by
     by_cases hlen:0 < len
     ·have h0:=JU 0 hlen
      rw[List.getElem?_eq_getElem (by omega)] at h0
      obtain ⟨aK,h1,_⟩:=lq 0 _ h0
      exact ⟨aK,h1⟩
     ·obtain rfl:len=0:=by omega
      obtain ⟨mM,nC⟩:=jC rfl
      have h0:=nC 0 (by omega)
      rw[List.getElem?_eq_getElem (by omega)] at h0
      obtain ⟨aK,h1,_⟩:=lq (0+0) _ h0
      exact ⟨aK,by simpa using h1⟩
    obtain ⟨aK,h1⟩:=B9
    obtain ⟨_,BZ,Y⟩:=World.cells?_some h1
    have h3:=Y 0 (by omega)
    rw[List.getElem?_eq_getElem (by omega),Nat.zero_mul] at h3
    have h4:(a.add 0).add 0=a.add 0:=by unfold Addr.add;simp
    rw[h4] at h3
    exact JT h3 (.inl rfl)
   have each:∀ k:Fin len,∃ v:e.den,mB e v/\∃ L:List Value,L.length=e.sz/\(∀ j u,L[j]?=some u->ce w a.block (a.off+k.val*e.sz+j)=some u/\CB w a.block (a.off+k.val*e.sz+j))/\Ro P w (CB w) e v L:=fun k=>by
    have h0:=JU k.val k.isLt
    rw[List.getElem?_eq_getElem (by have:=k.isLt;omega)] at h0
    obtain ⟨aK,h1,Y⟩:=lq k.val _ h0
    obtain ⟨v,ho,hv⟩:=(ih ha).1 _ hle _ _ _ Y
    obtain ⟨_,BZ,h3⟩:=World.cells?_some h1
    refine ⟨v,ho,aK,BZ,fun j u hu=>?_,hv⟩
    have hj:=(List.getElem?_eq_some_iff.1 hu).1
    have h4:=h3 j (by omega)
    rw[hu] at h4
    have jh:=Ly (by have:=k.isLt;omega)
    obtain ⟨b,off,sp⟩:=a
    simp only at jh
    subst jh
    rw[jJ,jJ] at h4
    have h5:ce w b (off+k.val*e.sz+j)=some u:=v6 h4 (Ro.one e hv u (List.mem_of_getElem? hu))
    exact ⟨h5,oM h5⟩
   obtain ⟨f,hf⟩:=Classical.axiomOfChoice each
   refine ⟨List.ofFn f,⟨by simp;omega,fun x hx=>?_⟩,some a,cap,by simp,by simpa using PL,(fun e=>by cases e),fun ad e=>?_⟩
   ·obtain ⟨j,rfl⟩:=List.mem_ofFn.1 hx
    exact (hf j).1
   injection e with e
   subst e
   refine ⟨Ly,fun k y hk=>?_⟩
   rw[List.getElem?_ofFn] at hk
   split at hk
   ·rename_i aj
    injection hk with hk
    subst hk
    exact (hf ⟨k,aj⟩).2
   ·cases hk
 | _=>intro ha;simp[sr] at ha
theorem arg_val {T:Ty} (ha:sr T=true) {i:TypeId} (hl:aD P T (.inl i)=true) {r:Reach} {b0:Nat} {v:Value} (h:Value.okWide P w r b0 i v):v=bh T v.cells.toList:=by
 cases T with
 | int k=>
  have hu:=jB hl
  cases v <;> simp[Value.okWide,Cell.okWide,Cell.ok,hu] at h <;> simp[bh,isAgg,Value.cells]
 | bool=>
  have hu:P.underlying i=some .bool:=by
   simp only[aD,Bool.and_eq_true] at hl
   have Y:=hl.2
   split at Y
   ·assumption
   ·cases Y
  cases v <;> simp[Value.okWide,Cell.okWide,Cell.ok,hu] at h <;> simp[bh,isAgg,Value.cells]
 | str=>
  have hu:=f9 hl
  cases v <;> simp[Value.okWide,Cell.okWide,Cell.ok,hu] at h <;> simp[bh,isAgg,Value.cells]
 | U e=>
  obtain ⟨el,hu,_⟩:=mr hl
  cases v <;> simp[Value.okWide,Cell.okWide,Cell.ok,hu] at h <;> simp[bh,isAgg,Value.cells]
 | unit=>
  simp only[aD,Bool.and_eq_true] at hl
  have Y:=hl.2
  split at Y
  ·rename_i fs hu
   simp only[Value.okWide,hu] at h
   obtain ⟨cs,rfl,_⟩:=h
   simp[bh,isAgg,Value.cells]
  ·cases Y
 | pair a b=>
  simp only[aD,Bool.and_eq_true] at hl
  have Y:=hl.2
  split at Y
  ·rename_i fs hu
   simp only[Value.okWide,hu] at h
   obtain ⟨cs,rfl,_⟩:=h
   simp[bh,isAgg,Value.cells]
  ·cases Y
 | _=>simp[sr] at ha
def rV (P:Program):List (PM×Ty)->List TypeId->Bool
 | [],[]=>true
 | (.ro,T)::ps,t::ts=>sr T&&aD P T (.inl t)&&P.readableRec t&&Nat.blt t P.types.size&&rV P ps ts
 | _,_=>false
theorem E1:∀ (ps:List (PM×Ty)) (ts:List TypeId) (args:List Value) (ds:List (DataW H)) (p:List MemPlace) {b0:Nat},rV P ps ts=true->DataW.TrodAll enc P w 0 (fun _=>true) true ts args ds p ->
  (∀ (j:Nat) t v,ts[j]?=some t->args[j]?=some v->Value.okWide P w .any b0 t v)->∃ v,Ix ps v/\kK P w (CB w) ps v args (fun _ _=>0)
 | [],[],args,ds,p,b0,_,h,_=>by
  cases args with
  | nil=>exact ⟨(),trivial,rfl⟩
  | cons _ _=>simp[DataW.TrodAll] at h
 | (.ro,T)::ps,t::ts,args,ds,p,b0,hl,h,az=>by
  simp only[rV,Bool.and_eq_true] at hl
  cases args with
  | nil=>simp[DataW.TrodAll] at h
  | cons v args=>
   cases ds with
   | nil=>simp[DataW.TrodAll] at h
   | cons d ds=>
    obtain ⟨p1,q1,⟨fuel,h1⟩,Y,_⟩:=h
    obtain ⟨x,SP,hx⟩:=(Mr T hl.1.1.1.1).1 t hl.1.1.1.2 _ _ _ h1
    obtain ⟨xs,Ra,SQ⟩:=E1 ps ts args ds q1 (b0:=b0) hl.2 Y (fun j t' v' ht hv=>az (j+1) t' v' ht hv)
    exact ⟨(x,xs),⟨SP,Ra⟩,v,args,fun _ _=>0,fun _ _=>0,rfl,fun _ _=>Nat.le_refl _,⟨_,arg_val hl.1.1.1.1 hl.1.1.1.2 (az 0 t v rfl rfl),hx⟩,SQ⟩
theorem Af (sI:laidOutB P=true) {W W':World} (hb:RowKit.Below W.heap.size W W') {sp:Nat->Bool}:∀ (ps:List (PM×Ty)) (ts:List TypeId) (args:List Value) (ds:List (DataW H)) (p:List MemPlace),rV P ps ts=true->DataW.TrodAll enc P W 0 (fun _=>true) true ts args ds p ->
  (∀ x ∈ p,x.block < W.heap.size)->(∀ x ∈ p,sp x.block=true)->DataW.TrodAll enc P W' 0 sp true ts args ds p
 | [],[],args,ds,p,_,h,_,_=>by
  cases args with
  | nil=>
   cases ds with
   | nil=>exact h
   | cons _ _=>simp[DataW.TrodAll] at h
  | cons _ _=>simp[DataW.TrodAll] at h
 | (.ro,T)::ps,t::ts,args,ds,p,hl,h,aj,jh=>by
  simp only[rV,Bool.and_eq_true] at hl
  cases args with
  | nil=>simp[DataW.TrodAll] at h
  | cons v args=>
   cases ds with
   | nil=>simp[DataW.TrodAll] at h
   | cons d ds=>
    obtain ⟨p1,q1,h1,Y,rfl⟩:=h
    have ht:t < P.types.size:=by have:=hl.1.2;rwa [Nat.blt_eq] at this
    exact ⟨p1,q1,WideElems.Trod_stays sI hl.1.1.2 ht h1 (fun x hx=>hb.same (aj x (List.mem_append_left _ hx))) (fun x hx=>jh x (List.mem_append_left _ hx)),
     Af sI hb ps ts args ds q1 hl.2 Y (fun x hx=>aj x (List.mem_append_right _ hx)) (fun x hx=>jh x (List.mem_append_right _ hx)),rfl⟩
theorem Iz {f:FuncId} {cap:Bool} {ps:List (PM×Ty)} {Fn:(bz (ps.map (·.2))).den->Option (bz ([((Ty.bool,ax .bool):Ty×Md)].map (·.1)++eQ ps)).den} (hs:Sound P f { cap:=cap,ps:=ps,rs:=[(.bool,ax .bool)],F:=Fn }) (Gg:∀ v,Ix ps v->∃ u,Fn v=some (true,u))
  {ts:List TypeId} (hl:rV P ps ts=true) {args:List Value} {ds:List (DataW H)} {p:List MemPlace} (hA:DataW.TrodAll enc P w 0 (fun _=>true) true ts args ds p) {b0:Nat} (az:∀ (j:Nat) t v,ts[j]?=some t->args[j]?=some v->Value.okWide P w .any b0 t v) :
  Calls P f args.toArray w fun e W'=>e=.returned (.bool true)/\RowKit.Below w.heap.size w W':=by
 obtain ⟨v,Nl,hv⟩:=E1 ps ts args ds p hl hA az
 obtain ⟨u,hu⟩:=Gg v Nl
 refine (hs w (CB w) (fun _ _=>0) v args hv (fun _ _=>Nat.zero_le _) (fun b i h=>by omega) (fun b i h=>?_) _ hu).mono fun e W' h=>?_
 ·rcases h with h | h
  ·omega
  ·exact h
 ·obtain ⟨rv,rfl,bZ,A',G,GR,GM,_,_,_,_,_,_,_,mw,_⟩:=h
  obtain ⟨cs,h1,Y⟩:=mw
  simp only[fV] at h1 Y
  have Y:cs=[.bool true]:=Y
  subst Y
  exact ⟨by rw[h1];rfl,bZ.os,bZ.tape,bZ.output,bZ.size,fun b hb=>bZ.obj b hb fun _=>rfl⟩
theorem JV {C:Checked} {f:Func} {s:ChangeSpec} {W W':World} {args:Array Value} {ds:List (DataW H)} {p:List MemPlace} {apart fresh handsOn:Bool} (sI:laidOutB P=true) {ps:List (PM×Ty)} {ts:List TypeId} (SR:f.params.toList=ts) (hl:rV P ps ts=true) {tb:TypeId} (hr:f.resultTypes=#[tb]) (hu:P.underlying tb=some .bool)
  (OZ:s.vars=[]) (hW:DataW.Whole enc P f.params.toList s.vars apart W args.toList ds [] p) (hA:DataW.TrodAll enc P W 0 (fun _=>true) true ts args.toList ds p) (IA:s.fn H (ds++[])={ results:=[.lit (.bool true)],args:=ds }) (hb:RowKit.Below W.heap.size W W') :
  s.post enc P f apart fresh handsOn false W args (.bool true) W':=by
 have aj:∀ x ∈ p,x.block < W.heap.size:=fun x hx=>by simpa using hW.lt x hx
 refine ⟨ds,[],p,[],p,[],hW,?_,?_,?_,World.keptBut_mono (fun x hx=>⟨hx,.inr (.inl hx)⟩) (hb.frame (· ∈ p)),fun e=>by cases e⟩
 ·rw[IA,hr]
  exact ⟨[],[],RowKit.shut_bool hu true,rfl,rfl⟩
 ·rw[IA,SR]
  exact Af sI hb ps ts args.toList ds p hl hA aj (fun x hx=>by simpa using aj x hx)
 ·rw[IA,OZ]
  rfl
end
end OT
namespace OT
open Go
def Gh (P:Program) (l:List (Nat×Ty)):Bool:=l.all fun p=>aD P p.2 (.inl p.1)
def Bb (P:Program) (l:List (Nat×Ty)):Bool:=l.all fun p=>!(p.2.gP&&isAgg p.2)||(jY P p.2 (.inl p.1)&&(P.eqGuardType P.depth p.1 == false)&&Nat.ble (dep p.2) 10000)
theorem xe {α:Type}:∀ {l:List (Nat×α)} {i:Nat} {x:α},f_ l i=some x->(i,x) ∈ l
 | (k,y)::l,i,x,h=>by
  simp only[f_] at h
  split at h
  ·rename_i hk
   injection h with h
   rw[Nat.eq_of_beq_eq_true hk,h];exact List.mem_cons_self
  ·exact List.mem_cons_of_mem _ (xe h)
def vy (P:Program) (l:List (Nat×mH)):Prop:=∀ f g,f_ l f=some g->Sound P f g/\oo P f g.cap
theorem al (P:Program):vy P []:=fun f g h=>by cases h
theorem Mt {P:Program} {f:Nat} {g:mH} {l:List (Nat×mH)} (h1:Sound P f g) (Y:oo P f g.cap) (h3:vy P l):vy P ((f,g)::l):=fun f' g' h=>by
 simp only[f_] at h
 split at h
 ·rename_i hk
  injection h with h
  subst h
  rw[<-Nat.eq_of_beq_eq_true hk]
  exact ⟨h1,Y⟩
 ·exact h3 f' g' h
theorem NV {P:Program} {E:Env} {tl:List (Nat×Ty)} {gl:List (Nat×mH)} (h1:E.TI=f_ tl) (Y:E.G=f_ gl) (h3:Gh P tl=true) (h4:Bb P tl=true) (h5:vy P gl):lU P E where
 ti i T h:=by rw[h1] at h;exact List.all_eq_true.1 h3 _ (xe h)
 eq i T h hq ha:=by
  rw[h1] at h
  have:=List.all_eq_true.1 h4 _ (xe h)
  simp only[hq,ha,Bool.and_self,Bool.not_true,Bool.false_or,Bool.and_eq_true,beq_iff_eq,Nat.ble_eq] at this
  exact ⟨this.1.1,this.1.2,this.2⟩
 fn f g h:=by rw[Y] at h;exact h5 f g h
def Ok (P:Program) (f:FuncId) (g:mH):Prop:=Sound P f g/\oo P f g.cap
theorem fc {P:Program} {f:Nat} {g:mH} {l:List (Nat×mH)} (h:Ok P f g) (h3:vy P l):vy P ((f,g)::l):=Mt h.1 h.2 h3
def CC (fn:Func) (cap:Bool):Bool:=!(fn.name == "runtime.NumGoroutine")&&!fn.body.isNone&&Nat.beq fn.nfree (match cap with | true=>1 | false=>0)
noncomputable def okB (P:Program) (E:Env) (fn:Func) (ps:PQ) (rs:RQ) (es:List Nat) (cap:Bool) (tl:TL):Bool:=(Gh P tl&&Bb P tl)&&(CC fn cap&&Ba P E fn ps rs es)
theorem O0 {P:Program} {E:Env} {f:FuncId} {fn:Func} (hf:P.funcs[f]?=some fn) {g:mH} {es fr:List Nat} {tl:TL} {gl:GL} (h1:E.TI=f_ tl) (Y:E.G=f_ gl) (az:okB P E fn g.ps g.rs es g.cap tl=true) (hg:vy P gl) (hF:∀ v,g.F v=lift fun k=>AZ E k fn g.ps g.rs es fr v):Ok P f g:=by
 simp only[okB,CC,Bool.and_eq_true,Bool.not_eq_true',Nat.beq_eq] at az
 obtain ⟨⟨a1,a2⟩,⟨⟨b1,b2⟩,b3⟩,c⟩:=az
 have hb:fn.body.isSome=true:=by
  cases h:fn.body with
  | none=>rw[h] at b2;cases b2
  | some _=>rfl
 exact ⟨AM (NV h1 Y a1 a2 hg) hf hb c fun v out h=>Hs (by rw[<-hF];exact h),fn,hf,b1,b2,b3⟩
structure FD where
 fn:Func
 tl:TL
 ps:PQ
 rs:RQ
 gl:GL:=[]
 es:List Nat:=[]
 fr:List Nat:=[]
 cap:Bool:=false
 fz:List (Nat×Nat×Nat):=[]
 lv:List (Nat×List Nat):=[]
 lx:List (Nat×List Nat):=[]
 lf:List (Nat×List (Nat×Md)):=[]
 od:List (Nat×List Nat):=[]
 ar:List (Nat×List Nat):=[]
 bx:List (Nat×List Nat):=[]
 pd:List (Nat×List Nat):=[]
 er:List (Nat×List (Nat×Nat)):=[]
noncomputable def FD.E (D:FD):Env:={ TI:=f_ D.tl,G:=f_ D.gl,fz:=D.fz,lv:=D.lv,lx:=D.lx,lf:=D.lf,od:=D.od,ar:=D.ar,bx:=D.bx,pd:=D.pd,er:=D.er }
noncomputable def FD.W (D:FD) (k:Nat) (a:(bz (D.ps.map (·.2))).den):Option (bz (D.rs.map (·.1)++eQ D.ps)).den:=AZ D.E k D.fn D.ps D.rs D.es D.fr a
noncomputable def FD.F (D:FD) (a:(bz (D.ps.map (·.2))).den):Option (bz (D.rs.map (·.1)++eQ D.ps)).den:=lift fun k=>D.W k a
noncomputable def FD.sig (D:FD):mH:={ cap:=D.cap,ps:=D.ps,rs:=D.rs,F:=D.F }
noncomputable def FD.fin (D:FD):St->Option (bz (D.rs.map (·.1)++eQ D.ps)).den:=Bv D.ps D.rs D.es D.fn.results.toList (KQ D.fr)
noncomputable def FD.K0 (D:FD):KT (bz (D.rs.map (·.1)++eQ D.ps)).den:=MN D.fin
noncomputable def FD.N (D:FD) (k:Nat) (p:List Nat):St->KT (bz (D.rs.map (·.1)++eQ D.ps)).den->Option (bz (D.rs.map (·.1)++eQ D.ps)).den:=mA D.E k D.fin (sub p (uQ D.fn))
noncomputable def FD.L (D:FD) (k:Nat) (p live:List Nat) (qR:List (Nat×Md)) (K:KT (bz (D.rs.map (·.1)++eQ D.ps)).den) (σ:St):Option (bz (D.rs.map (·.1)++eQ D.ps)).den:=ta (D.N k p) (b9 live qR) K k σ
theorem aq {P:Program} {D:FD} {f:FuncId} (hf:P.funcs[f]?=some D.fn) (ht:(Gh P D.tl&&Bb P D.tl)=true) (az:(CC D.fn D.cap&&Ba P D.E D.fn D.ps D.rs D.es)=true) (hg:vy P D.gl):Ok P f D.sig:=
 O0 (es:=D.es) (fr:=D.fr) (tl:=D.tl) (gl:=D.gl) (E:=D.E) hf rfl rfl (by rw[okB,ht,Bool.true_and];exact az) hg fun _=>rfl
end OT
namespace OT
open Go
theorem aJ {n:Int} (h:-9223372036854775808<=n/\n<=9223372036854775807):ae n=n:=by
 unfold ae
 rw[IntKind.wrap_i64]
 omega
theorem ah:maxLen=9223372036854775807:=by simp[maxLen]
theorem qs {V R:Type} {B:(V->Option R)->V->Option R} (f:V->R) (I:V->Prop) (μ:V->Nat)
  (h:∀ v,I v->∀ self,B self v=some (f v)\/∃ v',B self v=self v'/\f v'=f v/\I v'/\μ v' < μ v):∀ (k:Nat) (v:V),I v->μ v < k->ak B k v=some (f v)
 | 0,v,_,hk=>by omega
 | k+1,v,hI,hk=>by
  show B (ak B k) v=some (f v)
  rcases h v hI (ak B k) with h1 | ⟨v',h1,Y,h3,h4⟩
  ·exact h1
  ·rw[h1,qs f I μ h k v' h3 (by omega),Y]
def kq {α:Type} (e:α->α->Bool) (xs ys:List α):Bool:=(xs.zip ys).all fun p=>e p.1 p.2
theorem IB {α:Type} (e:α->α->Bool) (xs ys:List α) (i:Nat) (hx:i < xs.length) (hy:i < ys.length):kq e (xs.drop i) (ys.drop i)=(e xs[i] ys[i]&&kq e (xs.drop (i+1)) (ys.drop (i+1))):=by
 unfold kq
 rw[List.drop_eq_getElem_cons hx,List.drop_eq_getElem_cons hy]
 simp only[List.zip_cons_cons,List.all_cons]
theorem lW {α:Type} {B:(Int->Option (Bool×Unit))->Int->Option (Bool×Unit)} {xs ys:List α} (e:α->α->Bool) (hlen:xs.length=ys.length) (qa:xs.length<=maxLen)
  (dM:∀ (i:Nat) (hx:i < xs.length) (hy:i < ys.length) self,B self (i:Int)=if e xs[i] ys[i]=true then self (ae ((i:Int)+1)) else some (false,()))
  (iT:∀ self,B self (xs.length:Int)=some (true,())):∀ k,xs.length < k->ak B k 0=some (kq e xs ys,()):=by
 intro k hk
 have h:=qs (B:=B) (fun v=>(kq e (xs.drop v.toNat) (ys.drop v.toNat),())) (fun v=>0<=v/\v<=(xs.length:Int)) (fun v=>xs.length - v.toNat) (fun v hv self=>by
  obtain ⟨h0,h1⟩:=hv
  obtain ⟨i,rfl⟩:=Int.eq_ofNat_of_zero_le h0
  simp only[Int.toNat_natCast]
  by_cases hi:i < xs.length
  ·have hy:i < ys.length:=by omega
   rw[IB e xs ys i hi hy,dM i hi hy]
   cases he:e xs[i] ys[i] with
   | true=>
    right
    have hw:ae ((i:Int)+1)=((i+1:Nat):Int):=by rw[aJ (by rw[ah] at qa;omega)];omega
    refine ⟨_,by rw[hw];rfl,by simp,by omega,?_⟩
    simp only[Int.toNat_natCast];omega
   | false=>left;simp
  ·have fa:i=xs.length:=by omega
   subst fa
   left
   rw[iT]
   simp[kq]) k 0 ⟨by omega,by omega⟩ (by simpa using hk)
 simpa using h
theorem ov {α:Type} {B:((List α×Int)->Option (List α×Unit))->(List α×Int)->Option (List α×Unit)} {xs:List α} (qa:xs.length<=maxLen)
  (dM:∀ (i:Nat) (hx:i < xs.length) (acc:List α) self,acc.length=xs.length->B self (acc,(i:Int))=self (acc.set i xs[i],ae ((i:Int)+1)))
  (iT:∀ acc self,B self (acc,(xs.length:Int))=some (acc,())) (z:α):∀ k,xs.length < k->ak B k (List.replicate xs.length z,0)=some (xs,()):=by
 intro k hk
 refine qs (B:=B) (fun _=>(xs,())) (fun v=>0<=v.2/\v.2<=(xs.length:Int)/\v.1.length=xs.length/\∀ j,j < v.2.toNat->v.1[j]?=xs[j]?) (fun v=>xs.length - v.2.toNat) (fun v hv self=>?_) k _ ⟨by simp,by simp,by simp,by simp⟩ (by simpa using hk)
 obtain ⟨acc,i⟩:=v
 obtain ⟨h0,h1,Y,h3⟩:=hv
 simp only at h0 h1 Y h3
 obtain ⟨i,rfl⟩:=Int.eq_ofNat_of_zero_le h0
 simp only[Int.toNat_natCast] at h3 ⊢
 by_cases hi:i < xs.length
 ·right
  have hw:ae ((i:Int)+1)=((i+1:Nat):Int):=by rw[aJ (by rw[ah] at qa;omega)];omega
  refine ⟨(acc.set i xs[i],((i+1:Nat):Int)),by rw[dM i hi acc self Y,hw],trivial,⟨by omega,by simp only;omega,by simpa using Y,fun j hj=>?_⟩,?_⟩
  ·simp only[Int.toNat_natCast] at hj
   by_cases f8:j=i
   ·subst f8;simp[Y,hi]
   ·simp only[List.getElem?_set]
    rw[if_neg (fun e=>f8 e.symm)]
    exact h3 j (by omega)
  ·simp only[Int.toNat_natCast];omega
 ·have fa:i=xs.length:=by omega
  subst fa
  left
  rw[iT]
  have:acc=xs:=List.ext_getElem? fun j=>by
   by_cases hj:j < xs.length
   ·exact h3 j hj
   ·rw[List.getElem?_eq_none (by omega),List.getElem?_eq_none (by omega)]
  rw[this]
end OT
set_option linter.unusedVariables false
set_option linter.unusedSimpArgs false
namespace OT
open Go
theorem rC {V R:Type} (B:(V->Option R)->V->Option R) (k:Nat) (v:V):ak B (k+1) v=B (ak B k) v:=rfl
def eL {α:Type} (f:α->Nat):List α->Nat
 | []=>0
 | x::xs=>f x+eL f xs
theorem CD {α:Type} (f:α->Nat):∀ (xs:List α) (x:α),x ∈ xs->f x<=eL f xs
 | y::xs,x,h=>by
  simp only[eL]
  rcases List.mem_cons.1 h with rfl | h
  ·omega
  ·have:=CD f xs x h;omega
 | [],_,h=>by cases h
theorem rW {α:Type} (f:α->Nat) (h:∀ x,f x=0):∀ (xs:List α),eL f xs=0
 | []=>rfl
 | x::xs=>by simp[eL,h x,rW f h xs]
theorem ox {α:Type} (f:α->Nat):∀ (xs:List α),eL (fun x=>32*(f x+1)) xs=32*(xs.length+eL f xs)
 | []=>rfl
 | x::xs=>by simp only[eL,ox f xs,List.length_cons];omega
def zz:(t:Ty)->t.den->Nat
 | .str,v=>List.length v
 | .pair a b,v=>zz a v.1+zz b v.2
 | .U e,v=>List.length v+eL (zz e) v
 | _,_=>0
theorem mX {e:Ty} {xs:List e.den} {x:e.den} (h:x ∈ xs):zz e x+1<=zz (.U e) xs:=by
 have:=CD (zz e) xs x h
 have:1<=xs.length:=List.length_pos_of_mem h
 show _<=List.length xs+_
 omega
theorem eS {e:Ty} (xs:List e.den):xs.length<=zz (.U e) xs:=Nat.le_add_right _ _
def cm (n:Int) (z:Nat):Int:=if (z:Int)<=n then n - z else -1
theorem zA {α:Type} {B:((Int×Int)->Option (Int×Unit))->(Int×Int)->Option (Int×Unit)} {xs:List α} (qa:xs.length<=maxLen) (z:α->Nat)
  (dM:∀ (i:Nat) (hx:i < xs.length) (n:Int) self,0<=n->n<=1048576->B self (n,(i:Int))=if cm n (z xs[i]) < 0 then some (-1,()) else self (cm n (z xs[i]),ae ((i:Int)+1)))
  (iT:∀ n self,B self (n,(xs.length:Int))=some (n,())) (n:Int) (h0:0<=n) (h1:n<=1048576) :
  ∀ k,xs.length < k->ak B k (n,0)=some (cm n (eL z xs),()):=by
 have main:∀ (m i:Nat) (n:Int),xs.length - i=m->i<=xs.length->0<=n->n<=1048576->∀ k,m < k->ak B k (n,(i:Int))=some (cm n (eL z (xs.drop i)),()):=by
  intro m
  induction m with
  | zero=>
   intro i n hm hi h0 h1 k hk
   have fa:i=xs.length:=by omega
   subst fa
   cases k with
   | zero=>omega
   | succ k=>
    have:ak B (k+1) (n,(xs.length:Int))=some (n,()):=iT n _
    rw[this]
    simp[cm,eL,h0]
  | succ m ih=>
   intro i n hm hi h0 h1 k hk
   have aj:i < xs.length:=by omega
   rw[List.drop_eq_getElem_cons aj]
   simp only[eL]
   cases k with
   | zero=>omega
   | succ k=>
    show B (ak B k) _=_
    rw[dM i aj n _ h0 h1]
    by_cases hz:(z xs[i]:Int)<=n
    ·have e:cm n (z xs[i])=n - (z xs[i]:Int):=if_pos hz
     have Rb:¬ (n - (z xs[i]:Int) < 0):=by omega
     have hw:ae ((i:Int)+1)=((i+1:Nat):Int):=by rw[aJ (by rw[ah] at qa;omega)];omega
     rw[e,if_neg Rb,hw,ih (i+1) _ (by omega) (by omega) (by omega) (by omega) k (by omega)]
     unfold cm
     by_cases hc:((eL z (xs.drop (i+1)):Nat):Int)<=n - (z xs[i]:Int)
     ·rw[if_pos hc,if_pos (by omega)]
      have:n - (z xs[i]:Int) - (eL z (xs.drop (i+1)):Nat)=n - ((z xs[i]+eL z (xs.drop (i+1)):Nat):Int):=by omega
      rw[this]
     ·rw[if_neg hc,if_neg (by omega)]
    ·have e:cm n (z xs[i])=-1:=if_neg hz
     rw[e,if_pos (by omega)]
     unfold cm
     rw[if_neg (by omega)]
 intro k hk
 simpa using main xs.length 0 n (by omega) (by omega) h0 h1 k hk
theorem zB {n:Int} {a b:Nat} (h:(a:Int)<=n):cm (n - a) b=cm n (a+b):=by
 unfold cm
 by_cases hc:(b:Int)<=n - a
 ·rw[if_pos hc,if_pos (by omega)];omega
 ·rw[if_neg hc,if_neg (by omega)]
theorem kt {α:Type} (xs:List α) (i:Nat) (a:α) (h:i < xs.length):(xs.set i a)[i]?=some a:=by simp[h]
def lI:Int:=4611686018427387904
def chain {α:Type} (E:α->Int->α->Int->Prop) (W:α->Nat):List α->Int->List α->Int->Prop
 | [],k,ys,k'=>ys=[]/\k'=k
 | x::xs,k,ys,k'=>∃ y Ag k1,ys=y::Ag/\0<=k/\k+W x<=lI/\k<=k1/\k1<=k+W x/\E x k y k1/\chain E W xs k1 Ag k'
theorem mY {α:Type} {B:((List α×Int×Int)->Option (Int×List α×Unit))->(List α×Int×Int)->Option (Int×List α×Unit)} {xs:List α} (qa:xs.length<=maxLen) (E:α->Int->α->Int->Prop) (W:α->Nat)
  (hE:∀ x ∈ xs,∀ k:Int,0<=k->k+W x<=lI->∃ y k',k<=k'/\k'<=k+W x/\E x k y k')
  (dM:∀ (i:Nat) (acc:List α) (k:Int) self (x y:α) (k':Int),i < acc.length->acc[i]?=some x->0<=k->k+W x<=lI->k<=k'->k'<=k+W x->E x k y k'->B self (acc,k,(i:Int))=self (acc.set i y,k',ae ((i:Int)+1)))
  (iT:∀ (acc:List α) (k:Int) self,B self (acc,k,(acc.length:Int))=some (k,acc,())) (k:Int) (h0:0<=k) (h1:k+eL W xs<=lI) :
  ∃ ys k',k<=k'/\k'<=k+eL W xs/\ys.length=xs.length/\chain E W xs k ys k'/\∀ f,xs.length < f->ak B f (xs,k,0)=some (k',ys,()):=by
 have main:∀ (rest pre:List α) (k:Int),(pre++rest).length<=maxLen->(∀ x ∈ rest,x ∈ xs)->0<=k->k+eL W rest<=lI ->
   ∃ ys k',k<=k'/\k'<=k+eL W rest/\ys.length=rest.length/\chain E W rest k ys k'/\∀ f,rest.length < f->ak B f (pre++rest,k,(pre.length:Int))=some (k',pre++ys,()):=by
  intro rest
  induction rest with
  | nil=>
   intro pre k hm _ h0 h1
   refine ⟨[],k,Int.le_refl _,by simp[eL],rfl,⟨rfl,rfl⟩,fun f hf=>?_⟩
   cases f with
   | zero=>simp at hf
   | succ f=>
    simp only[List.append_nil]
    exact iT pre k _
  | cons x rest ih=>
   intro pre k hm hx h0 h1
   simp only[eL] at h1
   obtain ⟨y,k1,g1,g2,g3⟩:=hE x (hx x List.mem_cons_self) k h0 (by omega)
   obtain ⟨ys,k',i1,i2,i3,i4,i5⟩:=ih (pre++[y]) k1 (by simpa using hm) (fun z hz=>hx z (List.mem_cons_of_mem _ hz)) (by omega) (by omega)
   refine ⟨y::ys,k',by omega,by simp only[eL];omega,by simp[i3],⟨y,ys,k1,rfl,h0,by omega,g1,g2,g3,i4⟩,fun f hf=>?_⟩
   cases f with
   | zero=>omega
   | succ f=>
    show B (ak B f) _=_
    have hlen:pre.length < (pre++x::rest).length:=by simp
    rw[dM pre.length (pre++x::rest) k _ x y k1 hlen (by simp) h0 (by omega) g1 g2 g3]
    have hw:ae ((pre.length:Int)+1)=(((pre++[y]).length:Nat):Int):=by
     have:pre.length+1<=maxLen:=by have:=hm;simp at this;omega
     rw[ah] at this
     rw[aJ (by omega)];simp
    have hs:(pre++x::rest).set pre.length y=(pre++[y])++rest:=by simp
    rw[hw,hs,i5 f (by simp only[List.length_cons] at hf;omega)]
    simp
 obtain ⟨ys,k',i1,i2,i3,i4,i5⟩:=main xs [] k (by simpa using qa) (fun x h=>h) h0 h1
 exact ⟨ys,k',i1,i2,i3,i4,fun f hf=>by simpa using i5 f hf⟩
theorem IC {α:Type} {ys:List α} {B:((Int×Int)->Option (Int×Unit))->(Int×Int)->Option (Int×Unit)} {xs:List α} {k k':Int} (qa:ys.length<=maxLen) {E:α->Int->α->Int->Prop} {W:α->Nat} (hc:chain E W xs k ys k')
  (dM:∀ (i:Nat) (k:Int) self (x y:α) (k':Int),i < ys.length->ys[i]?=some y->0<=k->k+W x<=lI->k<=k'->k'<=k+W x->E x k y k'->B self (k,(i:Int))=self (k',ae ((i:Int)+1)))
  (iT:∀ (k:Int) self,B self (k,(ys.length:Int))=some (k,())):∀ f,ys.length < f->ak B f (k,0)=some (k',()):=by
 have main:∀ (xs Ag pre:List α) (k:Int),pre++Ag=ys->chain E W xs k Ag k'->∀ f,Ag.length < f->ak B f (k,(pre.length:Int))=some (k',()):=by
  intro xs
  induction xs with
  | nil=>
   intro Ag pre k hp hc f hf
   obtain ⟨rfl,rfl⟩:=hc
   cases f with
   | zero=>simp at hf
   | succ f=>
    have:=iT k' (ak B f)
    have e:pre=ys:=by simpa using hp
    subst e
    exact this
  | cons x xs ih=>
   intro Ag pre k hp hc f hf
   obtain ⟨y,SS,k1,rfl,c1,c2,c3,c4,c5,c6⟩:=hc
   cases f with
   | zero=>omega
   | succ f=>
    show B (ak B f) _=_
    have hl:pre.length < ys.length:=by rw[<-hp];simp
    rw[dM pre.length k _ x y k1 hl (by rw[<-hp];simp) c1 c2 c3 c4 c5]
    have hw:ae ((pre.length:Int)+1)=(((pre++[y]).length:Nat):Int):=by
     have:pre.length+1<=maxLen:=by omega
     rw[ah] at this
     rw[aJ (by omega)];simp
    rw[hw]
    exact ih SS (pre++[y]) k1 (by rw[<-hp];simp) c6 f (by simp only[List.length_cons] at hf;omega)
 intro f hf
 simpa using main xs ys [] k rfl hc f hf
end OT
set_option linter.unusedVariables false
set_option linter.unusedSimpArgs false
namespace OT
open Go
def aV {S O α:Type} (f:Nat->S->α->Sum O S) (fin:S->O):Nat->List α->S->O
 | _,[],s=>fin s
 | i,x::xs,s=>match f i s x with
  | .inl o=>o
  | .inr s'=>aV f fin (i+1) xs s'
theorem bC {V S O α:Type} {B:(V->Option O)->V->Option O} (xs:List α) (enc:S->Int->V) (f:Nat->S->α->Sum O S) (fin:S->O) (I:Nat->S->Prop) (qa:xs.length<=maxLen)
  (dM:∀ (i:Nat) (hi:i < xs.length) (s:S) self,I i s->B self (enc s (i:Int))=match f i s xs[i] with | .inl o=>some o | .inr s'=>self (enc s' (ae ((i:Int)+1))))
  (hI:∀ (i:Nat) (hi:i < xs.length) (s s':S),I i s->f i s xs[i]=.inr s'->I (i+1) s')
  (iT:∀ (s:S) self,I xs.length s->B self (enc s (xs.length:Int))=some (fin s)) (s:S) (h0:I 0 s):∀ k,xs.length < k->ak B k (enc s 0)=some (aV f fin 0 xs s):=by
 have main:∀ (m i:Nat) (s:S),xs.length - i=m->i<=xs.length->I i s->∀ k,m < k->ak B k (enc s (i:Int))=some (aV f fin i (xs.drop i) s):=by
  intro m
  induction m with
  | zero=>
   intro i s hm hi hs k hk
   have fa:i=xs.length:=by omega
   subst fa
   cases k with
   | zero=>omega
   | succ k=>
    show B (ak B k) _=_
    rw[iT s _ hs]
    simp[aV]
  | succ m ih=>
   intro i s hm hi hs k hk
   have aj:i < xs.length:=by omega
   cases k with
   | zero=>omega
   | succ k=>
    show B (ak B k) _=_
    rw[dM i aj s _ hs,List.drop_eq_getElem_cons aj]
    simp only[aV]
    cases hf:f i s xs[i] with
    | inl o=>rfl
    | inr s'=>
     have hw:ae ((i:Int)+1)=((i+1:Nat):Int):=by rw[aJ (by rw[ah] at qa;omega)];omega
     simp only[hw]
     exact ih (i+1) s' (by omega) (by omega) (hI i aj s s' hs hf) k (by omega)
 intro k hk
 simpa using main xs.length 0 s (by omega) (by omega) h0 k hk
theorem kO {O α:Type} (p:α->Bool) (bad:O) (fin:Unit->O):∀ (xs:List α) (i:Nat),aV (fun _ _ x=>if p x then .inr () else .inl bad) fin i xs ()=if xs.all p then fin () else bad
 | [],_=>rfl
 | x::xs,i=>by
  simp only[aV,List.all_cons]
  by_cases h:p x=true
  ·simp[h,kO p bad fin xs (i+1)]
  ·simp[h]
def hU {α:Type} (c:α->Int):List α->Int
 | []=>0
 | x::xs=>if c x=0 then hU c xs else c x
theorem qt {O α:Type} (c:α->Int) (bad:Int->O) (fin:Unit->O):∀ (xs:List α) (i:Nat),aV (fun _ _ x=>if c x=0 then .inr () else .inl (bad (c x))) fin i xs ()=if hU c xs=0 then fin () else bad (hU c xs)
 | [],_=>rfl
 | x::xs,i=>by
  simp only[aV,hU]
  by_cases h:c x=0
  ·simp[h,qt c bad fin xs (i+1)]
  ·simp[h]
theorem ID {R:Type} (a:Option R):both a a=a:=by simp[both]
theorem E2 {R α:Type} {v:List α} {a b r:Option R} (h1:v=[]->a=r) (Y:b=r):uM v a b=r:=by
 cases v with
 | nil=>rw[uM,h1 rfl,Y,ID]
 | cons _ _=>exact Y
theorem cD {n:Nat} (h:n<=200000000000):n<=bg:=by simp only[bg];omega
end OT
set_option linter.unusedVariables false
set_option linter.unusedSimpArgs false
namespace OT
open Go
def no:Ty->Bool
 | .int _ | .bool | .str | .unit=>true
 | .pair a b=>no a&&no b
 | _=>false
def jb:(t:Ty)->t.den->List Value
 | .int k,v=>[.int k (jg k v)]
 | .bool,v=>[.bool v]
 | .str,v=>[.string ⟨List.toArray v⟩]
 | .unit,_=>[]
 | .pair a b,v=>jb a v.1++jb b v.2
 | _,_=>[]
section
variable {P:Program} {w:World} {A:Cells}
theorem nG:∀ (t:Ty),no t=true->∀ (v:t.den),Ro P w A t v (jb t v):=by
 intro t
 induction t with
 | pair a b eg d0=>
  intro h v
  simp only[no,Bool.and_eq_true] at h
  have h1:=eg h.1 v.1
  have hl:=Ro.length a h1
  show Ro P w A a v.1 ((jb a v.1++jb b v.2).take a.sz)/\Ro P w A b v.2 ((jb a v.1++jb b v.2).drop a.sz)
  rw[List.take_append_of_le_length (by omega),List.take_of_length_le (by omega),List.drop_append_of_le_length (by omega),List.drop_of_length_le (by omega),List.nil_append]
  exact ⟨h1,d0 h.2 v.2⟩
 | int k=>intro _ v;rfl
 | bool=>intro _ v;rfl
 | str=>intro _ v;rfl
 | unit=>intro _ v;rfl
 | _=>intro h;simp[no] at h
theorem NW:∀ (t:Ty),no t=true->∀ {v:t.den} {cs:List Value},Ro P w A t v cs->cs=jb t v:=by
 intro t
 induction t with
 | pair a b eg d0=>
  intro h v cs hr
  simp only[no,Bool.and_eq_true] at h
  have h1:=eg h.1 hr.1
  have Y:=d0 h.2 hr.2
  rw[<-List.take_append_drop a.sz cs,h1,Y]
  rfl
 | int k=>intro _ v cs h;exact h
 | bool=>intro _ v cs h;exact h
 | str=>intro _ v cs h;exact h
 | unit=>intro _ v cs h;exact h
 | _=>intro h;simp[no] at h
theorem Ah:∀ (t:Ty),no t=true->t.flat=true:=by
 intro t
 induction t with
 | pair a b eg d0=>intro h;simp only[no,Bool.and_eq_true] at h;simp only[Ty.flat,eg h.1,d0 h.2,Bool.and_self]
 | int k=>intro _;rfl
 | bool=>intro _;rfl
 | str=>intro _;rfl
 | unit=>intro _;rfl
 | _=>intro h;simp[no] at h
end
theorem JW {w:World} {b i:Nat} {u:Value} {c:Array Value} {e:TypeId} {fr:Nat×Nat} (h:w.heap[b]?=some (.cells c e fr)) (hu:ce w b i=some u):c[i]?=some u:=by
 unfold ce at hu
 simp only[h,World.cell?] at hu
 cases hc:c[i]? with
 | none=>simp[hc] at hu
 | some v=>
  simp only[hc,Option.isSome_none,Bool.false_eq_true,if_false,Option.bind_some] at hu
  rw[(uR hu).1]
theorem DW {w:World} {b i:Nat} {u:Value} {c:Array Value} {e:TypeId} {fr:Nat×Nat} (h:w.heap[b]?=some (.cells c e fr)) (hg:c[i]?=some u) (hu:u.oneCell'=true):ce w b i=some u:=by
 refine v6 ?_ hu
 simp only[World.cell?,h,Option.isSome_none,Bool.false_eq_true,if_false,hg]
end OT
set_option linter.unusedVariables false
set_option linter.unusedSimpArgs false
namespace OT
open Go Go.Sort
instance ST (e:Ty):Inhabited e.den:=⟨e.zero⟩
noncomputable def pB (e:Ty) (cs:e.den×e.den×Unit->Option (Int×Unit)) (v:List e.den):Option (List e.den):=open Classical in
 if List.length v<=bg then (if h:∃ cf:e.den->e.den->Int,(∀ x y,cs (x,y,())=some (cf x y,()))/\SWO (Go.Proofs.ltOf cf) then some (pdq (Go.Proofs.ltOf h.choose) v.toArray 0 v.toArray.size (Lib.bitLen v.toArray.size) true true).toList else none) else none
theorem CE {e:Ty} {cs:e.den×e.den×Unit->Option (Int×Unit)} {cf:e.den->e.den->Int} (h1:∀ x y,cs (x,y,())=some (cf x y,())) (Y:SWO (Go.Proofs.ltOf cf)) (v:List e.den) (hl:List.length v<=bg):pB e cs v=some (pdq (Go.Proofs.ltOf cf) v.toArray 0 v.toArray.size (Lib.bitLen v.toArray.size) true true).toList:=by
 have hex:∃ cf:e.den->e.den->Int,(∀ x y,cs (x,y,())=some (cf x y,()))/\SWO (Go.Proofs.ltOf cf):=⟨cf,h1,Y⟩
 have he:hex.choose=cf:=by
  funext x y
  have:=(hex.choose_spec.1 x y).symm.trans (h1 x y)
  injection this with this
  exact congrArg Prod.fst this
 unfold pB
 rw[if_pos hl,dif_pos hex,he]
theorem Gj {e:Ty} {cs:e.den×e.den×Unit->Option (Int×Unit)} {v r:List e.den} (h:pB e cs v=some r):∃ cf:e.den->e.den->Int,(∀ x y,cs (x,y,())=some (cf x y,()))/\SWO (Go.Proofs.ltOf cf)/\List.length v<=bg/\r=(pdq (Go.Proofs.ltOf cf) v.toArray 0 v.toArray.size (Lib.bitLen v.toArray.size) true true).toList:=by
 by_cases hl:List.length v<=bg
 ·by_cases hex:∃ cf:e.den->e.den->Int,(∀ x y,cs (x,y,())=some (cf x y,()))/\SWO (Go.Proofs.ltOf cf)
  ·obtain ⟨cf,h1,Y⟩:=hex
   rw[CE h1 Y v hl] at h
   injection h with h
   exact ⟨cf,h1,Y,hl,h.symm⟩
  ·unfold pB at h
   rw[if_pos hl,dif_neg hex] at h
   cases h
 ·unfold pB at h
  rw[if_neg hl] at h
  cases h
theorem CF {α:Type} [Inhabited α] {lt:α->α->Bool} (h:SWO lt) (v:List α):(pdq lt v.toArray 0 v.toArray.size (Lib.bitLen v.toArray.size) true true).toList.Perm v/\(pdq lt v.toArray 0 v.toArray.size (Lib.bitLen v.toArray.size) true true).toList.Pairwise fun x y=>lt y x=false:=by
 have hs:=pdq_sorts lt h v.toArray 0 v.toArray.size (Lib.bitLen v.toArray.size) true true (Nat.zero_le _) (Nat.le_refl _) (Or.inl rfl)
 generalize pdq lt v.toArray 0 v.toArray.size (Lib.bitLen v.toArray.size) true true=p at hs ⊢
 obtain ⟨⟨h1,Y,h3⟩,h4⟩:=hs
 refine ⟨?_,?_⟩
 ·have e1:p.extract 0 v.toArray.size=p:=by rw[<-h1];exact Array.extract_size ..
  have e2:v.toArray.extract 0 v.toArray.size=v.toArray:=Array.extract_size ..
  rw[e1,e2] at h3
  exact h3
 ·rw[List.pairwise_iff_getElem]
  intro i j hi hj iZ
  have om:j < p.size:=by simpa using hj
  have:=h4 i j (Nat.zero_le _) iZ (by omega)
  rw[getElem!_pos _ i (by omega),getElem!_pos _ j om] at this
  simpa using this
section
variable {P:Program}
theorem JX {w w':World} (h:Ext w w' (fun _ _=>0)):∃ q os,w'=grow (w.drewN q) os:=by
 refine ⟨w'.drawn - w.drawn,w'.heap.extract w.heap.size w'.heap.size,?_⟩
 have hh:w'.heap=w.heap++w'.heap.extract w.heap.size w'.heap.size:=by
  apply Array.ext_getElem?
  intro i
  by_cases hi:i < w.heap.size
  ·rw[h.obj i hi fun _=>rfl,Array.getElem?_append_left hi]
  ·rw[Array.getElem?_append_right (by omega),Array.getElem?_extract]
   by_cases fa:i < w'.heap.size
   ·rw[if_pos (by omega)]
    congr 1
    omega
   ·rw[if_neg (by omega),Array.getElem?_eq_none (by omega)]
 have h1:=h.os
 have Y:=h.tape
 have h3:=h.output
 have h4:=h.drawn
 cases w with
 | mk heap tape drawn os output=>
  cases w' with
  | mk TG TH SV Ud Rz=>
   simp only at h1 Y h3 h4 hh
   subst h1;subst Y;subst h3
   simp only[grow,World.drewN,World.mk.injEq,true_and,and_true]
   exact ⟨hh,by omega⟩
theorem JY {e:Ty} (hs:no e=true) (ha:isAgg e=true) {g:Nat} {cF:e.den×e.den×Unit->Option (Int×Unit)} (hg:Sound P g { ps:=[(.ro,e),(.ro,e)],rs:=[(.int .i64,ax (.int .i64))],F:=cF }) {cf:e.den->e.den->Int} (hc:∀ x y,cF (x,y,())=some (cf x y,())) (b size:Nat) (w:World):Go.Proofs.CmpLays P g #[] (jb e) e.sz cf b 0 size w:=by
 intro m os dk _ x y
 have fW:kK P (Go.Proofs.sortWorldK (jb e) e.sz w b 0 m dk os) (fun _ _=>False) [(.ro,e),(.ro,e)] (x,y,()) [.agg (jb e x).toArray,.agg (jb e y).toArray] (fun _ _=>0):=
  ⟨_,_,fun _ _=>0,fun _ _=>0,rfl,fun _ _=>Nat.le_refl _,⟨jb e x,by simp[bh,ha],nG e hs x⟩,_,_,fun _ _=>0,fun _ _=>0,rfl,fun _ _=>Nat.le_refl _,⟨jb e y,by simp[bh,ha],nG e hs y⟩,rfl⟩
 refine (hg _ (fun _ _=>False) (fun _ _=>0) (x,y,()) _ fW (fun _ _=>Nat.zero_le _) (fun _ _ h=>by omega) (fun _ _ h=>by rcases h with h | h;omega;exact h.elim) (cf x y,()) (hc x y)).mono ?_
 rintro ex w' ⟨rv,rfl,bZ,A',G,GR,GM,_,_,_,_,_,_,_,mw,_⟩
 obtain ⟨cs,h1,Y⟩:=mw
 refine ⟨?_,JX bZ⟩
 have Y:cs=[.int .i64 (cf x y)]:=Y
 rw[h1,Y]
 rfl
theorem Mu {ρ:Go.Shelf.Ren} (L:Go.Proofs.SlLaysF0.n6 P ρ) {e:Ty} (hs:no e=true) (ha:isAgg e=true) (hl:aD P e (.inl (ρ.t 24))=true) (h1:1<=e.sz) {g:Nat} {cF:e.den×e.den×Unit->Option (Int×Unit)}
  (hg:Ok P g { ps:=[(.ro,e),(.ro,e)],rs:=[(.int .i64,ax (.int .i64))],F:=cF }) (he:oo P (ρ.f 6) false) :
  Ok P (ρ.f 6) { ps:=[(.eU (am (.U e)),.U e),(.fix g,.fn)],rs:=[],F:=fun v=>(pB e cF v.1).map fun r=>(r,()) }:=by
 refine ⟨?_,he⟩
 intro w A F0 v xs fW hle tg Rc out iT
 obtain ⟨vs,⟨fg,fv⟩,⟨⟩⟩:=v
 obtain ⟨x,Nq,F1,F2,rfl,hF,⟨cs,rfl,cw⟩,x2,Rd,F3,F4,rfl,Nz,⟨⟨bi,rfl,IA⟩,Re⟩,wY⟩:=fW
 have wY:Rd=[]:=wY
 subst wY
 have SW:fg=g:=Re rfl
 subst SW
 obtain ⟨pY,rfl,fn,JZ,Rf⟩:=IA
 have O1:pY=#[]:=by
  obtain ⟨Sm,k1,_,_,k4⟩:=hg.2
  have JZ:P.funcs[fg]?=some fn:=JZ
  rw[JZ] at k1
  injection k1 with k1
  subst k1
  have k4:fn.nfree=0:=k4
  rcases Rf with ⟨_,q⟩ | ⟨q,_⟩
  ·exact q
  ·omega
 subst O1
 have NB:bh .fn [.func (.func fg) #[] #[]]=.func (.func fg) #[] #[]:=rfl
 have iT:(pB e cF vs).map (fun r=>(r,()))=some out:=iT
 cases Gk:pB e cF vs with
 | none=>rw[Gk] at iT;cases iT
 | some r=>
 rw[Gk] at iT
 injection iT with iT
 subst iT
 obtain ⟨cf,hc,hO,ko,hr⟩:=Gj Gk
 have Gl:=CF hO vs
 rw[<-hr] at Gl
 have A5:=cw
 simp only[ai,hole,List.any_nil,Bool.false_eq_true,if_false,am,mG,Md.own,if_true] at cw
 obtain ⟨xa,cap,rfl,g2,g3,g4,g5⟩:=cw
 have xT:bh (.U e) [.slice xa (List.length vs) cap]=.slice xa (List.length vs) cap:=rfl
 rw[NB,xT]
 have CG:∀ (w':World) (LA:FP),Ext w w' F0->(∀ b i,LA b i<=F1 b i)->ai P w' A (.U e) (am (.U e)) [] r [.slice xa (List.length vs) cap] LA ->
   ∃ rv,Ending.returned (.tuple #[])=.returned rv/\Ext w w' F0/\∃ (A':Cells) (G GR GM:FP),(∀ b i,A b i->A' b i)/\(∀ b i,A' b i->A b i\/1<=F0 b i\/w.heap.size<=b)/\(∀ b i,1<=G b i->1<=F0 b i\/w.heap.size<=b)/\(∀ b i,G b i<=1)/\(∀ b i,1<=G b i->¬ A' b i)/\(∀ b i,1<=G b i\/A' b i->b < w'.heap.size)/\(∀ b i,GR b i+GM b i<=G b i) /\
   hK P w' A' [] rv GR/\iC P w' A' [(.eU (am (.U e)),.U e),(.fix fg,.fn)] (r,()) [.slice xa (List.length vs) cap,.func (.func fg) #[] #[]] GM:=fun w' LA bZ BL LB=>
  ⟨_,rfl,bZ,A,F0,fun _ _=>0,F0,fun _ _ h=>h,fun _ _ h=>.inl h,fun _ _ h=>.inl h,hle,tg,fun b i h=>Nat.lt_of_lt_of_le (Rc b i h) bZ.size,fun b i=>by show 0+F0 b i<=F0 b i;omega,trivial,LA,F2,fun b i=>by have:=hF b i;have:=BL b i;omega,⟨_,rfl,LB⟩,trivial⟩
 by_cases h0:List.length vs=0
 ·have SX:vs=[]:=List.eq_nil_of_length_eq_zero h0
  have SY:r=[]:=by
   have:=Gl.1.length_eq
   exact List.eq_nil_of_length_eq_zero (by omega)
  rw[h0]
  refine (Go.Proofs.AnyF.slices_SortFunc_none L xa cap (.func (.func fg) #[] #[]) w).mono ?_
  rintro ex w' ⟨rfl,hw⟩
  rw[hw]
  rw[h0] at CG
  refine CG w F1 (Ext.refl _ _) (fun _ _=>Nat.le_refl _) ?_
  rw[SY,<- SX]
  have:List.length vs=0:=h0
  rw[this] at A5
  exact A5
 ·cases xa with
  | none=>have:=g4 rfl;omega
  | some ad=>
   obtain ⟨q1,q2,q3,Fi,q4,q5⟩:=g5 ad rfl
   obtain ⟨b,off,sp⟩:=ad
   simp only at q1 q2 q3 q4 q5
   subst q1;subst q2
   obtain ⟨c,el,fr,c1,c2,c3,c4⟩:=q3
   have hb:=(Array.getElem?_eq_some_iff.1 c1).1
   have ez:vs.toArray.size=List.length vs:=by simp
   have Ue:List.length vs*e.sz<=cap*e.sz:=Nat.mul_le_mul_right _ g2
   have zp:1<=List.length vs*e.sz:=Nat.mul_le_mul (show 1<=List.length vs by omega) h1
   have lq:∀ (i:Nat) (y:e.den),vs[i]?=some y->Has w b (i*e.sz) (jb e y):=fun i y hy=>by
    obtain ⟨L0,l1,l2,l3⟩:=q5 i y hy
    have:=NW e hs (ai.flat e (Ah e hs) l3)
    rw[<-this]
    exact l2
   have hH:Go.Sort.HoldsK (jb e) e.sz w b 0 vs.toArray:=by
    intro j hj
    rw[Go.Sort.size_flatK,ez] at hj
    rw[Nat.zero_add,Go.Sort.get_flatK _ _ _ _ (by rw[ez];exact hj)]
    have hi:j / e.sz < List.length vs:=by rw[Nat.div_lt_iff_lt_mul h1];exact hj
    have hy:=List.getElem?_eq_getElem hi
    have hm:=Nat.mod_lt j h1
    have jo:(jb e (vs[j / e.sz]))[j % e.sz]?=some ((jb e (vs[j / e.sz]))[j % e.sz]!):=by
     have hlen:=Ro.length e (nG (P:=P) (w:=w) (A:=A) e hs (vs[j / e.sz]))
     rw[List.getElem?_eq_getElem (by omega),getElem!_pos _ _ (by omega)]
    have Qi:=lq _ _ hy _ _ jo
    have SZ:j / e.sz*e.sz+j % e.sz=j:=by rw[Nat.mul_comm];exact Nat.div_add_mod j e.sz
    rw[SZ] at Qi
    have gS:=Ro.one e (nG (P:=P) (w:=w) (A:=A) e hs (vs[j / e.sz])) _ (List.mem_of_getElem? jo)
    have yr:=nf Qi gS
    refine ⟨?_,?_⟩
    ·show _=some (id _)
     rw[yr]
     have:vs.toArray[j / e.sz]! = vs[j / e.sz]:=by rw[getElem!_pos _ _ (by rw[ez];exact hi)];simp
     rw[this]
     rfl
    ·simp only[World.frozen?,c1]
     have:=c3 j (by omega)
     simp only[Bool.and_eq_false_imp,decide_eq_true_eq,decide_eq_false_iff_not,not_and] at this ⊢
     intro h
     first | exact this h | (have:=this (by simpa using h);simpa using this)
   have NX:=Go.Proofs.AnyQ.slices_SortFunc_eq L e.sz (fun w=>by rw[vg hl,ha]) (fun w=>run_sizeOf hl) (jb e) (fun y=>Ro.length e (nG (P:=P) (w:=w) (A:=A) e hs y)) (fun y u hu=>Ro.one e (nG (P:=P) (w:=w) (A:=A) e hs y) u hu) cf hO fg #[] b 0 cap vs.toArray w
    (fun args w=>vt hg.2 args) (JY hs ha hg.1 hc b _ w) hH hb (by rw[ez];unfold bg at ko;omega)
   rw[ez] at NX
   refine NX.mono ?_
   rintro ex w' ⟨rfl,n,os,rfl⟩
   rw[ez] at hr
   have rU:(pdq (Go.Proofs.ltOf cf) vs.toArray 0 (List.length vs) (Lib.bitLen (List.length vs)) true true)=r.toArray:=by rw[hr]
   rw[rU]
   have ol:r.length=List.length vs:=Gl.1.length_eq
   have hold:∀ b',b' < w.heap.size->b'≠b->(Go.Proofs.sortWorldK (jb e) e.sz w b 0 n r.toArray os).heap[b']?=w.heap[b']?:=fun b' lG ey=>by
    simp only[Go.Proofs.sortWorldK,grow,Go.Sort.putRowK,Go.Sort.putRow,Go.Sort.mapBlock,Go.Sort.ahead]
    rw[Array.getElem?_append_left (by simpa using lG),Array.getElem?_modify,if_neg (fun e=>ey e.symm)]
   have p_:(Go.Proofs.sortWorldK (jb e) e.sz w b 0 n r.toArray os).heap[b]?=some (.cells (Go.Sort.putCells id 0 (Go.Sort.flatK (jb e) e.sz r.toArray) c) el fr):=by
    simp only[Go.Proofs.sortWorldK,grow,Go.Sort.putRowK,Go.Sort.putRow,Go.Sort.mapBlock,Go.Sort.ahead]
    rw[Array.getElem?_append_left (by simpa using hb),Array.getElem?_modify,if_pos rfl,c1]
    rfl
   have lK:(Go.Sort.putCells id 0 (Go.Sort.flatK (jb e) e.sz r.toArray) c).size=c.size:=by simp[Go.Sort.putCells]
   have bZ:Ext w (Go.Proofs.sortWorldK (jb e) e.sz w b 0 n r.toArray os) F0:=by
    have da:∀ i,i < cap*e.sz->1<=F0 b i:=fun i hi=>by
     have h3:=hF b i
     have h4:=q4 b i
     have h5:bk b 0 (cap*e.sz) b i=1:=by simp only[bk];rw[if_pos ⟨trivial,by omega,by omega⟩]
     omega
    refine ⟨?_,fun b' i lG hz u hu=>?_,fun b' m hm=>?_,fun b' i lG=>?_,rfl,rfl,rfl,fun b' lG hz=>?_,Nat.le_add_right _ _⟩
    ·simp only[Go.Proofs.sortWorldK,grow,Go.Sort.putRowK,Go.Sort.putRow,Go.Sort.mapBlock,Go.Sort.ahead,Array.size_append,Array.size_modify]
     omega
    ·by_cases qi:b'=b
     ·subst qi
      have hi:¬ i < cap*e.sz:=fun hi=>by have:=da i hi;omega
      exfalso
      have:=JW c1 hu
      rw[Array.getElem?_eq_none (by omega)] at this
      cases this
     ·rw[pi (hold b' lG qi)];exact hu
    ·by_cases qi:b'=b
     ·subst qi
      obtain ⟨c',e',f',m1,m2,m3⟩:=hm
      rw[c1] at m1
      injection m1 with m1
      injection m1 with m1 m4 m5
      subst m1;subst m4;subst m5
      exact ⟨_,_,_,p_,by rw[lK];exact m2,m3⟩
     ·have lG:b' < w.heap.size:=hm.lt
      exact (oN (hold b' lG qi) m).1 hm
    ·by_cases qi:b'=b
     ·subst qi
      simp only[World.frozen?,p_,c1]
     ·exact pA (hold b' lG qi) i
    ·by_cases qi:b'=b
     ·subst qi
      have:=da 0 (by omega)
      have:=hz 0
      omega
     ·exact hold b' lG qi
   refine CG _ F1 bZ (fun _ _=>Nat.le_refl _) ?_
   simp only[ai,hole,List.any_nil,Bool.false_eq_true,if_false,am,mG,Md.own,if_true]
   refine ⟨some ⟨b,0,none⟩,cap,by rw[ol],by rw[ol];exact g2,g3,(fun e=>by cases e),fun ad e2=>?_⟩
   injection e2 with e2
   subst e2
   refine ⟨rfl,rfl,⟨_,_,_,p_,by rw[lK];exact c2,c3,c4⟩,fun _ _ _=>0,fun b' i=>?_,fun i y hy=>?_⟩
   ·have h3:=q4 b' i
    have h4:ay (List.length r) (fun _ _ _=>0) b' i=0:=by
     generalize List.length r=nn
     induction nn with
     | zero=>rfl
     | succ nn ih=>simp only[ay,ih]
    show bk b 0 (cap*e.sz) b' i+ay (List.length r) (fun _ _ _=>0) b' i<=F1 b' i
    rw[h4]
    omega
   ·refine ⟨jb e y,Ro.length e (nG (P:=P) (w:=w) (A:=A) e hs y),fun j u hu=>?_,?_⟩
    ·have hj:=(List.getElem?_eq_some_iff.1 hu).1
     have hlen:=Ro.length e (nG (P:=P) (w:=w) (A:=A) e hs y)
     have hi:=(List.getElem?_eq_some_iff.1 hy).1
     have iZ:i*e.sz+j < r.length*e.sz:=by
      have:=Nat.mul_le_mul_right e.sz (show i+1<=r.length from hi)
      rw[Nat.add_mul,Nat.one_mul] at this
      omega
     have hdiv:(i*e.sz+j) / e.sz=i:=(Go.Sort.blk_iff e.sz i _ h1).1 ⟨by omega,by omega⟩
     have JB:(i*e.sz+j) % e.sz=j:=by rw[Nat.mod_eq_sub_div_mul,hdiv];omega
     have mP:(Go.Sort.putCells id 0 (Go.Sort.flatK (jb e) e.sz r.toArray) c)[i*e.sz+j]?=some u:=by
      have aj:i*e.sz+j < c.size:=by rw[ol] at iZ;omega
      simp only[Go.Sort.putCells,Array.getElem?_mapIdx,Array.getElem?_eq_getElem aj,Option.map_some,Nat.zero_le,true_and,Nat.zero_add,Nat.sub_zero,Go.Sort.size_flatK,List.size_toArray,iZ,if_true,id]
      rw[Go.Sort.get_flatK _ _ _ _ (by simpa using iZ),hdiv,JB]
      have S4:r.toArray[i]! = y:=by
       rw[getElem!_pos _ _ (by simpa using hi)]
       have:=(List.getElem?_eq_some_iff.1 hy).2
       simpa using this
      rw[S4,getElem!_pos (jb e y) j hj]
      exact congrArg some (List.getElem?_eq_some_iff.1 hu).2
     have gS:=Ro.one e (nG (P:=P) (w:=w) (A:=A) e hs y) _ (List.mem_of_getElem? hu)
     exact DW p_ mP gS
    ·exact Ro.flat e _ (Ah e hs) (nG e hs y)
end
end OT
