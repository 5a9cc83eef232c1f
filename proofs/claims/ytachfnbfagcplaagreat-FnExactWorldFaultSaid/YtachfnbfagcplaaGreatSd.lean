/- The proof's parts, merged: Functions  a body that is run on data gives the contract.. No conditions but those that each states. -/
import Derived.Test.YtachfnbfagcplaaGreatSc
import Derived.ProofKit
import Derived.Deep.Slices
import Derived.Laws.BitsLemmas
import Derived.Shelf.SlSortCmp.NoneTotal
set_option linter.unusedVariables false
set_option linter.unusedSimpArgs false
namespace OT
open Go
section
variable {P:Program} {w:World} {A:Cells} {R:Type} {x:R} {E:Env}
theorem oI:∀ (ps:List (PM×Ty)) (v:(bM (ps.map (·.2))).den),(c6 ps v).length=ps.length
 | [],_=>rfl
 | (.ro,t)::ps,v=>by cases t <;> simp[c6,oI ps v.2]
 | (.fix f,t)::ps,v=>by cases t <;> simp[c6,oI ps v.2]
 | (.jw m,t)::ps,v=>by simp[c6,oI ps v.2]
 | (.gY m,t)::ps,v=>by simp[c6,oI ps v.2]
 | (.mf m,t)::ps,v=>by simp[c6,oI ps v.2]
 | (.ku m,t)::ps,v=>by simp[c6,oI ps v.2]
theorem xV:∀ (ps:List (PM×Ty)) {v:(bM (ps.map (·.2))).den} {xs:List Value} {G:FP},ln P w A ps v xs G->xs.length=ps.length
 | [],_,_,_,h=>by have h:_=[]:=h;rw[h];rfl
 | (pm,t)::ps,_,_,_,h=>by
  obtain ⟨y,ys,F1,F2,rfl,_,_,Y⟩:=h
  simp[xV ps Y]
theorem MQ:∀ (ps:List (PM×Ty)) {v:(bM (ps.map (·.2))).den} {xs:List Value} {G:FP},ln P w A ps v xs G->xU ps=true ->
  ∃ Fi:Nat->FP,(∀ b k,az ps.length Fi b k<=G b k)/\∀ i s,(c6 ps v)[i]?=some s->∃ y,xs[i]?=some y/\(∀ σ a,a8 P A σ a w y s (Fi i))/\(∀ t m H v,s=.box t m H v->(i,i,false) ∈ nj 0 ps) /\
   ((i,i,true) ∈ nj 0 ps->∃ t m H v,s=.own t m H v):=by
 have main:∀ (ps:List (PM×Ty)) (n:Nat) {v:(bM (ps.map (·.2))).den} {xs:List Value} {G:FP},ln P w A ps v xs G->xU ps=true ->
   ∃ Fi:Nat->FP,(∀ b k,az ps.length Fi b k<=G b k)/\∀ i s,(c6 ps v)[i]?=some s->∃ y,xs[i]?=some y/\(∀ σ a,a8 P A σ a w y s (Fi i))/\(∀ t m H v,s=.box t m H v->(n+i,n+i,false) ∈ nj n ps) /\
    ((n+i,n+i,true) ∈ nj n ps->∃ t m H v,s=.own t m H v):=by
  have aj:∀ (ps:List (PM×Ty)) (n j k:Nat) (c:Bool),(j,k,c) ∈ nj n ps->n<=j/\j=k:=by
   intro ps
   induction ps with
   | nil=>intro n j k c h;cases h
   | cons p ps ih=>
    intro n j k c h
    obtain ⟨pm,t⟩:=p
    cases pm with
    | ro=>have:=ih (n+1) j k c h;omega
    | fix f=>have:=ih (n+1) j k c h;omega
    | ku m=>have:=ih (n+1) j k c h;omega
    | jw m=>
     rcases List.mem_cons.1 h with e | h
     ·injection e with e1 e2;injection e2 with e2 e3;omega
     ·have:=ih (n+1) j k c h;omega
    | mf m=>
     rcases List.mem_cons.1 h with e | h
     ·injection e with e1 e2;injection e2 with e2 e3;omega
     ·have:=ih (n+1) j k c h;omega
    | gY m=>
     rcases List.mem_cons.1 h with e | h
     ·injection e with e1 e2;injection e2 with e2 e3;omega
     ·have:=ih (n+1) j k c h;omega
  intro ps
  induction ps with
  | nil=>intro n v xs G h _;exact ⟨fun _ _ _=>0,fun b k=>Nat.zero_le _,fun i s hs=>by cases hs⟩
  | cons p ps ih=>
   intro n v xs G h hp
   obtain ⟨pm,t⟩:=p
   obtain ⟨y,ys,F1,F2,rfl,hs,ha,hr⟩:=h
   have PL:xU ps=true:=hp
   obtain ⟨Fi,g1,g2⟩:=ih (n+1) hr PL
   obtain ⟨s0,Ql,Kq,J6,dh⟩:∃ s0,c6 ((pm,t)::ps) v=s0::c6 ps v.2/\(∀ σ a,a8 P A σ a w y s0 F1)/\(∀ t' m' H' v',s0=.box t' m' H' v'->∃ m,pm=.jw m\/pm=.mf m)/\((∃ m,pm=.gY m)->∃ t' m H v,s0=.own t' m H v):=by
    cases pm with
    | ro=>
     obtain ⟨cs,h1,Y⟩:=ha
     cases t with
     | ptr e=>
      refine ⟨.cp e v.1,rfl,fun σ a=>?_,(fun _ _ _ _ e=>by cases e),fun ⟨m,e⟩=>by cases e⟩
      have hl:=Ro.length _ Y
      match cs,hl with
      | [u],_=>
       rw[bz _ _ rfl] at h1
       subst h1
       exact Y
     | _=>exact ⟨.val _ v.1,rfl,fun σ a=>⟨cs,h1,Y⟩,(fun _ _ _ _ e=>by cases e),fun ⟨m,e⟩=>by cases e⟩
    | fix f=>
     obtain ⟨⟨cs,h1,Y⟩,h3⟩:=ha
     cases t with
     | fn=>
      refine ⟨.val .fn (f,v.1.2),rfl,fun σ a=>⟨cs,h1,?_⟩,(fun _ _ _ _ e=>by cases e),fun ⟨m,e⟩=>by cases e⟩
      have e:v.1=(f,v.1.2):=by have:=h3 rfl;rw[<-this]
      rw[<-e];exact Y
     | _=>exact ⟨.dead,rfl,fun σ a=>trivial,(fun _ _ _ _ e=>by cases e),fun ⟨m,e⟩=>by cases e⟩
    | jw m=>
     obtain ⟨b,o,L,F3,h1,Y,h3,h4,h5,h6⟩:=ha
     exact ⟨.box t m [] v.1,rfl,fun σ a=>⟨b,o,L,F3,h1,Y,h3,h4,h5,h6⟩,fun _ _ _ _ _=>⟨m,.inl rfl⟩,fun ⟨m,e⟩=>by cases e⟩
    | mf m=>
     obtain ⟨b,o,L,F3,h1,Y,h3,h4,h5,h6⟩:=ha
     exact ⟨.box t m [] v.1,rfl,fun σ a=>⟨b,o,L,F3,h1,Y,h3,h4,h5,h6⟩,fun _ _ _ _ _=>⟨m,.inr rfl⟩,fun ⟨m,e⟩=>by cases e⟩
    | gY m=>
     obtain ⟨cs,h1,Y⟩:=ha
     exact ⟨.own t m [] v.1,rfl,fun σ a=>⟨cs,h1,Y⟩,(fun _ _ _ _ e=>by cases e),fun _=>⟨_,_,_,_,rfl⟩⟩
    | ku m=>
     obtain ⟨cs,h1,Y⟩:=ha
     exact ⟨.own t m [] v.1,rfl,fun σ a=>⟨cs,h1,Y⟩,(fun _ _ _ _ e=>by cases e),fun _=>⟨_,_,_,_,rfl⟩⟩
   refine ⟨fun k=>match k with | 0=>F1 | k+1=>Fi k,fun b k=>?_,fun i s hi=>?_⟩
   ·have:az (ps.length+1) (fun k=>match k with | 0=>F1 | k+1=>Fi k) b k=F1 b k+az ps.length Fi b k:=by
     rw[Nat.add_comm,oC]
     congr 1
     ·simp[az]
     ·refine congrFun (congrFun (kw fun j hj=>?_) b) k
      rw[Nat.add_comm]
    show az (ps.length+1) _ b k<=G b k
    rw[this]
    have:=hs b k;have:=g1 b k;omega
   ·rw[Ql] at hi
    cases i with
    | zero=>
     injection hi with hi
     subst hi
     refine ⟨y,rfl,Kq,fun t' m' H' v' e=>?_,fun hm=>?_⟩
     ·obtain ⟨m,rfl | rfl⟩:=J6 t' m' H' v' e
      ·exact List.mem_cons_self
      ·exact List.mem_cons_self
     ·refine dh ?_
      cases pm with
      | gY m=>exact ⟨m,rfl⟩
      | ro=>have:=aj ps (n+1) _ _ _ hm;omega
      | fix f=>have:=aj ps (n+1) _ _ _ hm;omega
      | ku m=>have:=aj ps (n+1) _ _ _ hm;omega
      | jw m=>
       rcases List.mem_cons.1 hm with e | hm
       ·injection e with e1 e2;injection e2 with e2 e3;cases e3
       ·have:=aj ps (n+1) _ _ _ hm;omega
      | mf m=>
       rcases List.mem_cons.1 hm with e | hm
       ·injection e with e1 e2;injection e2 with e2 e3;cases e3
       ·have:=aj ps (n+1) _ _ _ hm;omega
    | succ i=>
     obtain ⟨y',q1,q2,q3,q4⟩:=g2 i s hi
     have Kr:n+1+i=n+(i+1):=by omega
     rw[Kr] at q3 q4
     refine ⟨y',q1,q2,fun t' m' H' v' e=>?_,fun hm=>q4 ?_⟩
     ·have:=q3 t' m' H' v' e
      cases pm with
      | ro=>exact this
      | fix f=>exact this
      | ku m=>exact this
      | jw m=>exact List.mem_cons_of_mem _ this
      | mf m=>exact List.mem_cons_of_mem _ this
      | gY m=>exact List.mem_cons_of_mem _ this
     ·cases pm with
      | ro=>exact hm
      | fix f=>exact hm
      | ku m=>exact hm
      | jw m=>
       rcases List.mem_cons.1 hm with e | hm
       ·injection e with e1 e2;omega
       ·exact hm
      | mf m=>
       rcases List.mem_cons.1 hm with e | hm
       ·injection e with e1 e2;omega
       ·exact hm
      | gY m=>
       rcases List.mem_cons.1 hm with e | hm
       ·injection e with e1 e2;omega
       ·exact hm
 intro ps v xs G h hp
 obtain ⟨Fi,g1,g2⟩:=main ps 0 h hp
 exact ⟨Fi,g1,fun i s hi=>by simpa using g2 i s hi⟩
theorem C7:∀ (ps:List (PM×Ty)) (n j k:Nat) (c:Bool),(j,k,c) ∈ nj n ps->n<=j/\j=k/\j < n+ps.length:=by
 intro ps
 induction ps with
 | nil=>intro n j k c h;cases h
 | cons p ps ih=>
  intro n j k c h
  obtain ⟨pm,t⟩:=p
  simp only[List.length_cons]
  cases pm with
  | ro=>have:=ih (n+1) j k c h;omega
  | fix f=>have:=ih (n+1) j k c h;omega
  | ku m=>have:=ih (n+1) j k c h;omega
  | jw m=>
   rcases List.mem_cons.1 h with e | h
   ·injection e with e1 e2;injection e2 with e2 e3;omega
   ·have:=ih (n+1) j k c h;omega
  | mf m=>
   rcases List.mem_cons.1 h with e | h
   ·injection e with e1 e2;injection e2 with e2 e3;omega
   ·have:=ih (n+1) j k c h;omega
  | gY m=>
   rcases List.mem_cons.1 h with e | h
   ·injection e with e1 e2;injection e2 with e2 e3;omega
   ·have:=ih (n+1) j k c h;omega
theorem C8:∀ (ss:List Slot) (n i:Nat),gm (rC n ss) i=if n<=i then ss[i - n]? else none
 | [],n,i=>by simp[rC,gm]
 | s::ss,n,i=>by
  simp only[rC,gm,C8 ss (n+1) i]
  by_cases hi:n=i
  ·subst hi;simp
  ·have:Nat.beq n i=false:=by
    cases hb:Nat.beq n i with
    | false=>rfl
    | true=>exact absurd (Nat.eq_of_beq_eq_true hb) hi
   simp only[this,Bool.false_eq_true,if_false]
   by_cases hle:n<=i
   ·rw[if_pos (by omega),if_pos hle]
    have e:i - n=(i - (n+1))+1:=by omega
    rw[e,List.getElem?_cons_succ]
   ·rw[if_neg (by omega),if_neg hle]
theorem Ks {g:ni} {v:(bM (g.ps.map (·.2))).den} {xs:List Value} {F0:FP} {n:Nat} (h:ln P w A g.ps v xs F0) (hp:xU g.ps=true) (hn:g.ps.length<=n) (h1:∀ b i,F0 b i<=1) (Y:∀ b i,1<=F0 b i->¬ A b i) (h3:∀ b i,1<=F0 b i\/A b i->b < w.heap.size) :
  ∃ F,bD P { w0:=w,A0:=A,F0:=F0,args:=xs.toArray } A (tf g.ps v n) { tmps:=xs.toArray++Array.replicate (n - xs.toArray.size) undef,defers:=[] } w F:=by
 obtain ⟨Fi,g1,g2⟩:=MQ g.ps h hp
 have hlen:=xV g.ps h
 have LN:=oI g.ps v
 have ns:∀ i,(tf g.ps v n).get i=if i < n then (match (c6 g.ps v)[i]? with | some s=>s | none=>.dead) else .dead:=fun i=>by
  unfold St.get tf
  simp only[C8,Nat.zero_le,if_true,Nat.sub_zero]
  by_cases hi:i < n
  ·rw[if_pos (by simpa [Nat.blt_eq] using hi),if_pos hi]
   rfl
  ·rw[if_neg (by simpa [Nat.blt_eq] using hi),if_neg hi]
 have Kt:∀ i (y:Value),xs[i]?=some y->tmp { tmps:=xs.toArray++Array.replicate (n - xs.toArray.size) undef,defers:=[] } i=y:=fun i y hy=>by
  have hi:=(List.getElem?_eq_some_iff.1 hy).1
  unfold tmp
  rw[Array.getD_eq_getD_getElem?,Array.getElem?_append_left (by simpa using hi)]
  simp[hy]
 have fM:∀ b k,az n (fun i=>if i < g.ps.length then Fi i else fun _ _=>0) b k<=F0 b k:=fun b k=>by
  have e:n=g.ps.length+(n - g.ps.length):=by omega
  rw[e,oC]
  have e1:=congrFun (congrFun (kw (n:=g.ps.length) (f:=fun i=>if i < g.ps.length then Fi i else fun _ _=>0) (g:=Fi) (fun j hj=>by simp only[if_pos hj])) b) k
  have e2:=congrFun (congrFun (kw (n:=n - g.ps.length) (f:=fun j=>(fun i=>if i < g.ps.length then Fi i else fun _ _=>0) (g.ps.length+j)) (g:=fun _ _ _=>0) (fun j hj=>by simp only;rw[if_neg (by omega)])) b) k
  rw[e1,e2,gR]
  exact g1 b k
 refine ⟨fun i=>if i < g.ps.length then Fi i else fun _ _=>0,?_,rfl,fun i hi=>?_,(fun d r p snap hm=>by cases hm),fun b k=>?_,fun b k hp=>?_,fun b k hp=>?_,fun i=>rfl,Ext.refl _ _,fun b k hp=>?_,fun _ _ h=>h,fun _ _ h=>.inl h,fun j k hm=>?_,fun r t m H v' hg hl=>?_,fun j k hm R hR=>?_⟩
 ·simp only[Array.size_append,List.size_toArray,Array.size_replicate,hlen,tf];omega
 ·rw[ns]
  have hi:i < n:=hi
  rw[if_pos hi]
  cases hs:(c6 g.ps v)[i]? with
  | none=>trivial
  | some s=>
   obtain ⟨y,q1,q2,_⟩:=g2 i s hs
   have aj:i < g.ps.length:=by rw[<-LN];exact (List.getElem?_eq_some_iff.1 hs).1
   rw[Kt i y q1]
   simp only[if_pos aj]
   exact q2 _ _
 ·have:=fM b k;have:=h1 b k;show 0+az n _ b k<=1;omega
 ·have hp:1<=0+az n (fun i=>if i < g.ps.length then Fi i else fun _ _=>0) b k:=hp
  have:=fM b k
  exact Y b k (by omega)
 ·refine h3 b k (hp.imp (fun hp=>?_) id)
  have hp:1<=0+az n (fun i=>if i < g.ps.length then Fi i else fun _ _=>0) b k:=hp
  have:=fM b k
  omega
 ·have hp:1<=0+az n (fun i=>if i < g.ps.length then Fi i else fun _ _=>0) b k:=hp
  have:=fM b k
  left;show 1<=F0 b k;omega
 ·obtain ⟨_,rfl,hj⟩:=C7 g.ps 0 j k false hm
  have hj:j < xs.length:=by omega
  rw[Kt j xs[j] (List.getElem?_eq_getElem hj)]
  simp[hj]
 ·exfalso
  rw[ns] at hg
  split at hg
  ·cases hs:(c6 g.ps v)[r]? with
   | none=>rw[hs] at hg;cases hg
   | some s=>
    rw[hs] at hg
    obtain ⟨y,_,_,q3,_⟩:=g2 r s hs
    exact hl r (q3 t m H v' hg)
  ·cases hg
 ·obtain ⟨_,rfl,hj⟩:=C7 g.ps 0 j k true hm
  have oT:j < (c6 g.ps v).length:=by omega
  have hs:=List.getElem?_eq_getElem oT
  obtain ⟨y,q1,q2,_,q4⟩:=g2 j _ hs
  obtain ⟨t,m,H,v',e⟩:=q4 hm
  have SV:j < n:=by omega
  rw[ns,if_pos SV,hs] at hR
  simp only[e,bn,Option.some.injEq] at hR
  subst hR
  rw[Kt j y q1]
  have Y:=q2 (tf g.ps v n) { tmps:=#[],defers:=[] }
  rw[e] at Y
  obtain ⟨cs,c1,c2⟩:=Y
  have:=fB (ak.length _ c2) (ak.one _ c2)
  show bj t y.cells.toList=_
  rw[c1,this,<- c1]
  have Oe:=(List.getElem?_eq_some_iff.1 q1)
  obtain ⟨Oe,e2⟩:=Oe
  simp[Oe,e2]
noncomputable def BI (P:Program) (E:Env) (fn:Func) (ps:List (PM×Ty)) (rs:List (Ty×Md)) (es:List Nat):Bool:=
 codeOk P E (vv fn)&&xT E rs fn.results.toList&&xU ps&&Nat.ble ps.length fn.ntmps&&decide es.Nodup
theorem Br (hE:mt P E) {f:FuncId} {fn:Func} (hf:P.funcs[f]?=some fn) (hb:fn.body.isSome=true) {g:ni} {es fr:List Nat} (aA:BI P E fn g.ps g.rs es=true) (hF:∀ v out,g.F v=some out->∃ k,BA E k fn g.ps g.rs es fr v=some out):Sound P f g:=by
 intro w A F0 v xs f_ h1 Y h3 out kA
 obtain ⟨k,hk⟩:=hF v out kA
 simp only[BI,Bool.and_eq_true,Nat.ble_eq,decide_eq_true_eq] at aA
 obtain ⟨⟨⟨⟨L2,zb⟩,nw⟩,LC⟩,mj⟩:=aA
 obtain ⟨c,hc⟩:=Option.isSome_iff_exists.1 hb
 have Ih:vv fn=c:=by simp[vv,hc]
 rw[Ih] at L2
 obtain ⟨F,Kq⟩:=Ks f_ nw LC h1 Y h3
 unfold BA at hk
 rw[Ih] at hk
 have Qm:=xV g.ps f_
 have Of:∀ (a':Act) (w':World) (σ':St),B8 g.ps g.rs es fn.results.toList (Ln fr) σ'=some out->vN P { w0:=w,A0:=A,F0:=F0,args:=xs.toArray } σ' a' w' ->
   a'.defers=[]/\∃ rv,(results fn a'.tmps).run P w'=.ok rv w'/\(∃ Qn,Ending.returned rv=.returned Qn/\Ext w w' F0/\∃ (A':Cells) (G GR GM:FP),(∀ b i,A b i->A' b i)/\(∀ b i,A' b i->A b i\/1<=F0 b i\/w.heap.size<=b) /\
    (∀ b i,1<=G b i->1<=F0 b i\/w.heap.size<=b)/\(∀ b i,G b i<=1)/\(∀ b i,1<=G b i->¬ A' b i)/\(∀ b i,1<=G b i\/A' b i->b < w'.heap.size)/\(∀ b i,GR b i+GM b i<=G b i) /\
    iw P w' A' (f0 g.rs out).1 Qn GR/\iU P w' A' g.ps (f0 g.rs out).2 xs GM):=by
  intro a' w' σ' ho hr
  obtain ⟨A1,F1,hr⟩:=hr
  unfold B8 at ho
  obtain ⟨A2,eP,X2,F2,ul,L,Fi,pre,r1,r2,r3,r4,r5,r6,r7,r8,r9⟩:=Ob hE g.rs fn.results.toList 0 zb hr ho
  obtain ⟨vs,us,Gi,m1,m2,m3,m4,m5,m6⟩:=MP r2 0 g.ps es nw mj (by simp[Qm]) r3
  have Rc:pre vs=out:=Option.some.inj m1
  have jE:f0 g.rs out=(L,vs):=by rw[<-Rc,r4]
  have I6:∀ b i,az L.length Fi b i<=X2 b i:=fun b i=>by have:=r8 b i;omega
  have Rd:∀ b i,il Gi us b i<=il F2 us b i:=fun b i=>by
   have:∀ l:List Nat,(∀ j ∈ l,j ∈ us)->il Gi l b i<=il F2 l b i:=by
    intro l
    induction l with
    | nil=>intro _;exact Nat.le_refl _
    | cons j l ih=>
     intro hl
     have:=m5 j b i (hl j List.mem_cons_self)
     have:=ih fun j' oT=>hl j' (List.mem_cons_of_mem _ oT)
     simp only[il];omega
   exact this us fun _ h=>h
  have I7:∀ b i,il Gi us b i<=az eP.n F2 b i:=fun b i=>Nat.le_trans (Rd b i) (FH us F2 m3 m4 b i)
  refine ⟨r2.defers,_,En (by rw[r6]) r7,_,rfl,r2.ext,?_⟩
  obtain ⟨A3,kH⟩:∃ A3:Cells,∀ b i,A3 b i↔(A2 b i\/(1<=X2 b i+az eP.n F2 b i/\az L.length Fi b i+il Gi us b i=0)):=⟨fun b i=>A2 b i\/(1<=X2 b i+az eP.n F2 b i/\az L.length Fi b i+il Gi us b i=0),fun _ _=>Iff.rfl⟩
  have Ku:∀ b i,A2 b i->A3 b i:=fun b i h=>(kH b i).2 (.inl h)
  have jj:∀ b i,X2 b i+az eP.n F2 b i<=1:=fun b i=>r2.iW b i
  refine ⟨A3,fun b i=>az L.length Fi b i+il Gi us b i,az L.length Fi,il Gi us,fun b i ha=>Ku b i (r2.a0 b i ha),fun b i ha=>?_,fun b i hp=>?_,fun b i=>?_,fun b i hp ha=>?_,fun b i hp=>?_,fun _ _=>Nat.le_refl _,?_,?_⟩
  ·rcases (kH b i).1 ha with ha | ⟨hp,_⟩
   ·exact r2.a1 b i ha
   ·exact .inr (r2.own b i hp)
  ·have hp:1<=az L.length Fi b i+il Gi us b i:=hp
   exact r2.own b i (by have:=I6 b i;have:=I7 b i;omega)
  ·show az L.length Fi b i+il Gi us b i<=1
   have:=I6 b i;have:=I7 b i;have:=jj b i;omega
  ·have hp:1<=az L.length Fi b i+il Gi us b i:=hp
   rcases (kH b i).1 ha with ha | ⟨_,hz⟩
   ·exact r2.jK b i (by have:=I6 b i;have:=I7 b i;omega) ha
   ·omega
  ·rcases hp with hp | ha
   ·have hp:1<=az L.length Fi b i+il Gi us b i:=hp
    exact r2.ek b i (.inl (by have:=I6 b i;have:=I7 b i;omega))
   ·rcases (kH b i).1 ha with ha | ⟨hp,_⟩
    ·exact r2.ek b i (.inr ha)
    ·exact r2.ek b i (.inl hp)
  ·rw[jE]
   have C9:=r9 A3 Ku (fun b i hx _ hz=>(kH b i).2 (.inr ⟨by omega,by
    have:=I7 b i;have:=jj b i;omega⟩))
   show iw P w' A3 L _ _
   match L,r5,C9 with
   | [],_,_=>trivial
   | [y],hl,C9=>
    match ul,hl with
    | [u],_=>
     obtain ⟨u',cs,e1,e2,e3⟩:=C9 0 y rfl
     injection e1 with e1
     subst e1
     refine ⟨cs,by simpa using e2,e3.le fun b i=>by simp[az]⟩
   | y::z::L,hl,C9=>
    refine ⟨ul.toArray,Fi,?_,fun _ _=>Nat.le_refl _,fun j q hq=>?_⟩
    ·rw[dif_neg]
     simp only[List.size_toArray,hl,List.length_cons];omega
    ·obtain ⟨u,cs,e1,e2,e3⟩:=C9 j q hq
     exact ⟨u,cs,by simpa using e1,e2,e3⟩
  ·rw[jE]
   refine m6 A3 Ku fun i b k' hi hp hz=>(kH b k').2 (.inr ⟨by have:=bi F2 (m4 i hi) b k';omega,?_⟩)
   have h4:=bi F2 (m4 i hi) b k'
   have h5:=jj b k'
   have h6:=I6 b k'
   have h7:il Gi us b k'=0:=by
    rcases Nat.eq_zero_or_pos (il Gi us b k') with h0 | h0
    ·exact h0
    ·obtain ⟨j,hj,LQ⟩:=C3 h0
     by_cases jt:j=i
     ·subst jt;omega
     ·have:=m5 j b k' hj
      have:=nk F2 (m4 j hj) (m4 i hi) jt b k'
      omega
   omega
 refine calls_of_wp hf hc (wp_mono (MO hE c L2 Kq hk) fun e a' w' hq=>?_)
 cases e with
 | normal=>obtain ⟨σ',h4,h5⟩:=hq;exact Of a' w' σ' h4 h5
 | ret=>obtain ⟨σ',h4,h5⟩:=hq;exact Of a' w' σ' h4 h5
 | exit j=>obtain ⟨σ',h4,h5⟩:=hq;cases h4
 | _=>exact hq.elim
end
end OT
set_option linter.unusedVariables false
set_option linter.unusedSimpArgs false
namespace OT
open Go
def C_ (w:World):Cells:=fun b _=>b < w.heap.size
def sY:Ty->Bool
 | .int _ | .bool | .str | .unit=>true
 | .pair a b=>sY a&&sY b
 | .U e=>sY e
 | _=>false
def ka:(T:Ty)->T.den->Prop
 | .int k,n=>k.min<=jD k n/\jD k n<=k.max
 | .str,s=>List.length s<=maxLen
 | .pair a b,v=>ka a v.1/\ka b v.2
 | .U e,v=>List.length v<=maxLen/\∀ x ∈ (v:List e.den),ka e x
 | _,_=>True
def I8:(ps:List (PM×Ty))->(bM (ps.map (·.2))).den->Prop
 | [],_=>True
 | (_,T)::ps,v=>ka T v.1/\I8 ps v.2
section
variable {P:Program} {w:World} {H:Type} {enc:TypeId×Value->H}
theorem xW {T:Ty} {i:TypeId} (h:aD P T (.inl i)=true):P.cellsOf i=T.sz:=by
 obtain ⟨inf,h1,Y,_⟩:=eQ (gu h)
 simp[Program.cellsOf,h1,Y]
theorem Kv {a:Addr} {k:Nat} {u:Value} (h:w.cell? (a.add k)=some u) (hk:k=0\/a.spot=none):a.spot=none:=by
 rcases hk with rfl | hk
 ·unfold Addr.add at h
  rw[if_pos rfl] at h
  unfold World.cell? at h
  split at h
  ·split at h
   ·cases h
   ·rename_i hs
    cases jE:a.spot with
    | none=>rfl
    | some s=>rw[jE] at hs;simp at hs
  ·cases h
 ·exact hk
theorem MR:∀ (T:Ty),sY T=true ->
  (∀ i,aD P T (.inl i)=true->∀ fuel cs x,DataW.trod enc P w 0 (fun _=>true) true fuel i cs=some x->∃ v:T.den,ka T v/\Ro P w (C_ w) T v cs) /\
  (∀ fs off,aD P T (.inr (fs,off))=true->∀ n (cs:List Value),cs.length=off+T.sz->(∀ f ∈ fs,∃ x,DataW.trod enc P w 0 (fun _=>true) true n f.type ((cs.drop f.offset).take (P.cellsOf f.type))=some x)->∃ v:T.den,ka T v/\Ro P w (C_ w) T v (cs.drop off)):=by
 intro T
 induction T with
 | int k=>
  intro _
  refine ⟨fun i hl fuel cs x h=>?_,fun fs off hl=>by simp[aD] at hl⟩
  obtain ⟨n,rfl,_,I9⟩:=DataW.trod_int (j0 hl) h
  simp only[Lit.wf,Bool.and_eq_true,decide_eq_true_eq] at I9
  cases k with
  | u8=>
   have h1:jD .u8 (UInt8.ofInt n)=n:=by
    have:=Ae .u8 n (fun _=>by
     have h1:(0:Int)<=n:=I9.1
     have Y:n<=(255:Int):=I9.2
     omega)
    exact this
   refine ⟨(UInt8.ofInt n:UInt8),?_,?_⟩
   ·show IntKind.u8.min<=jD .u8 (UInt8.ofInt n)/\jD .u8 (UInt8.ofInt n)<=IntKind.u8.max
    rw[h1];exact I9
   ·show [Value.int .u8 n]=[Value.int .u8 (jD .u8 (UInt8.ofInt n))]
    rw[h1]
  | _=>exact ⟨n,I9,rfl⟩
 | bool=>
  intro _
  refine ⟨fun i hl fuel cs x h=>?_,fun fs off hl=>by simp[aD] at hl⟩
  have hu:P.underlying i=some .bool:=by
   simp only[aD,Bool.and_eq_true] at hl
   have Y:=hl.2
   split at Y
   ·assumption
   ·cases Y
  obtain ⟨b,rfl,_⟩:=DataW.trod_bool hu h
  exact ⟨b,trivial,rfl⟩
 | str=>
  intro _
  refine ⟨fun i hl fuel cs x h=>?_,fun fs off hl=>by simp[aD] at hl⟩
  obtain ⟨s,rfl,_,SW⟩:=DataW.trod_string (gj hl) h
  exact ⟨s.data.toList,(by show s.data.toList.length<=maxLen;rw[Array.length_toList];exact SW),by simp only[Ro]⟩
 | unit=>
  intro _
  refine ⟨fun i hl fuel cs x h=>?_,fun fs off hl n cs hlen _=>⟨(),trivial,?_⟩⟩
  ·simp only[aD,Bool.and_eq_true] at hl
   have Y:=hl.2
   split at Y
   ·rename_i fs hu
    obtain ⟨xs,n,_,_,hlen,_⟩:=DataW.trod_struct hu h
    have eC:P.cellsOf i=0:=by
     obtain ⟨inf,h1,h3,_⟩:=eQ hl.1
     simp[Program.cellsOf,h1,h3,Ty.sz]
    rw[eC] at hlen
    exact ⟨(),trivial,by simp only[Ro];exact List.eq_nil_of_length_eq_zero hlen⟩
   ·cases Y
  ·simp only[Ro]
   exact List.drop_of_length_le (by simp only[Ty.sz] at hlen;omega)
 | pair a b ej d6=>
  intro ha
  simp only[sY,Bool.and_eq_true] at ha
  have Og:∀ fs off,aD P (.pair a b) (.inr (fs,off))=true->∀ n (cs:List Value),cs.length=off+(Ty.pair a b).sz->(∀ f ∈ fs,∃ x,DataW.trod enc P w 0 (fun _=>true) true n f.type ((cs.drop f.offset).take (P.cellsOf f.type))=some x)->∃ v:(Ty.pair a b).den,ka (.pair a b) v/\Ro P w (C_ w) (.pair a b) v (cs.drop off):=by
   intro fs off hl n cs hlen hf
   cases fs with
   | nil=>simp[aD] at hl
   | cons f r=>
    simp only[aD,Bool.and_eq_true,Nat.beq_eq,Nat.ble_eq] at hl
    obtain ⟨⟨⟨ho,_⟩,h1⟩,Y⟩:=hl
    simp only[Ty.sz] at hlen
    obtain ⟨x,hx⟩:=hf f List.mem_cons_self
    rw[ho,xW h1] at hx
    obtain ⟨v1,o1,r1⟩:=(ej ha.1).1 _ h1 _ _ _ hx
    obtain ⟨v2,o2,r2⟩:=(d6 ha.2).2 r (off+a.sz) Y n cs (by omega) (fun f' L3=>hf f' (List.mem_cons_of_mem _ L3))
    exact ⟨(v1,v2),⟨o1,o2⟩,r1,by rw[List.drop_drop];exact r2⟩
  refine ⟨fun i hl fuel cs x h=>?_,Og⟩
  have P0:=hl
  simp only[aD,Bool.and_eq_true] at hl
  have Y:=hl.2
  split at Y
  ·rename_i fs hu
   split at Y
   ·rename_i f r vQ
    have h3:aD P (.pair a b) (.inr (f::r,0))=true:=by
     simp only[aD,Nat.zero_add];exact Y
    obtain ⟨xs,n,_,_,hlen,Qm,MS⟩:=DataW.trod_struct hu h
    rw[xW P0] at hlen
    have:=Og (f::r) 0 h3 n cs (by omega) (fun f' L3=>by
     rw[<-vQ] at L3
     obtain ⟨j,hj,e⟩:=List.mem_iff_getElem.1 L3
     have oT:j < fs.size:=by simpa using hj
     have:=MS j f' (by rw[Array.getElem?_eq_getElem oT];simpa using e)
     rw[this,List.getElem?_eq_getElem (by omega)]
     exact ⟨_,rfl⟩)
    simpa using this
   ·cases Y
  ·cases Y
 | U e ih=>
  intro ha
  simp only[sY] at ha
  refine ⟨fun i hl fuel cs x h=>?_,fun fs off hl=>by simp[aD] at hl⟩
  obtain ⟨el,hu,eC,hle⟩:=mV hl
  rcases DataW.trod_slice hu h with ⟨rfl,_⟩ | ⟨a,len,cap,elems,rest,n,_,rfl,_,_,PV,Qo,iC,Kw,j6,_⟩
  ·exact ⟨[],⟨Nat.zero_le _,fun x hx=>by cases hx⟩,none,0,rfl,Nat.le_refl _,fun _=>rfl,fun ad e=>by cases e⟩
  ·rw[xW hle] at Kw j6
   have lU:∀ k y,(w.cells? 0 (a.add (k*e.sz)) e.sz).bind (DataW.trod enc P w 0 (fun _=>true) true n el)=some y->∃ aM,w.cells? 0 (a.add (k*e.sz)) e.sz=some aM/\DataW.trod enc P w 0 (fun _=>true) true n el aM=some y:=fun k y hk=>by
    cases hc:w.cells? 0 (a.add (k*e.sz)) e.sz with
    | none=>rw[hc] at hk;cases hk
    | some aM=>rw[hc] at hk;exact ⟨aM,rfl,hk⟩
   have L4:0 < cap->a.spot=none:=fun Ad=>by
    have CF:∃ aM,w.cells? 0 (a.add (0*e.sz)) e.sz=some aM:=by
     by_cases hlen:0 < len
     ·have h0:=Kw 0 hlen
      rw[List.getElem?_eq_getElem (by omega)] at h0
      obtain ⟨aM,h1,_⟩:=lU 0 _ h0
      exact ⟨aM,h1⟩
     ·obtain rfl:len=0:=by omega
      obtain ⟨np,oc⟩:=j6 rfl
      have h0:=oc 0 (by omega)
      rw[List.getElem?_eq_getElem (by omega)] at h0
      obtain ⟨aM,h1,_⟩:=lU (0+0) _ h0
      exact ⟨aM,by simpa using h1⟩
    obtain ⟨aM,h1⟩:=CF
    obtain ⟨_,CA,Y⟩:=World.cells?_some h1
    have h3:=Y 0 (by omega)
    rw[List.getElem?_eq_getElem (by omega),Nat.zero_mul] at h3
    have h4:(a.add 0).add 0=a.add 0:=by unfold Addr.add;simp
    rw[h4] at h3
    exact Kv h3 (.inl rfl)
   have each:∀ k:Fin len,∃ v:e.den,ka e v/\∃ L:List Value,L.length=e.sz/\(∀ j u,L[j]?=some u->ce w a.block (a.off+k.val*e.sz+j)=some u/\C_ w a.block (a.off+k.val*e.sz+j))/\Ro P w (C_ w) e v L:=fun k=>by
    have h0:=Kw k.val k.isLt
    rw[List.getElem?_eq_getElem (by have:=k.isLt;omega)] at h0
    obtain ⟨aM,h1,Y⟩:=lU k.val _ h0
    obtain ⟨v,ho,hv⟩:=(ih ha).1 _ hle _ _ _ Y
    obtain ⟨_,CA,h3⟩:=World.cells?_some h1
    refine ⟨v,ho,aM,CA,fun j u hu=>?_,hv⟩
    have hj:=(List.getElem?_eq_some_iff.1 hu).1
    have h4:=h3 j (by omega)
    rw[hu] at h4
    have jE:=L4 (by have:=k.isLt;omega)
    obtain ⟨b,off,sp⟩:=a
    simp only at jE
    subst jE
    rw[kf,kf] at h4
    have h5:ce w b (off+k.val*e.sz+j)=some u:=wO h4 (Ro.one e hv u (List.mem_of_getElem? hu))
    exact ⟨h5,ph h5⟩
   obtain ⟨f,hf⟩:=Classical.axiomOfChoice each
   refine ⟨List.ofFn f,⟨by simp;omega,fun x hx=>?_⟩,some a,cap,by simp,by simpa using PV,(fun e=>by cases e),fun ad e=>?_⟩
   ·obtain ⟨j,rfl⟩:=List.mem_ofFn.1 hx
    exact (hf j).1
   injection e with e
   subst e
   refine ⟨L4,fun k y hk=>?_⟩
   rw[List.getElem?_ofFn] at hk
   split at hk
   ·rename_i aj
    injection hk with hk
    subst hk
    exact (hf ⟨k,aj⟩).2
   ·cases hk
 | _=>intro ha;simp[sY] at ha
theorem arg_val {T:Ty} (ha:sY T=true) {i:TypeId} (hl:aD P T (.inl i)=true) {r:Reach} {b0:Nat} {v:Value} (h:Value.okWide P w r b0 i v):v=bj T v.cells.toList:=by
 cases T with
 | int k=>
  have hu:=j0 hl
  cases v <;> simp[Value.okWide,Cell.okWide,Cell.ok,hu] at h <;> simp[bj,isAgg,Value.cells]
 | bool=>
  have hu:P.underlying i=some .bool:=by
   simp only[aD,Bool.and_eq_true] at hl
   have Y:=hl.2
   split at Y
   ·assumption
   ·cases Y
  cases v <;> simp[Value.okWide,Cell.okWide,Cell.ok,hu] at h <;> simp[bj,isAgg,Value.cells]
 | str=>
  have hu:=gj hl
  cases v <;> simp[Value.okWide,Cell.okWide,Cell.ok,hu] at h <;> simp[bj,isAgg,Value.cells]
 | U e=>
  obtain ⟨el,hu,_⟩:=mV hl
  cases v <;> simp[Value.okWide,Cell.okWide,Cell.ok,hu] at h <;> simp[bj,isAgg,Value.cells]
 | unit=>
  simp only[aD,Bool.and_eq_true] at hl
  have Y:=hl.2
  split at Y
  ·rename_i fs hu
   simp only[Value.okWide,hu] at h
   obtain ⟨cs,rfl,_⟩:=h
   simp[bj,isAgg,Value.cells]
  ·cases Y
 | pair a b=>
  simp only[aD,Bool.and_eq_true] at hl
  have Y:=hl.2
  split at Y
  ·rename_i fs hu
   simp only[Value.okWide,hu] at h
   obtain ⟨cs,rfl,_⟩:=h
   simp[bj,isAgg,Value.cells]
  ·cases Y
 | _=>simp[sY] at ha
def sC (P:Program):List (PM×Ty)->List TypeId->Bool
 | [],[]=>true
 | (.ro,T)::ps,t::ts=>sY T&&aD P T (.inl t)&&P.readableRec t&&Nat.blt t P.types.size&&sC P ps ts
 | _,_=>false
theorem FI:∀ (ps:List (PM×Ty)) (ts:List TypeId) (args:List Value) (ds:List (DataW H)) (p:List MemPlace) {b0:Nat},sC P ps ts=true->DataW.TrodAll enc P w 0 (fun _=>true) true ts args ds p ->
  (∀ (j:Nat) t v,ts[j]?=some t->args[j]?=some v->Value.okWide P w .any b0 t v)->∃ v,I8 ps v/\ln P w (C_ w) ps v args (fun _ _=>0)
 | [],[],args,ds,p,b0,_,h,_=>by
  cases args with
  | nil=>exact ⟨(),trivial,rfl⟩
  | cons _ _=>simp[DataW.TrodAll] at h
 | (.ro,T)::ps,t::ts,args,ds,p,b0,hl,h,aA=>by
  simp only[sC,Bool.and_eq_true] at hl
  cases args with
  | nil=>simp[DataW.TrodAll] at h
  | cons v args=>
   cases ds with
   | nil=>simp[DataW.TrodAll] at h
   | cons d ds=>
    obtain ⟨p1,q1,⟨fuel,h1⟩,Y,_⟩:=h
    obtain ⟨x,SX,hx⟩:=(MR T hl.1.1.1.1).1 t hl.1.1.1.2 _ _ _ h1
    obtain ⟨xs,Re,SY⟩:=FI ps ts args ds q1 (b0:=b0) hl.2 Y (fun j t' v' ht hv=>aA (j+1) t' v' ht hv)
    exact ⟨(x,xs),⟨SX,Re⟩,v,args,fun _ _=>0,fun _ _=>0,rfl,fun _ _=>Nat.le_refl _,⟨_,arg_val hl.1.1.1.1 hl.1.1.1.2 (aA 0 t v rfl rfl),hx⟩,SY⟩
theorem AS (tm:laidOutB P=true) {W W':World} (hb:RowKit.Below W.heap.size W W') {sp:Nat->Bool}:∀ (ps:List (PM×Ty)) (ts:List TypeId) (args:List Value) (ds:List (DataW H)) (p:List MemPlace),sC P ps ts=true->DataW.TrodAll enc P W 0 (fun _=>true) true ts args ds p ->
  (∀ x ∈ p,x.block < W.heap.size)->(∀ x ∈ p,sp x.block=true)->DataW.TrodAll enc P W' 0 sp true ts args ds p
 | [],[],args,ds,p,_,h,_,_=>by
  cases args with
  | nil=>
   cases ds with
   | nil=>exact h
   | cons _ _=>simp[DataW.TrodAll] at h
  | cons _ _=>simp[DataW.TrodAll] at h
 | (.ro,T)::ps,t::ts,args,ds,p,hl,h,aj,jE=>by
  simp only[sC,Bool.and_eq_true] at hl
  cases args with
  | nil=>simp[DataW.TrodAll] at h
  | cons v args=>
   cases ds with
   | nil=>simp[DataW.TrodAll] at h
   | cons d ds=>
    obtain ⟨p1,q1,h1,Y,rfl⟩:=h
    have ht:t < P.types.size:=by have:=hl.1.2;rwa [Nat.blt_eq] at this
    exact ⟨p1,q1,WideElems.Trod_stays tm hl.1.1.2 ht h1 (fun x hx=>hb.same (aj x (List.mem_append_left _ hx))) (fun x hx=>jE x (List.mem_append_left _ hx)),
     AS tm hb ps ts args ds q1 hl.2 Y (fun x hx=>aj x (List.mem_append_right _ hx)) (fun x hx=>jE x (List.mem_append_right _ hx)),rfl⟩
theorem I_ {f:FuncId} {cap:Bool} {ps:List (PM×Ty)} {Fn:(bM (ps.map (·.2))).den->Option (bM ([((Ty.bool,av .bool):Ty×Md)].map (·.1)++eU ps)).den} (hs:Sound P f { cap:=cap,ps:=ps,rs:=[(.bool,av .bool)],F:=Fn }) (GO:∀ v,I8 ps v->∃ u,Fn v=some (true,u))
  {ts:List TypeId} (hl:sC P ps ts=true) {args:List Value} {ds:List (DataW H)} {p:List MemPlace} (hA:DataW.TrodAll enc P w 0 (fun _=>true) true ts args ds p) {b0:Nat} (aA:∀ (j:Nat) t v,ts[j]?=some t->args[j]?=some v->Value.okWide P w .any b0 t v) :
  Calls P f args.toArray w fun e W'=>e=.returned (.bool true)/\RowKit.Below w.heap.size w W':=by
 obtain ⟨v,NJ,hv⟩:=FI ps ts args ds p hl hA aA
 obtain ⟨u,hu⟩:=GO v NJ
 refine (hs w (C_ w) (fun _ _=>0) v args hv (fun _ _=>Nat.zero_le _) (fun b i h=>by omega) (fun b i h=>?_) _ hu).mono fun e W' h=>?_
 ·rcases h with h | h
  ·omega
  ·exact h
 ·obtain ⟨rv,rfl,ct,A',G,GR,GM,_,_,_,_,_,_,_,mY,_⟩:=h
  obtain ⟨cs,h1,Y⟩:=mY
  simp only[f0] at h1 Y
  have Y:cs=[.bool true]:=Y
  subst Y
  exact ⟨by rw[h1];rfl,ct.os,ct.tape,ct.output,ct.size,fun b hb=>ct.obj b hb fun _=>rfl⟩
theorem Kx {C:Checked} {f:Func} {s:ChangeSpec} {W W':World} {args:Array Value} {ds:List (DataW H)} {p:List MemPlace} {apart fresh handsOn:Bool} (tm:laidOutB P=true) {ps:List (PM×Ty)} {ts:List TypeId} (SZ:f.params.toList=ts) (hl:sC P ps ts=true) {tb:TypeId} (hr:f.resultTypes=#[tb]) (hu:P.underlying tb=some .bool)
  (Pb:s.vars=[]) (hW:DataW.Whole enc P f.params.toList s.vars apart W args.toList ds [] p) (hA:DataW.TrodAll enc P W 0 (fun _=>true) true ts args.toList ds p) (Ja:s.fn H (ds++[])={ results:=[.lit (.bool true)],args:=ds }) (hb:RowKit.Below W.heap.size W W') :
  s.post enc P f apart fresh handsOn false W args (.bool true) W':=by
 have aj:∀ x ∈ p,x.block < W.heap.size:=fun x hx=>by simpa using hW.lt x hx
 refine ⟨ds,[],p,[],p,[],hW,?_,?_,?_,World.keptBut_mono (fun x hx=>⟨hx,.inr (.inl hx)⟩) (hb.frame (· ∈ p)),fun e=>by cases e⟩
 ·rw[Ja,hr]
  exact ⟨[],[],RowKit.shut_bool hu true,rfl,rfl⟩
 ·rw[Ja,SZ]
  exact AS tm hb ps ts args.toList ds p hl hA aj (fun x hx=>by simpa using aj x hx)
 ·rw[Ja,Pb]
  rfl
end
end OT
namespace OT
open Go
def GP (P:Program) (l:List (Nat×Ty)):Bool:=l.all fun p=>aD P p.2 (.inl p.1)
def BJ (P:Program) (l:List (Nat×Ty)):Bool:=l.all fun p=>!(p.2.ii&&isAgg p.2)||(kJ P p.2 (.inl p.1)&&(P.eqGuardType P.depth p.1 == false)&&Nat.ble (dep p.2) 10000)
theorem xX {α:Type}:∀ {l:List (Nat×α)} {i:Nat} {x:α},gm l i=some x->(i,x) ∈ l
 | (k,y)::l,i,x,h=>by
  simp only[gm] at h
  split at h
  ·rename_i hk
   injection h with h
   rw[Nat.eq_of_beq_eq_true hk,h];exact List.mem_cons_self
  ·exact List.mem_cons_of_mem _ (xX h)
def wb (P:Program) (l:List (Nat×ni)):Prop:=∀ f g,gm l f=some g->Sound P f g/\oU P f g.cap
theorem ai (P:Program):wb P []:=fun f g h=>by cases h
theorem MT {P:Program} {f:Nat} {g:ni} {l:List (Nat×ni)} (h1:Sound P f g) (Y:oU P f g.cap) (h3:wb P l):wb P ((f,g)::l):=fun f' g' h=>by
 simp only[gm] at h
 split at h
 ·rename_i hk
  injection h with h
  subst h
  rw[<-Nat.eq_of_beq_eq_true hk]
  exact ⟨h1,Y⟩
 ·exact h3 f' g' h
theorem Oh {P:Program} {E:Env} {tl:List (Nat×Ty)} {gl:List (Nat×ni)} (h1:E.TI=gm tl) (Y:E.G=gm gl) (h3:GP P tl=true) (h4:BJ P tl=true) (h5:wb P gl):mt P E where
 ti i T h:=by rw[h1] at h;exact List.all_eq_true.1 h3 _ (xX h)
 eq i T h hq ha:=by
  rw[h1] at h
  have:=List.all_eq_true.1 h4 _ (xX h)
  simp only[hq,ha,Bool.and_self,Bool.not_true,Bool.false_or,Bool.and_eq_true,beq_iff_eq,Nat.ble_eq] at this
  exact ⟨this.1.1,this.1.2,this.2⟩
 fn f g h:=by rw[Y] at h;exact h5 f g h
def Ok (P:Program) (f:FuncId) (g:ni):Prop:=Sound P f g/\oU P f g.cap
theorem fc {P:Program} {f:Nat} {g:ni} {l:List (Nat×ni)} (h:Ok P f g) (h3:wb P l):wb P ((f,g)::l):=MT h.1 h.2 h3
def Da (fn:Func) (cap:Bool):Bool:=!(fn.name == "runtime.NumGoroutine")&&!fn.body.isNone&&Nat.beq fn.nfree (match cap with | true=>1 | false=>0)
noncomputable def okB (P:Program) (E:Env) (fn:Func) (ps:PQ) (rs:RQ) (es:List Nat) (cap:Bool) (tl:TL):Bool:=(GP P tl&&BJ P tl)&&(Da fn cap&&BI P E fn ps rs es)
theorem Pc {P:Program} {E:Env} {f:FuncId} {fn:Func} (hf:P.funcs[f]?=some fn) {g:ni} {es fr:List Nat} {tl:TL} {gl:GL} (h1:E.TI=gm tl) (Y:E.G=gm gl) (aA:okB P E fn g.ps g.rs es g.cap tl=true) (hg:wb P gl) (hF:∀ v,g.F v=lift fun k=>BA E k fn g.ps g.rs es fr v):Ok P f g:=by
 simp only[okB,Da,Bool.and_eq_true,Bool.not_eq_true',Nat.beq_eq] at aA
 obtain ⟨⟨a1,a2⟩,⟨⟨b1,b2⟩,b3⟩,c⟩:=aA
 have hb:fn.body.isSome=true:=by
  cases h:fn.body with
  | none=>rw[h] at b2;cases b2
  | some _=>rfl
 exact ⟨Br (Oh h1 Y a1 a2 hg) hf hb c fun v out h=>H8 (by rw[<-hF];exact h),fn,hf,b1,b2,b3⟩
structure FD where
 fn:Func
 tl:TL
 ps:PQ
 rs:RQ
 gl:GL:=[]
 es:List Nat:=[]
 fr:List Nat:=[]
 cap:Bool:=false
 fz:List (Nat×Nat×Nat):=[]
 lv:List (Nat×List Nat):=[]
 lx:List (Nat×List Nat):=[]
 lf:List (Nat×List (Nat×Md)):=[]
 od:List (Nat×List Nat):=[]
 ar:List (Nat×List Nat):=[]
 bx:List (Nat×List Nat):=[]
 pd:List (Nat×List Nat):=[]
 er:List (Nat×List (Nat×Nat)):=[]
noncomputable def FD.E (D:FD):Env:={ TI:=gm D.tl,G:=gm D.gl,fz:=D.fz,lv:=D.lv,lx:=D.lx,lf:=D.lf,od:=D.od,ar:=D.ar,bx:=D.bx,pd:=D.pd,er:=D.er }
noncomputable def FD.W (D:FD) (k:Nat) (a:(bM (D.ps.map (·.2))).den):Option (bM (D.rs.map (·.1)++eU D.ps)).den:=BA D.E k D.fn D.ps D.rs D.es D.fr a
noncomputable def FD.F (D:FD) (a:(bM (D.ps.map (·.2))).den):Option (bM (D.rs.map (·.1)++eU D.ps)).den:=lift fun k=>D.W k a
noncomputable def FD.sig (D:FD):ni:={ cap:=D.cap,ps:=D.ps,rs:=D.rs,F:=D.F }
noncomputable def FD.fin (D:FD):St->Option (bM (D.rs.map (·.1)++eU D.ps)).den:=B8 D.ps D.rs D.es D.fn.results.toList (Ln D.fr)
noncomputable def FD.K0 (D:FD):KT (bM (D.rs.map (·.1)++eU D.ps)).den:=M_ D.fin
noncomputable def FD.N (D:FD) (k:Nat) (p:List Nat):St->KT (bM (D.rs.map (·.1)++eU D.ps)).den->Option (bM (D.rs.map (·.1)++eU D.ps)).den:=m8 D.E k D.fin (sub p (vv D.fn))
noncomputable def FD.L (D:FD) (k:Nat) (p live:List Nat) (rB:List (Nat×Md)) (K:KT (bM (D.rs.map (·.1)++eU D.ps)).den) (σ:St):Option (bM (D.rs.map (·.1)++eU D.ps)).den:=tP (D.N k p) (cu live rB) K k σ
theorem am {P:Program} {D:FD} {f:FuncId} (hf:P.funcs[f]?=some D.fn) (ht:(GP P D.tl&&BJ P D.tl)=true) (aA:(Da D.fn D.cap&&BI P D.E D.fn D.ps D.rs D.es)=true) (hg:wb P D.gl):Ok P f D.sig:=
 Pc (es:=D.es) (fr:=D.fr) (tl:=D.tl) (gl:=D.gl) (E:=D.E) hf rfl rfl (by rw[okB,ht,Bool.true_and];exact aA) hg fun _=>rfl
end OT
namespace OT
open Go
theorem aR {n:Int} (h:-9223372036854775808<=n/\n<=9223372036854775807):ae n=n:=by
 unfold ae
 rw[IntKind.wrap_i64]
 omega
theorem ah:maxLen=9223372036854775807:=by simp[maxLen]
theorem qR {V R:Type} {B:(V->Option R)->V->Option R} (f:V->R) (I:V->Prop) (μ:V->Nat)
  (h:∀ v,I v->∀ self,B self v=some (f v)\/∃ v',B self v=self v'/\f v'=f v/\I v'/\μ v' < μ v):∀ (k:Nat) (v:V),I v->μ v < k->al B k v=some (f v)
 | 0,v,_,hk=>by omega
 | k+1,v,hI,hk=>by
  show B (al B k) v=some (f v)
  rcases h v hI (al B k) with h1 | ⟨v',h1,Y,h3,h4⟩
  ·exact h1
  ·rw[h1,qR f I μ h k v' h3 (by omega),Y]
def kg {α:Type} (e:α->α->Bool) (xs ys:List α):Bool:=(xs.zip ys).all fun p=>e p.1 p.2
theorem Jb {α:Type} (e:α->α->Bool) (xs ys:List α) (i:Nat) (hx:i < xs.length) (hy:i < ys.length):kg e (xs.drop i) (ys.drop i)=(e xs[i] ys[i]&&kg e (xs.drop (i+1)) (ys.drop (i+1))):=by
 unfold kg
 rw[List.drop_eq_getElem_cons hx,List.drop_eq_getElem_cons hy]
 simp only[List.zip_cons_cons,List.all_cons]
theorem lQ {α:Type} {B:(Int->Option (Bool×Unit))->Int->Option (Bool×Unit)} {xs ys:List α} (e:α->α->Bool) (hlen:xs.length=ys.length) (un:xs.length<=maxLen)
  (et:∀ (i:Nat) (hx:i < xs.length) (hy:i < ys.length) self,B self (i:Int)=if e xs[i] ys[i]=true then self (ae ((i:Int)+1)) else some (false,()))
  (kA:∀ self,B self (xs.length:Int)=some (true,())):∀ k,xs.length < k->al B k 0=some (kg e xs ys,()):=by
 intro k hk
 have h:=qR (B:=B) (fun v=>(kg e (xs.drop v.toNat) (ys.drop v.toNat),())) (fun v=>0<=v/\v<=(xs.length:Int)) (fun v=>xs.length - v.toNat) (fun v hv self=>by
  obtain ⟨h0,h1⟩:=hv
  obtain ⟨i,rfl⟩:=Int.eq_ofNat_of_zero_le h0
  simp only[Int.toNat_natCast]
  by_cases hi:i < xs.length
  ·have hy:i < ys.length:=by omega
   rw[Jb e xs ys i hi hy,et i hi hy]
   cases he:e xs[i] ys[i] with
   | true=>
    right
    have hw:ae ((i:Int)+1)=((i+1:Nat):Int):=by rw[aR (by rw[ah] at un;omega)];omega
    refine ⟨_,by rw[hw];rfl,by simp,by omega,?_⟩
    simp only[Int.toNat_natCast];omega
   | false=>left;simp
  ·have eF:i=xs.length:=by omega
   subst eF
   left
   rw[kA]
   simp[kg]) k 0 ⟨by omega,by omega⟩ (by simpa using hk)
 simpa using h
theorem ml {α:Type} {B:((List α×Int)->Option (List α×Unit))->(List α×Int)->Option (List α×Unit)} {xs:List α} (un:xs.length<=maxLen)
  (et:∀ (i:Nat) (hx:i < xs.length) (acc:List α) self,acc.length=xs.length->B self (acc,(i:Int))=self (acc.set i xs[i],ae ((i:Int)+1)))
  (kA:∀ acc self,B self (acc,(xs.length:Int))=some (acc,())) (z:α):∀ k,xs.length < k->al B k (List.replicate xs.length z,0)=some (xs,()):=by
 intro k hk
 refine qR (B:=B) (fun _=>(xs,())) (fun v=>0<=v.2/\v.2<=(xs.length:Int)/\v.1.length=xs.length/\∀ j,j < v.2.toNat->v.1[j]?=xs[j]?) (fun v=>xs.length - v.2.toNat) (fun v hv self=>?_) k _ ⟨by simp,by simp,by simp,by simp⟩ (by simpa using hk)
 obtain ⟨acc,i⟩:=v
 obtain ⟨h0,h1,Y,h3⟩:=hv
 simp only at h0 h1 Y h3
 obtain ⟨i,rfl⟩:=Int.eq_ofNat_of_zero_le h0
 simp only[Int.toNat_natCast] at h3 ⊢
 by_cases hi:i < xs.length
 ·right
  have hw:ae ((i:Int)+1)=((i+1:Nat):Int):=by rw[aR (by rw[ah] at un;omega)];omega
  refine ⟨(acc.set i xs[i],((i+1:Nat):Int)),by rw[et i hi acc self Y,hw],trivial,⟨by omega,by simp only;omega,by simpa using Y,fun j hj=>?_⟩,?_⟩
  ·simp only[Int.toNat_natCast] at hj
   by_cases gi:j=i
   ·subst gi;simp[Y,hi]
   ·simp only[List.getElem?_set]
    rw[if_neg (fun e=>gi e.symm)]
    exact h3 j (by omega)
  ·simp only[Int.toNat_natCast];omega
 ·have eF:i=xs.length:=by omega
  subst eF
  left
  rw[kA]
  have:acc=xs:=List.ext_getElem? fun j=>by
   by_cases hj:j < xs.length
   ·exact h3 j hj
   ·rw[List.getElem?_eq_none (by omega),List.getElem?_eq_none (by omega)]
  rw[this]
end OT
set_option linter.unusedVariables false
set_option linter.unusedSimpArgs false
namespace OT
open Go
def jL {α:Type} (f:α->Nat):List α->Nat
 | []=>0
 | x::xs=>f x+jL f xs
theorem Db {α:Type} (f:α->Nat):∀ (xs:List α) (x:α),x ∈ xs->f x<=jL f xs
 | y::xs,x,h=>by
  simp only[jL]
  rcases List.mem_cons.1 h with rfl | h
  ·omega
  ·have:=Db f xs x h;omega
 | [],_,h=>by cases h
theorem sD {α:Type} (f:α->Nat) (h:∀ x,f x=0):∀ (xs:List α),jL f xs=0
 | []=>rfl
 | x::xs=>by simp[jL,h x,sD f h xs]
def zz:(t:Ty)->t.den->Nat
 | .str,v=>List.length v
 | .pair a b,v=>zz a v.1+zz b v.2
 | .U e,v=>List.length v+jL (zz e) v
 | _,_=>0
theorem kq {e:Ty} {xs:List e.den} {x:e.den} (h:x ∈ xs):zz e x+1<=zz (.U e) xs:=by
 have:=Db (zz e) xs x h
 have:1<=xs.length:=List.length_pos_of_mem h
 show _<=List.length xs+_
 omega
theorem eW {e:Ty} (xs:List e.den):xs.length<=zz (.U e) xs:=Nat.le_add_right _ _
def aZ (n:Int) (z:Nat):Int:=if (z:Int)<=n then n - z else -1
theorem tr {α:Type} {B:((Int×Int)->Option (Int×Unit))->(Int×Int)->Option (Int×Unit)} {xs:List α} (un:xs.length<=maxLen) (z:α->Nat)
  (et:∀ (i:Nat) (hx:i < xs.length) (n:Int) self,0<=n->n<=1048576->B self (n,(i:Int))=if aZ n (z xs[i]) < 0 then some (-1,()) else self (aZ n (z xs[i]),ae ((i:Int)+1)))
  (kA:∀ n self,B self (n,(xs.length:Int))=some (n,())) (n:Int) (h0:0<=n) (h1:n<=1048576) :
  ∀ k,xs.length < k->al B k (n,0)=some (aZ n (jL z xs),()):=by
 have main:∀ (m i:Nat) (n:Int),xs.length - i=m->i<=xs.length->0<=n->n<=1048576->∀ k,m < k->al B k (n,(i:Int))=some (aZ n (jL z (xs.drop i)),()):=by
  intro m
  induction m with
  | zero=>
   intro i n hm hi h0 h1 k hk
   have eF:i=xs.length:=by omega
   subst eF
   cases k with
   | zero=>omega
   | succ k=>
    have:al B (k+1) (n,(xs.length:Int))=some (n,()):=kA n _
    rw[this]
    simp[aZ,jL,h0]
  | succ m ih=>
   intro i n hm hi h0 h1 k hk
   have aj:i < xs.length:=by omega
   rw[List.drop_eq_getElem_cons aj]
   simp only[jL]
   cases k with
   | zero=>omega
   | succ k=>
    show B (al B k) _=_
    rw[et i aj n _ h0 h1]
    by_cases hz:(z xs[i]:Int)<=n
    ·have e:aZ n (z xs[i])=n - (z xs[i]:Int):=if_pos hz
     have Rf:¬ (n - (z xs[i]:Int) < 0):=by omega
     have hw:ae ((i:Int)+1)=((i+1:Nat):Int):=by rw[aR (by rw[ah] at un;omega)];omega
     rw[e,if_neg Rf,hw,ih (i+1) _ (by omega) (by omega) (by omega) (by omega) k (by omega)]
     unfold aZ
     by_cases hc:((jL z (xs.drop (i+1)):Nat):Int)<=n - (z xs[i]:Int)
     ·rw[if_pos hc,if_pos (by omega)]
      have:n - (z xs[i]:Int) - (jL z (xs.drop (i+1)):Nat)=n - ((z xs[i]+jL z (xs.drop (i+1)):Nat):Int):=by omega
      rw[this]
     ·rw[if_neg hc,if_neg (by omega)]
    ·have e:aZ n (z xs[i])=-1:=if_neg hz
     rw[e,if_pos (by omega)]
     unfold aZ
     rw[if_neg (by omega)]
 intro k hk
 simpa using main xs.length 0 n (by omega) (by omega) h0 h1 k hk
theorem tt {n:Int} {a b:Nat} (h:(a:Int)<=n):aZ (n - a) b=aZ n (a+b):=by
 unfold aZ
 by_cases hc:(b:Int)<=n - a
 ·rw[if_pos hc,if_pos (by omega)];omega
 ·rw[if_neg hc,if_neg (by omega)]
end OT
set_option linter.unusedVariables false
set_option linter.unusedSimpArgs false
namespace OT
open Go
def aV {S O α:Type} (f:Nat->S->α->Sum O S) (fin:S->O):Nat->List α->S->O
 | _,[],s=>fin s
 | i,x::xs,s=>match f i s x with
  | .inl o=>o
  | .inr s'=>aV f fin (i+1) xs s'
theorem bc {V S O α:Type} {B:(V->Option O)->V->Option O} (xs:List α) (enc:S->Int->V) (f:Nat->S->α->Sum O S) (fin:S->O) (I:Nat->S->Prop) (un:xs.length<=maxLen)
  (et:∀ (i:Nat) (hi:i < xs.length) (s:S) self,I i s->B self (enc s (i:Int))=match f i s xs[i] with | .inl o=>some o | .inr s'=>self (enc s' (ae ((i:Int)+1))))
  (hI:∀ (i:Nat) (hi:i < xs.length) (s s':S),I i s->f i s xs[i]=.inr s'->I (i+1) s')
  (kA:∀ (s:S) self,I xs.length s->B self (enc s (xs.length:Int))=some (fin s)) (s:S) (h0:I 0 s):∀ k,xs.length < k->al B k (enc s 0)=some (aV f fin 0 xs s):=by
 have main:∀ (m i:Nat) (s:S),xs.length - i=m->i<=xs.length->I i s->∀ k,m < k->al B k (enc s (i:Int))=some (aV f fin i (xs.drop i) s):=by
  intro m
  induction m with
  | zero=>
   intro i s hm hi hs k hk
   have eF:i=xs.length:=by omega
   subst eF
   cases k with
   | zero=>omega
   | succ k=>
    show B (al B k) _=_
    rw[kA s _ hs]
    simp[aV]
  | succ m ih=>
   intro i s hm hi hs k hk
   have aj:i < xs.length:=by omega
   cases k with
   | zero=>omega
   | succ k=>
    show B (al B k) _=_
    rw[et i aj s _ hs,List.drop_eq_getElem_cons aj]
    simp only[aV]
    cases hf:f i s xs[i] with
    | inl o=>rfl
    | inr s'=>
     have hw:ae ((i:Int)+1)=((i+1:Nat):Int):=by rw[aR (by rw[ah] at un;omega)];omega
     simp only[hw]
     exact ih (i+1) s' (by omega) (by omega) (hI i aj s s' hs hf) k (by omega)
 intro k hk
 simpa using main xs.length 0 s (by omega) (by omega) h0 k hk
theorem ls {O α:Type} (p:α->Bool) (bad:O) (fin:Unit->O):∀ (xs:List α) (i:Nat),aV (fun _ _ x=>if p x then .inr () else .inl bad) fin i xs ()=if xs.all p then fin () else bad
 | [],_=>rfl
 | x::xs,i=>by
  simp only[aV,List.all_cons]
  by_cases h:p x=true
  ·simp[h,ls p bad fin xs (i+1)]
  ·simp[h]
def gM {α:Type} (c:α->Int):List α->Int
 | []=>0
 | x::xs=>if c x=0 then gM c xs else c x
theorem nM {O α:Type} (c:α->Int) (bad:Int->O) (fin:Unit->O):∀ (xs:List α) (i:Nat),aV (fun _ _ x=>if c x=0 then .inr () else .inl (bad (c x))) fin i xs ()=if gM c xs=0 then fin () else bad (gM c xs)
 | [],_=>rfl
 | x::xs,i=>by
  simp only[aV,gM]
  by_cases h:c x=0
  ·simp[h,nM c bad fin xs (i+1)]
  ·simp[h]
theorem Jc {R:Type} (a:Option R):both a a=a:=by simp[both]
theorem FJ {R α:Type} {v:List α} {a b r:Option R} (h1:v=[]->a=r) (Y:b=r):vp v a b=r:=by
 cases v with
 | nil=>rw[vp,h1 rfl,Y,Jc]
 | cons _ _=>exact Y
theorem cQ {n:Nat} (h:n<=200000000000):n<=bk:=by simp only[bk];omega
end OT
set_option linter.unusedVariables false
set_option linter.unusedSimpArgs false
namespace OT
open Go
def nN:Ty->Bool
 | .int _ | .bool | .str | .unit=>true
 | .pair a b=>nN a&&nN b
 | _=>false
def jz:(t:Ty)->t.den->List Value
 | .int k,v=>[.int k (jD k v)]
 | .bool,v=>[.bool v]
 | .str,v=>[.string ⟨List.toArray v⟩]
 | .unit,_=>[]
 | .pair a b,v=>jz a v.1++jz b v.2
 | _,_=>[]
section
variable {P:Program} {w:World} {A:Cells}
theorem ol:∀ (t:Ty),nN t=true->∀ (v:t.den),Ro P w A t v (jz t v):=by
 intro t
 induction t with
 | pair a b ej d6=>
  intro h v
  simp only[nN,Bool.and_eq_true] at h
  have h1:=ej h.1 v.1
  have hl:=Ro.length a h1
  show Ro P w A a v.1 ((jz a v.1++jz b v.2).take a.sz)/\Ro P w A b v.2 ((jz a v.1++jz b v.2).drop a.sz)
  rw[List.take_append_of_le_length (by omega),List.take_of_length_le (by omega),List.drop_append_of_le_length (by omega),List.drop_of_length_le (by omega),List.nil_append]
  exact ⟨h1,d6 h.2 v.2⟩
 | int k=>intro _ v;rfl
 | bool=>intro _ v;rfl
 | str=>intro _ v;rfl
 | unit=>intro _ v;rfl
 | _=>intro h;simp[nN] at h
theorem Oi:∀ (t:Ty),nN t=true->∀ {v:t.den} {cs:List Value},Ro P w A t v cs->cs=jz t v:=by
 intro t
 induction t with
 | pair a b ej d6=>
  intro h v cs hr
  simp only[nN,Bool.and_eq_true] at h
  have h1:=ej h.1 hr.1
  have Y:=d6 h.2 hr.2
  rw[<-List.take_append_drop a.sz cs,h1,Y]
  rfl
 | int k=>intro _ v cs h;exact h
 | bool=>intro _ v cs h;exact h
 | str=>intro _ v cs h;exact h
 | unit=>intro _ v cs h;exact h
 | _=>intro h;simp[nN] at h
theorem AT:∀ (t:Ty),nN t=true->t.flat=true:=by
 intro t
 induction t with
 | pair a b ej d6=>intro h;simp only[nN,Bool.and_eq_true] at h;simp only[Ty.flat,ej h.1,d6 h.2,Bool.and_self]
 | int k=>intro _;rfl
 | bool=>intro _;rfl
 | str=>intro _;rfl
 | unit=>intro _;rfl
 | _=>intro h;simp[nN] at h
end
theorem Ky {w:World} {b i:Nat} {u:Value} {c:Array Value} {e:TypeId} {fr:Nat×Nat} (h:w.heap[b]?=some (.cells c e fr)) (hu:ce w b i=some u):c[i]?=some u:=by
 unfold ce at hu
 simp only[h,World.cell?] at hu
 cases hc:c[i]? with
 | none=>simp[hc] at hu
 | some v=>
  simp only[hc,Option.isSome_none,Bool.false_eq_true,if_false,Option.bind_some] at hu
  rw[(vw hu).1]
theorem Eo {w:World} {b i:Nat} {u:Value} {c:Array Value} {e:TypeId} {fr:Nat×Nat} (h:w.heap[b]?=some (.cells c e fr)) (hg:c[i]?=some u) (hu:u.oneCell'=true):ce w b i=some u:=by
 refine wO ?_ hu
 simp only[World.cell?,h,Option.isSome_none,Bool.false_eq_true,if_false,hg]
end OT
set_option linter.unusedVariables false
set_option linter.unusedSimpArgs false
namespace OT
open Go Go.Sort
instance S4 (e:Ty):Inhabited e.den:=⟨e.zero⟩
noncomputable def p_ (e:Ty) (cs:e.den×e.den×Unit->Option (Int×Unit)) (v:List e.den):Option (List e.den):=open Classical in
 if List.length v<=bk then (if h:∃ cf:e.den->e.den->Int,(∀ x y,cs (x,y,())=some (cf x y,()))/\SWO (Go.Proofs.ltOf cf) then some (pdq (Go.Proofs.ltOf h.choose) v.toArray 0 v.toArray.size (Lib.bitLen v.toArray.size) true true).toList else none) else none
theorem Dc {e:Ty} {cs:e.den×e.den×Unit->Option (Int×Unit)} {cf:e.den->e.den->Int} (h1:∀ x y,cs (x,y,())=some (cf x y,())) (Y:SWO (Go.Proofs.ltOf cf)) (v:List e.den) (hl:List.length v<=bk):p_ e cs v=some (pdq (Go.Proofs.ltOf cf) v.toArray 0 v.toArray.size (Lib.bitLen v.toArray.size) true true).toList:=by
 have hex:∃ cf:e.den->e.den->Int,(∀ x y,cs (x,y,())=some (cf x y,()))/\SWO (Go.Proofs.ltOf cf):=⟨cf,h1,Y⟩
 have he:hex.choose=cf:=by
  funext x y
  have:=(hex.choose_spec.1 x y).symm.trans (h1 x y)
  injection this with this
  exact congrArg Prod.fst this
 unfold p_
 rw[if_pos hl,dif_pos hex,he]
theorem GQ {e:Ty} {cs:e.den×e.den×Unit->Option (Int×Unit)} {v r:List e.den} (h:p_ e cs v=some r):∃ cf:e.den->e.den->Int,(∀ x y,cs (x,y,())=some (cf x y,()))/\SWO (Go.Proofs.ltOf cf)/\List.length v<=bk/\r=(pdq (Go.Proofs.ltOf cf) v.toArray 0 v.toArray.size (Lib.bitLen v.toArray.size) true true).toList:=by
 by_cases hl:List.length v<=bk
 ·by_cases hex:∃ cf:e.den->e.den->Int,(∀ x y,cs (x,y,())=some (cf x y,()))/\SWO (Go.Proofs.ltOf cf)
  ·obtain ⟨cf,h1,Y⟩:=hex
   rw[Dc h1 Y v hl] at h
   injection h with h
   exact ⟨cf,h1,Y,hl,h.symm⟩
  ·unfold p_ at h
   rw[if_pos hl,dif_neg hex] at h
   cases h
 ·unfold p_ at h
  rw[if_neg hl] at h
  cases h
theorem Dd {α:Type} [Inhabited α] {lt:α->α->Bool} (h:SWO lt) (v:List α):(pdq lt v.toArray 0 v.toArray.size (Lib.bitLen v.toArray.size) true true).toList.Perm v/\(pdq lt v.toArray 0 v.toArray.size (Lib.bitLen v.toArray.size) true true).toList.Pairwise fun x y=>lt y x=false:=by
 have hs:=pdq_sorts lt h v.toArray 0 v.toArray.size (Lib.bitLen v.toArray.size) true true (Nat.zero_le _) (Nat.le_refl _) (Or.inl rfl)
 generalize pdq lt v.toArray 0 v.toArray.size (Lib.bitLen v.toArray.size) true true=p at hs ⊢
 obtain ⟨⟨h1,Y,h3⟩,h4⟩:=hs
 refine ⟨?_,?_⟩
 ·have e1:p.extract 0 v.toArray.size=p:=by rw[<-h1];exact Array.extract_size ..
  have e2:v.toArray.extract 0 v.toArray.size=v.toArray:=Array.extract_size ..
  rw[e1,e2] at h3
  exact h3
 ·rw[List.pairwise_iff_getElem]
  intro i j hi hj jt
  have oT:j < p.size:=by simpa using hj
  have:=h4 i j (Nat.zero_le _) jt (by omega)
  rw[getElem!_pos _ i (by omega),getElem!_pos _ j oT] at this
  simpa using this
section
variable {P:Program}
theorem Kz {w w':World} (h:Ext w w' (fun _ _=>0)):∃ q os,w'=grow (w.drewN q) os:=by
 refine ⟨w'.drawn - w.drawn,w'.heap.extract w.heap.size w'.heap.size,?_⟩
 have hh:w'.heap=w.heap++w'.heap.extract w.heap.size w'.heap.size:=by
  apply Array.ext_getElem?
  intro i
  by_cases hi:i < w.heap.size
  ·rw[h.obj i hi fun _=>rfl,Array.getElem?_append_left hi]
  ·rw[Array.getElem?_append_right (by omega),Array.getElem?_extract]
   by_cases eF:i < w'.heap.size
   ·rw[if_pos (by omega)]
    congr 1
    omega
   ·rw[if_neg (by omega),Array.getElem?_eq_none (by omega)]
 have h1:=h.os
 have Y:=h.tape
 have h3:=h.output
 have h4:=h.drawn
 cases w with
 | mk heap tape drawn os output=>
  cases w' with
  | mk TR TS S5 Ul RI=>
   simp only at h1 Y h3 h4 hh
   subst h1;subst Y;subst h3
   simp only[grow,World.drewN,World.mk.injEq,true_and,and_true]
   exact ⟨hh,by omega⟩
theorem KA {e:Ty} (hs:nN e=true) (ha:isAgg e=true) {g:Nat} {cF:e.den×e.den×Unit->Option (Int×Unit)} (hg:Sound P g { ps:=[(.ro,e),(.ro,e)],rs:=[(.int .i64,av (.int .i64))],F:=cF }) {cf:e.den->e.den->Int} (hc:∀ x y,cF (x,y,())=some (cf x y,())) (b size:Nat) (w:World):Go.Proofs.CmpLays P g #[] (jz e) e.sz cf b 0 size w:=by
 intro m os dk _ x y
 have f_:ln P (Go.Proofs.sortWorldK (jz e) e.sz w b 0 m dk os) (fun _ _=>False) [(.ro,e),(.ro,e)] (x,y,()) [.agg (jz e x).toArray,.agg (jz e y).toArray] (fun _ _=>0):=
  ⟨_,_,fun _ _=>0,fun _ _=>0,rfl,fun _ _=>Nat.le_refl _,⟨jz e x,by simp[bj,ha],ol e hs x⟩,_,_,fun _ _=>0,fun _ _=>0,rfl,fun _ _=>Nat.le_refl _,⟨jz e y,by simp[bj,ha],ol e hs y⟩,rfl⟩
 refine (hg _ (fun _ _=>False) (fun _ _=>0) (x,y,()) _ f_ (fun _ _=>Nat.zero_le _) (fun _ _ h=>by omega) (fun _ _ h=>by rcases h with h | h;omega;exact h.elim) (cf x y,()) (hc x y)).mono ?_
 rintro ex w' ⟨rv,rfl,ct,A',G,GR,GM,_,_,_,_,_,_,_,mY,_⟩
 obtain ⟨cs,h1,Y⟩:=mY
 refine ⟨?_,Kz ct⟩
 have Y:cs=[.int .i64 (cf x y)]:=Y
 rw[h1,Y]
 rfl
theorem MU {ρ:Go.Shelf.Ren} (L:Go.Proofs.SlLaysF0.n6 P ρ) {e:Ty} (hs:nN e=true) (ha:isAgg e=true) (hl:aD P e (.inl (ρ.t 24))=true) (h1:1<=e.sz) {g:Nat} {cF:e.den×e.den×Unit->Option (Int×Unit)}
  (hg:Ok P g { ps:=[(.ro,e),(.ro,e)],rs:=[(.int .i64,av (.int .i64))],F:=cF }) (he:oU P (ρ.f 6) false) :
  Ok P (ρ.f 6) { ps:=[(.gY (au (.U e)),.U e),(.fix g,.fn)],rs:=[],F:=fun v=>(p_ e cF v.1).map fun r=>(r,()) }:=by
 refine ⟨?_,he⟩
 intro w A F0 v xs f_ hle tT Rg out kA
 obtain ⟨vs,⟨fg,fv⟩,⟨⟩⟩:=v
 obtain ⟨x,NO,F1,F2,rfl,hF,⟨cs,rfl,cK⟩,x2,Rh,F3,F4,rfl,NW,⟨⟨bm,rfl,Ja⟩,Ri⟩,xO⟩:=f_
 have xO:Rh=[]:=xO
 subst xO
 have S6:fg=g:=Ri rfl
 subst S6
 obtain ⟨qw,rfl,fn,KB,Rj⟩:=Ja
 have Pd:qw=#[]:=by
  obtain ⟨Su,k1,_,_,k4⟩:=hg.2
  have KB:P.funcs[fg]?=some fn:=KB
  rw[KB] at k1
  injection k1 with k1
  subst k1
  have k4:fn.nfree=0:=k4
  rcases Rj with ⟨_,q⟩ | ⟨q,_⟩
  ·exact q
  ·omega
 subst Pd
 have NY:bj .fn [.func (.func fg) #[] #[]]=.func (.func fg) #[] #[]:=rfl
 have kA:(p_ e cF vs).map (fun r=>(r,()))=some out:=kA
 cases GS:p_ e cF vs with
 | none=>rw[GS] at kA;cases kA
 | some r=>
 rw[GS] at kA
 injection kA with kA
 subst kA
 obtain ⟨cf,hc,hO,kZ,hr⟩:=GQ GS
 have GT:=Dd hO vs
 rw[<-hr] at GT
 have BC:=cK
 simp only[ak,hole,List.any_nil,Bool.false_eq_true,if_false,au,ng,Md.own,if_true] at cK
 obtain ⟨xa,cap,rfl,g2,g3,g4,g5⟩:=cK
 have yN:bj (.U e) [.slice xa (List.length vs) cap]=.slice xa (List.length vs) cap:=rfl
 rw[NY,yN]
 have De:∀ (w':World) (L5:FP),Ext w w' F0->(∀ b i,L5 b i<=F1 b i)->ak P w' A (.U e) (au (.U e)) [] r [.slice xa (List.length vs) cap] L5 ->
   ∃ rv,Ending.returned (.tuple #[])=.returned rv/\Ext w w' F0/\∃ (A':Cells) (G GR GM:FP),(∀ b i,A b i->A' b i)/\(∀ b i,A' b i->A b i\/1<=F0 b i\/w.heap.size<=b)/\(∀ b i,1<=G b i->1<=F0 b i\/w.heap.size<=b)/\(∀ b i,G b i<=1)/\(∀ b i,1<=G b i->¬ A' b i)/\(∀ b i,1<=G b i\/A' b i->b < w'.heap.size)/\(∀ b i,GR b i+GM b i<=G b i) /\
   iw P w' A' [] rv GR/\iU P w' A' [(.gY (au (.U e)),.U e),(.fix fg,.fn)] (r,()) [.slice xa (List.length vs) cap,.func (.func fg) #[] #[]] GM:=fun w' L5 ct Cm L6=>
  ⟨_,rfl,ct,A,F0,fun _ _=>0,F0,fun _ _ h=>h,fun _ _ h=>.inl h,fun _ _ h=>.inl h,hle,tT,fun b i h=>Nat.lt_of_lt_of_le (Rg b i h) ct.size,fun b i=>by show 0+F0 b i<=F0 b i;omega,trivial,L5,F2,fun b i=>by have:=hF b i;have:=Cm b i;omega,⟨_,rfl,L6⟩,trivial⟩
 by_cases h0:List.length vs=0
 ·have S7:vs=[]:=List.eq_nil_of_length_eq_zero h0
  have S8:r=[]:=by
   have:=GT.1.length_eq
   exact List.eq_nil_of_length_eq_zero (by omega)
  rw[h0]
  refine (Go.Proofs.AnyF.slices_SortFunc_none L xa cap (.func (.func fg) #[] #[]) w).mono ?_
  rintro ex w' ⟨rfl,hw⟩
  rw[hw]
  rw[h0] at De
  refine De w F1 (Ext.refl _ _) (fun _ _=>Nat.le_refl _) ?_
  rw[S8,<- S7]
  have:List.length vs=0:=h0
  rw[this] at BC
  exact BC
 ·cases xa with
  | none=>have:=g4 rfl;omega
  | some ad=>
   obtain ⟨q1,q2,q3,Fi,q4,q5⟩:=g5 ad rfl
   obtain ⟨b,off,sp⟩:=ad
   simp only at q1 q2 q3 q4 q5
   subst q1;subst q2
   obtain ⟨c,el,fr,c1,c2,c3,c4⟩:=q3
   have hb:=(Array.getElem?_eq_some_iff.1 c1).1
   have eC:vs.toArray.size=List.length vs:=by simp
   have Um:List.length vs*e.sz<=cap*e.sz:=Nat.mul_le_mul_right _ g2
   have Ad:1<=List.length vs*e.sz:=Nat.mul_le_mul (show 1<=List.length vs by omega) h1
   have lU:∀ (i:Nat) (y:e.den),vs[i]?=some y->Has w b (i*e.sz) (jz e y):=fun i y hy=>by
    obtain ⟨L0,l1,l2,l3⟩:=q5 i y hy
    have:=Oi e hs (ak.flat e (AT e hs) l3)
    rw[<-this]
    exact l2
   have hH:Go.Sort.HoldsK (jz e) e.sz w b 0 vs.toArray:=by
    intro j hj
    rw[Go.Sort.size_flatK,eC] at hj
    rw[Nat.zero_add,Go.Sort.get_flatK _ _ _ _ (by rw[eC];exact hj)]
    have hi:j / e.sz < List.length vs:=by rw[Nat.div_lt_iff_lt_mul h1];exact hj
    have hy:=List.getElem?_eq_getElem hi
    have hm:=Nat.mod_lt j h1
    have iC:(jz e (vs[j / e.sz]))[j % e.sz]?=some ((jz e (vs[j / e.sz]))[j % e.sz]!):=by
     have hlen:=Ro.length e (ol (P:=P) (w:=w) (A:=A) e hs (vs[j / e.sz]))
     rw[List.getElem?_eq_getElem (by omega),getElem!_pos _ _ (by omega)]
    have Qp:=lU _ _ hy _ _ iC
    have S9:j / e.sz*e.sz+j % e.sz=j:=by rw[Nat.mul_comm];exact Nat.div_add_mod j e.sz
    rw[S9] at Qp
    have gO:=Ro.one e (ol (P:=P) (w:=w) (A:=A) e hs (vs[j / e.sz])) _ (List.mem_of_getElem? iC)
    have zd:=nG Qp gO
    refine ⟨?_,?_⟩
    ·show _=some (id _)
     rw[zd]
     have:vs.toArray[j / e.sz]! = vs[j / e.sz]:=by rw[getElem!_pos _ _ (by rw[eC];exact hi)];simp
     rw[this]
     rfl
    ·simp only[World.frozen?,c1]
     have:=c3 j (by omega)
     simp only[Bool.and_eq_false_imp,decide_eq_true_eq,decide_eq_false_iff_not,not_and] at this ⊢
     intro h
     first | exact this h | (have:=this (by simpa using h);simpa using this)
   have Oj:=Go.Proofs.AnyQ.slices_SortFunc_eq L e.sz (fun w=>by rw[vO hl,ha]) (fun w=>run_sizeOf hl) (jz e) (fun y=>Ro.length e (ol (P:=P) (w:=w) (A:=A) e hs y)) (fun y u hu=>Ro.one e (ol (P:=P) (w:=w) (A:=A) e hs y) u hu) cf hO fg #[] b 0 cap vs.toArray w
    (fun args w=>vZ hg.2 args) (KA hs ha hg.1 hc b _ w) hH hb (by rw[eC];unfold bk at kZ;omega)
   rw[eC] at Oj
   refine Oj.mono ?_
   rintro ex w' ⟨rfl,n,os,rfl⟩
   rw[eC] at hr
   have sB:(pdq (Go.Proofs.ltOf cf) vs.toArray 0 (List.length vs) (Lib.bitLen (List.length vs)) true true)=r.toArray:=by rw[hr]
   rw[sB]
   have oS:r.length=List.length vs:=GT.1.length_eq
   have hold:∀ b',b' < w.heap.size->b'≠b->(Go.Proofs.sortWorldK (jz e) e.sz w b 0 n r.toArray os).heap[b']?=w.heap[b']?:=fun b' mb eB=>by
    simp only[Go.Proofs.sortWorldK,grow,Go.Sort.putRowK,Go.Sort.putRow,Go.Sort.mapBlock,Go.Sort.ahead]
    rw[Array.getElem?_append_left (by simpa using mb),Array.getElem?_modify,if_neg (fun e=>eB e.symm)]
   have qA:(Go.Proofs.sortWorldK (jz e) e.sz w b 0 n r.toArray os).heap[b]?=some (.cells (Go.Sort.putCells id 0 (Go.Sort.flatK (jz e) e.sz r.toArray) c) el fr):=by
    simp only[Go.Proofs.sortWorldK,grow,Go.Sort.putRowK,Go.Sort.putRow,Go.Sort.mapBlock,Go.Sort.ahead]
    rw[Array.getElem?_append_left (by simpa using hb),Array.getElem?_modify,if_pos rfl,c1]
    rfl
   have mh:(Go.Sort.putCells id 0 (Go.Sort.flatK (jz e) e.sz r.toArray) c).size=c.size:=by simp[Go.Sort.putCells]
   have ct:Ext w (Go.Proofs.sortWorldK (jz e) e.sz w b 0 n r.toArray os) F0:=by
    have dh:∀ i,i < cap*e.sz->1<=F0 b i:=fun i hi=>by
     have h3:=hF b i
     have h4:=q4 b i
     have h5:bp b 0 (cap*e.sz) b i=1:=by simp only[bp];rw[if_pos ⟨trivial,by omega,by omega⟩]
     omega
    refine ⟨?_,fun b' i mb hz u hu=>?_,fun b' m hm=>?_,fun b' i mb=>?_,rfl,rfl,rfl,fun b' mb hz=>?_,Nat.le_add_right _ _⟩
    ·simp only[Go.Proofs.sortWorldK,grow,Go.Sort.putRowK,Go.Sort.putRow,Go.Sort.mapBlock,Go.Sort.ahead,Array.size_append,Array.size_modify]
     omega
    ·by_cases qH:b'=b
     ·subst qH
      have hi:¬ i < cap*e.sz:=fun hi=>by have:=dh i hi;omega
      exfalso
      have:=Ky c1 hu
      rw[Array.getElem?_eq_none (by omega)] at this
      cases this
     ·rw[pK (hold b' mb qH)];exact hu
    ·by_cases qH:b'=b
     ·subst qH
      obtain ⟨c',e',f',m1,m2,m3⟩:=hm
      rw[c1] at m1
      injection m1 with m1
      injection m1 with m1 m4 m5
      subst m1;subst m4;subst m5
      exact ⟨_,_,_,qA,by rw[mh];exact m2,m3⟩
     ·have mb:b' < w.heap.size:=hm.lt
      exact (pi (hold b' mb qH) m).1 hm
    ·by_cases qH:b'=b
     ·subst qH
      simp only[World.frozen?,qA,c1]
     ·exact p8 (hold b' mb qH) i
    ·by_cases qH:b'=b
     ·subst qH
      have:=dh 0 (by omega)
      have:=hz 0
      omega
     ·exact hold b' mb qH
   refine De _ F1 ct (fun _ _=>Nat.le_refl _) ?_
   simp only[ak,hole,List.any_nil,Bool.false_eq_true,if_false,au,ng,Md.own,if_true]
   refine ⟨some ⟨b,0,none⟩,cap,by rw[oS],by rw[oS];exact g2,g3,(fun e=>by cases e),fun ad e2=>?_⟩
   injection e2 with e2
   subst e2
   refine ⟨rfl,rfl,⟨_,_,_,qA,by rw[mh];exact c2,c3,c4⟩,fun _ _ _=>0,fun b' i=>?_,fun i y hy=>?_⟩
   ·have h3:=q4 b' i
    have h4:az (List.length r) (fun _ _ _=>0) b' i=0:=by
     generalize List.length r=nn
     induction nn with
     | zero=>rfl
     | succ nn ih=>simp only[az,ih]
    show bp b 0 (cap*e.sz) b' i+az (List.length r) (fun _ _ _=>0) b' i<=F1 b' i
    rw[h4]
    omega
   ·refine ⟨jz e y,Ro.length e (ol (P:=P) (w:=w) (A:=A) e hs y),fun j u hu=>?_,?_⟩
    ·have hj:=(List.getElem?_eq_some_iff.1 hu).1
     have hlen:=Ro.length e (ol (P:=P) (w:=w) (A:=A) e hs y)
     have hi:=(List.getElem?_eq_some_iff.1 hy).1
     have jt:i*e.sz+j < r.length*e.sz:=by
      have:=Nat.mul_le_mul_right e.sz (show i+1<=r.length from hi)
      rw[Nat.add_mul,Nat.one_mul] at this
      omega
     have hdiv:(i*e.sz+j) / e.sz=i:=(Go.Sort.blk_iff e.sz i _ h1).1 ⟨by omega,by omega⟩
     have Kb:(i*e.sz+j) % e.sz=j:=by rw[Nat.mod_eq_sub_div_mul,hdiv];omega
     have ns:(Go.Sort.putCells id 0 (Go.Sort.flatK (jz e) e.sz r.toArray) c)[i*e.sz+j]?=some u:=by
      have aj:i*e.sz+j < c.size:=by rw[oS] at jt;omega
      simp only[Go.Sort.putCells,Array.getElem?_mapIdx,Array.getElem?_eq_getElem aj,Option.map_some,Nat.zero_le,true_and,Nat.zero_add,Nat.sub_zero,Go.Sort.size_flatK,List.size_toArray,jt,if_true,id]
      rw[Go.Sort.get_flatK _ _ _ _ (by simpa using jt),hdiv,Kb]
      have S_:r.toArray[i]! = y:=by
       rw[getElem!_pos _ _ (by simpa using hi)]
       have:=(List.getElem?_eq_some_iff.1 hy).2
       simpa using this
      rw[S_,getElem!_pos (jz e y) j hj]
      exact congrArg some (List.getElem?_eq_some_iff.1 hu).2
     have gO:=Ro.one e (ol (P:=P) (w:=w) (A:=A) e hs y) _ (List.mem_of_getElem? hu)
     exact Eo qA ns gO
    ·exact Ro.flat e _ (AT e hs) (ol e hs y)
end
end OT
