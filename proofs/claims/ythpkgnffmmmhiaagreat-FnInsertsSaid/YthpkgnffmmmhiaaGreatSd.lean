/- The proof's parts, merged: Functions  a body that is run on data gives the contract.. No conditions but those that each states. -/
import Derived.Test.YthpkgnffmmmhiaaGreatSc
import Derived.ProofKit
import Derived.Deep.Slices
import Derived.Laws.BitsLemmas
import Derived.Shelf.SlSortCmp.NoneTotal
set_option linter.unusedVariables false
set_option linter.unusedSimpArgs false
namespace OT
open Go
section
variable {P:Program} {w:World} {A:Cells} {R:Type} {x:R} {E:Env}
theorem init_len:∀ (ps:List (PM×Ty)) (v:(tupT (ps.map (·.2))).den),(initSlots ps v).length=ps.length
 | [],_=>rfl
 | (.ro,t)::ps,v=>by cases t <;> simp[initSlots,init_len ps v.2]
 | (.fix f,t)::ps,v=>by cases t <;> simp[initSlots,init_len ps v.2]
 | (.mutp m,t)::ps,v=>by simp[initSlots,init_len ps v.2]
 | (.muts m,t)::ps,v=>by simp[initSlots,init_len ps v.2]
 | (.eat m,t)::ps,v=>by simp[initSlots,init_len ps v.2]
 | (.eatv m,t)::ps,v=>by simp[initSlots,init_len ps v.2]
theorem args_len:∀ (ps:List (PM×Ty)) {v:(tupT (ps.map (·.2))).den} {xs:List Value} {G:FP},ArgsRel P w A ps v xs G->xs.length=ps.length
 | [],_,_,_,h=>by have h:_=[]:=h;rw[h];rfl
 | (pm,t)::ps,_,_,_,h=>by
  obtain ⟨y,ys,F1,F2,rfl,_,_,h2⟩:=h
  simp[args_len ps h2]
theorem init_ok:∀ (ps:List (PM×Ty)) {v:(tupT (ps.map (·.2))).den} {xs:List Value} {G:FP},ArgsRel P w A ps v xs G->psOk ps=true ->
  ∃ Fi:Nat->FP,(∀ b k,sumF ps.length Fi b k<=G b k)/\∀ i s,(initSlots ps v)[i]?=some s->∃ y,xs[i]?=some y/\(∀ σ a,SlotRel P A σ a w y s (Fi i))/\(∀ t m H v,s=.box t m H v->(i,i,false) ∈ lentOf 0 ps) /\
   ((i,i,true) ∈ lentOf 0 ps->∃ t m H v,s=.own t m H v):=by
 have main:∀ (ps:List (PM×Ty)) (n:Nat) {v:(tupT (ps.map (·.2))).den} {xs:List Value} {G:FP},ArgsRel P w A ps v xs G->psOk ps=true ->
   ∃ Fi:Nat->FP,(∀ b k,sumF ps.length Fi b k<=G b k)/\∀ i s,(initSlots ps v)[i]?=some s->∃ y,xs[i]?=some y/\(∀ σ a,SlotRel P A σ a w y s (Fi i))/\(∀ t m H v,s=.box t m H v->(n+i,n+i,false) ∈ lentOf n ps) /\
    ((n+i,n+i,true) ∈ lentOf n ps->∃ t m H v,s=.own t m H v):=by
  have hlt:∀ (ps:List (PM×Ty)) (n j k:Nat) (c:Bool),(j,k,c) ∈ lentOf n ps->n<=j/\j=k:=by
   intro ps
   induction ps with
   | nil=>intro n j k c h;cases h
   | cons p ps ih=>
    intro n j k c h
    obtain ⟨pm,t⟩:=p
    cases pm with
    | ro=>have:=ih (n+1) j k c h;omega
    | fix f=>have:=ih (n+1) j k c h;omega
    | eatv m=>have:=ih (n+1) j k c h;omega
    | mutp m=>
     rcases List.mem_cons.1 h with e | h
     ·injection e with e1 e2;injection e2 with e2 e3;omega
     ·have:=ih (n+1) j k c h;omega
    | eat m=>
     rcases List.mem_cons.1 h with e | h
     ·injection e with e1 e2;injection e2 with e2 e3;omega
     ·have:=ih (n+1) j k c h;omega
    | muts m=>
     rcases List.mem_cons.1 h with e | h
     ·injection e with e1 e2;injection e2 with e2 e3;omega
     ·have:=ih (n+1) j k c h;omega
  intro ps
  induction ps with
  | nil=>intro n v xs G h _;exact ⟨fun _ _ _=>0,fun b k=>Nat.zero_le _,fun i s hs=>by cases hs⟩
  | cons p ps ih=>
   intro n v xs G h hp
   obtain ⟨pm,t⟩:=p
   obtain ⟨y,ys,F1,F2,rfl,hs,ha,hr⟩:=h
   have hp':psOk ps=true:=hp
   obtain ⟨Fi,g1,g2⟩:=ih (n+1) hr hp'
   obtain ⟨s0,hs0,hrel,hbox,hown⟩:∃ s0,initSlots ((pm,t)::ps) v=s0::initSlots ps v.2/\(∀ σ a,SlotRel P A σ a w y s0 F1)/\(∀ t' m' H' v',s0=.box t' m' H' v'->∃ m,pm=.mutp m\/pm=.eat m)/\((∃ m,pm=.muts m)->∃ t' m H v,s0=.own t' m H v):=by
    cases pm with
    | ro=>
     obtain ⟨cs,h1,h2⟩:=ha
     cases t with
     | ptr e=>
      refine ⟨.cp e v.1,rfl,fun σ a=>?_,(fun _ _ _ _ e=>by cases e),fun ⟨m,e⟩=>by cases e⟩
      have hl:=Ro.length _ h2
      match cs,hl with
      | [u],_=>
       rw[mkV_one _ _ rfl] at h1
       subst h1
       exact h2
     | _=>exact ⟨.val _ v.1,rfl,fun σ a=>⟨cs,h1,h2⟩,(fun _ _ _ _ e=>by cases e),fun ⟨m,e⟩=>by cases e⟩
    | fix f=>
     obtain ⟨⟨cs,h1,h2⟩,h3⟩:=ha
     cases t with
     | fn=>
      refine ⟨.val .fn (f,v.1.2),rfl,fun σ a=>⟨cs,h1,?_⟩,(fun _ _ _ _ e=>by cases e),fun ⟨m,e⟩=>by cases e⟩
      have e:v.1=(f,v.1.2):=by have:=h3 rfl;rw[<-this]
      rw[<-e];exact h2
     | _=>exact ⟨.dead,rfl,fun σ a=>trivial,(fun _ _ _ _ e=>by cases e),fun ⟨m,e⟩=>by cases e⟩
    | mutp m=>
     obtain ⟨b,o,L,F3,h1,h2,h3,h4,h5,h6⟩:=ha
     exact ⟨.box t m [] v.1,rfl,fun σ a=>⟨b,o,L,F3,h1,h2,h3,h4,h5,h6⟩,fun _ _ _ _ _=>⟨m,.inl rfl⟩,fun ⟨m,e⟩=>by cases e⟩
    | eat m=>
     obtain ⟨b,o,L,F3,h1,h2,h3,h4,h5,h6⟩:=ha
     exact ⟨.box t m [] v.1,rfl,fun σ a=>⟨b,o,L,F3,h1,h2,h3,h4,h5,h6⟩,fun _ _ _ _ _=>⟨m,.inr rfl⟩,fun ⟨m,e⟩=>by cases e⟩
    | muts m=>
     obtain ⟨cs,h1,h2⟩:=ha
     exact ⟨.own t m [] v.1,rfl,fun σ a=>⟨cs,h1,h2⟩,(fun _ _ _ _ e=>by cases e),fun _=>⟨_,_,_,_,rfl⟩⟩
    | eatv m=>
     obtain ⟨cs,h1,h2⟩:=ha
     exact ⟨.own t m [] v.1,rfl,fun σ a=>⟨cs,h1,h2⟩,(fun _ _ _ _ e=>by cases e),fun _=>⟨_,_,_,_,rfl⟩⟩
   refine ⟨fun k=>match k with | 0=>F1 | k+1=>Fi k,fun b k=>?_,fun i s hi=>?_⟩
   ·have:sumF (ps.length+1) (fun k=>match k with | 0=>F1 | k+1=>Fi k) b k=F1 b k+sumF ps.length Fi b k:=by
     rw[Nat.add_comm,sumF_add]
     congr 1
     ·simp[sumF]
     ·refine congrFun (congrFun (sumF_congr fun j hj=>?_) b) k
      rw[Nat.add_comm]
    show sumF (ps.length+1) _ b k<=G b k
    rw[this]
    have:=hs b k;have:=g1 b k;omega
   ·rw[hs0] at hi
    cases i with
    | zero=>
     injection hi with hi
     subst hi
     refine ⟨y,rfl,hrel,fun t' m' H' v' e=>?_,fun hm=>?_⟩
     ·obtain ⟨m,rfl | rfl⟩:=hbox t' m' H' v' e
      ·exact List.mem_cons_self
      ·exact List.mem_cons_self
     ·refine hown ?_
      cases pm with
      | muts m=>exact ⟨m,rfl⟩
      | ro=>have:=hlt ps (n+1) _ _ _ hm;omega
      | fix f=>have:=hlt ps (n+1) _ _ _ hm;omega
      | eatv m=>have:=hlt ps (n+1) _ _ _ hm;omega
      | mutp m=>
       rcases List.mem_cons.1 hm with e | hm
       ·injection e with e1 e2;injection e2 with e2 e3;cases e3
       ·have:=hlt ps (n+1) _ _ _ hm;omega
      | eat m=>
       rcases List.mem_cons.1 hm with e | hm
       ·injection e with e1 e2;injection e2 with e2 e3;cases e3
       ·have:=hlt ps (n+1) _ _ _ hm;omega
    | succ i=>
     obtain ⟨y',q1,q2,q3,q4⟩:=g2 i s hi
     have hidx:n+1+i=n+(i+1):=by omega
     rw[hidx] at q3 q4
     refine ⟨y',q1,q2,fun t' m' H' v' e=>?_,fun hm=>q4 ?_⟩
     ·have:=q3 t' m' H' v' e
      cases pm with
      | ro=>exact this
      | fix f=>exact this
      | eatv m=>exact this
      | mutp m=>exact List.mem_cons_of_mem _ this
      | eat m=>exact List.mem_cons_of_mem _ this
      | muts m=>exact List.mem_cons_of_mem _ this
     ·cases pm with
      | ro=>exact hm
      | fix f=>exact hm
      | eatv m=>exact hm
      | mutp m=>
       rcases List.mem_cons.1 hm with e | hm
       ·injection e with e1 e2;omega
       ·exact hm
      | eat m=>
       rcases List.mem_cons.1 hm with e | hm
       ·injection e with e1 e2;omega
       ·exact hm
      | muts m=>
       rcases List.mem_cons.1 hm with e | hm
       ·injection e with e1 e2;omega
       ·exact hm
 intro ps v xs G h hp
 obtain ⟨Fi,g1,g2⟩:=main ps 0 h hp
 exact ⟨Fi,g1,fun i s hi=>by simpa using g2 i s hi⟩
theorem lent_idx:∀ (ps:List (PM×Ty)) (n j k:Nat) (c:Bool),(j,k,c) ∈ lentOf n ps->n<=j/\j=k/\j < n+ps.length:=by
 intro ps
 induction ps with
 | nil=>intro n j k c h;cases h
 | cons p ps ih=>
  intro n j k c h
  obtain ⟨pm,t⟩:=p
  simp only[List.length_cons]
  cases pm with
  | ro=>have:=ih (n+1) j k c h;omega
  | fix f=>have:=ih (n+1) j k c h;omega
  | eatv m=>have:=ih (n+1) j k c h;omega
  | mutp m=>
   rcases List.mem_cons.1 h with e | h
   ·injection e with e1 e2;injection e2 with e2 e3;omega
   ·have:=ih (n+1) j k c h;omega
  | eat m=>
   rcases List.mem_cons.1 h with e | h
   ·injection e with e1 e2;injection e2 with e2 e3;omega
   ·have:=ih (n+1) j k c h;omega
  | muts m=>
   rcases List.mem_cons.1 h with e | h
   ·injection e with e1 e2;injection e2 with e2 e3;omega
   ·have:=ih (n+1) j k c h;omega
theorem look_num:∀ (ss:List Slot) (n i:Nat),lookN (numbered n ss) i=if n<=i then ss[i - n]? else none
 | [],n,i=>by simp[numbered,lookN]
 | s::ss,n,i=>by
  simp only[numbered,lookN,look_num ss (n+1) i]
  by_cases hi:n=i
  ·subst hi;simp
  ·have:Nat.beq n i=false:=by
    cases hb:Nat.beq n i with
    | false=>rfl
    | true=>exact absurd (Nat.eq_of_beq_eq_true hb) hi
   simp only[this,Bool.false_eq_true,if_false]
   by_cases hle:n<=i
   ·rw[if_pos (by omega),if_pos hle]
    have e:i - n=(i - (n+1))+1:=by omega
    rw[e,List.getElem?_cons_succ]
   ·rw[if_neg (by omega),if_neg hle]
theorem begin_ok {g:Sig} {v:(tupT (g.ps.map (·.2))).den} {xs:List Value} {F0:FP} {n:Nat} (h:ArgsRel P w A g.ps v xs F0) (hp:psOk g.ps=true) (hn:g.ps.length<=n) (h1:∀ b i,F0 b i<=1) (h2:∀ b i,1<=F0 b i->¬ A b i) (h3:∀ b i,1<=F0 b i\/A b i->b < w.heap.size) :
  ∃ F,Rel0 P { w0:=w,A0:=A,F0:=F0,args:=xs.toArray } A (initSt g.ps v n) { tmps:=xs.toArray++Array.replicate (n - xs.toArray.size) undef,defers:=[] } w F:=by
 obtain ⟨Fi,g1,g2⟩:=init_ok g.ps h hp
 have hlen:=args_len g.ps h
 have hil:=init_len g.ps v
 have hget:∀ i,(initSt g.ps v n).get i=if i < n then (match (initSlots g.ps v)[i]? with | some s=>s | none=>.dead) else .dead:=fun i=>by
  unfold St.get initSt
  simp only[look_num,Nat.zero_le,if_true,Nat.sub_zero]
  by_cases hi:i < n
  ·rw[if_pos (by simpa [Nat.blt_eq] using hi),if_pos hi]
   rfl
  ·rw[if_neg (by simpa [Nat.blt_eq] using hi),if_neg hi]
 have htmp:∀ i (y:Value),xs[i]?=some y->tmp { tmps:=xs.toArray++Array.replicate (n - xs.toArray.size) undef,defers:=[] } i=y:=fun i y hy=>by
  have hi:=(List.getElem?_eq_some_iff.1 hy).1
  unfold tmp
  rw[Array.getD_eq_getD_getElem?,Array.getElem?_append_left (by simpa using hi)]
  simp[hy]
 have hsum:∀ b k,sumF n (fun i=>if i < g.ps.length then Fi i else fun _ _=>0) b k<=F0 b k:=fun b k=>by
  have e:n=g.ps.length+(n - g.ps.length):=by omega
  rw[e,sumF_add]
  have e1:=congrFun (congrFun (sumF_congr (n:=g.ps.length) (f:=fun i=>if i < g.ps.length then Fi i else fun _ _=>0) (g:=Fi) (fun j hj=>by simp only[if_pos hj])) b) k
  have e2:=congrFun (congrFun (sumF_congr (n:=n - g.ps.length) (f:=fun j=>(fun i=>if i < g.ps.length then Fi i else fun _ _=>0) (g.ps.length+j)) (g:=fun _ _ _=>0) (fun j hj=>by simp only;rw[if_neg (by omega)])) b) k
  rw[e1,e2,sumF_zero]
  exact g1 b k
 refine ⟨fun i=>if i < g.ps.length then Fi i else fun _ _=>0,?_,rfl,fun i hi=>?_,(fun d r p snap hm=>by cases hm),fun b k=>?_,fun b k hp=>?_,fun b k hp=>?_,fun i=>rfl,Ext.refl _ _,fun b k hp=>?_,fun _ _ h=>h,fun _ _ h=>.inl h,fun j k hm=>?_,fun r t m H v' hg hl=>?_,fun j k hm R hR=>?_⟩
 ·simp only[Array.size_append,List.size_toArray,Array.size_replicate,hlen,initSt];omega
 ·rw[hget]
  have hi:i < n:=hi
  rw[if_pos hi]
  cases hs:(initSlots g.ps v)[i]? with
  | none=>trivial
  | some s=>
   obtain ⟨y,q1,q2,_⟩:=g2 i s hs
   have hlt:i < g.ps.length:=by rw[<-hil];exact (List.getElem?_eq_some_iff.1 hs).1
   rw[htmp i y q1]
   simp only[if_pos hlt]
   exact q2 _ _
 ·have:=hsum b k;have:=h1 b k;show 0+sumF n _ b k<=1;omega
 ·have hp:1<=0+sumF n (fun i=>if i < g.ps.length then Fi i else fun _ _=>0) b k:=hp
  have:=hsum b k
  exact h2 b k (by omega)
 ·refine h3 b k (hp.imp (fun hp=>?_) id)
  have hp:1<=0+sumF n (fun i=>if i < g.ps.length then Fi i else fun _ _=>0) b k:=hp
  have:=hsum b k
  omega
 ·have hp:1<=0+sumF n (fun i=>if i < g.ps.length then Fi i else fun _ _=>0) b k:=hp
  have:=hsum b k
  left;show 1<=F0 b k;omega
 ·obtain ⟨_,rfl,hj⟩:=lent_idx g.ps 0 j k false hm
  have hj:j < xs.length:=by omega
  rw[htmp j xs[j] (List.getElem?_eq_getElem hj)]
  simp[hj]
 ·exfalso
  rw[hget] at hg
  split at hg
  ·cases hs:(initSlots g.ps v)[r]? with
   | none=>rw[hs] at hg;cases hg
   | some s=>
    rw[hs] at hg
    obtain ⟨y,_,_,q3,_⟩:=g2 r s hs
    exact hl r (q3 t m H v' hg)
  ·cases hg
 ·obtain ⟨_,rfl,hj⟩:=lent_idx g.ps 0 j k true hm
  have hj':j < (initSlots g.ps v).length:=by omega
  have hs:=List.getElem?_eq_getElem hj'
  obtain ⟨y,q1,q2,_,q4⟩:=g2 j _ hs
  obtain ⟨t,m,H,v',e⟩:=q4 hm
  have hjn:j < n:=by omega
  rw[hget,if_pos hjn,hs] at hR
  simp only[e,rootPl,Option.some.injEq] at hR
  subst hR
  rw[htmp j y q1]
  have h2:=q2 (initSt g.ps v n) { tmps:=#[],defers:=[] }
  rw[e] at h2
  obtain ⟨cs,c1,c2⟩:=h2
  have:=mkV_cells (Rep.length _ c2) (Rep.one _ c2)
  show mkV t y.cells.toList=_
  rw[c1,this,<- c1]
  have hjx:=(List.getElem?_eq_some_iff.1 q1)
  obtain ⟨hjx,e2⟩:=hjx
  simp[hjx,e2]
noncomputable def funOk (P:Program) (E:Env) (fn:Func) (ps:List (PM×Ty)) (rs:List (Ty×Md)) (es:List Nat):Bool:=
 codeOk P E (bodyOf fn)&&rvOk E rs fn.results.toList&&psOk ps&&Nat.ble ps.length fn.ntmps&&decide es.Nodup
theorem sound_of_body (hE:EnvOk P E) {f:FuncId} {fn:Func} (hf:P.funcs[f]?=some fn) (hb:fn.body.isSome=true) {g:Sig} {es fr:List Nat} (hok:funOk P E fn g.ps g.rs es=true) (hF:∀ v out,g.F v=some out->∃ k,bodyK E k fn g.ps g.rs es fr v=some out):Sound P f g:=by
 intro w A F0 v xs hargs h1 h2 h3 out hout
 obtain ⟨k,hk⟩:=hF v out hout
 simp only[funOk,Bool.and_eq_true,Nat.ble_eq,decide_eq_true_eq] at hok
 obtain ⟨⟨⟨⟨hcode,hrv⟩,hps⟩,hnt⟩,hnd⟩:=hok
 obtain ⟨c,hc⟩:=Option.isSome_iff_exists.1 hb
 have hbo:bodyOf fn=c:=by simp[bodyOf,hc]
 rw[hbo] at hcode
 obtain ⟨F,hrel⟩:=begin_ok hargs hps hnt h1 h2 h3
 unfold bodyK at hk
 rw[hbo] at hk
 have hxl:=args_len g.ps hargs
 have hend:∀ (a':Act) (w':World) (σ':St),outK g.ps g.rs es fn.results.toList (mvs fr) σ'=some out->RelE P { w0:=w,A0:=A,F0:=F0,args:=xs.toArray } σ' a' w' ->
   a'.defers=[]/\∃ rv,(results fn a'.tmps).run P w'=.ok rv w'/\(∃ rv',Ending.returned rv=.returned rv'/\Ext w w' F0/\∃ (A':Cells) (G GR GM:FP),(∀ b i,A b i->A' b i)/\(∀ b i,A' b i->A b i\/1<=F0 b i\/w.heap.size<=b) /\
    (∀ b i,1<=G b i->1<=F0 b i\/w.heap.size<=b)/\(∀ b i,G b i<=1)/\(∀ b i,1<=G b i->¬ A' b i)/\(∀ b i,1<=G b i\/A' b i->b < w'.heap.size)/\(∀ b i,GR b i+GM b i<=G b i) /\
    RetRel P w' A' (splitR g.rs out).1 rv' GR/\MutsRel P w' A' g.ps (splitR g.rs out).2 xs GM):=by
  intro a' w' σ' ho hr
  obtain ⟨A1,F1,hr⟩:=hr
  unfold outK at ho
  obtain ⟨A2,σ2,X2,F2,vals,L,Fi,pre,r1,r2,r3,r4,r5,r6,r7,r8,r9⟩:=res_ok hE g.rs fn.results.toList 0 hrv hr ho
  obtain ⟨vs,us,Gi,m1,m2,m3,m4,m5,m6⟩:=muts_ok r2 0 g.ps es hps hnd (by simp[hxl]) r3
  have hpre:pre vs=out:=Option.some.inj m1
  have hsp:splitR g.rs out=(L,vs):=by rw[<-hpre,r4]
  have hGR:∀ b i,sumF L.length Fi b i<=X2 b i:=fun b i=>by have:=r8 b i;omega
  have hGM0:∀ b i,sumL Gi us b i<=sumL F2 us b i:=fun b i=>by
   have:∀ l:List Nat,(∀ j ∈ l,j ∈ us)->sumL Gi l b i<=sumL F2 l b i:=by
    intro l
    induction l with
    | nil=>intro _;exact Nat.le_refl _
    | cons j l ih=>
     intro hl
     have:=m5 j b i (hl j List.mem_cons_self)
     have:=ih fun j' hj'=>hl j' (List.mem_cons_of_mem _ hj')
     simp only[sumL];omega
   exact this us fun _ h=>h
  have hGM:∀ b i,sumL Gi us b i<=sumF σ2.n F2 b i:=fun b i=>Nat.le_trans (hGM0 b i) (sumL_le us F2 m3 m4 b i)
  refine ⟨r2.defers,_,results_run (by rw[r6]) r7,_,rfl,r2.ext,?_⟩
  obtain ⟨A3,hA3⟩:∃ A3:Cells,∀ b i,A3 b i↔(A2 b i\/(1<=X2 b i+sumF σ2.n F2 b i/\sumF L.length Fi b i+sumL Gi us b i=0)):=⟨fun b i=>A2 b i\/(1<=X2 b i+sumF σ2.n F2 b i/\sumF L.length Fi b i+sumL Gi us b i=0),fun _ _=>Iff.rfl⟩
  have hA23:∀ b i,A2 b i->A3 b i:=fun b i h=>(hA3 b i).2 (.inl h)
  have htot:∀ b i,X2 b i+sumF σ2.n F2 b i<=1:=fun b i=>r2.tot b i
  refine ⟨A3,fun b i=>sumF L.length Fi b i+sumL Gi us b i,sumF L.length Fi,sumL Gi us,fun b i ha=>hA23 b i (r2.a0 b i ha),fun b i ha=>?_,fun b i hp=>?_,fun b i=>?_,fun b i hp ha=>?_,fun b i hp=>?_,fun _ _=>Nat.le_refl _,?_,?_⟩
  ·rcases (hA3 b i).1 ha with ha | ⟨hp,_⟩
   ·exact r2.a1 b i ha
   ·exact .inr (r2.own b i hp)
  ·have hp:1<=sumF L.length Fi b i+sumL Gi us b i:=hp
   exact r2.own b i (by have:=hGR b i;have:=hGM b i;omega)
  ·show sumF L.length Fi b i+sumL Gi us b i<=1
   have:=hGR b i;have:=hGM b i;have:=htot b i;omega
  ·have hp:1<=sumF L.length Fi b i+sumL Gi us b i:=hp
   rcases (hA3 b i).1 ha with ha | ⟨_,hz⟩
   ·exact r2.dis b i (by have:=hGR b i;have:=hGM b i;omega) ha
   ·omega
  ·rcases hp with hp | ha
   ·have hp:1<=sumF L.length Fi b i+sumL Gi us b i:=hp
    exact r2.bnd b i (.inl (by have:=hGR b i;have:=hGM b i;omega))
   ·rcases (hA3 b i).1 ha with ha | ⟨hp,_⟩
    ·exact r2.bnd b i (.inr ha)
    ·exact r2.bnd b i (.inl hp)
  ·rw[hsp]
   have hres:=r9 A3 hA23 (fun b i hx _ hz=>(hA3 b i).2 (.inr ⟨by omega,by
    have:=hGM b i;have:=htot b i;omega⟩))
   show RetRel P w' A3 L _ _
   match L,r5,hres with
   | [],_,_=>trivial
   | [y],hl,hres=>
    match vals,hl with
    | [u],_=>
     obtain ⟨u',cs,e1,e2,e3⟩:=hres 0 y rfl
     injection e1 with e1
     subst e1
     refine ⟨cs,by simpa using e2,e3.le fun b i=>by simp[sumF]⟩
   | y::z::L,hl,hres=>
    refine ⟨vals.toArray,Fi,?_,fun _ _=>Nat.le_refl _,fun j q hq=>?_⟩
    ·rw[dif_neg]
     simp only[List.size_toArray,hl,List.length_cons];omega
    ·obtain ⟨u,cs,e1,e2,e3⟩:=hres j q hq
     exact ⟨u,cs,by simpa using e1,e2,e3⟩
  ·rw[hsp]
   refine m6 A3 hA23 fun i b k' hi hp hz=>(hA3 b k').2 (.inr ⟨by have:=le_sumF F2 (m4 i hi) b k';omega,?_⟩)
   have h4:=le_sumF F2 (m4 i hi) b k'
   have h5:=htot b k'
   have h6:=hGR b k'
   have h7:sumL Gi us b k'=0:=by
    rcases Nat.eq_zero_or_pos (sumL Gi us b k') with h0 | h0
    ·exact h0
    ·obtain ⟨j,hj,hpj⟩:=sumL_pos h0
     by_cases hij:j=i
     ·subst hij;omega
     ·have:=m5 j b k' hj
      have:=le_sumF2 F2 (m4 j hj) (m4 i hi) hij b k'
      omega
   omega
 refine calls_of_wp hf hc (wp_mono (code_ok hE c hcode hrel hk) fun e a' w' hq=>?_)
 cases e with
 | normal=>obtain ⟨σ',h4,h5⟩:=hq;exact hend a' w' σ' h4 h5
 | ret=>obtain ⟨σ',h4,h5⟩:=hq;exact hend a' w' σ' h4 h5
 | exit j=>obtain ⟨σ',h4,h5⟩:=hq;cases h4
 | _=>exact hq.elim
end
end OT
set_option linter.unusedVariables false
set_option linter.unusedSimpArgs false
namespace OT
open Go
def OLD (w:World):Cells:=fun b _=>b < w.heap.size
def argT:Ty->Bool
 | .int _ | .bool | .str | .unit=>true
 | .pair a b=>argT a&&argT b
 | .slc e=>argT e
 | _=>false
def okD:(T:Ty)->T.den->Prop
 | .int k,n=>k.min<=toI k n/\toI k n<=k.max
 | .str,s=>List.length s<=maxLen
 | .pair a b,v=>okD a v.1/\okD b v.2
 | .slc e,v=>List.length v<=maxLen/\∀ x ∈ (v:List e.den),okD e x
 | _,_=>True
def okA:(ps:List (PM×Ty))->(tupT (ps.map (·.2))).den->Prop
 | [],_=>True
 | (_,T)::ps,v=>okD T v.1/\okA ps v.2
section
variable {P:Program} {w:World} {H:Type} {enc:TypeId×Value->H}
theorem cells_sz {T:Ty} {i:TypeId} (h:layB P T (.inl i)=true):P.cellsOf i=T.sz:=by
 obtain ⟨inf,h1,h2,_⟩:=infoOk_some (layB_info h)
 simp[Program.cellsOf,h1,h2]
theorem add_none {a:Addr} {k:Nat} {u:Value} (h:w.cell? (a.add k)=some u) (hk:k=0\/a.spot=none):a.spot=none:=by
 rcases hk with rfl | hk
 ·unfold Addr.add at h
  rw[if_pos rfl] at h
  unfold World.cell? at h
  split at h
  ·split at h
   ·cases h
   ·rename_i hs
    cases hsp:a.spot with
    | none=>rfl
    | some s=>rw[hsp] at hs;simp at hs
  ·cases h
 ·exact hk
theorem trod_ro:∀ (T:Ty),argT T=true ->
  (∀ i,layB P T (.inl i)=true->∀ fuel cs x,DataW.trod enc P w 0 (fun _=>true) true fuel i cs=some x->∃ v:T.den,okD T v/\Ro P w (OLD w) T v cs) /\
  (∀ fs off,layB P T (.inr (fs,off))=true->∀ n (cs:List Value),cs.length=off+T.sz->(∀ f ∈ fs,∃ x,DataW.trod enc P w 0 (fun _=>true) true n f.type ((cs.drop f.offset).take (P.cellsOf f.type))=some x)->∃ v:T.den,okD T v/\Ro P w (OLD w) T v (cs.drop off)):=by
 intro T
 induction T with
 | int k=>
  intro _
  refine ⟨fun i hl fuel cs x h=>?_,fun fs off hl=>by simp[layB] at hl⟩
  obtain ⟨n,rfl,_,hwf⟩:=DataW.trod_int (lay_int hl) h
  simp only[Lit.wf,Bool.and_eq_true,decide_eq_true_eq] at hwf
  cases k with
  | u8=>
   have h1:toI .u8 (UInt8.ofInt n)=n:=by
    have:=toI_inI .u8 n (fun _=>by
     have h1:(0:Int)<=n:=hwf.1
     have h2:n<=(255:Int):=hwf.2
     omega)
    exact this
   refine ⟨(UInt8.ofInt n:UInt8),?_,?_⟩
   ·show IntKind.u8.min<=toI .u8 (UInt8.ofInt n)/\toI .u8 (UInt8.ofInt n)<=IntKind.u8.max
    rw[h1];exact hwf
   ·show [Value.int .u8 n]=[Value.int .u8 (toI .u8 (UInt8.ofInt n))]
    rw[h1]
  | _=>exact ⟨n,hwf,rfl⟩
 | bool=>
  intro _
  refine ⟨fun i hl fuel cs x h=>?_,fun fs off hl=>by simp[layB] at hl⟩
  have hu:P.underlying i=some .bool:=by
   simp only[layB,Bool.and_eq_true] at hl
   have h2:=hl.2
   split at h2
   ·assumption
   ·cases h2
  obtain ⟨b,rfl,_⟩:=DataW.trod_bool hu h
  exact ⟨b,trivial,rfl⟩
 | str=>
  intro _
  refine ⟨fun i hl fuel cs x h=>?_,fun fs off hl=>by simp[layB] at hl⟩
  obtain ⟨s,rfl,_,hsm⟩:=DataW.trod_string (lay_str hl) h
  exact ⟨s.data.toList,(by show s.data.toList.length<=maxLen;rw[Array.length_toList];exact hsm),by simp only[Ro]⟩
 | unit=>
  intro _
  refine ⟨fun i hl fuel cs x h=>?_,fun fs off hl n cs hlen _=>⟨(),trivial,?_⟩⟩
  ·simp only[layB,Bool.and_eq_true] at hl
   have h2:=hl.2
   split at h2
   ·rename_i fs hu
    obtain ⟨xs,n,_,_,hlen,_⟩:=DataW.trod_struct hu h
    have hsz:P.cellsOf i=0:=by
     obtain ⟨inf,h1,h3,_⟩:=infoOk_some hl.1
     simp[Program.cellsOf,h1,h3,Ty.sz]
    rw[hsz] at hlen
    exact ⟨(),trivial,by simp only[Ro];exact List.eq_nil_of_length_eq_zero hlen⟩
   ·cases h2
  ·simp only[Ro]
   exact List.drop_of_length_le (by simp only[Ty.sz] at hlen;omega)
 | pair a b iha ihb=>
  intro ha
  simp only[argT,Bool.and_eq_true] at ha
  have hinr:∀ fs off,layB P (.pair a b) (.inr (fs,off))=true->∀ n (cs:List Value),cs.length=off+(Ty.pair a b).sz->(∀ f ∈ fs,∃ x,DataW.trod enc P w 0 (fun _=>true) true n f.type ((cs.drop f.offset).take (P.cellsOf f.type))=some x)->∃ v:(Ty.pair a b).den,okD (.pair a b) v/\Ro P w (OLD w) (.pair a b) v (cs.drop off):=by
   intro fs off hl n cs hlen hf
   cases fs with
   | nil=>simp[layB] at hl
   | cons f r=>
    simp only[layB,Bool.and_eq_true,Nat.beq_eq,Nat.ble_eq] at hl
    obtain ⟨⟨⟨ho,_⟩,h1⟩,h2⟩:=hl
    simp only[Ty.sz] at hlen
    obtain ⟨x,hx⟩:=hf f List.mem_cons_self
    rw[ho,cells_sz h1] at hx
    obtain ⟨v1,o1,r1⟩:=(iha ha.1).1 _ h1 _ _ _ hx
    obtain ⟨v2,o2,r2⟩:=(ihb ha.2).2 r (off+a.sz) h2 n cs (by omega) (fun f' hf'=>hf f' (List.mem_cons_of_mem _ hf'))
    exact ⟨(v1,v2),⟨o1,o2⟩,r1,by rw[List.drop_drop];exact r2⟩
  refine ⟨fun i hl fuel cs x h=>?_,hinr⟩
  have hl0:=hl
  simp only[layB,Bool.and_eq_true] at hl
  have h2:=hl.2
  split at h2
  ·rename_i fs hu
   split at h2
   ·rename_i f r hfs
    have h3:layB P (.pair a b) (.inr (f::r,0))=true:=by
     simp only[layB,Nat.zero_add];exact h2
    obtain ⟨xs,n,_,_,hlen,hxl,hfields⟩:=DataW.trod_struct hu h
    rw[cells_sz hl0] at hlen
    have:=hinr (f::r) 0 h3 n cs (by omega) (fun f' hf'=>by
     rw[<-hfs] at hf'
     obtain ⟨j,hj,e⟩:=List.mem_iff_getElem.1 hf'
     have hj':j < fs.size:=by simpa using hj
     have:=hfields j f' (by rw[Array.getElem?_eq_getElem hj'];simpa using e)
     rw[this,List.getElem?_eq_getElem (by omega)]
     exact ⟨_,rfl⟩)
    simpa using this
   ·cases h2
  ·cases h2
 | slc e ih=>
  intro ha
  simp only[argT] at ha
  refine ⟨fun i hl fuel cs x h=>?_,fun fs off hl=>by simp[layB] at hl⟩
  obtain ⟨el,hu,hsz,hle⟩:=lay_slc hl
  rcases DataW.trod_slice hu h with ⟨rfl,_⟩ | ⟨a,len,cap,elems,rest,n,_,rfl,_,_,hlc,hcm,hel,hels,hrest,_⟩
  ·exact ⟨[],⟨Nat.zero_le _,fun x hx=>by cases hx⟩,none,0,rfl,Nat.le_refl _,fun _=>rfl,fun ad e=>by cases e⟩
  ·rw[cells_sz hle] at hels hrest
   have hcell:∀ k y,(w.cells? 0 (a.add (k*e.sz)) e.sz).bind (DataW.trod enc P w 0 (fun _=>true) true n el)=some y->∃ cs',w.cells? 0 (a.add (k*e.sz)) e.sz=some cs'/\DataW.trod enc P w 0 (fun _=>true) true n el cs'=some y:=fun k y hk=>by
    cases hc:w.cells? 0 (a.add (k*e.sz)) e.sz with
    | none=>rw[hc] at hk;cases hk
    | some cs'=>rw[hc] at hk;exact ⟨cs',rfl,hk⟩
   have hspot:0 < cap->a.spot=none:=fun hpos=>by
    have hfirst:∃ cs',w.cells? 0 (a.add (0*e.sz)) e.sz=some cs':=by
     by_cases hlen:0 < len
     ·have h0:=hels 0 hlen
      rw[List.getElem?_eq_getElem (by omega)] at h0
      obtain ⟨cs',h1,_⟩:=hcell 0 _ h0
      exact ⟨cs',h1⟩
     ·obtain rfl:len=0:=by omega
      obtain ⟨hr1,hr2⟩:=hrest rfl
      have h0:=hr2 0 (by omega)
      rw[List.getElem?_eq_getElem (by omega)] at h0
      obtain ⟨cs',h1,_⟩:=hcell (0+0) _ h0
      exact ⟨cs',by simpa using h1⟩
    obtain ⟨cs',h1⟩:=hfirst
    obtain ⟨_,hl1,h2⟩:=World.cells?_some h1
    have h3:=h2 0 (by omega)
    rw[List.getElem?_eq_getElem (by omega),Nat.zero_mul] at h3
    have h4:(a.add 0).add 0=a.add 0:=by unfold Addr.add;simp
    rw[h4] at h3
    exact add_none h3 (.inl rfl)
   have each:∀ k:Fin len,∃ v:e.den,okD e v/\∃ L:List Value,L.length=e.sz/\(∀ j u,L[j]?=some u->ce w a.block (a.off+k.val*e.sz+j)=some u/\OLD w a.block (a.off+k.val*e.sz+j))/\Ro P w (OLD w) e v L:=fun k=>by
    have h0:=hels k.val k.isLt
    rw[List.getElem?_eq_getElem (by have:=k.isLt;omega)] at h0
    obtain ⟨cs',h1,h2⟩:=hcell k.val _ h0
    obtain ⟨v,ho,hv⟩:=(ih ha).1 _ hle _ _ _ h2
    obtain ⟨_,hl1,h3⟩:=World.cells?_some h1
    refine ⟨v,ho,cs',hl1,fun j u hu=>?_,hv⟩
    have hj:=(List.getElem?_eq_some_iff.1 hu).1
    have h4:=h3 j (by omega)
    rw[hu] at h4
    have hsp:=hspot (by have:=k.isLt;omega)
    obtain ⟨b,off,sp⟩:=a
    simp only at hsp
    subst hsp
    rw[addr_add,addr_add] at h4
    have h5:ce w b (off+k.val*e.sz+j)=some u:=cell_ce h4 (Ro.one e hv u (List.mem_of_getElem? hu))
    exact ⟨h5,ce_lt h5⟩
   obtain ⟨f,hf⟩:=Classical.axiomOfChoice each
   refine ⟨List.ofFn f,⟨by simp;omega,fun x hx=>?_⟩,some a,cap,by simp,by simpa using hlc,(fun e=>by cases e),fun ad e=>?_⟩
   ·obtain ⟨j,rfl⟩:=List.mem_ofFn.1 hx
    exact (hf j).1
   injection e with e
   subst e
   refine ⟨hspot,fun k y hk=>?_⟩
   rw[List.getElem?_ofFn] at hk
   split at hk
   ·rename_i hlt
    injection hk with hk
    subst hk
    exact (hf ⟨k,hlt⟩).2
   ·cases hk
 | _=>intro ha;simp[argT] at ha
theorem arg_val {T:Ty} (ha:argT T=true) {i:TypeId} (hl:layB P T (.inl i)=true) {r:Reach} {b0:Nat} {v:Value} (h:Value.okWide P w r b0 i v):v=mkV T v.cells.toList:=by
 cases T with
 | int k=>
  have hu:=lay_int hl
  cases v <;> simp[Value.okWide,Cell.okWide,Cell.ok,hu] at h <;> simp[mkV,isAgg,Value.cells]
 | bool=>
  have hu:P.underlying i=some .bool:=by
   simp only[layB,Bool.and_eq_true] at hl
   have h2:=hl.2
   split at h2
   ·assumption
   ·cases h2
  cases v <;> simp[Value.okWide,Cell.okWide,Cell.ok,hu] at h <;> simp[mkV,isAgg,Value.cells]
 | str=>
  have hu:=lay_str hl
  cases v <;> simp[Value.okWide,Cell.okWide,Cell.ok,hu] at h <;> simp[mkV,isAgg,Value.cells]
 | slc e=>
  obtain ⟨el,hu,_⟩:=lay_slc hl
  cases v <;> simp[Value.okWide,Cell.okWide,Cell.ok,hu] at h <;> simp[mkV,isAgg,Value.cells]
 | unit=>
  simp only[layB,Bool.and_eq_true] at hl
  have h2:=hl.2
  split at h2
  ·rename_i fs hu
   simp only[Value.okWide,hu] at h
   obtain ⟨cs,rfl,_⟩:=h
   simp[mkV,isAgg,Value.cells]
  ·cases h2
 | pair a b=>
  simp only[layB,Bool.and_eq_true] at hl
  have h2:=hl.2
  split at h2
  ·rename_i fs hu
   simp only[Value.okWide,hu] at h
   obtain ⟨cs,rfl,_⟩:=h
   simp[mkV,isAgg,Value.cells]
  ·cases h2
 | _=>simp[argT] at ha
def roLay (P:Program):List (PM×Ty)->List TypeId->Bool
 | [],[]=>true
 | (.ro,T)::ps,t::ts=>argT T&&layB P T (.inl t)&&P.readableRec t&&Nat.blt t P.types.size&&roLay P ps ts
 | _,_=>false
theorem args_ro:∀ (ps:List (PM×Ty)) (ts:List TypeId) (args:List Value) (ds:List (DataW H)) (p:List MemPlace) {b0:Nat},roLay P ps ts=true->DataW.TrodAll enc P w 0 (fun _=>true) true ts args ds p ->
  (∀ (j:Nat) t v,ts[j]?=some t->args[j]?=some v->Value.okWide P w .any b0 t v)->∃ v,okA ps v/\ArgsRel P w (OLD w) ps v args (fun _ _=>0)
 | [],[],args,ds,p,b0,_,h,_=>by
  cases args with
  | nil=>exact ⟨(),trivial,rfl⟩
  | cons _ _=>simp[DataW.TrodAll] at h
 | (.ro,T)::ps,t::ts,args,ds,p,b0,hl,h,hok=>by
  simp only[roLay,Bool.and_eq_true] at hl
  cases args with
  | nil=>simp[DataW.TrodAll] at h
  | cons v args=>
   cases ds with
   | nil=>simp[DataW.TrodAll] at h
   | cons d ds=>
    obtain ⟨p1,q1,⟨fuel,h1⟩,h2,_⟩:=h
    obtain ⟨x,hox,hx⟩:=(trod_ro T hl.1.1.1.1).1 t hl.1.1.1.2 _ _ _ h1
    obtain ⟨xs,hoxs,hxs⟩:=args_ro ps ts args ds q1 (b0:=b0) hl.2 h2 (fun j t' v' ht hv=>hok (j+1) t' v' ht hv)
    exact ⟨(x,xs),⟨hox,hoxs⟩,v,args,fun _ _=>0,fun _ _=>0,rfl,fun _ _=>Nat.le_refl _,⟨_,arg_val hl.1.1.1.1 hl.1.1.1.2 (hok 0 t v rfl rfl),hx⟩,hxs⟩
theorem args_stay (hlo:laidOutB P=true) {W W':World} (hb:RowKit.Below W.heap.size W W') {sp:Nat->Bool}:∀ (ps:List (PM×Ty)) (ts:List TypeId) (args:List Value) (ds:List (DataW H)) (p:List MemPlace),roLay P ps ts=true->DataW.TrodAll enc P W 0 (fun _=>true) true ts args ds p ->
  (∀ x ∈ p,x.block < W.heap.size)->(∀ x ∈ p,sp x.block=true)->DataW.TrodAll enc P W' 0 sp true ts args ds p
 | [],[],args,ds,p,_,h,_,_=>by
  cases args with
  | nil=>
   cases ds with
   | nil=>exact h
   | cons _ _=>simp[DataW.TrodAll] at h
  | cons _ _=>simp[DataW.TrodAll] at h
 | (.ro,T)::ps,t::ts,args,ds,p,hl,h,hlt,hsp=>by
  simp only[roLay,Bool.and_eq_true] at hl
  cases args with
  | nil=>simp[DataW.TrodAll] at h
  | cons v args=>
   cases ds with
   | nil=>simp[DataW.TrodAll] at h
   | cons d ds=>
    obtain ⟨p1,q1,h1,h2,rfl⟩:=h
    have ht:t < P.types.size:=by have:=hl.1.2;rwa [Nat.blt_eq] at this
    exact ⟨p1,q1,WideElems.Trod_stays hlo hl.1.1.2 ht h1 (fun x hx=>hb.same (hlt x (List.mem_append_left _ hx))) (fun x hx=>hsp x (List.mem_append_left _ hx)),
     args_stay hlo hb ps ts args ds q1 hl.2 h2 (fun x hx=>hlt x (List.mem_append_right _ hx)) (fun x hx=>hsp x (List.mem_append_right _ hx)),rfl⟩
theorem law_calls {f:FuncId} {cap:Bool} {ps:List (PM×Ty)} {Fn:(tupT (ps.map (·.2))).den->Option (tupT ([((Ty.bool,roMd .bool):Ty×Md)].map (·.1)++mutTys ps)).den} (hs:Sound P f { cap:=cap,ps:=ps,rs:=[(.bool,roMd .bool)],F:=Fn }) (htrue:∀ v,okA ps v->∃ u,Fn v=some (true,u))
  {ts:List TypeId} (hl:roLay P ps ts=true) {args:List Value} {ds:List (DataW H)} {p:List MemPlace} (hA:DataW.TrodAll enc P w 0 (fun _=>true) true ts args ds p) {b0:Nat} (hok:∀ (j:Nat) t v,ts[j]?=some t->args[j]?=some v->Value.okWide P w .any b0 t v) :
  Calls P f args.toArray w fun e W'=>e=.returned (.bool true)/\RowKit.Below w.heap.size w W':=by
 obtain ⟨v,hov,hv⟩:=args_ro ps ts args ds p hl hA hok
 obtain ⟨u,hu⟩:=htrue v hov
 refine (hs w (OLD w) (fun _ _=>0) v args hv (fun _ _=>Nat.zero_le _) (fun b i h=>by omega) (fun b i h=>?_) _ hu).mono fun e W' h=>?_
 ·rcases h with h | h
  ·omega
  ·exact h
 ·obtain ⟨rv,rfl,hext,A',G,GR,GM,_,_,_,_,_,_,_,hret,_⟩:=h
  obtain ⟨cs,h1,h2⟩:=hret
  simp only[splitR] at h1 h2
  have h2:cs=[.bool true]:=h2
  subst h2
  exact ⟨by rw[h1];rfl,hext.os,hext.tape,hext.output,hext.size,fun b hb=>hext.obj b hb fun _=>rfl⟩
theorem law_post {C:Checked} {f:Func} {s:ChangeSpec} {W W':World} {args:Array Value} {ds:List (DataW H)} {p:List MemPlace} {apart fresh handsOn:Bool} (hlo:laidOutB P=true) {ps:List (PM×Ty)} {ts:List TypeId} (hts:f.params.toList=ts) (hl:roLay P ps ts=true) {tb:TypeId} (hr:f.resultTypes=#[tb]) (hu:P.underlying tb=some .bool)
  (hvars:s.vars=[]) (hW:DataW.Whole enc P f.params.toList s.vars apart W args.toList ds [] p) (hA:DataW.TrodAll enc P W 0 (fun _=>true) true ts args.toList ds p) (hfn:s.fn H (ds++[])={ results:=[.lit (.bool true)],args:=ds }) (hb:RowKit.Below W.heap.size W W') :
  s.post enc P f apart fresh handsOn false W args (.bool true) W':=by
 have hlt:∀ x ∈ p,x.block < W.heap.size:=fun x hx=>by simpa using hW.lt x hx
 refine ⟨ds,[],p,[],p,[],hW,?_,?_,?_,World.keptBut_mono (fun x hx=>⟨hx,.inr (.inl hx)⟩) (hb.frame (· ∈ p)),fun e=>by cases e⟩
 ·rw[hfn,hr]
  exact ⟨[],[],RowKit.shut_bool hu true,rfl,rfl⟩
 ·rw[hfn,hts]
  exact args_stay hlo hb ps ts args.toList ds p hl hA hlt (fun x hx=>by simpa using hlt x hx)
 ·rw[hfn,hvars]
  rfl
end
end OT
namespace OT
open Go
def tiOk (P:Program) (l:List (Nat×Ty)):Bool:=l.all fun p=>layB P p.2 (.inl p.1)
def eqOkL (P:Program) (l:List (Nat×Ty)):Bool:=l.all fun p=>!(p.2.eqOk&&isAgg p.2)||(eqB P p.2 (.inl p.1)&&(P.eqGuardType P.depth p.1 == false)&&Nat.ble (dep p.2) 10000)
theorem look_mem {α:Type}:∀ {l:List (Nat×α)} {i:Nat} {x:α},lookN l i=some x->(i,x) ∈ l
 | (k,y)::l,i,x,h=>by
  simp only[lookN] at h
  split at h
  ·rename_i hk
   injection h with h
   rw[Nat.eq_of_beq_eq_true hk,h];exact List.mem_cons_self
  ·exact List.mem_cons_of_mem _ (look_mem h)
def FnOk (P:Program) (l:List (Nat×Sig)):Prop:=∀ f g,lookN l f=some g->Sound P f g/\EnterOk P f g.cap
theorem fn_nil (P:Program):FnOk P []:=fun f g h=>by cases h
theorem fn_cons {P:Program} {f:Nat} {g:Sig} {l:List (Nat×Sig)} (h1:Sound P f g) (h2:EnterOk P f g.cap) (h3:FnOk P l):FnOk P ((f,g)::l):=fun f' g' h=>by
 simp only[lookN] at h
 split at h
 ·rename_i hk
  injection h with h
  subst h
  rw[<-Nat.eq_of_beq_eq_true hk]
  exact ⟨h1,h2⟩
 ·exact h3 f' g' h
theorem env_ok {P:Program} {E:Env} {tl:List (Nat×Ty)} {gl:List (Nat×Sig)} (h1:E.TI=lookN tl) (h2:E.G=lookN gl) (h3:tiOk P tl=true) (h4:eqOkL P tl=true) (h5:FnOk P gl):EnvOk P E where
 ti i T h:=by rw[h1] at h;exact List.all_eq_true.1 h3 _ (look_mem h)
 eq i T h hq ha:=by
  rw[h1] at h
  have:=List.all_eq_true.1 h4 _ (look_mem h)
  simp only[hq,ha,Bool.and_self,Bool.not_true,Bool.false_or,Bool.and_eq_true,beq_iff_eq,Nat.ble_eq] at this
  exact ⟨this.1.1,this.1.2,this.2⟩
 fn f g h:=by rw[h2] at h;exact h5 f g h
def Ok (P:Program) (f:FuncId) (g:Sig):Prop:=Sound P f g/\EnterOk P f g.cap
theorem fc {P:Program} {f:Nat} {g:Sig} {l:List (Nat×Sig)} (h:Ok P f g) (h3:FnOk P l):FnOk P ((f,g)::l):=fn_cons h.1 h.2 h3
def enterB (fn:Func) (cap:Bool):Bool:=!(fn.name == "runtime.NumGoroutine")&&!fn.body.isNone&&Nat.beq fn.nfree (match cap with | true=>1 | false=>0)
noncomputable def okB (P:Program) (E:Env) (fn:Func) (ps:PQ) (rs:RQ) (es:List Nat) (cap:Bool) (tl:TL):Bool:=(tiOk P tl&&eqOkL P tl)&&(enterB fn cap&&funOk P E fn ps rs es)
theorem fn_ok {P:Program} {E:Env} {f:FuncId} {fn:Func} (hf:P.funcs[f]?=some fn) {g:Sig} {es fr:List Nat} {tl:TL} {gl:GL} (h1:E.TI=lookN tl) (h2:E.G=lookN gl) (hok:okB P E fn g.ps g.rs es g.cap tl=true) (hg:FnOk P gl) (hF:∀ v,g.F v=lift fun k=>bodyK E k fn g.ps g.rs es fr v):Ok P f g:=by
 simp only[okB,enterB,Bool.and_eq_true,Bool.not_eq_true',Nat.beq_eq] at hok
 obtain ⟨⟨a1,a2⟩,⟨⟨b1,b2⟩,b3⟩,c⟩:=hok
 have hb:fn.body.isSome=true:=by
  cases h:fn.body with
  | none=>rw[h] at b2;cases b2
  | some _=>rfl
 exact ⟨sound_of_body (env_ok h1 h2 a1 a2 hg) hf hb c fun v out h=>lift_some (by rw[<-hF];exact h),fn,hf,b1,b2,b3⟩
structure FD where
 fn:Func
 tl:TL
 ps:PQ
 rs:RQ
 gl:GL:=[]
 es:List Nat:=[]
 fr:List Nat:=[]
 cap:Bool:=false
 fz:List (Nat×Nat×Nat):=[]
 lv:List (Nat×List Nat):=[]
 lx:List (Nat×List Nat):=[]
 lf:List (Nat×List (Nat×Md)):=[]
 od:List (Nat×List Nat):=[]
 ar:List (Nat×List Nat):=[]
 bx:List (Nat×List Nat):=[]
 pd:List (Nat×List Nat):=[]
 er:List (Nat×List (Nat×Nat)):=[]
noncomputable def FD.E (D:FD):Env:={ TI:=lookN D.tl,G:=lookN D.gl,fz:=D.fz,lv:=D.lv,lx:=D.lx,lf:=D.lf,od:=D.od,ar:=D.ar,bx:=D.bx,pd:=D.pd,er:=D.er }
noncomputable def FD.W (D:FD) (k:Nat) (a:(tupT (D.ps.map (·.2))).den):Option (tupT (D.rs.map (·.1)++mutTys D.ps)).den:=bodyK D.E k D.fn D.ps D.rs D.es D.fr a
noncomputable def FD.F (D:FD) (a:(tupT (D.ps.map (·.2))).den):Option (tupT (D.rs.map (·.1)++mutTys D.ps)).den:=lift fun k=>D.W k a
noncomputable def FD.sig (D:FD):Sig:={ cap:=D.cap,ps:=D.ps,rs:=D.rs,F:=D.F }
noncomputable def FD.fin (D:FD):St->Option (tupT (D.rs.map (·.1)++mutTys D.ps)).den:=outK D.ps D.rs D.es D.fn.results.toList (mvs D.fr)
noncomputable def FD.K0 (D:FD):KT (tupT (D.rs.map (·.1)++mutTys D.ps)).den:=endK D.fin
noncomputable def FD.N (D:FD) (k:Nat) (p:List Nat):St->KT (tupT (D.rs.map (·.1)++mutTys D.ps)).den->Option (tupT (D.rs.map (·.1)++mutTys D.ps)).den:=codeK D.E k D.fin (sub p (bodyOf D.fn))
noncomputable def FD.L (D:FD) (k:Nat) (p live:List Nat) (fro:List (Nat×Md)) (K:KT (tupT (D.rs.map (·.1)++mutTys D.ps)).den) (σ:St):Option (tupT (D.rs.map (·.1)++mutTys D.ps)).den:=iterK (D.N k p) (keepF live fro) K k σ
theorem fd_ok {P:Program} {D:FD} {f:FuncId} (hf:P.funcs[f]?=some D.fn) (ht:(tiOk P D.tl&&eqOkL P D.tl)=true) (hok:(enterB D.fn D.cap&&funOk P D.E D.fn D.ps D.rs D.es)=true) (hg:FnOk P D.gl):Ok P f D.sig:=
 fn_ok (es:=D.es) (fr:=D.fr) (tl:=D.tl) (gl:=D.gl) (E:=D.E) hf rfl rfl (by rw[okB,ht,Bool.true_and];exact hok) hg fun _=>rfl
end OT
namespace OT
open Go
theorem w64_in {n:Int} (h:-9223372036854775808<=n/\n<=9223372036854775807):w64 n=n:=by
 unfold w64
 rw[IntKind.wrap_i64]
 omega
theorem maxLen_val:maxLen=9223372036854775807:=by simp[maxLen]
theorem rawIter_eq {V R:Type} {B:(V->Option R)->V->Option R} (f:V->R) (I:V->Prop) (μ:V->Nat)
  (h:∀ v,I v->∀ self,B self v=some (f v)\/∃ v',B self v=self v'/\f v'=f v/\I v'/\μ v' < μ v):∀ (k:Nat) (v:V),I v->μ v < k->rawIter B k v=some (f v)
 | 0,v,_,hk=>by omega
 | k+1,v,hI,hk=>by
  show B (rawIter B k) v=some (f v)
  rcases h v hI (rawIter B k) with h1 | ⟨v',h1,h2,h3,h4⟩
  ·exact h1
  ·rw[h1,rawIter_eq f I μ h k v' h3 (by omega),h2]
end OT
set_option linter.unusedVariables false
set_option linter.unusedSimpArgs false
namespace OT
open Go
theorem rawIter_succ {V R:Type} (B:(V->Option R)->V->Option R) (k:Nat) (v:V):rawIter B (k+1) v=B (rawIter B k) v:=rfl
def sumW {α:Type} (f:α->Nat):List α->Nat
 | []=>0
 | x::xs=>f x+sumW f xs
def zz:(t:Ty)->t.den->Nat
 | .str,v=>List.length v
 | .pair a b,v=>zz a v.1+zz b v.2
 | .slc e,v=>List.length v+sumW (zz e) v
 | _,_=>0
end OT
set_option linter.unusedVariables false
set_option linter.unusedSimpArgs false
namespace OT
open Go
def forI {S O α:Type} (f:Nat->S->α->Sum O S) (fin:S->O):Nat->List α->S->O
 | _,[],s=>fin s
 | i,x::xs,s=>match f i s x with
  | .inl o=>o
  | .inr s'=>forI f fin (i+1) xs s'
theorem for_loop {V S O α:Type} {B:(V->Option O)->V->Option O} (xs:List α) (enc:S->Int->V) (f:Nat->S->α->Sum O S) (fin:S->O) (I:Nat->S->Prop) (hmax:xs.length<=maxLen)
  (hin:∀ (i:Nat) (hi:i < xs.length) (s:S) self,I i s->B self (enc s (i:Int))=match f i s xs[i] with | .inl o=>some o | .inr s'=>self (enc s' (w64 ((i:Int)+1))))
  (hI:∀ (i:Nat) (hi:i < xs.length) (s s':S),I i s->f i s xs[i]=.inr s'->I (i+1) s')
  (hout:∀ (s:S) self,I xs.length s->B self (enc s (xs.length:Int))=some (fin s)) (s:S) (h0:I 0 s):∀ k,xs.length < k->rawIter B k (enc s 0)=some (forI f fin 0 xs s):=by
 have main:∀ (m i:Nat) (s:S),xs.length - i=m->i<=xs.length->I i s->∀ k,m < k->rawIter B k (enc s (i:Int))=some (forI f fin i (xs.drop i) s):=by
  intro m
  induction m with
  | zero=>
   intro i s hm hi hs k hk
   have hi':i=xs.length:=by omega
   subst hi'
   cases k with
   | zero=>omega
   | succ k=>
    show B (rawIter B k) _=_
    rw[hout s _ hs]
    simp[forI]
  | succ m ih=>
   intro i s hm hi hs k hk
   have hlt:i < xs.length:=by omega
   cases k with
   | zero=>omega
   | succ k=>
    show B (rawIter B k) _=_
    rw[hin i hlt s _ hs,List.drop_eq_getElem_cons hlt]
    simp only[forI]
    cases hf:f i s xs[i] with
    | inl o=>rfl
    | inr s'=>
     have hw:w64 ((i:Int)+1)=((i+1:Nat):Int):=by rw[w64_in (by rw[maxLen_val] at hmax;omega)];omega
     simp only[hw]
     exact ih (i+1) s' (by omega) (by omega) (hI i hlt s s' hs hf) k (by omega)
 intro k hk
 simpa using main xs.length 0 s (by omega) (by omega) h0 k hk
theorem forI_check {O α:Type} (p:α->Bool) (bad:O) (fin:Unit->O):∀ (xs:List α) (i:Nat),forI (fun _ _ x=>if p x then .inr () else .inl bad) fin i xs ()=if xs.all p then fin () else bad
 | [],_=>rfl
 | x::xs,i=>by
  simp only[forI,List.all_cons]
  by_cases h:p x=true
  ·simp[h,forI_check p bad fin xs (i+1)]
  ·simp[h]
def firstF {α:Type} (c:α->Int):List α->Int
 | []=>0
 | x::xs=>if c x=0 then firstF c xs else c x
theorem forI_first {O α:Type} (c:α->Int) (bad:Int->O) (fin:Unit->O):∀ (xs:List α) (i:Nat),forI (fun _ _ x=>if c x=0 then .inr () else .inl (bad (c x))) fin i xs ()=if firstF c xs=0 then fin () else bad (firstF c xs)
 | [],_=>rfl
 | x::xs,i=>by
  simp only[forI,firstF]
  by_cases h:c x=0
  ·simp[h,forI_first c bad fin xs (i+1)]
  ·simp[h]
theorem cap_ok {n:Nat} (h:n<=200000000000):n<=CAP:=by simp only[CAP];omega
end OT
set_option linter.unusedVariables false
set_option linter.unusedSimpArgs false
namespace OT
open Go
def simpT:Ty->Bool
 | .int _ | .bool | .str | .unit=>true
 | .pair a b=>simpT a&&simpT b
 | _=>false
def encT:(t:Ty)->t.den->List Value
 | .int k,v=>[.int k (toI k v)]
 | .bool,v=>[.bool v]
 | .str,v=>[.string ⟨List.toArray v⟩]
 | .unit,_=>[]
 | .pair a b,v=>encT a v.1++encT b v.2
 | _,_=>[]
section
variable {P:Program} {w:World} {A:Cells}
theorem ro_enc:∀ (t:Ty),simpT t=true->∀ (v:t.den),Ro P w A t v (encT t v):=by
 intro t
 induction t with
 | pair a b iha ihb=>
  intro h v
  simp only[simpT,Bool.and_eq_true] at h
  have h1:=iha h.1 v.1
  have hl:=Ro.length a h1
  show Ro P w A a v.1 ((encT a v.1++encT b v.2).take a.sz)/\Ro P w A b v.2 ((encT a v.1++encT b v.2).drop a.sz)
  rw[List.take_append_of_le_length (by omega),List.take_of_length_le (by omega),List.drop_append_of_le_length (by omega),List.drop_of_length_le (by omega),List.nil_append]
  exact ⟨h1,ihb h.2 v.2⟩
 | int k=>intro _ v;rfl
 | bool=>intro _ v;rfl
 | str=>intro _ v;rfl
 | unit=>intro _ v;rfl
 | _=>intro h;simp[simpT] at h
theorem enc_ro:∀ (t:Ty),simpT t=true->∀ {v:t.den} {cs:List Value},Ro P w A t v cs->cs=encT t v:=by
 intro t
 induction t with
 | pair a b iha ihb=>
  intro h v cs hr
  simp only[simpT,Bool.and_eq_true] at h
  have h1:=iha h.1 hr.1
  have h2:=ihb h.2 hr.2
  rw[<-List.take_append_drop a.sz cs,h1,h2]
  rfl
 | int k=>intro _ v cs h;exact h
 | bool=>intro _ v cs h;exact h
 | str=>intro _ v cs h;exact h
 | unit=>intro _ v cs h;exact h
 | _=>intro h;simp[simpT] at h
theorem simp_flat:∀ (t:Ty),simpT t=true->t.flat=true:=by
 intro t
 induction t with
 | pair a b iha ihb=>intro h;simp only[simpT,Bool.and_eq_true] at h;simp only[Ty.flat,iha h.1,ihb h.2,Bool.and_self]
 | int k=>intro _;rfl
 | bool=>intro _;rfl
 | str=>intro _;rfl
 | unit=>intro _;rfl
 | _=>intro h;simp[simpT] at h
end
theorem ce_cells {w:World} {b i:Nat} {u:Value} {c:Array Value} {e:TypeId} {fr:Nat×Nat} (h:w.heap[b]?=some (.cells c e fr)) (hu:ce w b i=some u):c[i]?=some u:=by
 unfold ce at hu
 simp only[h,World.cell?] at hu
 cases hc:c[i]? with
 | none=>simp[hc] at hu
 | some v=>
  simp only[hc,Option.isSome_none,Bool.false_eq_true,if_false,Option.bind_some] at hu
  rw[(oneV_some hu).1]
theorem ce_of_cells {w:World} {b i:Nat} {u:Value} {c:Array Value} {e:TypeId} {fr:Nat×Nat} (h:w.heap[b]?=some (.cells c e fr)) (hg:c[i]?=some u) (hu:u.oneCell'=true):ce w b i=some u:=by
 refine cell_ce ?_ hu
 simp only[World.cell?,h,Option.isSome_none,Bool.false_eq_true,if_false,hg]
end OT
set_option linter.unusedVariables false
set_option linter.unusedSimpArgs false
namespace OT
open Go Go.Sort
instance inhDen (e:Ty):Inhabited e.den:=⟨e.zero⟩
noncomputable def sortF (e:Ty) (cs:e.den×e.den×Unit->Option (Int×Unit)) (v:List e.den):Option (List e.den):=open Classical in
 if List.length v<=CAP then (if h:∃ cf:e.den->e.den->Int,(∀ x y,cs (x,y,())=some (cf x y,()))/\SWO (Go.Proofs.ltOf cf) then some (pdq (Go.Proofs.ltOf h.choose) v.toArray 0 v.toArray.size (Lib.bitLen v.toArray.size) true true).toList else none) else none
theorem sortF_eq {e:Ty} {cs:e.den×e.den×Unit->Option (Int×Unit)} {cf:e.den->e.den->Int} (h1:∀ x y,cs (x,y,())=some (cf x y,())) (h2:SWO (Go.Proofs.ltOf cf)) (v:List e.den) (hl:List.length v<=CAP):sortF e cs v=some (pdq (Go.Proofs.ltOf cf) v.toArray 0 v.toArray.size (Lib.bitLen v.toArray.size) true true).toList:=by
 have hex:∃ cf:e.den->e.den->Int,(∀ x y,cs (x,y,())=some (cf x y,()))/\SWO (Go.Proofs.ltOf cf):=⟨cf,h1,h2⟩
 have he:hex.choose=cf:=by
  funext x y
  have:=(hex.choose_spec.1 x y).symm.trans (h1 x y)
  injection this with this
  exact congrArg Prod.fst this
 unfold sortF
 rw[if_pos hl,dif_pos hex,he]
theorem sortF_some {e:Ty} {cs:e.den×e.den×Unit->Option (Int×Unit)} {v r:List e.den} (h:sortF e cs v=some r):∃ cf:e.den->e.den->Int,(∀ x y,cs (x,y,())=some (cf x y,()))/\SWO (Go.Proofs.ltOf cf)/\List.length v<=CAP/\r=(pdq (Go.Proofs.ltOf cf) v.toArray 0 v.toArray.size (Lib.bitLen v.toArray.size) true true).toList:=by
 by_cases hl:List.length v<=CAP
 ·by_cases hex:∃ cf:e.den->e.den->Int,(∀ x y,cs (x,y,())=some (cf x y,()))/\SWO (Go.Proofs.ltOf cf)
  ·obtain ⟨cf,h1,h2⟩:=hex
   rw[sortF_eq h1 h2 v hl] at h
   injection h with h
   exact ⟨cf,h1,h2,hl,h.symm⟩
  ·unfold sortF at h
   rw[if_pos hl,dif_neg hex] at h
   cases h
 ·unfold sortF at h
  rw[if_neg hl] at h
  cases h
theorem pdq_spec {α:Type} [Inhabited α] {lt:α->α->Bool} (h:SWO lt) (v:List α):(pdq lt v.toArray 0 v.toArray.size (Lib.bitLen v.toArray.size) true true).toList.Perm v/\(pdq lt v.toArray 0 v.toArray.size (Lib.bitLen v.toArray.size) true true).toList.Pairwise fun x y=>lt y x=false:=by
 have hs:=pdq_sorts lt h v.toArray 0 v.toArray.size (Lib.bitLen v.toArray.size) true true (Nat.zero_le _) (Nat.le_refl _) (Or.inl rfl)
 generalize pdq lt v.toArray 0 v.toArray.size (Lib.bitLen v.toArray.size) true true=p at hs ⊢
 obtain ⟨⟨h1,h2,h3⟩,h4⟩:=hs
 refine ⟨?_,?_⟩
 ·have e1:p.extract 0 v.toArray.size=p:=by rw[<-h1];exact Array.extract_size ..
  have e2:v.toArray.extract 0 v.toArray.size=v.toArray:=Array.extract_size ..
  rw[e1,e2] at h3
  exact h3
 ·rw[List.pairwise_iff_getElem]
  intro i j hi hj hij
  have hj':j < p.size:=by simpa using hj
  have:=h4 i j (Nat.zero_le _) hij (by omega)
  rw[getElem!_pos _ i (by omega),getElem!_pos _ j hj'] at this
  simpa using this
section
variable {P:Program}
theorem ext_grow {w w':World} (h:Ext w w' (fun _ _=>0)):∃ q os,w'=grow (w.drewN q) os:=by
 refine ⟨w'.drawn - w.drawn,w'.heap.extract w.heap.size w'.heap.size,?_⟩
 have hh:w'.heap=w.heap++w'.heap.extract w.heap.size w'.heap.size:=by
  apply Array.ext_getElem?
  intro i
  by_cases hi:i < w.heap.size
  ·rw[h.obj i hi fun _=>rfl,Array.getElem?_append_left hi]
  ·rw[Array.getElem?_append_right (by omega),Array.getElem?_extract]
   by_cases hi':i < w'.heap.size
   ·rw[if_pos (by omega)]
    congr 1
    omega
   ·rw[if_neg (by omega),Array.getElem?_eq_none (by omega)]
 have h1:=h.os
 have h2:=h.tape
 have h3:=h.output
 have h4:=h.drawn
 cases w with
 | mk heap tape drawn os output=>
  cases w' with
  | mk heap' tape' drawn' os' output'=>
   simp only at h1 h2 h3 h4 hh
   subst h1;subst h2;subst h3
   simp only[grow,World.drewN,World.mk.injEq,true_and,and_true]
   exact ⟨hh,by omega⟩
theorem cmp_lays {e:Ty} (hs:simpT e=true) (ha:isAgg e=true) {g:Nat} {cF:e.den×e.den×Unit->Option (Int×Unit)} (hg:Sound P g { ps:=[(.ro,e),(.ro,e)],rs:=[(.int .i64,roMd (.int .i64))],F:=cF }) {cf:e.den->e.den->Int} (hc:∀ x y,cF (x,y,())=some (cf x y,())) (b size:Nat) (w:World):Go.Proofs.CmpLays P g #[] (encT e) e.sz cf b 0 size w:=by
 intro m os dk _ x y
 have hargs:ArgsRel P (Go.Proofs.sortWorldK (encT e) e.sz w b 0 m dk os) (fun _ _=>False) [(.ro,e),(.ro,e)] (x,y,()) [.agg (encT e x).toArray,.agg (encT e y).toArray] (fun _ _=>0):=
  ⟨_,_,fun _ _=>0,fun _ _=>0,rfl,fun _ _=>Nat.le_refl _,⟨encT e x,by simp[mkV,ha],ro_enc e hs x⟩,_,_,fun _ _=>0,fun _ _=>0,rfl,fun _ _=>Nat.le_refl _,⟨encT e y,by simp[mkV,ha],ro_enc e hs y⟩,rfl⟩
 refine (hg _ (fun _ _=>False) (fun _ _=>0) (x,y,()) _ hargs (fun _ _=>Nat.zero_le _) (fun _ _ h=>by omega) (fun _ _ h=>by rcases h with h | h;omega;exact h.elim) (cf x y,()) (hc x y)).mono ?_
 rintro ex w' ⟨rv,rfl,hext,A',G,GR,GM,_,_,_,_,_,_,_,hret,_⟩
 obtain ⟨cs,h1,h2⟩:=hret
 refine ⟨?_,ext_grow hext⟩
 have h2:cs=[.int .i64 (cf x y)]:=h2
 rw[h1,h2]
 rfl
theorem sort_ok {ρ:Go.Shelf.Ren} (L:Go.Proofs.SlLaysF0.n6 P ρ) {e:Ty} (hs:simpT e=true) (ha:isAgg e=true) (hl:layB P e (.inl (ρ.t 24))=true) (h1:1<=e.sz) {g:Nat} {cF:e.den×e.den×Unit->Option (Int×Unit)}
  (hg:Ok P g { ps:=[(.ro,e),(.ro,e)],rs:=[(.int .i64,roMd (.int .i64))],F:=cF }) (he:EnterOk P (ρ.f 6) false) :
  Ok P (ρ.f 6) { ps:=[(.muts (ownMd (.slc e)),.slc e),(.fix g,.fn)],rs:=[],F:=fun v=>(sortF e cF v.1).map fun r=>(r,()) }:=by
 refine ⟨?_,he⟩
 intro w A F0 v xs hargs hle hdis hbnd out hout
 obtain ⟨vs,⟨fg,fv⟩,⟨⟩⟩:=v
 obtain ⟨x,xs',F1,F2,rfl,hF,⟨cs,rfl,hrep⟩,x2,xs'',F3,F4,rfl,hF2,⟨⟨cs2,rfl,hfn⟩,hfix⟩,hnil⟩:=hargs
 have hnil:xs''=[]:=hnil
 subst hnil
 have hfg:fg=g:=hfix rfl
 subst hfg
 obtain ⟨caps,rfl,fn,hfn1,hfn2⟩:=hfn
 have hcaps:caps=#[]:=by
  obtain ⟨fn',k1,_,_,k4⟩:=hg.2
  have hfn1:P.funcs[fg]?=some fn:=hfn1
  rw[hfn1] at k1
  injection k1 with k1
  subst k1
  have k4:fn.nfree=0:=k4
  rcases hfn2 with ⟨_,q⟩ | ⟨q,_⟩
  ·exact q
  ·omega
 subst hcaps
 have hx2:mkV .fn [.func (.func fg) #[] #[]]=.func (.func fg) #[] #[]:=rfl
 have hout:(sortF e cF vs).map (fun r=>(r,()))=some out:=hout
 cases hsort:sortF e cF vs with
 | none=>rw[hsort] at hout;cases hout
 | some r=>
 rw[hsort] at hout
 injection hout with hout
 subst hout
 obtain ⟨cf,hc,hO,hcap,hr⟩:=sortF_some hsort
 have hspec:=pdq_spec hO vs
 rw[<-hr] at hspec
 have hrep':=hrep
 simp only[Rep,hole,List.any_nil,Bool.false_eq_true,if_false,ownMd,mdOf,Md.own,if_true] at hrep
 obtain ⟨xa,cap,rfl,g2,g3,g4,g5⟩:=hrep
 have hv1:mkV (.slc e) [.slice xa (List.length vs) cap]=.slice xa (List.length vs) cap:=rfl
 rw[hx2,hv1]
 have hfin:∀ (w':World) (F1':FP),Ext w w' F0->(∀ b i,F1' b i<=F1 b i)->Rep P w' A (.slc e) (ownMd (.slc e)) [] r [.slice xa (List.length vs) cap] F1' ->
   ∃ rv,Ending.returned (.tuple #[])=.returned rv/\Ext w w' F0/\∃ (A':Cells) (G GR GM:FP),(∀ b i,A b i->A' b i)/\(∀ b i,A' b i->A b i\/1<=F0 b i\/w.heap.size<=b)/\(∀ b i,1<=G b i->1<=F0 b i\/w.heap.size<=b)/\(∀ b i,G b i<=1)/\(∀ b i,1<=G b i->¬ A' b i)/\(∀ b i,1<=G b i\/A' b i->b < w'.heap.size)/\(∀ b i,GR b i+GM b i<=G b i) /\
   RetRel P w' A' [] rv GR/\MutsRel P w' A' [(.muts (ownMd (.slc e)),.slc e),(.fix fg,.fn)] (r,()) [.slice xa (List.length vs) cap,.func (.func fg) #[] #[]] GM:=fun w' F1' hext hF1 hrp=>
  ⟨_,rfl,hext,A,F0,fun _ _=>0,F0,fun _ _ h=>h,fun _ _ h=>.inl h,fun _ _ h=>.inl h,hle,hdis,fun b i h=>Nat.lt_of_lt_of_le (hbnd b i h) hext.size,fun b i=>by show 0+F0 b i<=F0 b i;omega,trivial,F1',F2,fun b i=>by have:=hF b i;have:=hF1 b i;omega,⟨_,rfl,hrp⟩,trivial⟩
 by_cases h0:List.length vs=0
 ·have hvs:vs=[]:=List.eq_nil_of_length_eq_zero h0
  have hrn:r=[]:=by
   have:=hspec.1.length_eq
   exact List.eq_nil_of_length_eq_zero (by omega)
  rw[h0]
  refine (Go.Proofs.AnyF.slices_SortFunc_none L xa cap (.func (.func fg) #[] #[]) w).mono ?_
  rintro ex w' ⟨rfl,hw⟩
  rw[hw]
  rw[h0] at hfin
  refine hfin w F1 (Ext.refl _ _) (fun _ _=>Nat.le_refl _) ?_
  rw[hrn,<- hvs]
  have:List.length vs=0:=h0
  rw[this] at hrep'
  exact hrep'
 ·cases xa with
  | none=>have:=g4 rfl;omega
  | some ad=>
   obtain ⟨q1,q2,q3,Fi,q4,q5⟩:=g5 ad rfl
   obtain ⟨b,off,sp⟩:=ad
   simp only at q1 q2 q3 q4 q5
   subst q1;subst q2
   obtain ⟨c,el,fr,c1,c2,c3,c4⟩:=q3
   have hb:=(Array.getElem?_eq_some_iff.1 c1).1
   have hsz:vs.toArray.size=List.length vs:=by simp
   have hbl:List.length vs*e.sz<=cap*e.sz:=Nat.mul_le_mul_right _ g2
   have hpos:1<=List.length vs*e.sz:=Nat.mul_le_mul (show 1<=List.length vs by omega) h1
   have hcell:∀ (i:Nat) (y:e.den),vs[i]?=some y->Has w b (i*e.sz) (encT e y):=fun i y hy=>by
    obtain ⟨L0,l1,l2,l3⟩:=q5 i y hy
    have:=enc_ro e hs (Rep.flat e (simp_flat e hs) l3)
    rw[<-this]
    exact l2
   have hH:Go.Sort.HoldsK (encT e) e.sz w b 0 vs.toArray:=by
    intro j hj
    rw[Go.Sort.size_flatK,hsz] at hj
    rw[Nat.zero_add,Go.Sort.get_flatK _ _ _ _ (by rw[hsz];exact hj)]
    have hi:j / e.sz < List.length vs:=by rw[Nat.div_lt_iff_lt_mul h1];exact hj
    have hy:=List.getElem?_eq_getElem hi
    have hm:=Nat.mod_lt j h1
    have hel:(encT e (vs[j / e.sz]))[j % e.sz]?=some ((encT e (vs[j / e.sz]))[j % e.sz]!):=by
     have hlen:=Ro.length e (ro_enc (P:=P) (w:=w) (A:=A) e hs (vs[j / e.sz]))
     rw[List.getElem?_eq_getElem (by omega),getElem!_pos _ _ (by omega)]
    have hce:=hcell _ _ hy _ _ hel
    have hdm:j / e.sz*e.sz+j % e.sz=j:=by rw[Nat.mul_comm];exact Nat.div_add_mod j e.sz
    rw[hdm] at hce
    have hone:=Ro.one e (ro_enc (P:=P) (w:=w) (A:=A) e hs (vs[j / e.sz])) _ (List.mem_of_getElem? hel)
    have hcc:=ce_cell hce hone
    refine ⟨?_,?_⟩
    ·show _=some (id _)
     rw[hcc]
     have:vs.toArray[j / e.sz]! = vs[j / e.sz]:=by rw[getElem!_pos _ _ (by rw[hsz];exact hi)];simp
     rw[this]
     rfl
    ·simp only[World.frozen?,c1]
     have:=c3 j (by omega)
     simp only[Bool.and_eq_false_imp,decide_eq_true_eq,decide_eq_false_iff_not,not_and] at this ⊢
     intro h
     first | exact this h | (have:=this (by simpa using h);simpa using this)
   have hkit:=Go.Proofs.AnyQ.slices_SortFunc_eq L e.sz (fun w=>by rw[run_isAgg hl,ha]) (fun w=>run_sizeOf hl) (encT e) (fun y=>Ro.length e (ro_enc (P:=P) (w:=w) (A:=A) e hs y)) (fun y u hu=>Ro.one e (ro_enc (P:=P) (w:=w) (A:=A) e hs y) u hu) cf hO fg #[] b 0 cap vs.toArray w
    (fun args w=>enter_run hg.2 args) (cmp_lays hs ha hg.1 hc b _ w) hH hb (by rw[hsz];unfold CAP at hcap;omega)
   rw[hsz] at hkit
   refine hkit.mono ?_
   rintro ex w' ⟨rfl,n,os,rfl⟩
   rw[hsz] at hr
   have hrd:(pdq (Go.Proofs.ltOf cf) vs.toArray 0 (List.length vs) (Lib.bitLen (List.length vs)) true true)=r.toArray:=by rw[hr]
   rw[hrd]
   have hrl:r.length=List.length vs:=hspec.1.length_eq
   have hold:∀ b',b' < w.heap.size->b'≠b->(Go.Proofs.sortWorldK (encT e) e.sz w b 0 n r.toArray os).heap[b']?=w.heap[b']?:=fun b' hb' hne=>by
    simp only[Go.Proofs.sortWorldK,grow,Go.Sort.putRowK,Go.Sort.putRow,Go.Sort.mapBlock,Go.Sort.ahead]
    rw[Array.getElem?_append_left (by simpa using hb'),Array.getElem?_modify,if_neg (fun e=>hne e.symm)]
   have hnew:(Go.Proofs.sortWorldK (encT e) e.sz w b 0 n r.toArray os).heap[b]?=some (.cells (Go.Sort.putCells id 0 (Go.Sort.flatK (encT e) e.sz r.toArray) c) el fr):=by
    simp only[Go.Proofs.sortWorldK,grow,Go.Sort.putRowK,Go.Sort.putRow,Go.Sort.mapBlock,Go.Sort.ahead]
    rw[Array.getElem?_append_left (by simpa using hb),Array.getElem?_modify,if_pos rfl,c1]
    rfl
   have hcs:(Go.Sort.putCells id 0 (Go.Sort.flatK (encT e) e.sz r.toArray) c).size=c.size:=by simp[Go.Sort.putCells]
   have hext:Ext w (Go.Proofs.sortWorldK (encT e) e.sz w b 0 n r.toArray os) F0:=by
    have hown:∀ i,i < cap*e.sz->1<=F0 b i:=fun i hi=>by
     have h3:=hF b i
     have h4:=q4 b i
     have h5:rng b 0 (cap*e.sz) b i=1:=by simp only[rng];rw[if_pos ⟨trivial,by omega,by omega⟩]
     omega
    refine ⟨?_,fun b' i hb' hz u hu=>?_,fun b' m hm=>?_,fun b' i hb'=>?_,rfl,rfl,rfl,fun b' hb' hz=>?_,Nat.le_add_right _ _⟩
    ·simp only[Go.Proofs.sortWorldK,grow,Go.Sort.putRowK,Go.Sort.putRow,Go.Sort.mapBlock,Go.Sort.ahead,Array.size_append,Array.size_modify]
     omega
    ·by_cases hbb:b'=b
     ·subst hbb
      have hi:¬ i < cap*e.sz:=fun hi=>by have:=hown i hi;omega
      exfalso
      have:=ce_cells c1 hu
      rw[Array.getElem?_eq_none (by omega)] at this
      cases this
     ·rw[ce_block (hold b' hb' hbb)];exact hu
    ·by_cases hbb:b'=b
     ·subst hbb
      obtain ⟨c',e',f',m1,m2,m3⟩:=hm
      rw[c1] at m1
      injection m1 with m1
      injection m1 with m1 m4 m5
      subst m1;subst m4;subst m5
      exact ⟨_,_,_,hnew,by rw[hcs];exact m2,m3⟩
     ·have hb':b' < w.heap.size:=hm.lt
      exact (own_of_block (hold b' hb' hbb) m).1 hm
    ·by_cases hbb:b'=b
     ·subst hbb
      simp only[World.frozen?,hnew,c1]
     ·exact fr_of_block (hold b' hb' hbb) i
    ·by_cases hbb:b'=b
     ·subst hbb
      have:=hown 0 (by omega)
      have:=hz 0
      omega
     ·exact hold b' hb' hbb
   refine hfin _ F1 hext (fun _ _=>Nat.le_refl _) ?_
   simp only[Rep,hole,List.any_nil,Bool.false_eq_true,if_false,ownMd,mdOf,Md.own,if_true]
   refine ⟨some ⟨b,0,none⟩,cap,by rw[hrl],by rw[hrl];exact g2,g3,(fun e=>by cases e),fun ad e2=>?_⟩
   injection e2 with e2
   subst e2
   refine ⟨rfl,rfl,⟨_,_,_,hnew,by rw[hcs];exact c2,c3,c4⟩,fun _ _ _=>0,fun b' i=>?_,fun i y hy=>?_⟩
   ·have h3:=q4 b' i
    have h4:sumF (List.length r) (fun _ _ _=>0) b' i=0:=by
     generalize List.length r=nn
     induction nn with
     | zero=>rfl
     | succ nn ih=>simp only[sumF,ih]
    show rng b 0 (cap*e.sz) b' i+sumF (List.length r) (fun _ _ _=>0) b' i<=F1 b' i
    rw[h4]
    omega
   ·refine ⟨encT e y,Ro.length e (ro_enc (P:=P) (w:=w) (A:=A) e hs y),fun j u hu=>?_,?_⟩
    ·have hj:=(List.getElem?_eq_some_iff.1 hu).1
     have hlen:=Ro.length e (ro_enc (P:=P) (w:=w) (A:=A) e hs y)
     have hi:=(List.getElem?_eq_some_iff.1 hy).1
     have hij:i*e.sz+j < r.length*e.sz:=by
      have:=Nat.mul_le_mul_right e.sz (show i+1<=r.length from hi)
      rw[Nat.add_mul,Nat.one_mul] at this
      omega
     have hdiv:(i*e.sz+j) / e.sz=i:=(Go.Sort.blk_iff e.sz i _ h1).1 ⟨by omega,by omega⟩
     have hmod:(i*e.sz+j) % e.sz=j:=by rw[Nat.mod_eq_sub_div_mul,hdiv];omega
     have hget:(Go.Sort.putCells id 0 (Go.Sort.flatK (encT e) e.sz r.toArray) c)[i*e.sz+j]?=some u:=by
      have hlt:i*e.sz+j < c.size:=by rw[hrl] at hij;omega
      simp only[Go.Sort.putCells,Array.getElem?_mapIdx,Array.getElem?_eq_getElem hlt,Option.map_some,Nat.zero_le,true_and,Nat.zero_add,Nat.sub_zero,Go.Sort.size_flatK,List.size_toArray,hij,if_true,id]
      rw[Go.Sort.get_flatK _ _ _ _ (by simpa using hij),hdiv,hmod]
      have hy2:r.toArray[i]! = y:=by
       rw[getElem!_pos _ _ (by simpa using hi)]
       have:=(List.getElem?_eq_some_iff.1 hy).2
       simpa using this
      rw[hy2,getElem!_pos (encT e y) j hj]
      exact congrArg some (List.getElem?_eq_some_iff.1 hu).2
     have hone:=Ro.one e (ro_enc (P:=P) (w:=w) (A:=A) e hs y) _ (List.mem_of_getElem? hu)
     exact ce_of_cells hnew hget hone
    ·exact Ro.flat e _ (simp_flat e hs) (ro_enc e hs y)
end
end OT
