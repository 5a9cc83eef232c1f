/- The proof's parts, merged: Functions  a body that is run on data gives the contract.. No conditions but those that each states. -/
import Derived.Test.YthpkgnffmmmhiaaSc
import Derived.ProofKit
import Derived.Deep.Slices
import Derived.Laws.BitsLemmas
import Derived.Test.YthpkgnffmmmhiaaProg
import Derived.KernelRfl
set_option linter.unusedVariables false
set_option linter.unusedSimpArgs false
namespace OT
open Go
section
variable {P:Program} {w:World} {A:Cells} {R:Type} {x:R} {E:Env}
theorem init_len:∀ (ps:List (PM×Ty)) (v:(tupT (ps.map (·.2))).den),(initSlots ps v).length=ps.length
 | [],_=>rfl
 | (.ro,t)::ps,v=>by cases t <;> simp[initSlots,init_len ps v.2]
 | (.fix f,t)::ps,v=>by cases t <;> simp[initSlots,init_len ps v.2]
 | (.mutp m,t)::ps,v=>by simp[initSlots,init_len ps v.2]
 | (.muts m,t)::ps,v=>by simp[initSlots,init_len ps v.2]
 | (.eat m,t)::ps,v=>by simp[initSlots,init_len ps v.2]
 | (.eatv m,t)::ps,v=>by simp[initSlots,init_len ps v.2]
theorem args_len:∀ (ps:List (PM×Ty)) {v:(tupT (ps.map (·.2))).den} {xs:List Value} {G:FP},ArgsRel P w A ps v xs G->xs.length=ps.length
 | [],_,_,_,h=>by have h:_=[]:=h;rw[h];rfl
 | (pm,t)::ps,_,_,_,h=>by
  obtain ⟨y,ys,F1,F2,rfl,_,_,h2⟩:=h
  simp[args_len ps h2]
theorem init_ok:∀ (ps:List (PM×Ty)) {v:(tupT (ps.map (·.2))).den} {xs:List Value} {G:FP},ArgsRel P w A ps v xs G->psOk ps=true ->
  ∃ Fi:Nat->FP,(∀ b k,sumF ps.length Fi b k<=G b k)/\∀ i s,(initSlots ps v)[i]?=some s->∃ y,xs[i]?=some y/\(∀ σ a,SlotRel P A σ a w y s (Fi i))/\(∀ t m H v,s=.box t m H v->(i,i,false) ∈ lentOf 0 ps) /\
   ((i,i,true) ∈ lentOf 0 ps->∃ t m H v,s=.own t m H v):=by
 have main:∀ (ps:List (PM×Ty)) (n:Nat) {v:(tupT (ps.map (·.2))).den} {xs:List Value} {G:FP},ArgsRel P w A ps v xs G->psOk ps=true ->
   ∃ Fi:Nat->FP,(∀ b k,sumF ps.length Fi b k<=G b k)/\∀ i s,(initSlots ps v)[i]?=some s->∃ y,xs[i]?=some y/\(∀ σ a,SlotRel P A σ a w y s (Fi i))/\(∀ t m H v,s=.box t m H v->(n+i,n+i,false) ∈ lentOf n ps) /\
    ((n+i,n+i,true) ∈ lentOf n ps->∃ t m H v,s=.own t m H v):=by
  have hlt:∀ (ps:List (PM×Ty)) (n j k:Nat) (c:Bool),(j,k,c) ∈ lentOf n ps->n<=j/\j=k:=by
   intro ps
   induction ps with
   | nil=>intro n j k c h;cases h
   | cons p ps ih=>
    intro n j k c h
    obtain ⟨pm,t⟩:=p
    cases pm with
    | ro=>have:=ih (n+1) j k c h;omega
    | fix f=>have:=ih (n+1) j k c h;omega
    | eatv m=>have:=ih (n+1) j k c h;omega
    | mutp m=>
     rcases List.mem_cons.1 h with e | h
     ·injection e with e1 e2;injection e2 with e2 e3;omega
     ·have:=ih (n+1) j k c h;omega
    | eat m=>
     rcases List.mem_cons.1 h with e | h
     ·injection e with e1 e2;injection e2 with e2 e3;omega
     ·have:=ih (n+1) j k c h;omega
    | muts m=>
     rcases List.mem_cons.1 h with e | h
     ·injection e with e1 e2;injection e2 with e2 e3;omega
     ·have:=ih (n+1) j k c h;omega
  intro ps
  induction ps with
  | nil=>intro n v xs G h _;exact ⟨fun _ _ _=>0,fun b k=>Nat.zero_le _,fun i s hs=>by cases hs⟩
  | cons p ps ih=>
   intro n v xs G h hp
   obtain ⟨pm,t⟩:=p
   obtain ⟨y,ys,F1,F2,rfl,hs,ha,hr⟩:=h
   have hp':psOk ps=true:=hp
   obtain ⟨Fi,g1,g2⟩:=ih (n+1) hr hp'
   obtain ⟨s0,hs0,hrel,hbox,hown⟩:∃ s0,initSlots ((pm,t)::ps) v=s0::initSlots ps v.2/\(∀ σ a,SlotRel P A σ a w y s0 F1)/\(∀ t' m' H' v',s0=.box t' m' H' v'->∃ m,pm=.mutp m\/pm=.eat m)/\((∃ m,pm=.muts m)->∃ t' m H v,s0=.own t' m H v):=by
    cases pm with
    | ro=>
     obtain ⟨cs,h1,h2⟩:=ha
     cases t with
     | ptr e=>
      refine ⟨.cp e v.1,rfl,fun σ a=>?_,(fun _ _ _ _ e=>by cases e),fun ⟨m,e⟩=>by cases e⟩
      have hl:=Ro.length _ h2
      match cs,hl with
      | [u],_=>
       rw[mkV_one _ _ rfl] at h1
       subst h1
       exact h2
     | _=>exact ⟨.val _ v.1,rfl,fun σ a=>⟨cs,h1,h2⟩,(fun _ _ _ _ e=>by cases e),fun ⟨m,e⟩=>by cases e⟩
    | fix f=>
     obtain ⟨⟨cs,h1,h2⟩,h3⟩:=ha
     cases t with
     | fn=>
      refine ⟨.val .fn (f,v.1.2),rfl,fun σ a=>⟨cs,h1,?_⟩,(fun _ _ _ _ e=>by cases e),fun ⟨m,e⟩=>by cases e⟩
      have e:v.1=(f,v.1.2):=by have:=h3 rfl;rw[<-this]
      rw[<-e];exact h2
     | _=>exact ⟨.dead,rfl,fun σ a=>trivial,(fun _ _ _ _ e=>by cases e),fun ⟨m,e⟩=>by cases e⟩
    | mutp m=>
     obtain ⟨b,o,L,F3,h1,h2,h3,h4,h5,h6⟩:=ha
     exact ⟨.box t m [] v.1,rfl,fun σ a=>⟨b,o,L,F3,h1,h2,h3,h4,h5,h6⟩,fun _ _ _ _ _=>⟨m,.inl rfl⟩,fun ⟨m,e⟩=>by cases e⟩
    | eat m=>
     obtain ⟨b,o,L,F3,h1,h2,h3,h4,h5,h6⟩:=ha
     exact ⟨.box t m [] v.1,rfl,fun σ a=>⟨b,o,L,F3,h1,h2,h3,h4,h5,h6⟩,fun _ _ _ _ _=>⟨m,.inr rfl⟩,fun ⟨m,e⟩=>by cases e⟩
    | muts m=>
     obtain ⟨cs,h1,h2⟩:=ha
     exact ⟨.own t m [] v.1,rfl,fun σ a=>⟨cs,h1,h2⟩,(fun _ _ _ _ e=>by cases e),fun _=>⟨_,_,_,_,rfl⟩⟩
    | eatv m=>
     obtain ⟨cs,h1,h2⟩:=ha
     exact ⟨.own t m [] v.1,rfl,fun σ a=>⟨cs,h1,h2⟩,(fun _ _ _ _ e=>by cases e),fun _=>⟨_,_,_,_,rfl⟩⟩
   refine ⟨fun k=>match k with | 0=>F1 | k+1=>Fi k,fun b k=>?_,fun i s hi=>?_⟩
   ·have:sumF (ps.length+1) (fun k=>match k with | 0=>F1 | k+1=>Fi k) b k=F1 b k+sumF ps.length Fi b k:=by
     rw[Nat.add_comm,sumF_add]
     congr 1
     ·simp[sumF]
     ·refine congrFun (congrFun (sumF_congr fun j hj=>?_) b) k
      rw[Nat.add_comm]
    show sumF (ps.length+1) _ b k<=G b k
    rw[this]
    have:=hs b k;have:=g1 b k;omega
   ·rw[hs0] at hi
    cases i with
    | zero=>
     injection hi with hi
     subst hi
     refine ⟨y,rfl,hrel,fun t' m' H' v' e=>?_,fun hm=>?_⟩
     ·obtain ⟨m,rfl | rfl⟩:=hbox t' m' H' v' e
      ·exact List.mem_cons_self
      ·exact List.mem_cons_self
     ·refine hown ?_
      cases pm with
      | muts m=>exact ⟨m,rfl⟩
      | ro=>have:=hlt ps (n+1) _ _ _ hm;omega
      | fix f=>have:=hlt ps (n+1) _ _ _ hm;omega
      | eatv m=>have:=hlt ps (n+1) _ _ _ hm;omega
      | mutp m=>
       rcases List.mem_cons.1 hm with e | hm
       ·injection e with e1 e2;injection e2 with e2 e3;cases e3
       ·have:=hlt ps (n+1) _ _ _ hm;omega
      | eat m=>
       rcases List.mem_cons.1 hm with e | hm
       ·injection e with e1 e2;injection e2 with e2 e3;cases e3
       ·have:=hlt ps (n+1) _ _ _ hm;omega
    | succ i=>
     obtain ⟨y',q1,q2,q3,q4⟩:=g2 i s hi
     have hidx:n+1+i=n+(i+1):=by omega
     rw[hidx] at q3 q4
     refine ⟨y',q1,q2,fun t' m' H' v' e=>?_,fun hm=>q4 ?_⟩
     ·have:=q3 t' m' H' v' e
      cases pm with
      | ro=>exact this
      | fix f=>exact this
      | eatv m=>exact this
      | mutp m=>exact List.mem_cons_of_mem _ this
      | eat m=>exact List.mem_cons_of_mem _ this
      | muts m=>exact List.mem_cons_of_mem _ this
     ·cases pm with
      | ro=>exact hm
      | fix f=>exact hm
      | eatv m=>exact hm
      | mutp m=>
       rcases List.mem_cons.1 hm with e | hm
       ·injection e with e1 e2;omega
       ·exact hm
      | eat m=>
       rcases List.mem_cons.1 hm with e | hm
       ·injection e with e1 e2;omega
       ·exact hm
      | muts m=>
       rcases List.mem_cons.1 hm with e | hm
       ·injection e with e1 e2;omega
       ·exact hm
 intro ps v xs G h hp
 obtain ⟨Fi,g1,g2⟩:=main ps 0 h hp
 exact ⟨Fi,g1,fun i s hi=>by simpa using g2 i s hi⟩
theorem lent_idx:∀ (ps:List (PM×Ty)) (n j k:Nat) (c:Bool),(j,k,c) ∈ lentOf n ps->n<=j/\j=k/\j < n+ps.length:=by
 intro ps
 induction ps with
 | nil=>intro n j k c h;cases h
 | cons p ps ih=>
  intro n j k c h
  obtain ⟨pm,t⟩:=p
  simp only[List.length_cons]
  cases pm with
  | ro=>have:=ih (n+1) j k c h;omega
  | fix f=>have:=ih (n+1) j k c h;omega
  | eatv m=>have:=ih (n+1) j k c h;omega
  | mutp m=>
   rcases List.mem_cons.1 h with e | h
   ·injection e with e1 e2;injection e2 with e2 e3;omega
   ·have:=ih (n+1) j k c h;omega
  | eat m=>
   rcases List.mem_cons.1 h with e | h
   ·injection e with e1 e2;injection e2 with e2 e3;omega
   ·have:=ih (n+1) j k c h;omega
  | muts m=>
   rcases List.mem_cons.1 h with e | h
   ·injection e with e1 e2;injection e2 with e2 e3;omega
   ·have:=ih (n+1) j k c h;omega
theorem look_num:∀ (ss:List Slot) (n i:Nat),lookN (numbered n ss) i=if n<=i then ss[i - n]? else none
 | [],n,i=>by simp[numbered,lookN]
 | s::ss,n,i=>by
  simp only[numbered,lookN,look_num ss (n+1) i]
  by_cases hi:n=i
  ·subst hi;simp
  ·have:Nat.beq n i=false:=by
    cases hb:Nat.beq n i with
    | false=>rfl
    | true=>exact absurd (Nat.eq_of_beq_eq_true hb) hi
   simp only[this,Bool.false_eq_true,if_false]
   by_cases hle:n<=i
   ·rw[if_pos (by omega),if_pos hle]
    have e:i - n=(i - (n+1))+1:=by omega
    rw[e,List.getElem?_cons_succ]
   ·rw[if_neg (by omega),if_neg hle]
theorem begin_ok {g:Sig} {v:(tupT (g.ps.map (·.2))).den} {xs:List Value} {F0:FP} {n:Nat} (h:ArgsRel P w A g.ps v xs F0) (hp:psOk g.ps=true) (hn:g.ps.length<=n) (h1:∀ b i,F0 b i<=1) (h2:∀ b i,1<=F0 b i->¬ A b i) (h3:∀ b i,1<=F0 b i\/A b i->b < w.heap.size) :
  ∃ F,Rel0 P { w0:=w,A0:=A,F0:=F0,args:=xs.toArray } A (initSt g.ps v n) { tmps:=xs.toArray++Array.replicate (n - xs.toArray.size) undef,defers:=[] } w F:=by
 obtain ⟨Fi,g1,g2⟩:=init_ok g.ps h hp
 have hlen:=args_len g.ps h
 have hil:=init_len g.ps v
 have hget:∀ i,(initSt g.ps v n).get i=if i < n then (match (initSlots g.ps v)[i]? with | some s=>s | none=>.dead) else .dead:=fun i=>by
  unfold St.get initSt
  simp only[look_num,Nat.zero_le,if_true,Nat.sub_zero]
  by_cases hi:i < n
  ·rw[if_pos (by simpa [Nat.blt_eq] using hi),if_pos hi]
   rfl
  ·rw[if_neg (by simpa [Nat.blt_eq] using hi),if_neg hi]
 have htmp:∀ i (y:Value),xs[i]?=some y->tmp { tmps:=xs.toArray++Array.replicate (n - xs.toArray.size) undef,defers:=[] } i=y:=fun i y hy=>by
  have hi:=(List.getElem?_eq_some_iff.1 hy).1
  unfold tmp
  rw[Array.getD_eq_getD_getElem?,Array.getElem?_append_left (by simpa using hi)]
  simp[hy]
 have hsum:∀ b k,sumF n (fun i=>if i < g.ps.length then Fi i else fun _ _=>0) b k<=F0 b k:=fun b k=>by
  have e:n=g.ps.length+(n - g.ps.length):=by omega
  rw[e,sumF_add]
  have e1:=congrFun (congrFun (sumF_congr (n:=g.ps.length) (f:=fun i=>if i < g.ps.length then Fi i else fun _ _=>0) (g:=Fi) (fun j hj=>by simp only[if_pos hj])) b) k
  have e2:=congrFun (congrFun (sumF_congr (n:=n - g.ps.length) (f:=fun j=>(fun i=>if i < g.ps.length then Fi i else fun _ _=>0) (g.ps.length+j)) (g:=fun _ _ _=>0) (fun j hj=>by simp only;rw[if_neg (by omega)])) b) k
  rw[e1,e2,sumF_zero]
  exact g1 b k
 refine ⟨fun i=>if i < g.ps.length then Fi i else fun _ _=>0,?_,rfl,fun i hi=>?_,(fun d r p snap hm=>by cases hm),fun b k=>?_,fun b k hp=>?_,fun b k hp=>?_,fun i=>rfl,Ext.refl _ _,fun b k hp=>?_,fun _ _ h=>h,fun _ _ h=>.inl h,fun j k hm=>?_,fun r t m H v' hg hl=>?_,fun j k hm R hR=>?_⟩
 ·simp only[Array.size_append,List.size_toArray,Array.size_replicate,hlen,initSt];omega
 ·rw[hget]
  have hi:i < n:=hi
  rw[if_pos hi]
  cases hs:(initSlots g.ps v)[i]? with
  | none=>trivial
  | some s=>
   obtain ⟨y,q1,q2,_⟩:=g2 i s hs
   have hlt:i < g.ps.length:=by rw[<-hil];exact (List.getElem?_eq_some_iff.1 hs).1
   rw[htmp i y q1]
   simp only[if_pos hlt]
   exact q2 _ _
 ·have:=hsum b k;have:=h1 b k;show 0+sumF n _ b k<=1;omega
 ·have hp:1<=0+sumF n (fun i=>if i < g.ps.length then Fi i else fun _ _=>0) b k:=hp
  have:=hsum b k
  exact h2 b k (by omega)
 ·refine h3 b k (hp.imp (fun hp=>?_) id)
  have hp:1<=0+sumF n (fun i=>if i < g.ps.length then Fi i else fun _ _=>0) b k:=hp
  have:=hsum b k
  omega
 ·have hp:1<=0+sumF n (fun i=>if i < g.ps.length then Fi i else fun _ _=>0) b k:=hp
  have:=hsum b k
  left;show 1<=F0 b k;omega
 ·obtain ⟨_,rfl,hj⟩:=lent_idx g.ps 0 j k false hm
  have hj:j < xs.length:=by omega
  rw[htmp j xs[j] (List.getElem?_eq_getElem hj)]
  simp[hj]
 ·exfalso
  rw[hget] at hg
  split at hg
  ·cases hs:(initSlots g.ps v)[r]? with
   | none=>rw[hs] at hg;cases hg
   | some s=>
    rw[hs] at hg
    obtain ⟨y,_,_,q3,_⟩:=g2 r s hs
    exact hl r (q3 t m H v' hg)
  ·cases hg
 ·obtain ⟨_,rfl,hj⟩:=lent_idx g.ps 0 j k true hm
  have hj':j < (initSlots g.ps v).length:=by omega
  have hs:=List.getElem?_eq_getElem hj'
  obtain ⟨y,q1,q2,_,q4⟩:=g2 j _ hs
  obtain ⟨t,m,H,v',e⟩:=q4 hm
  have hjn:j < n:=by omega
  rw[hget,if_pos hjn,hs] at hR
  simp only[e,rootPl,Option.some.injEq] at hR
  subst hR
  rw[htmp j y q1]
  have h2:=q2 (initSt g.ps v n) { tmps:=#[],defers:=[] }
  rw[e] at h2
  obtain ⟨cs,c1,c2⟩:=h2
  have:=mkV_cells (Rep.length _ c2) (Rep.one _ c2)
  show mkV t y.cells.toList=_
  rw[c1,this,<- c1]
  have hjx:=(List.getElem?_eq_some_iff.1 q1)
  obtain ⟨hjx,e2⟩:=hjx
  simp[hjx,e2]
noncomputable def funOk (P:Program) (E:Env) (fn:Func) (ps:List (PM×Ty)) (rs:List (Ty×Md)) (es:List Nat):Bool:=
 codeOk P E (bodyOf fn)&&rvOk E rs fn.results.toList&&psOk ps&&Nat.ble ps.length fn.ntmps&&decide es.Nodup
theorem sound_of_body (hE:EnvOk P E) {f:FuncId} {fn:Func} (hf:P.funcs[f]?=some fn) (hb:fn.body.isSome=true) {g:Sig} {es fr:List Nat} (hok:funOk P E fn g.ps g.rs es=true) (hF:∀ v out,g.F v=some out->∃ k,bodyK E k fn g.ps g.rs es fr v=some out):Sound P f g:=by
 intro w A F0 v xs hargs h1 h2 h3 out hout
 obtain ⟨k,hk⟩:=hF v out hout
 simp only[funOk,Bool.and_eq_true,Nat.ble_eq,decide_eq_true_eq] at hok
 obtain ⟨⟨⟨⟨hcode,hrv⟩,hps⟩,hnt⟩,hnd⟩:=hok
 obtain ⟨c,hc⟩:=Option.isSome_iff_exists.1 hb
 have hbo:bodyOf fn=c:=by simp[bodyOf,hc]
 rw[hbo] at hcode
 obtain ⟨F,hrel⟩:=begin_ok hargs hps hnt h1 h2 h3
 unfold bodyK at hk
 rw[hbo] at hk
 have hxl:=args_len g.ps hargs
 have hend:∀ (a':Act) (w':World) (σ':St),outK g.ps g.rs es fn.results.toList (mvs fr) σ'=some out->RelE P { w0:=w,A0:=A,F0:=F0,args:=xs.toArray } σ' a' w' ->
   a'.defers=[]/\∃ rv,(results fn a'.tmps).run P w'=.ok rv w'/\(∃ rv',Ending.returned rv=.returned rv'/\Ext w w' F0/\∃ (A':Cells) (G GR GM:FP),(∀ b i,A b i->A' b i)/\(∀ b i,A' b i->A b i\/1<=F0 b i\/w.heap.size<=b) /\
    (∀ b i,1<=G b i->1<=F0 b i\/w.heap.size<=b)/\(∀ b i,G b i<=1)/\(∀ b i,1<=G b i->¬ A' b i)/\(∀ b i,1<=G b i\/A' b i->b < w'.heap.size)/\(∀ b i,GR b i+GM b i<=G b i) /\
    RetRel P w' A' (splitR g.rs out).1 rv' GR/\MutsRel P w' A' g.ps (splitR g.rs out).2 xs GM):=by
  intro a' w' σ' ho hr
  obtain ⟨A1,F1,hr⟩:=hr
  unfold outK at ho
  obtain ⟨A2,σ2,X2,F2,vals,L,Fi,pre,r1,r2,r3,r4,r5,r6,r7,r8,r9⟩:=res_ok hE g.rs fn.results.toList 0 hrv hr ho
  obtain ⟨vs,us,Gi,m1,m2,m3,m4,m5,m6⟩:=muts_ok r2 0 g.ps es hps hnd (by simp[hxl]) r3
  have hpre:pre vs=out:=Option.some.inj m1
  have hsp:splitR g.rs out=(L,vs):=by rw[<-hpre,r4]
  have hGR:∀ b i,sumF L.length Fi b i<=X2 b i:=fun b i=>by have:=r8 b i;omega
  have hGM0:∀ b i,sumL Gi us b i<=sumL F2 us b i:=fun b i=>by
   have:∀ l:List Nat,(∀ j ∈ l,j ∈ us)->sumL Gi l b i<=sumL F2 l b i:=by
    intro l
    induction l with
    | nil=>intro _;exact Nat.le_refl _
    | cons j l ih=>
     intro hl
     have:=m5 j b i (hl j List.mem_cons_self)
     have:=ih fun j' hj'=>hl j' (List.mem_cons_of_mem _ hj')
     simp only[sumL];omega
   exact this us fun _ h=>h
  have hGM:∀ b i,sumL Gi us b i<=sumF σ2.n F2 b i:=fun b i=>Nat.le_trans (hGM0 b i) (sumL_le us F2 m3 m4 b i)
  refine ⟨r2.defers,_,results_run (by rw[r6]) r7,_,rfl,r2.ext,?_⟩
  obtain ⟨A3,hA3⟩:∃ A3:Cells,∀ b i,A3 b i↔(A2 b i\/(1<=X2 b i+sumF σ2.n F2 b i/\sumF L.length Fi b i+sumL Gi us b i=0)):=⟨fun b i=>A2 b i\/(1<=X2 b i+sumF σ2.n F2 b i/\sumF L.length Fi b i+sumL Gi us b i=0),fun _ _=>Iff.rfl⟩
  have hA23:∀ b i,A2 b i->A3 b i:=fun b i h=>(hA3 b i).2 (.inl h)
  have htot:∀ b i,X2 b i+sumF σ2.n F2 b i<=1:=fun b i=>r2.tot b i
  refine ⟨A3,fun b i=>sumF L.length Fi b i+sumL Gi us b i,sumF L.length Fi,sumL Gi us,fun b i ha=>hA23 b i (r2.a0 b i ha),fun b i ha=>?_,fun b i hp=>?_,fun b i=>?_,fun b i hp ha=>?_,fun b i hp=>?_,fun _ _=>Nat.le_refl _,?_,?_⟩
  ·rcases (hA3 b i).1 ha with ha | ⟨hp,_⟩
   ·exact r2.a1 b i ha
   ·exact .inr (r2.own b i hp)
  ·have hp:1<=sumF L.length Fi b i+sumL Gi us b i:=hp
   exact r2.own b i (by have:=hGR b i;have:=hGM b i;omega)
  ·show sumF L.length Fi b i+sumL Gi us b i<=1
   have:=hGR b i;have:=hGM b i;have:=htot b i;omega
  ·have hp:1<=sumF L.length Fi b i+sumL Gi us b i:=hp
   rcases (hA3 b i).1 ha with ha | ⟨_,hz⟩
   ·exact r2.dis b i (by have:=hGR b i;have:=hGM b i;omega) ha
   ·omega
  ·rcases hp with hp | ha
   ·have hp:1<=sumF L.length Fi b i+sumL Gi us b i:=hp
    exact r2.bnd b i (.inl (by have:=hGR b i;have:=hGM b i;omega))
   ·rcases (hA3 b i).1 ha with ha | ⟨hp,_⟩
    ·exact r2.bnd b i (.inr ha)
    ·exact r2.bnd b i (.inl hp)
  ·rw[hsp]
   have hres:=r9 A3 hA23 (fun b i hx _ hz=>(hA3 b i).2 (.inr ⟨by omega,by
    have:=hGM b i;have:=htot b i;omega⟩))
   show RetRel P w' A3 L _ _
   match L,r5,hres with
   | [],_,_=>trivial
   | [y],hl,hres=>
    match vals,hl with
    | [u],_=>
     obtain ⟨u',cs,e1,e2,e3⟩:=hres 0 y rfl
     injection e1 with e1
     subst e1
     refine ⟨cs,by simpa using e2,e3.le fun b i=>by simp[sumF]⟩
   | y::z::L,hl,hres=>
    refine ⟨vals.toArray,Fi,?_,fun _ _=>Nat.le_refl _,fun j q hq=>?_⟩
    ·rw[dif_neg]
     simp only[List.size_toArray,hl,List.length_cons];omega
    ·obtain ⟨u,cs,e1,e2,e3⟩:=hres j q hq
     exact ⟨u,cs,by simpa using e1,e2,e3⟩
  ·rw[hsp]
   refine m6 A3 hA23 fun i b k' hi hp hz=>(hA3 b k').2 (.inr ⟨by have:=le_sumF F2 (m4 i hi) b k';omega,?_⟩)
   have h4:=le_sumF F2 (m4 i hi) b k'
   have h5:=htot b k'
   have h6:=hGR b k'
   have h7:sumL Gi us b k'=0:=by
    rcases Nat.eq_zero_or_pos (sumL Gi us b k') with h0 | h0
    ·exact h0
    ·obtain ⟨j,hj,hpj⟩:=sumL_pos h0
     by_cases hij:j=i
     ·subst hij;omega
     ·have:=m5 j b k' hj
      have:=le_sumF2 F2 (m4 j hj) (m4 i hi) hij b k'
      omega
   omega
 refine calls_of_wp hf hc (wp_mono (code_ok hE c hcode hrel hk) fun e a' w' hq=>?_)
 cases e with
 | normal=>obtain ⟨σ',h4,h5⟩:=hq;exact hend a' w' σ' h4 h5
 | ret=>obtain ⟨σ',h4,h5⟩:=hq;exact hend a' w' σ' h4 h5
 | exit j=>obtain ⟨σ',h4,h5⟩:=hq;cases h4
 | _=>exact hq.elim
end
end OT
set_option linter.unusedVariables false
set_option linter.unusedSimpArgs false
namespace OT
open Go
def OLD (w:World):Cells:=fun b _=>b < w.heap.size
def argT:Ty->Bool
 | .int _ | .bool | .str | .unit=>true
 | .pair a b=>argT a&&argT b
 | .slc e=>argT e
 | _=>false
def okD:(T:Ty)->T.den->Prop
 | .int k,n=>k.min<=toI k n/\toI k n<=k.max
 | .str,s=>List.length s<=maxLen
 | .pair a b,v=>okD a v.1/\okD b v.2
 | .slc e,v=>List.length v<=maxLen/\∀ x ∈ (v:List e.den),okD e x
 | _,_=>True
def okA:(ps:List (PM×Ty))->(tupT (ps.map (·.2))).den->Prop
 | [],_=>True
 | (_,T)::ps,v=>okD T v.1/\okA ps v.2
section
variable {P:Program} {w:World} {H:Type} {enc:TypeId×Value->H}
theorem cells_sz {T:Ty} {i:TypeId} (h:layB P T (.inl i)=true):P.cellsOf i=T.sz:=by
 obtain ⟨inf,h1,h2,_⟩:=infoOk_some (layB_info h)
 simp[Program.cellsOf,h1,h2]
theorem add_none {a:Addr} {k:Nat} {u:Value} (h:w.cell? (a.add k)=some u) (hk:k=0\/a.spot=none):a.spot=none:=by
 rcases hk with rfl | hk
 ·unfold Addr.add at h
  rw[if_pos rfl] at h
  unfold World.cell? at h
  split at h
  ·split at h
   ·cases h
   ·rename_i hs
    cases hsp:a.spot with
    | none=>rfl
    | some s=>rw[hsp] at hs;simp at hs
  ·cases h
 ·exact hk
theorem trod_ro:∀ (T:Ty),argT T=true ->
  (∀ i,layB P T (.inl i)=true->∀ fuel cs x,DataW.trod enc P w 0 (fun _=>true) true fuel i cs=some x->∃ v:T.den,okD T v/\Ro P w (OLD w) T v cs) /\
  (∀ fs off,layB P T (.inr (fs,off))=true->∀ n (cs:List Value),cs.length=off+T.sz->(∀ f ∈ fs,∃ x,DataW.trod enc P w 0 (fun _=>true) true n f.type ((cs.drop f.offset).take (P.cellsOf f.type))=some x)->∃ v:T.den,okD T v/\Ro P w (OLD w) T v (cs.drop off)):=by
 intro T
 induction T with
 | int k=>
  intro _
  refine ⟨fun i hl fuel cs x h=>?_,fun fs off hl=>by simp[layB] at hl⟩
  obtain ⟨n,rfl,_,hwf⟩:=DataW.trod_int (lay_int hl) h
  simp only[Lit.wf,Bool.and_eq_true,decide_eq_true_eq] at hwf
  cases k with
  | u8=>
   have h1:toI .u8 (UInt8.ofInt n)=n:=by
    have:=toI_inI .u8 n (fun _=>by
     have h1:(0:Int)<=n:=hwf.1
     have h2:n<=(255:Int):=hwf.2
     omega)
    exact this
   refine ⟨(UInt8.ofInt n:UInt8),?_,?_⟩
   ·show IntKind.u8.min<=toI .u8 (UInt8.ofInt n)/\toI .u8 (UInt8.ofInt n)<=IntKind.u8.max
    rw[h1];exact hwf
   ·show [Value.int .u8 n]=[Value.int .u8 (toI .u8 (UInt8.ofInt n))]
    rw[h1]
  | _=>exact ⟨n,hwf,rfl⟩
 | bool=>
  intro _
  refine ⟨fun i hl fuel cs x h=>?_,fun fs off hl=>by simp[layB] at hl⟩
  have hu:P.underlying i=some .bool:=by
   simp only[layB,Bool.and_eq_true] at hl
   have h2:=hl.2
   split at h2
   ·assumption
   ·cases h2
  obtain ⟨b,rfl,_⟩:=DataW.trod_bool hu h
  exact ⟨b,trivial,rfl⟩
 | str=>
  intro _
  refine ⟨fun i hl fuel cs x h=>?_,fun fs off hl=>by simp[layB] at hl⟩
  obtain ⟨s,rfl,_,hsm⟩:=DataW.trod_string (lay_str hl) h
  exact ⟨s.data.toList,(by show s.data.toList.length<=maxLen;rw[Array.length_toList];exact hsm),by simp only[Ro]⟩
 | unit=>
  intro _
  refine ⟨fun i hl fuel cs x h=>?_,fun fs off hl n cs hlen _=>⟨(),trivial,?_⟩⟩
  ·simp only[layB,Bool.and_eq_true] at hl
   have h2:=hl.2
   split at h2
   ·rename_i fs hu
    obtain ⟨xs,n,_,_,hlen,_⟩:=DataW.trod_struct hu h
    have hsz:P.cellsOf i=0:=by
     obtain ⟨inf,h1,h3,_⟩:=infoOk_some hl.1
     simp[Program.cellsOf,h1,h3,Ty.sz]
    rw[hsz] at hlen
    exact ⟨(),trivial,by simp only[Ro];exact List.eq_nil_of_length_eq_zero hlen⟩
   ·cases h2
  ·simp only[Ro]
   exact List.drop_of_length_le (by simp only[Ty.sz] at hlen;omega)
 | pair a b iha ihb=>
  intro ha
  simp only[argT,Bool.and_eq_true] at ha
  have hinr:∀ fs off,layB P (.pair a b) (.inr (fs,off))=true->∀ n (cs:List Value),cs.length=off+(Ty.pair a b).sz->(∀ f ∈ fs,∃ x,DataW.trod enc P w 0 (fun _=>true) true n f.type ((cs.drop f.offset).take (P.cellsOf f.type))=some x)->∃ v:(Ty.pair a b).den,okD (.pair a b) v/\Ro P w (OLD w) (.pair a b) v (cs.drop off):=by
   intro fs off hl n cs hlen hf
   cases fs with
   | nil=>simp[layB] at hl
   | cons f r=>
    simp only[layB,Bool.and_eq_true,Nat.beq_eq,Nat.ble_eq] at hl
    obtain ⟨⟨⟨ho,_⟩,h1⟩,h2⟩:=hl
    simp only[Ty.sz] at hlen
    obtain ⟨x,hx⟩:=hf f List.mem_cons_self
    rw[ho,cells_sz h1] at hx
    obtain ⟨v1,o1,r1⟩:=(iha ha.1).1 _ h1 _ _ _ hx
    obtain ⟨v2,o2,r2⟩:=(ihb ha.2).2 r (off+a.sz) h2 n cs (by omega) (fun f' hf'=>hf f' (List.mem_cons_of_mem _ hf'))
    exact ⟨(v1,v2),⟨o1,o2⟩,r1,by rw[List.drop_drop];exact r2⟩
  refine ⟨fun i hl fuel cs x h=>?_,hinr⟩
  have hl0:=hl
  simp only[layB,Bool.and_eq_true] at hl
  have h2:=hl.2
  split at h2
  ·rename_i fs hu
   split at h2
   ·rename_i f r hfs
    have h3:layB P (.pair a b) (.inr (f::r,0))=true:=by
     simp only[layB,Nat.zero_add];exact h2
    obtain ⟨xs,n,_,_,hlen,hxl,hfields⟩:=DataW.trod_struct hu h
    rw[cells_sz hl0] at hlen
    have:=hinr (f::r) 0 h3 n cs (by omega) (fun f' hf'=>by
     rw[<-hfs] at hf'
     obtain ⟨j,hj,e⟩:=List.mem_iff_getElem.1 hf'
     have hj':j < fs.size:=by simpa using hj
     have:=hfields j f' (by rw[Array.getElem?_eq_getElem hj'];simpa using e)
     rw[this,List.getElem?_eq_getElem (by omega)]
     exact ⟨_,rfl⟩)
    simpa using this
   ·cases h2
  ·cases h2
 | slc e ih=>
  intro ha
  simp only[argT] at ha
  refine ⟨fun i hl fuel cs x h=>?_,fun fs off hl=>by simp[layB] at hl⟩
  obtain ⟨el,hu,hsz,hle⟩:=lay_slc hl
  rcases DataW.trod_slice hu h with ⟨rfl,_⟩ | ⟨a,len,cap,elems,rest,n,_,rfl,_,_,hlc,hcm,hel,hels,hrest,_⟩
  ·exact ⟨[],⟨Nat.zero_le _,fun x hx=>by cases hx⟩,none,0,rfl,Nat.le_refl _,fun _=>rfl,fun ad e=>by cases e⟩
  ·rw[cells_sz hle] at hels hrest
   have hcell:∀ k y,(w.cells? 0 (a.add (k*e.sz)) e.sz).bind (DataW.trod enc P w 0 (fun _=>true) true n el)=some y->∃ cs',w.cells? 0 (a.add (k*e.sz)) e.sz=some cs'/\DataW.trod enc P w 0 (fun _=>true) true n el cs'=some y:=fun k y hk=>by
    cases hc:w.cells? 0 (a.add (k*e.sz)) e.sz with
    | none=>rw[hc] at hk;cases hk
    | some cs'=>rw[hc] at hk;exact ⟨cs',rfl,hk⟩
   have hspot:0 < cap->a.spot=none:=fun hpos=>by
    have hfirst:∃ cs',w.cells? 0 (a.add (0*e.sz)) e.sz=some cs':=by
     by_cases hlen:0 < len
     ·have h0:=hels 0 hlen
      rw[List.getElem?_eq_getElem (by omega)] at h0
      obtain ⟨cs',h1,_⟩:=hcell 0 _ h0
      exact ⟨cs',h1⟩
     ·obtain rfl:len=0:=by omega
      obtain ⟨hr1,hr2⟩:=hrest rfl
      have h0:=hr2 0 (by omega)
      rw[List.getElem?_eq_getElem (by omega)] at h0
      obtain ⟨cs',h1,_⟩:=hcell (0+0) _ h0
      exact ⟨cs',by simpa using h1⟩
    obtain ⟨cs',h1⟩:=hfirst
    obtain ⟨_,hl1,h2⟩:=World.cells?_some h1
    have h3:=h2 0 (by omega)
    rw[List.getElem?_eq_getElem (by omega),Nat.zero_mul] at h3
    have h4:(a.add 0).add 0=a.add 0:=by unfold Addr.add;simp
    rw[h4] at h3
    exact add_none h3 (.inl rfl)
   have each:∀ k:Fin len,∃ v:e.den,okD e v/\∃ L:List Value,L.length=e.sz/\(∀ j u,L[j]?=some u->ce w a.block (a.off+k.val*e.sz+j)=some u/\OLD w a.block (a.off+k.val*e.sz+j))/\Ro P w (OLD w) e v L:=fun k=>by
    have h0:=hels k.val k.isLt
    rw[List.getElem?_eq_getElem (by have:=k.isLt;omega)] at h0
    obtain ⟨cs',h1,h2⟩:=hcell k.val _ h0
    obtain ⟨v,ho,hv⟩:=(ih ha).1 _ hle _ _ _ h2
    obtain ⟨_,hl1,h3⟩:=World.cells?_some h1
    refine ⟨v,ho,cs',hl1,fun j u hu=>?_,hv⟩
    have hj:=(List.getElem?_eq_some_iff.1 hu).1
    have h4:=h3 j (by omega)
    rw[hu] at h4
    have hsp:=hspot (by have:=k.isLt;omega)
    obtain ⟨b,off,sp⟩:=a
    simp only at hsp
    subst hsp
    rw[addr_add,addr_add] at h4
    have h5:ce w b (off+k.val*e.sz+j)=some u:=cell_ce h4 (Ro.one e hv u (List.mem_of_getElem? hu))
    exact ⟨h5,ce_lt h5⟩
   obtain ⟨f,hf⟩:=Classical.axiomOfChoice each
   refine ⟨List.ofFn f,⟨by simp;omega,fun x hx=>?_⟩,some a,cap,by simp,by simpa using hlc,(fun e=>by cases e),fun ad e=>?_⟩
   ·obtain ⟨j,rfl⟩:=List.mem_ofFn.1 hx
    exact (hf j).1
   injection e with e
   subst e
   refine ⟨hspot,fun k y hk=>?_⟩
   rw[List.getElem?_ofFn] at hk
   split at hk
   ·rename_i hlt
    injection hk with hk
    subst hk
    exact (hf ⟨k,hlt⟩).2
   ·cases hk
 | _=>intro ha;simp[argT] at ha
theorem arg_val {T:Ty} (ha:argT T=true) {i:TypeId} (hl:layB P T (.inl i)=true) {r:Reach} {b0:Nat} {v:Value} (h:Value.okWide P w r b0 i v):v=mkV T v.cells.toList:=by
 cases T with
 | int k=>
  have hu:=lay_int hl
  cases v <;> simp[Value.okWide,Cell.okWide,Cell.ok,hu] at h <;> simp[mkV,isAgg,Value.cells]
 | bool=>
  have hu:P.underlying i=some .bool:=by
   simp only[layB,Bool.and_eq_true] at hl
   have h2:=hl.2
   split at h2
   ·assumption
   ·cases h2
  cases v <;> simp[Value.okWide,Cell.okWide,Cell.ok,hu] at h <;> simp[mkV,isAgg,Value.cells]
 | str=>
  have hu:=lay_str hl
  cases v <;> simp[Value.okWide,Cell.okWide,Cell.ok,hu] at h <;> simp[mkV,isAgg,Value.cells]
 | slc e=>
  obtain ⟨el,hu,_⟩:=lay_slc hl
  cases v <;> simp[Value.okWide,Cell.okWide,Cell.ok,hu] at h <;> simp[mkV,isAgg,Value.cells]
 | unit=>
  simp only[layB,Bool.and_eq_true] at hl
  have h2:=hl.2
  split at h2
  ·rename_i fs hu
   simp only[Value.okWide,hu] at h
   obtain ⟨cs,rfl,_⟩:=h
   simp[mkV,isAgg,Value.cells]
  ·cases h2
 | pair a b=>
  simp only[layB,Bool.and_eq_true] at hl
  have h2:=hl.2
  split at h2
  ·rename_i fs hu
   simp only[Value.okWide,hu] at h
   obtain ⟨cs,rfl,_⟩:=h
   simp[mkV,isAgg,Value.cells]
  ·cases h2
 | _=>simp[argT] at ha
def roLay (P:Program):List (PM×Ty)->List TypeId->Bool
 | [],[]=>true
 | (.ro,T)::ps,t::ts=>argT T&&layB P T (.inl t)&&P.readableRec t&&Nat.blt t P.types.size&&roLay P ps ts
 | _,_=>false
theorem args_ro:∀ (ps:List (PM×Ty)) (ts:List TypeId) (args:List Value) (ds:List (DataW H)) (p:List MemPlace) {b0:Nat},roLay P ps ts=true->DataW.TrodAll enc P w 0 (fun _=>true) true ts args ds p ->
  (∀ (j:Nat) t v,ts[j]?=some t->args[j]?=some v->Value.okWide P w .any b0 t v)->∃ v,okA ps v/\ArgsRel P w (OLD w) ps v args (fun _ _=>0)
 | [],[],args,ds,p,b0,_,h,_=>by
  cases args with
  | nil=>exact ⟨(),trivial,rfl⟩
  | cons _ _=>simp[DataW.TrodAll] at h
 | (.ro,T)::ps,t::ts,args,ds,p,b0,hl,h,hok=>by
  simp only[roLay,Bool.and_eq_true] at hl
  cases args with
  | nil=>simp[DataW.TrodAll] at h
  | cons v args=>
   cases ds with
   | nil=>simp[DataW.TrodAll] at h
   | cons d ds=>
    obtain ⟨p1,q1,⟨fuel,h1⟩,h2,_⟩:=h
    obtain ⟨x,hox,hx⟩:=(trod_ro T hl.1.1.1.1).1 t hl.1.1.1.2 _ _ _ h1
    obtain ⟨xs,hoxs,hxs⟩:=args_ro ps ts args ds q1 (b0:=b0) hl.2 h2 (fun j t' v' ht hv=>hok (j+1) t' v' ht hv)
    exact ⟨(x,xs),⟨hox,hoxs⟩,v,args,fun _ _=>0,fun _ _=>0,rfl,fun _ _=>Nat.le_refl _,⟨_,arg_val hl.1.1.1.1 hl.1.1.1.2 (hok 0 t v rfl rfl),hx⟩,hxs⟩
theorem args_stay (hlo:laidOutB P=true) {W W':World} (hb:RowKit.Below W.heap.size W W') {sp:Nat->Bool}:∀ (ps:List (PM×Ty)) (ts:List TypeId) (args:List Value) (ds:List (DataW H)) (p:List MemPlace),roLay P ps ts=true->DataW.TrodAll enc P W 0 (fun _=>true) true ts args ds p ->
  (∀ x ∈ p,x.block < W.heap.size)->(∀ x ∈ p,sp x.block=true)->DataW.TrodAll enc P W' 0 sp true ts args ds p
 | [],[],args,ds,p,_,h,_,_=>by
  cases args with
  | nil=>
   cases ds with
   | nil=>exact h
   | cons _ _=>simp[DataW.TrodAll] at h
  | cons _ _=>simp[DataW.TrodAll] at h
 | (.ro,T)::ps,t::ts,args,ds,p,hl,h,hlt,hsp=>by
  simp only[roLay,Bool.and_eq_true] at hl
  cases args with
  | nil=>simp[DataW.TrodAll] at h
  | cons v args=>
   cases ds with
   | nil=>simp[DataW.TrodAll] at h
   | cons d ds=>
    obtain ⟨p1,q1,h1,h2,rfl⟩:=h
    have ht:t < P.types.size:=by have:=hl.1.2;rwa [Nat.blt_eq] at this
    exact ⟨p1,q1,WideElems.Trod_stays hlo hl.1.1.2 ht h1 (fun x hx=>hb.same (hlt x (List.mem_append_left _ hx))) (fun x hx=>hsp x (List.mem_append_left _ hx)),
     args_stay hlo hb ps ts args ds q1 hl.2 h2 (fun x hx=>hlt x (List.mem_append_right _ hx)) (fun x hx=>hsp x (List.mem_append_right _ hx)),rfl⟩
theorem law_calls {f:FuncId} {cap:Bool} {ps:List (PM×Ty)} {Fn:(tupT (ps.map (·.2))).den->Option (tupT ([((Ty.bool,roMd .bool):Ty×Md)].map (·.1)++mutTys ps)).den} (hs:Sound P f { cap:=cap,ps:=ps,rs:=[(.bool,roMd .bool)],F:=Fn }) (htrue:∀ v,okA ps v->∃ u,Fn v=some (true,u))
  {ts:List TypeId} (hl:roLay P ps ts=true) {args:List Value} {ds:List (DataW H)} {p:List MemPlace} (hA:DataW.TrodAll enc P w 0 (fun _=>true) true ts args ds p) {b0:Nat} (hok:∀ (j:Nat) t v,ts[j]?=some t->args[j]?=some v->Value.okWide P w .any b0 t v) :
  Calls P f args.toArray w fun e W'=>e=.returned (.bool true)/\RowKit.Below w.heap.size w W':=by
 obtain ⟨v,hov,hv⟩:=args_ro ps ts args ds p hl hA hok
 obtain ⟨u,hu⟩:=htrue v hov
 refine (hs w (OLD w) (fun _ _=>0) v args hv (fun _ _=>Nat.zero_le _) (fun b i h=>by omega) (fun b i h=>?_) _ hu).mono fun e W' h=>?_
 ·rcases h with h | h
  ·omega
  ·exact h
 ·obtain ⟨rv,rfl,hext,A',G,GR,GM,_,_,_,_,_,_,_,hret,_⟩:=h
  obtain ⟨cs,h1,h2⟩:=hret
  simp only[splitR] at h1 h2
  have h2:cs=[.bool true]:=h2
  subst h2
  exact ⟨by rw[h1];rfl,hext.os,hext.tape,hext.output,hext.size,fun b hb=>hext.obj b hb fun _=>rfl⟩
theorem law_post {C:Checked} {f:Func} {s:ChangeSpec} {W W':World} {args:Array Value} {ds:List (DataW H)} {p:List MemPlace} {apart fresh handsOn:Bool} (hlo:laidOutB P=true) {ps:List (PM×Ty)} {ts:List TypeId} (hts:f.params.toList=ts) (hl:roLay P ps ts=true) {tb:TypeId} (hr:f.resultTypes=#[tb]) (hu:P.underlying tb=some .bool)
  (hvars:s.vars=[]) (hW:DataW.Whole enc P f.params.toList s.vars apart W args.toList ds [] p) (hA:DataW.TrodAll enc P W 0 (fun _=>true) true ts args.toList ds p) (hfn:s.fn H (ds++[])={ results:=[.lit (.bool true)],args:=ds }) (hb:RowKit.Below W.heap.size W W') :
  s.post enc P f apart fresh handsOn false W args (.bool true) W':=by
 have hlt:∀ x ∈ p,x.block < W.heap.size:=fun x hx=>by simpa using hW.lt x hx
 refine ⟨ds,[],p,[],p,[],hW,?_,?_,?_,World.keptBut_mono (fun x hx=>⟨hx,.inr (.inl hx)⟩) (hb.frame (· ∈ p)),fun e=>by cases e⟩
 ·rw[hfn,hr]
  exact ⟨[],[],RowKit.shut_bool hu true,rfl,rfl⟩
 ·rw[hfn,hts]
  exact args_stay hlo hb ps ts args.toList ds p hl hA hlt (fun x hx=>by simpa using hlt x hx)
 ·rw[hfn,hvars]
  rfl
end
end OT
namespace OT
open Go
def tiOk (P:Program) (l:List (Nat×Ty)):Bool:=l.all fun p=>layB P p.2 (.inl p.1)
def eqOkL (P:Program) (l:List (Nat×Ty)):Bool:=l.all fun p=>!(p.2.eqOk&&isAgg p.2)||(eqB P p.2 (.inl p.1)&&(P.eqGuardType P.depth p.1 == false)&&Nat.ble (dep p.2) 10000)
theorem look_mem {α:Type}:∀ {l:List (Nat×α)} {i:Nat} {x:α},lookN l i=some x->(i,x) ∈ l
 | (k,y)::l,i,x,h=>by
  simp only[lookN] at h
  split at h
  ·rename_i hk
   injection h with h
   rw[Nat.eq_of_beq_eq_true hk,h];exact List.mem_cons_self
  ·exact List.mem_cons_of_mem _ (look_mem h)
def FnOk (P:Program) (l:List (Nat×Sig)):Prop:=∀ f g,lookN l f=some g->Sound P f g/\EnterOk P f g.cap
theorem fn_nil (P:Program):FnOk P []:=fun f g h=>by cases h
theorem fn_cons {P:Program} {f:Nat} {g:Sig} {l:List (Nat×Sig)} (h1:Sound P f g) (h2:EnterOk P f g.cap) (h3:FnOk P l):FnOk P ((f,g)::l):=fun f' g' h=>by
 simp only[lookN] at h
 split at h
 ·rename_i hk
  injection h with h
  subst h
  rw[<-Nat.eq_of_beq_eq_true hk]
  exact ⟨h1,h2⟩
 ·exact h3 f' g' h
theorem env_ok {P:Program} {E:Env} {tl:List (Nat×Ty)} {gl:List (Nat×Sig)} (h1:E.TI=lookN tl) (h2:E.G=lookN gl) (h3:tiOk P tl=true) (h4:eqOkL P tl=true) (h5:FnOk P gl):EnvOk P E where
 ti i T h:=by rw[h1] at h;exact List.all_eq_true.1 h3 _ (look_mem h)
 eq i T h hq ha:=by
  rw[h1] at h
  have:=List.all_eq_true.1 h4 _ (look_mem h)
  simp only[hq,ha,Bool.and_self,Bool.not_true,Bool.false_or,Bool.and_eq_true,beq_iff_eq,Nat.ble_eq] at this
  exact ⟨this.1.1,this.1.2,this.2⟩
 fn f g h:=by rw[h2] at h;exact h5 f g h
def Ok (P:Program) (f:FuncId) (g:Sig):Prop:=Sound P f g/\EnterOk P f g.cap
theorem fc {P:Program} {f:Nat} {g:Sig} {l:List (Nat×Sig)} (h:Ok P f g) (h3:FnOk P l):FnOk P ((f,g)::l):=fn_cons h.1 h.2 h3
def enterB (fn:Func) (cap:Bool):Bool:=!(fn.name == "runtime.NumGoroutine")&&!fn.body.isNone&&Nat.beq fn.nfree (match cap with | true=>1 | false=>0)
noncomputable def okB (P:Program) (E:Env) (fn:Func) (ps:PQ) (rs:RQ) (es:List Nat) (cap:Bool) (tl:TL):Bool:=(tiOk P tl&&eqOkL P tl)&&(enterB fn cap&&funOk P E fn ps rs es)
theorem fn_ok {P:Program} {E:Env} {f:FuncId} {fn:Func} (hf:P.funcs[f]?=some fn) {g:Sig} {es fr:List Nat} {tl:TL} {gl:GL} (h1:E.TI=lookN tl) (h2:E.G=lookN gl) (hok:okB P E fn g.ps g.rs es g.cap tl=true) (hg:FnOk P gl) (hF:∀ v,g.F v=lift fun k=>bodyK E k fn g.ps g.rs es fr v):Ok P f g:=by
 simp only[okB,enterB,Bool.and_eq_true,Bool.not_eq_true',Nat.beq_eq] at hok
 obtain ⟨⟨a1,a2⟩,⟨⟨b1,b2⟩,b3⟩,c⟩:=hok
 have hb:fn.body.isSome=true:=by
  cases h:fn.body with
  | none=>rw[h] at b2;cases b2
  | some _=>rfl
 exact ⟨sound_of_body (env_ok h1 h2 a1 a2 hg) hf hb c fun v out h=>lift_some (by rw[<-hF];exact h),fn,hf,b1,b2,b3⟩
structure FD where
 fn:Func
 tl:TL
 ps:PQ
 rs:RQ
 gl:GL:=[]
 es:List Nat:=[]
 fr:List Nat:=[]
 cap:Bool:=false
 fz:List (Nat×Nat×Nat):=[]
 lv:List (Nat×List Nat):=[]
 lx:List (Nat×List Nat):=[]
 lf:List (Nat×List (Nat×Md)):=[]
 od:List (Nat×List Nat):=[]
 ar:List (Nat×List Nat):=[]
 bx:List (Nat×List Nat):=[]
 pd:List (Nat×List Nat):=[]
 er:List (Nat×List (Nat×Nat)):=[]
noncomputable def FD.E (D:FD):Env:={ TI:=lookN D.tl,G:=lookN D.gl,fz:=D.fz,lv:=D.lv,lx:=D.lx,lf:=D.lf,od:=D.od,ar:=D.ar,bx:=D.bx,pd:=D.pd,er:=D.er }
noncomputable def FD.W (D:FD) (k:Nat) (a:(tupT (D.ps.map (·.2))).den):Option (tupT (D.rs.map (·.1)++mutTys D.ps)).den:=bodyK D.E k D.fn D.ps D.rs D.es D.fr a
noncomputable def FD.F (D:FD) (a:(tupT (D.ps.map (·.2))).den):Option (tupT (D.rs.map (·.1)++mutTys D.ps)).den:=lift fun k=>D.W k a
noncomputable def FD.sig (D:FD):Sig:={ cap:=D.cap,ps:=D.ps,rs:=D.rs,F:=D.F }
noncomputable def FD.fin (D:FD):St->Option (tupT (D.rs.map (·.1)++mutTys D.ps)).den:=outK D.ps D.rs D.es D.fn.results.toList (mvs D.fr)
noncomputable def FD.K0 (D:FD):KT (tupT (D.rs.map (·.1)++mutTys D.ps)).den:=endK D.fin
noncomputable def FD.N (D:FD) (k:Nat) (p:List Nat):St->KT (tupT (D.rs.map (·.1)++mutTys D.ps)).den->Option (tupT (D.rs.map (·.1)++mutTys D.ps)).den:=codeK D.E k D.fin (sub p (bodyOf D.fn))
noncomputable def FD.L (D:FD) (k:Nat) (p live:List Nat) (fro:List (Nat×Md)) (K:KT (tupT (D.rs.map (·.1)++mutTys D.ps)).den) (σ:St):Option (tupT (D.rs.map (·.1)++mutTys D.ps)).den:=iterK (D.N k p) (keepF live fro) K k σ
theorem fd_ok {P:Program} {D:FD} {f:FuncId} (hf:P.funcs[f]?=some D.fn) (ht:(tiOk P D.tl&&eqOkL P D.tl)=true) (hok:(enterB D.fn D.cap&&funOk P D.E D.fn D.ps D.rs D.es)=true) (hg:FnOk P D.gl):Ok P f D.sig:=
 fn_ok (es:=D.es) (fr:=D.fr) (tl:=D.tl) (gl:=D.gl) (E:=D.E) hf rfl rfl (by rw[okB,ht,Bool.true_and];exact hok) hg fun _=>rfl
end OT
namespace OT
open Go
theorem w64_in {n:Int} (h:-9223372036854775808<=n/\n<=9223372036854775807):w64 n=n:=by
 unfold w64
 rw[IntKind.wrap_i64]
 omega
theorem maxLen_val:maxLen=9223372036854775807:=by simp[maxLen]
theorem rawIter_eq {V R:Type} {B:(V->Option R)->V->Option R} (f:V->R) (I:V->Prop) (μ:V->Nat)
  (h:∀ v,I v->∀ self,B self v=some (f v)\/∃ v',B self v=self v'/\f v'=f v/\I v'/\μ v' < μ v):∀ (k:Nat) (v:V),I v->μ v < k->rawIter B k v=some (f v)
 | 0,v,_,hk=>by omega
 | k+1,v,hI,hk=>by
  show B (rawIter B k) v=some (f v)
  rcases h v hI (rawIter B k) with h1 | ⟨v',h1,h2,h3,h4⟩
  ·exact h1
  ·rw[h1,rawIter_eq f I μ h k v' h3 (by omega),h2]
def allB {α:Type} (e:α->α->Bool) (xs ys:List α):Bool:=(xs.zip ys).all fun p=>e p.1 p.2
theorem allB_drop {α:Type} (e:α->α->Bool) (xs ys:List α) (i:Nat) (hx:i < xs.length) (hy:i < ys.length):allB e (xs.drop i) (ys.drop i)=(e xs[i] ys[i]&&allB e (xs.drop (i+1)) (ys.drop (i+1))):=by
 unfold allB
 rw[List.drop_eq_getElem_cons hx,List.drop_eq_getElem_cons hy]
 simp only[List.zip_cons_cons,List.all_cons]
theorem all_loop {α:Type} {B:(Int->Option (Bool×Unit))->Int->Option (Bool×Unit)} {xs ys:List α} (e:α->α->Bool) (hlen:xs.length=ys.length) (hmax:xs.length<=maxLen)
  (hin:∀ (i:Nat) (hx:i < xs.length) (hy:i < ys.length) self,B self (i:Int)=if e xs[i] ys[i]=true then self (w64 ((i:Int)+1)) else some (false,()))
  (hout:∀ self,B self (xs.length:Int)=some (true,())):∀ k,xs.length < k->rawIter B k 0=some (allB e xs ys,()):=by
 intro k hk
 have h:=rawIter_eq (B:=B) (fun v=>(allB e (xs.drop v.toNat) (ys.drop v.toNat),())) (fun v=>0<=v/\v<=(xs.length:Int)) (fun v=>xs.length - v.toNat) (fun v hv self=>by
  obtain ⟨h0,h1⟩:=hv
  obtain ⟨i,rfl⟩:=Int.eq_ofNat_of_zero_le h0
  simp only[Int.toNat_natCast]
  by_cases hi:i < xs.length
  ·have hy:i < ys.length:=by omega
   rw[allB_drop e xs ys i hi hy,hin i hi hy]
   cases he:e xs[i] ys[i] with
   | true=>
    right
    have hw:w64 ((i:Int)+1)=((i+1:Nat):Int):=by rw[w64_in (by rw[maxLen_val] at hmax;omega)];omega
    refine ⟨_,by rw[hw];rfl,by simp,by omega,?_⟩
    simp only[Int.toNat_natCast];omega
   | false=>left;simp
  ·have hi':i=xs.length:=by omega
   subst hi'
   left
   rw[hout]
   simp[allB]) k 0 ⟨by omega,by omega⟩ (by simpa using hk)
 simpa using h
end OT
set_option linter.unusedVariables false
set_option linter.unusedSimpArgs false
namespace OT
open Go
theorem rawIter_succ {V R:Type} (B:(V->Option R)->V->Option R) (k:Nat) (v:V):rawIter B (k+1) v=B (rawIter B k) v:=rfl
def sumW {α:Type} (f:α->Nat):List α->Nat
 | []=>0
 | x::xs=>f x+sumW f xs
def zz:(t:Ty)->t.den->Nat
 | .str,v=>List.length v
 | .pair a b,v=>zz a v.1+zz b v.2
 | .slc e,v=>List.length v+sumW (zz e) v
 | _,_=>0
end OT
set_option linter.unusedVariables false
set_option linter.unusedSimpArgs false
namespace OT
open Go
def forI {S O α:Type} (f:Nat->S->α->Sum O S) (fin:S->O):Nat->List α->S->O
 | _,[],s=>fin s
 | i,x::xs,s=>match f i s x with
  | .inl o=>o
  | .inr s'=>forI f fin (i+1) xs s'
theorem for_loop {V S O α:Type} {B:(V->Option O)->V->Option O} (xs:List α) (enc:S->Int->V) (f:Nat->S->α->Sum O S) (fin:S->O) (I:Nat->S->Prop) (hmax:xs.length<=maxLen)
  (hin:∀ (i:Nat) (hi:i < xs.length) (s:S) self,I i s->B self (enc s (i:Int))=match f i s xs[i] with | .inl o=>some o | .inr s'=>self (enc s' (w64 ((i:Int)+1))))
  (hI:∀ (i:Nat) (hi:i < xs.length) (s s':S),I i s->f i s xs[i]=.inr s'->I (i+1) s')
  (hout:∀ (s:S) self,I xs.length s->B self (enc s (xs.length:Int))=some (fin s)) (s:S) (h0:I 0 s):∀ k,xs.length < k->rawIter B k (enc s 0)=some (forI f fin 0 xs s):=by
 have main:∀ (m i:Nat) (s:S),xs.length - i=m->i<=xs.length->I i s->∀ k,m < k->rawIter B k (enc s (i:Int))=some (forI f fin i (xs.drop i) s):=by
  intro m
  induction m with
  | zero=>
   intro i s hm hi hs k hk
   have hi':i=xs.length:=by omega
   subst hi'
   cases k with
   | zero=>omega
   | succ k=>
    show B (rawIter B k) _=_
    rw[hout s _ hs]
    simp[forI]
  | succ m ih=>
   intro i s hm hi hs k hk
   have hlt:i < xs.length:=by omega
   cases k with
   | zero=>omega
   | succ k=>
    show B (rawIter B k) _=_
    rw[hin i hlt s _ hs,List.drop_eq_getElem_cons hlt]
    simp only[forI]
    cases hf:f i s xs[i] with
    | inl o=>rfl
    | inr s'=>
     have hw:w64 ((i:Int)+1)=((i+1:Nat):Int):=by rw[w64_in (by rw[maxLen_val] at hmax;omega)];omega
     simp only[hw]
     exact ih (i+1) s' (by omega) (by omega) (hI i hlt s s' hs hf) k (by omega)
 intro k hk
 simpa using main xs.length 0 s (by omega) (by omega) h0 k hk
theorem forI_check {O α:Type} (p:α->Bool) (bad:O) (fin:Unit->O):∀ (xs:List α) (i:Nat),forI (fun _ _ x=>if p x then .inr () else .inl bad) fin i xs ()=if xs.all p then fin () else bad
 | [],_=>rfl
 | x::xs,i=>by
  simp only[forI,List.all_cons]
  by_cases h:p x=true
  ·simp[h,forI_check p bad fin xs (i+1)]
  ·simp[h]
def firstF {α:Type} (c:α->Int):List α->Int
 | []=>0
 | x::xs=>if c x=0 then firstF c xs else c x
theorem forI_first {O α:Type} (c:α->Int) (bad:Int->O) (fin:Unit->O):∀ (xs:List α) (i:Nat),forI (fun _ _ x=>if c x=0 then .inr () else .inl (bad (c x))) fin i xs ()=if firstF c xs=0 then fin () else bad (firstF c xs)
 | [],_=>rfl
 | x::xs,i=>by
  simp only[forI,firstF]
  by_cases h:c x=0
  ·simp[h,forI_first c bad fin xs (i+1)]
  ·simp[h]
theorem cap_ok {n:Nat} (h:n<=200000000000):n<=CAP:=by simp only[CAP];omega
end OT
set_option maxRecDepth 100000
set_option linter.unusedVariables false
namespace OT
open Go Go.Proofs.Try
abbrev L1Src:Type:=((List UInt8)×Int×Unit)
abbrev tL1Src:Ty:=(tupT [(.slc u8),i64])
abbrev Run:Type:=(Int×(List UInt8)×Unit)
abbrev tRun:Ty:=(tupT [i64,(.slc u8)])
abbrev Record:Type:=(Int×Int×Int×(List Run)×Unit)
abbrev tRecord:Ty:=(tupT [i64,i64,i64,(.slc tRun)])
abbrev RecordsResult:Type:=(Int×Int×(List Record)×Unit)
abbrev tRecordsResult:Ty:=(tupT [i64,i64,(.slc tRecord)])
abbrev Log:Type:=((List UInt8)×(List UInt8)×Unit)
abbrev tLog:Ty:=(tupT [(.slc u8),(.slc u8)])
abbrev LogResult:Type:=(Int×Log×Unit)
abbrev tLogResult:Ty:=(tupT [i64,tLog])
abbrev RecordResult:Type:=(Int×Int×Record×Unit)
abbrev tRecordResult:Ty:=(tupT [i64,i64,tRecord])
abbrev Row:Type:=(Int×Int×Int×(List UInt8)×Unit)
abbrev tRow:Ty:=(tupT [i64,i64,i64,.str])
abbrev Change:Type:=(Bool×Row×Bool×Row×Unit)
abbrev tChange:Ty:=(tupT [.bool,tRow,.bool,tRow])
abbrev Key:Type:=(Int×Int×Unit)
abbrev tKey:Ty:=(tupT [i64,i64])
abbrev Tx:Type:=(Int×(List Change)×(List Int)×(List Key)×Unit)
abbrev tTx:Ty:=(tupT [i64,(.slc tChange),(.slc i64),(.slc tKey)])
abbrev Op:Type:=(Int×Int×Row×Int×Unit)
abbrev tOp:Ty:=(tupT [i64,i64,tRow,i64])
abbrev ChangeResult:Type:=(Int×Bool×Change×Unit)
abbrev tChangeResult:Ty:=(tupT [i64,.bool,tChange])
abbrev TxsResult:Type:=(Int×(List Tx)×Unit)
abbrev tTxsResult:Ty:=(tupT [i64,(.slc tTx)])
abbrev RowsResult:Type:=(Int×(List Row)×Unit)
abbrev tRowsResult:Ty:=(tupT [i64,(.slc tRow)])
abbrev ChangesResult:Type:=(Int×(List Change)×Unit)
abbrev tChangesResult:Ty:=(tupT [i64,(.slc tChange)])
noncomputable def TL0:TL:=[(22,(.slc u8)),(5,u8),(2,i64),(36,tRecord),(33,tLog),(3,i64),(34,(.slc tRun)),(140,tRun),(24,(.slc tRecord)),(106,(.slc i64)),(40,tLogResult),(27,tRun),(30,tRecordsResult),(135,tL1Src),(179,tRecordResult),(9,.str),(148,(.slc (.slc u8)))]
theorem tlOk:(tiOk prog TL0&&eqOkL prog TL0)=true:=by kernel_rfl
namespace laws_lwBig
abbrev Arg:Type:=(List UInt8)×Unit
abbrev Out:Type:=Bool×Unit
abbrev ps:PQ:=[(.ro,(.slc u8))]
noncomputable def D:FD:={ fn:=f5,tl:=TL0,ps:=ps,rs:=[(.bool,(roMd .bool))] }
noncomputable def sem (a:Arg):Option Out:=@lift Out fun k=>D.W k a
noncomputable def p (a1:Arg):Option Out:=some (decide ((1048576:Int) < (a1.1.length:Int)),())
theorem raw_eq (k:Nat) (a1:Arg):@Eq (Option Out) (D.W k a1) (p a1):=by kernel_rfl
theorem ok:Ok prog 5 D.sig:=fd_ok func5 tlOk (by kernel_rfl) (fn_nil _)
end laws_lwBig
namespace spec_l1Source
abbrev Arg:Type:=(List UInt8)×Unit
abbrev Out:Type:=L1Src×Unit
abbrev ps:PQ:=[(.ro,(.slc u8))]
noncomputable def D:FD:={ fn:=f29,tl:=TL0,ps:=ps,rs:=[((.ptr tL1Src),(.ptr true (roMd tL1Src)))] }
noncomputable def sem (a:Arg):Option Out:=@lift Out fun k=>D.W k a
noncomputable def p (a1:Arg):Option Out:=some ((a1.1,(0:Int),()),())
theorem raw_eq (k:Nat) (a1:Arg):@Eq (Option Out) (D.W k a1) (p a1):=by kernel_rfl
theorem ok:Ok prog 29 D.sig:=fd_ok func29 tlOk (by kernel_rfl) (fn_nil _)
end spec_l1Source
namespace spec_l1Next
abbrev Arg:Type:=L1Src×Int×Unit
abbrev Out:Type:=Int×L1Src×Unit
abbrev ps:PQ:=[(.mutp (roMd tL1Src),tL1Src),(.ro,i64)]
noncomputable def D:FD:={ fn:=f30,tl:=TL0,ps:=ps,rs:=[(i64,(roMd i64))],es:=[0],od:=[(8,[0,1,2,3,4,5,6,7,8,9,10,11,12,13,14,15]),(10,[0,1,2,3,4,5,6,7,8,9,10,11,12,13,14,15,16,17])] }
noncomputable def sem (a:Arg):Option Out:=@lift Out fun k=>D.W k a
noncomputable def p (a1:Arg):Option Out:=bif decide (a1.2.1 < (1:Int)) then (some ((0:Int),(a1.1.1,w64 (a1.1.2.1+(1:Int)),a1.1.2.2),())) else bif decide ((a1.1.1.length:Int)=(0:Int)) then (if a1.2.1=0 then none else some ((w64 ((w64 ((w64 (a1.1.2.1+(1:Int))) - (1:Int)))*(7:Int))).tmod a1.2.1,(a1.1.1,w64 (a1.1.2.1+(1:Int)),a1.1.2.2),())) else if (a1.1.1.length:Int)=0 then none else if 0<=(w64 ((w64 (a1.1.2.1+(1:Int))) - (1:Int))).tmod (a1.1.1.length:Int) then ((a1.1.1[((w64 ((w64 (a1.1.2.1+(1:Int))) - (1:Int))).tmod (a1.1.1.length:Int)).toNat]?).bind fun x2=>if (a1.1.1.length:Int)=0 then none else let j5:=fun (p4:Int)=>(if a1.2.1=0 then none else some (p4.tmod a1.2.1,(a1.1.1,w64 (a1.1.2.1+(1:Int)),a1.1.2.2),()):Option Out);bif decide ((200:Int) < a1.2.1) then (if (a1.1.1.length:Int)=0 then none else if 0<=(w64 ((w64 ((w64 (a1.1.2.1+(1:Int))) - (1:Int)))+(1:Int))).tmod (a1.1.1.length:Int) then ((a1.1.1[((w64 ((w64 ((w64 (a1.1.2.1+(1:Int))) - (1:Int)))+(1:Int))).tmod (a1.1.1.length:Int)).toNat]?).bind fun x3=>j5 (w64 ((w64 ((w64 ((w64 ((w64 (x2.toNat:Int))+(w64 ((w64 ((w64 ((w64 (a1.1.2.1+(1:Int))) - (1:Int))).tdiv (a1.1.1.length:Int)))*(37:Int)))))*(251:Int)))+(w64 ((w64 (x3.toNat:Int))*(13:Int)))))+(w64 ((w64 (a1.1.2.1+(1:Int))) - (1:Int)))))) else none) else j5 (w64 ((w64 (x2.toNat:Int))+(w64 ((w64 ((w64 ((w64 (a1.1.2.1+(1:Int))) - (1:Int))).tdiv (a1.1.1.length:Int)))*(37:Int)))))) else none
theorem raw_eq (k:Nat) (a1:Arg):@Eq (Option Out) (D.W k a1) (p a1):=by kernel_rfl
theorem ok:Ok prog 30 D.sig:=fd_ok func30 tlOk (by kernel_rfl) (fn_nil _)
end spec_l1Next
namespace spec_l1Pick
abbrev Arg:Type:=L1Src×(List Int)×Unit
abbrev Out:Type:=Int×L1Src×Unit
abbrev ps:PQ:=[(.mutp (roMd tL1Src),tL1Src),(.ro,(.slc i64))]
noncomputable def D:FD:={ fn:=f60,tl:=TL0,ps:=ps,rs:=[(i64,(roMd i64))],gl:=[(30,spec_l1Next.D.sig)],es:=[0] }
noncomputable def sem (a:Arg):Option Out:=@lift Out fun k=>D.W k a
noncomputable def p (a1:Arg):Option Out:=(spec_l1Next.sem (a1.1,(a1.2.1.length:Int),())).bind fun r2=>if 0<=r2.1 then ((a1.2.1[r2.1.toNat]?).bind fun x3=>some (x3,r2.2.1,())) else none
theorem raw_eq (k:Nat) (a1:Arg):@Eq (Option Out) (D.W k a1) (p a1):=by kernel_rfl
theorem ok:Ok prog 60 D.sig:=fd_ok func60 tlOk (by kernel_rfl) (fc spec_l1Next.ok (fn_nil _))
end spec_l1Pick
namespace spec_l1In
abbrev Arg:Type:=Int×Int×Int×Unit
abbrev Out:Type:=Bool×Unit
abbrev ps:PQ:=[(.ro,i64),(.ro,i64),(.ro,i64)]
noncomputable def D:FD:={ fn:=f86,tl:=TL0,ps:=ps,rs:=[(.bool,(roMd .bool))] }
noncomputable def sem (a:Arg):Option Out:=@lift Out fun k=>D.W k a
noncomputable def p (a1:Arg):Option Out:=bif decide (a1.2.1<=a1.1) then (some (decide (a1.1<=a1.2.2.1),())) else some (false,())
theorem raw_eq (k:Nat) (a1:Arg):@Eq (Option Out) (D.W k a1) (p a1):=by kernel_rfl
theorem ok:Ok prog 86 D.sig:=fd_ok func86 tlOk (by kernel_rfl) (fn_nil _)
end spec_l1In
namespace spec_l4Runs
abbrev Arg:Type:=Int×Unit
abbrev Out:Type:=Bool×Unit
abbrev ps:PQ:=[(.ro,i64)]
noncomputable def D:FD:={ fn:=f80,tl:=TL0,ps:=ps,rs:=[(.bool,(roMd .bool))],gl:=[(86,spec_l1In.D.sig)] }
noncomputable def sem (a:Arg):Option Out:=@lift Out fun k=>D.W k a
noncomputable def p (a1:Arg):Option Out:=(spec_l1In.sem (a1.1,(2:Int),(4:Int),())).bind fun r2=>some (r2.1,())
theorem raw_eq (k:Nat) (a1:Arg):@Eq (Option Out) (D.W k a1) (p a1):=by kernel_rfl
theorem ok:Ok prog 80 D.sig:=fd_ok func80 tlOk (by kernel_rfl) (fc spec_l1In.ok (fn_nil _))
end spec_l4Runs
namespace spec_l1Chance
abbrev Arg:Type:=L1Src×Int×Unit
abbrev Out:Type:=Bool×L1Src×Unit
abbrev ps:PQ:=[(.mutp (roMd tL1Src),tL1Src),(.ro,i64)]
noncomputable def D:FD:={ fn:=f32,tl:=TL0,ps:=ps,rs:=[(.bool,(roMd .bool))],gl:=[(30,spec_l1Next.D.sig)],es:=[0] }
noncomputable def sem (a:Arg):Option Out:=@lift Out fun k=>D.W k a
noncomputable def p (a1:Arg):Option Out:=(spec_l1Next.sem (a1.1,a1.2.1,())).bind fun r2=>some (decide (r2.1=(0:Int)),r2.2.1,())
theorem raw_eq (k:Nat) (a1:Arg):@Eq (Option Out) (D.W k a1) (p a1):=by kernel_rfl
theorem ok:Ok prog 32 D.sig:=fd_ok func32 tlOk (by kernel_rfl) (fc spec_l1Next.ok (fn_nil _))
end spec_l1Chance
namespace spec_l1Some
abbrev Arg:Type:=L1Src×Int×Unit
abbrev Out:Type:=(List UInt8)×L1Src×Unit
abbrev ps:PQ:=[(.mutp (roMd tL1Src),tL1Src),(.ro,i64)]
noncomputable def D:FD:={ fn:=f125,tl:=TL0,ps:=ps,rs:=[((.slc u8),(ownMd (.slc u8)))],gl:=[(30,spec_l1Next.D.sig)],es:=[0],lv:=[(2,[0,1,5])],lx:=[(0,[0,5])] }
noncomputable def sem (a:Arg):Option Out:=@lift Out fun k=>D.W k a
noncomputable def T0 (a1:Arg) (v402:L1Src×Int×(List UInt8)):St:={ n:=18,sl:=[(0,.box tL1Src (roMd tL1Src) [] v402.1),(1,.val i64 v402.2.1),(5,.own (.slc u8) (ownMd (.slc u8)) [] v402.2.2)],vr:=[],lent:=[(0,0,false)] }
noncomputable def b0 (self:(L1Src×Int×(List UInt8))->Option Out) (e0:(L1Src×(List UInt8))->Option Out) (a1:Arg) (v402:L1Src×Int×(List UInt8)):Option Out:=bif decide ((0:Int) < v402.2.1) then ((spec_l1Next.sem (v402.1,(256:Int),())).bind fun r603=>if v402.2.2.length+[UInt8.ofInt r603.1].length<=CAP then (self (r603.2.1,w64 (v402.2.1 - (1:Int)),v402.2.2++[UInt8.ofInt r603.1])) else none) else e0 (v402.1,v402.2.2)
noncomputable abbrev B0 (_:Nat):=b0
noncomputable def q0 (a1:Arg) (z604:(L1Src×(List UInt8))):Option Out:=some (z604.2,z604.1,())
noncomputable abbrev Q0 (_:Nat):=q0
noncomputable def s0 (k:Nat) (a1:Arg):(L1Src×Int×(List UInt8))->Option Out:=fun v402=>D.L k [1,1,0,0,0] [0,1,5] [] (blockC 0 (seqC (D.N k [1,1,1]) D.K0)) (T0 a1 v402)
noncomputable def r0 (k:Nat) (a1:Arg):(L1Src×Int×(List UInt8))->Option Out:=rawIter (fun w v=>B0 k w (Q0 k a1) a1 v) k
theorem s0_eq (k:Nat) (a1:Arg):s0 k a1=r0 k a1:=
 funext fun v402=>iter_raw _ _ _ (T0 a1) _ (fun rec v=>by kernel_rfl) k v402
noncomputable def p (l0:(L1Src×Int×(List UInt8))->Option Out) (a1:Arg):Option Out:=l0 (a1.1,a1.2.1,([]:List UInt8))
theorem raw_eq (k:Nat) (a1:Arg):@Eq (Option Out) (D.W k a1) (p (r0 k a1) a1):=
 Eq.trans (b:=p (s0 k a1) a1) (by kernel_rfl) (by rw[s0_eq])
theorem ok:Ok prog 125 D.sig:=fd_ok func125 tlOk (by kernel_rfl) (fc spec_l1Next.ok (fn_nil _))
end spec_l1Some
namespace spec_l2New
abbrev Arg:Type:=UInt8×Unit
abbrev Out:Type:=(List UInt8)×Unit
abbrev ps:PQ:=[(.ro,u8)]
noncomputable def D:FD:={ fn:=f145,tl:=TL0,ps:=ps,rs:=[((.slc u8),(ownMd (.slc u8)))],lv:=[(3,[0,3,4])],lx:=[(0,[3])] }
noncomputable def sem (a:Arg):Option Out:=@lift Out fun k=>D.W k a
noncomputable def T0 (a1:Arg) (v402:(List UInt8)×Int):St:={ n:=19,sl:=[(0,.val u8 a1.1),(3,.own (.slc u8) (ownMd (.slc u8)) [] v402.1),(4,.val i64 v402.2)],vr:=[],lent:=[] }
noncomputable def b0 (self:((List UInt8)×Int)->Option Out) (e0:(List UInt8)->Option Out) (a1:Arg) (v402:(List UInt8)×Int):Option Out:=bif decide (v402.2 < (64:Int)) then (if 0<=v402.2/\v402.2 < (v402.1.length:Int) then ((v402.1[v402.2.toNat]?).bind fun x603=>self (v402.1.set v402.2.toNat a1.1,w64 (v402.2+(1:Int)))) else none) else e0 v402.1
noncomputable abbrev B0 (_:Nat):=b0
noncomputable def q0 (a1:Arg) (z604:(List UInt8)):Option Out:=if 0<=(0:Int)/\(0:Int) < (z604.length:Int) then ((z604[0]?).bind fun x605=>if 0<=(1:Int)/\(1:Int) < ((z604.set 0 (0:UInt8)).length:Int) then (((z604.set 0 (0:UInt8))[1]?).bind fun x606=>let y607:=(z604.set 0 (0:UInt8)).set 1 (64:UInt8);some (y607,())) else none) else none
noncomputable abbrev Q0 (_:Nat):=q0
noncomputable def s0 (k:Nat) (a1:Arg):((List UInt8)×Int)->Option Out:=fun v402=>D.L k [1,1,0,1,0,0] [0,3,4] [] (blockC 0 (seqC (D.N k [1,1,1]) D.K0)) (T0 a1 v402)
noncomputable def r0 (k:Nat) (a1:Arg):((List UInt8)×Int)->Option Out:=rawIter (fun w v=>B0 k w (Q0 k a1) a1 v) k
theorem s0_eq (k:Nat) (a1:Arg):s0 k a1=r0 k a1:=
 funext fun v402=>iter_raw _ _ _ (T0 a1) _ (fun rec v=>by kernel_rfl) k v402
noncomputable def p (l0:((List UInt8)×Int)->Option Out) (a1:Arg):Option Out:=if 0<=(64:Int)/\(64:Int)<=(64:Int)/\(64:Int)<=(CAP:Int) then (l0 (List.replicate 64 (0:UInt8),(0:Int))) else none
theorem raw_eq (k:Nat) (a1:Arg):@Eq (Option Out) (D.W k a1) (p (r0 k a1) a1):=
 Eq.trans (b:=p (s0 k a1) a1) (by kernel_rfl) (by rw[s0_eq])
theorem ok:Ok prog 145 D.sig:=fd_ok func145 tlOk (by kernel_rfl) (fn_nil _)
end spec_l2New
namespace spec_l2Count
abbrev Arg:Type:=(List UInt8)×Unit
abbrev Out:Type:=Int×Unit
abbrev ps:PQ:=[(.ro,(.slc u8))]
noncomputable def D:FD:={ fn:=f159,tl:=TL0,ps:=ps,rs:=[(i64,(roMd i64))] }
noncomputable def sem (a:Arg):Option Out:=@lift Out fun k=>D.W k a
noncomputable def p (a1:Arg):Option Out:=(a1.1[0]?).bind fun x2=>some (w64 (x2.toNat:Int),())
theorem raw_eq (k:Nat) (a1:Arg):@Eq (Option Out) (D.W k a1) (p a1):=by kernel_rfl
theorem ok:Ok prog 159 D.sig:=fd_ok func159 tlOk (by kernel_rfl) (fn_nil _)
end spec_l2Count
namespace spec_l2Size
abbrev Arg:Type:=(List UInt8)×Int×Unit
abbrev Out:Type:=Int×Unit
abbrev ps:PQ:=[(.ro,(.slc u8)),(.ro,i64)]
noncomputable def D:FD:={ fn:=f160,tl:=TL0,ps:=ps,rs:=[(i64,(roMd i64))] }
noncomputable def sem (a:Arg):Option Out:=@lift Out fun k=>D.W k a
noncomputable def p (a1:Arg):Option Out:=if 0<=w64 ((3:Int)+(w64 ((2:Int)*a1.2.1))) then ((a1.1[(w64 ((3:Int)+(w64 ((2:Int)*a1.2.1)))).toNat]?).bind fun x2=>some (w64 (x2.toNat:Int),())) else none
theorem raw_eq (k:Nat) (a1:Arg):@Eq (Option Out) (D.W k a1) (p a1):=by kernel_rfl
theorem ok:Ok prog 160 D.sig:=fd_ok func160 tlOk (by kernel_rfl) (fn_nil _)
end spec_l2Size
namespace spec_l2Has
abbrev Arg:Type:=(List UInt8)×Int×Unit
abbrev Out:Type:=Bool×Unit
abbrev ps:PQ:=[(.ro,(.slc u8)),(.ro,i64)]
noncomputable def D:FD:={ fn:=f146,tl:=TL0,ps:=ps,rs:=[(.bool,(roMd .bool))],gl:=[(86,spec_l1In.D.sig),(159,spec_l2Count.D.sig),(160,spec_l2Size.D.sig)] }
noncomputable def sem (a:Arg):Option Out:=@lift Out fun k=>D.W k a
noncomputable def p (a1:Arg):Option Out:=(spec_l2Count.sem (a1.1,())).bind fun r2=>(spec_l1In.sem (a1.2.1,(0:Int),w64 (r2.1 - (1:Int)),())).bind fun r3=>bif r3.1 then ((spec_l2Size.sem (a1.1,a1.2.1,())).bind fun r4=>some (decide ((0:Int) < r4.1),())) else some (false,())
theorem raw_eq (k:Nat) (a1:Arg):@Eq (Option Out) (D.W k a1) (p a1):=by kernel_rfl
theorem ok:Ok prog 146 D.sig:=fd_ok func146 tlOk (by kernel_rfl) (fc spec_l1In.ok (fc spec_l2Count.ok (fc spec_l2Size.ok (fn_nil _))))
end spec_l2Has
namespace spec_l2Copy
abbrev Arg:Type:=(List UInt8)×Unit
abbrev Out:Type:=(List UInt8)×Unit
abbrev ps:PQ:=[(.ro,(.slc u8))]
noncomputable def D:FD:={ fn:=f124,tl:=TL0,ps:=ps,rs:=[((.slc u8),(ownMd (.slc u8)))] }
noncomputable def sem (a:Arg):Option Out:=@lift Out fun k=>D.W k a
noncomputable def p (a1:Arg):Option Out:=if ([]:List UInt8).length+a1.1.length<=CAP then (some (([]:List UInt8)++a1.1,())) else none
theorem raw_eq (k:Nat) (a1:Arg):@Eq (Option Out) (D.W k a1) (p a1):=by kernel_rfl
theorem ok:Ok prog 124 D.sig:=fd_ok func124 tlOk (by kernel_rfl) (fn_nil _)
end spec_l2Copy
namespace spec_l2Drop
abbrev Arg:Type:=(List UInt8)×Int×Unit
abbrev Out:Type:=(List UInt8)×Unit
abbrev ps:PQ:=[(.ro,(.slc u8)),(.ro,i64)]
noncomputable def D:FD:={ fn:=f147,tl:=TL0,ps:=ps,rs:=[((.slc u8),(ownMd (.slc u8)))],gl:=[(124,spec_l2Copy.D.sig),(160,spec_l2Size.D.sig)],lv:=[(4,[5])],lx:=[(0,[5])] }
noncomputable def sem (a:Arg):Option Out:=@lift Out fun k=>D.W k a
noncomputable def T0 (a1:Arg) (v407:List UInt8):St:={ n:=38,sl:=[(5,.own (.slc u8) (ownMd (.slc u8)) [] v407)],vr:=[],lent:=[] }
noncomputable def b0 (self:(List UInt8)->Option Out) (e0:(List UInt8)->Option Out) (a1:Arg) (v407:List UInt8):Option Out:=if 0<=(0:Int)/\(0:Int) < (v407.length:Int) then ((v407[0]?).bind fun x608=>bif decide ((0:Int) < (x608.toNat:Int)) then (if 0<=(0:Int)/\(0:Int) < (v407.length:Int) then ((v407[0]?).bind fun x609=>(spec_l2Size.sem (v407,w64 ((w64 (x609.toNat:Int)) - (1:Int)),())).bind fun r610=>bif decide (r610.1=(0:Int)) then (if 0<=(0:Int)/\(0:Int) < (v407.length:Int) then ((v407[0]?).bind fun x611=>if 0<=(0:Int)/\(0:Int) < (v407.length:Int) then ((v407[0]?).bind fun x612=>let y613:=v407.set 0 (UInt8.ofInt ((x611.toNat:Int) - (1:Int)));self y613) else none) else none) else e0 v407) else none) else e0 v407) else none
noncomputable abbrev B0 (_:Nat):=b0
noncomputable def q0 (a1:Arg) (z614:(List UInt8)):Option Out:=some (z614,())
noncomputable abbrev Q0 (_:Nat):=q0
noncomputable def s0 (k:Nat) (a1:Arg):(List UInt8)->Option Out:=fun v407=>D.L k [1,1,1,1,0,0,0] [5] [] (blockC 0 (seqC (D.N k [1,1,1,1,1]) D.K0)) (T0 a1 v407)
noncomputable def r0 (k:Nat) (a1:Arg):(List UInt8)->Option Out:=rawIter (fun w v=>B0 k w (Q0 k a1) a1 v) k
theorem s0_eq (k:Nat) (a1:Arg):s0 k a1=r0 k a1:=
 funext fun v407=>iter_raw _ _ _ (T0 a1) _ (fun rec v=>by kernel_rfl) k v407
noncomputable def p (l0:(List UInt8)->Option Out) (a1:Arg):Option Out:=(spec_l2Copy.sem (a1.1,())).bind fun r2=>if 0<=w64 ((2:Int)+(w64 ((2:Int)*a1.2.1)))/\w64 ((2:Int)+(w64 ((2:Int)*a1.2.1))) < (r2.1.length:Int) then ((r2.1[(w64 ((2:Int)+(w64 ((2:Int)*a1.2.1)))).toNat]?).bind fun x3=>let y4:=r2.1.set (w64 ((2:Int)+(w64 ((2:Int)*a1.2.1)))).toNat (0:UInt8);if 0<=w64 ((3:Int)+(w64 ((2:Int)*a1.2.1)))/\w64 ((3:Int)+(w64 ((2:Int)*a1.2.1))) < (y4.length:Int) then ((y4[(w64 ((3:Int)+(w64 ((2:Int)*a1.2.1)))).toNat]?).bind fun x5=>let y6:=y4.set (w64 ((3:Int)+(w64 ((2:Int)*a1.2.1)))).toNat (0:UInt8);l0 y6) else none) else none
theorem raw_eq (k:Nat) (a1:Arg):@Eq (Option Out) (D.W k a1) (p (r0 k a1) a1):=
 Eq.trans (b:=p (s0 k a1) a1) (by kernel_rfl) (by rw[s0_eq])
theorem ok:Ok prog 147 D.sig:=fd_ok func147 tlOk (by kernel_rfl) (fc spec_l2Copy.ok (fc spec_l2Size.ok (fn_nil _)))
end spec_l2Drop
namespace spec_l2Stand
abbrev Arg:Type:=(List UInt8)×Int×Int×(List UInt8)×Unit
abbrev Out:Type:=(List UInt8)×Unit
abbrev ps:PQ:=[(.muts (ownMd (.slc u8)),(.slc u8)),(.ro,i64),(.ro,i64),(.ro,(.slc u8))]
noncomputable def D:FD:={ fn:=f161,tl:=TL0,ps:=ps,rs:=[],es:=[0] }
noncomputable def sem (a:Arg):Option Out:=@lift Out fun k=>D.W k a
noncomputable def p (a1:Arg):Option Out:=if 0<=a1.2.2.1/\a1.2.2.1<=(a1.1.length:Int) then (let y2:=over a1.1 a1.2.2.1.toNat (min a1.2.2.2.1.length (a1.1.length - a1.2.2.1.toNat)) a1.2.2.2.1;if 0<=w64 ((2:Int)+(w64 ((2:Int)*a1.2.1)))/\w64 ((2:Int)+(w64 ((2:Int)*a1.2.1))) < (y2.length:Int) then ((y2[(w64 ((2:Int)+(w64 ((2:Int)*a1.2.1)))).toNat]?).bind fun x3=>let y4:=y2.set (w64 ((2:Int)+(w64 ((2:Int)*a1.2.1)))).toNat (UInt8.ofInt a1.2.2.1);if 0<=w64 ((3:Int)+(w64 ((2:Int)*a1.2.1)))/\w64 ((3:Int)+(w64 ((2:Int)*a1.2.1))) < (y4.length:Int) then ((y4[(w64 ((3:Int)+(w64 ((2:Int)*a1.2.1)))).toNat]?).bind fun x5=>let y6:=y4.set (w64 ((3:Int)+(w64 ((2:Int)*a1.2.1)))).toNat (UInt8.ofInt (a1.2.2.2.1.length:Int));some (y6,())) else none) else none) else none
theorem raw_eq (k:Nat) (a1:Arg):@Eq (Option Out) (D.W k a1) (p a1):=by kernel_rfl
theorem ok:Ok prog 161 D.sig:=fd_ok func161 tlOk (by kernel_rfl) (fn_nil _)
end spec_l2Stand
namespace spec_l2Place
abbrev Arg:Type:=(List UInt8)×Int×Unit
abbrev Out:Type:=Int×Unit
abbrev ps:PQ:=[(.ro,(.slc u8)),(.ro,i64)]
noncomputable def D:FD:={ fn:=f162,tl:=TL0,ps:=ps,rs:=[(i64,(roMd i64))] }
noncomputable def sem (a:Arg):Option Out:=@lift Out fun k=>D.W k a
noncomputable def p (a1:Arg):Option Out:=if 0<=w64 ((2:Int)+(w64 ((2:Int)*a1.2.1))) then ((a1.1[(w64 ((2:Int)+(w64 ((2:Int)*a1.2.1)))).toNat]?).bind fun x2=>some (w64 (x2.toNat:Int),())) else none
theorem raw_eq (k:Nat) (a1:Arg):@Eq (Option Out) (D.W k a1) (p a1):=by kernel_rfl
theorem ok:Ok prog 162 D.sig:=fd_ok func162 tlOk (by kernel_rfl) (fn_nil _)
end spec_l2Place
namespace spec_l2Free
abbrev Arg:Type:=(List UInt8)×Unit
abbrev Out:Type:=Int×Unit
abbrev ps:PQ:=[(.ro,(.slc u8))]
noncomputable def D:FD:={ fn:=f163,tl:=TL0,ps:=ps,rs:=[(i64,(roMd i64))],gl:=[(159,spec_l2Count.D.sig),(160,spec_l2Size.D.sig)],lv:=[(3,[0,3,4])],lx:=[(0,[3])] }
noncomputable def sem (a:Arg):Option Out:=@lift Out fun k=>D.W k a
noncomputable def T0 (a1:Arg) (v403:Int×Int):St:={ n:=21,sl:=[(0,.val (.slc u8) a1.1),(3,.val i64 v403.1),(4,.val i64 v403.2)],vr:=[],lent:=[] }
noncomputable def b0 (self:(Int×Int)->Option Out) (e0:Int->Option Out) (a1:Arg) (v403:Int×Int):Option Out:=(spec_l2Count.sem (a1.1,())).bind fun r604=>bif decide (v403.2 < r604.1) then ((spec_l2Size.sem (a1.1,v403.2,())).bind fun r605=>self (w64 (v403.1 - r605.1),w64 (v403.2+(1:Int)))) else e0 v403.1
noncomputable abbrev B0 (_:Nat):=b0
noncomputable def q0 (a1:Arg) (z606:Int):Option Out:=some (z606,())
noncomputable abbrev Q0 (_:Nat):=q0
noncomputable def s0 (k:Nat) (a1:Arg):(Int×Int)->Option Out:=fun v403=>D.L k [1,1,0,1,0,0] [0,3,4] [] (blockC 0 (seqC (D.N k [1,1,1]) D.K0)) (T0 a1 v403)
noncomputable def r0 (k:Nat) (a1:Arg):(Int×Int)->Option Out:=rawIter (fun w v=>B0 k w (Q0 k a1) a1 v) k
theorem s0_eq (k:Nat) (a1:Arg):s0 k a1=r0 k a1:=
 funext fun v403=>iter_raw _ _ _ (T0 a1) _ (fun rec v=>by kernel_rfl) k v403
noncomputable def p (l0:(Int×Int)->Option Out) (a1:Arg):Option Out:=(spec_l2Count.sem (a1.1,())).bind fun r2=>l0 (w64 ((62:Int) - (w64 ((2:Int)*r2.1))),(0:Int))
theorem raw_eq (k:Nat) (a1:Arg):@Eq (Option Out) (D.W k a1) (p (r0 k a1) a1):=
 Eq.trans (b:=p (s0 k a1) a1) (by kernel_rfl) (by rw[s0_eq])
theorem ok:Ok prog 163 D.sig:=fd_ok func163 tlOk (by kernel_rfl) (fc spec_l2Count.ok (fc spec_l2Size.ok (fn_nil _)))
end spec_l2Free
namespace spec_l2Low
abbrev Arg:Type:=(List UInt8)×Unit
abbrev Out:Type:=Int×Unit
abbrev ps:PQ:=[(.ro,(.slc u8))]
noncomputable def D:FD:={ fn:=f164,tl:=TL0,ps:=ps,rs:=[(i64,(roMd i64))] }
noncomputable def sem (a:Arg):Option Out:=@lift Out fun k=>D.W k a
noncomputable def p (a1:Arg):Option Out:=(a1.1[1]?).bind fun x2=>some (w64 (x2.toNat:Int),())
theorem raw_eq (k:Nat) (a1:Arg):@Eq (Option Out) (D.W k a1) (p a1):=by kernel_rfl
theorem ok:Ok prog 164 D.sig:=fd_ok func164 tlOk (by kernel_rfl) (fn_nil _)
end spec_l2Low
namespace spec_l2Set
abbrev Arg:Type:=(List UInt8)×Int×(List UInt8)×Unit
abbrev Out:Type:=(List UInt8)×Int×Unit
abbrev ps:PQ:=[(.ro,(.slc u8)),(.ro,i64),(.ro,(.slc u8))]
noncomputable def D:FD:={ fn:=f148,tl:=TL0,ps:=ps,rs:=[((.slc u8),(ownMd (.slc u8))),(i64,(roMd i64))],gl:=[(124,spec_l2Copy.D.sig),(159,spec_l2Count.D.sig),(160,spec_l2Size.D.sig),(161,spec_l2Stand.D.sig),(162,spec_l2Place.D.sig),(163,spec_l2Free.D.sig),(164,spec_l2Low.D.sig)] }
noncomputable def sem (a:Arg):Option Out:=@lift Out fun k=>D.W k a
noncomputable def p (a1:Arg):Option Out:=(spec_l2Size.sem (a1.1,a1.2.1,())).bind fun r2=>(spec_l2Copy.sem (a1.1,())).bind fun r3=>bif decide ((a1.2.2.1.length:Int)<=r2.1) then ((spec_l2Place.sem (a1.1,a1.2.1,())).bind fun r4=>(spec_l2Stand.sem (r3.1,a1.2.1,w64 ((w64 (r4.1+r2.1)) - (a1.2.2.1.length:Int)),a1.2.2.1,())).bind fun r5=>some (r5.1,(0:Int),())) else (spec_l2Free.sem (a1.1,())).bind fun r6=>bif decide (w64 (r6.1+r2.1) < (a1.2.2.1.length:Int)) then (some (([]:List UInt8),(9:Int),())) else (spec_l2Low.sem (a1.1,())).bind fun r7=>(spec_l2Count.sem (a1.1,())).bind fun r8=>bif decide (w64 (r7.1 - (a1.2.2.1.length:Int)) < w64 ((2:Int)+(w64 ((2:Int)*r8.1)))) then (some (([]:List UInt8),(8:Int),())) else if 0<=(1:Int)/\(1:Int) < (r3.1.length:Int) then ((r3.1[1]?).bind fun x9=>let y10:=r3.1.set 1 (UInt8.ofInt (w64 (r7.1 - (a1.2.2.1.length:Int))));(spec_l2Stand.sem (y10,a1.2.1,w64 (r7.1 - (a1.2.2.1.length:Int)),a1.2.2.1,())).bind fun r11=>some (r11.1,(0:Int),())) else none
theorem raw_eq (k:Nat) (a1:Arg):@Eq (Option Out) (D.W k a1) (p a1):=by kernel_rfl
theorem ok:Ok prog 148 D.sig:=fd_ok func148 tlOk (by kernel_rfl) (fc spec_l2Copy.ok (fc spec_l2Count.ok (fc spec_l2Size.ok (fc spec_l2Stand.ok (fc spec_l2Place.ok (fc spec_l2Free.ok (fc spec_l2Low.ok (fn_nil _))))))))
end spec_l2Set
namespace spec_l2Cell
abbrev Arg:Type:=(List UInt8)×Int×Unit
abbrev Out:Type:=(List UInt8)×Unit
abbrev ps:PQ:=[(.ro,(.slc u8)),(.ro,i64)]
noncomputable def D:FD:={ fn:=f165,tl:=TL0,ps:=ps,rs:=[((.slc u8),(ownMd (.slc u8)))],gl:=[(160,spec_l2Size.D.sig),(162,spec_l2Place.D.sig)] }
noncomputable def sem (a:Arg):Option Out:=@lift Out fun k=>D.W k a
noncomputable def p (a1:Arg):Option Out:=(spec_l2Place.sem (a1.1,a1.2.1,())).bind fun r2=>(spec_l2Size.sem (a1.1,a1.2.1,())).bind fun r3=>if 0<=r2.1/\r2.1<=w64 (r2.1+r3.1)/\w64 (r2.1+r3.1)<=(a1.1.length:Int) then (if ([]:List UInt8).length+((a1.1.take (w64 (r2.1+r3.1)).toNat).drop r2.1.toNat).length<=CAP then (let y4:=([]:List UInt8)++((a1.1.take (w64 (r2.1+r3.1)).toNat).drop r2.1.toNat);some (y4,())) else none) else none
theorem raw_eq (k:Nat) (a1:Arg):@Eq (Option Out) (D.W k a1) (p a1):=by kernel_rfl
theorem ok:Ok prog 165 D.sig:=fd_ok func165 tlOk (by kernel_rfl) (fc spec_l2Size.ok (fc spec_l2Place.ok (fn_nil _)))
end spec_l2Cell
namespace spec_l2Compact
abbrev Arg:Type:=(List UInt8)×Unit
abbrev Out:Type:=(List UInt8)×Unit
abbrev ps:PQ:=[(.ro,(.slc u8))]
noncomputable def D:FD:={ fn:=f149,tl:=TL0,ps:=ps,rs:=[((.slc u8),(ownMd (.slc u8)))],gl:=[(159,spec_l2Count.D.sig),(160,spec_l2Size.D.sig),(161,spec_l2Stand.D.sig),(165,spec_l2Cell.D.sig)],lv:=[(6,[0,3,4,5,6])],lx:=[(0,[4,5]),(1,[0,3,4,5,6])] }
noncomputable def sem (a:Arg):Option Out:=@lift Out fun k=>D.W k a
noncomputable def T0 (a1:Arg) (c405:Int) (v404:(List UInt8)×Int×Int):St:={ n:=44,sl:=[(0,.val (.slc u8) a1.1),(3,.val i64 c405),(4,.own (.slc u8) (ownMd (.slc u8)) [] v404.1),(5,.val i64 v404.2.1),(6,.val i64 v404.2.2)],vr:=[],lent:=[] }
noncomputable def b0 (self:((List UInt8)×Int×Int)->Option Out) (e0:((List UInt8)×Int)->Option Out) (a1:Arg) (c405:Int) (v404:(List UInt8)×Int×Int):Option Out:=bif decide (v404.2.2 < c405) then ((spec_l2Size.sem (a1.1,v404.2.2,())).bind fun r606=>bif decide (r606.1=(0:Int)) then (self (v404.1,v404.2.1,w64 (v404.2.2+(1:Int)))) else (spec_l2Cell.sem (a1.1,v404.2.2,())).bind fun r607=>(spec_l2Stand.sem (v404.1,v404.2.2,w64 (v404.2.1 - (r607.1.length:Int)),r607.1,())).bind fun r608=>self (r608.1,w64 (v404.2.1 - (r607.1.length:Int)),w64 (v404.2.2+(1:Int)))) else e0 (v404.1,v404.2.1)
noncomputable abbrev B0 (_:Nat):=b0
noncomputable def q0 (a1:Arg) (c405:Int) (z609:((List UInt8)×Int)):Option Out:=if 0<=(1:Int)/\(1:Int) < (z609.1.length:Int) then ((z609.1[1]?).bind fun x610=>some (z609.1.set 1 (UInt8.ofInt z609.2),())) else none
noncomputable abbrev Q0 (_:Nat):=q0
noncomputable def s0 (k:Nat) (a1:Arg):Int->((List UInt8)×Int×Int)->Option Out:=fun c405=>fun v404=>D.L k [1,1,1,1,1,0,1,0,0] [0,3,4,5,6] [] (blockC 0 (seqC (D.N k [1,1,1,1,1,1]) D.K0)) (T0 a1 c405 v404)
noncomputable def r0 (k:Nat) (a1:Arg):Int->((List UInt8)×Int×Int)->Option Out:=fun c405=>rawIter (fun w v=>B0 k w (Q0 k a1 c405) a1 c405 v) k
theorem s0_eq (k:Nat) (a1:Arg):s0 k a1=r0 k a1:=
 funext fun c405=>funext fun v404=>iter_raw _ _ _ (T0 a1 c405) _ (fun rec v=>by kernel_rfl) k v404
noncomputable def p (l0:Int->((List UInt8)×Int×Int)->Option Out) (a1:Arg):Option Out:=(spec_l2Count.sem (a1.1,())).bind fun r2=>if 0<=(64:Int)/\(64:Int)<=(64:Int)/\(64:Int)<=(CAP:Int) then (if 0<=w64 ((2:Int)+(w64 ((2:Int)*r2.1)))/\w64 ((2:Int)+(w64 ((2:Int)*r2.1)))<=(a1.1.length:Int) then (let y3:=over (List.replicate 64 (0:UInt8)) 0 (min ((a1.1.take (w64 ((2:Int)+(w64 ((2:Int)*r2.1)))).toNat).drop 0).length (List.replicate 64 (0:UInt8)).length) ((a1.1.take (w64 ((2:Int)+(w64 ((2:Int)*r2.1)))).toNat).drop 0);l0 r2.1 (y3,(64:Int),(0:Int))) else none) else none
theorem raw_eq (k:Nat) (a1:Arg):@Eq (Option Out) (D.W k a1) (p (r0 k a1) a1):=
 Eq.trans (b:=p (s0 k a1) a1) (by kernel_rfl) (by rw[s0_eq])
theorem ok:Ok prog 149 D.sig:=fd_ok func149 tlOk (by kernel_rfl) (fc spec_l2Count.ok (fc spec_l2Size.ok (fc spec_l2Stand.ok (fc spec_l2Cell.ok (fn_nil _)))))
end spec_l2Compact
namespace spec_l2Empty
abbrev Arg:Type:=(List UInt8)×Unit
abbrev Out:Type:=Int×Unit
abbrev ps:PQ:=[(.ro,(.slc u8))]
noncomputable def D:FD:={ fn:=f166,tl:=TL0,ps:=ps,rs:=[(i64,(roMd i64))],gl:=[(159,spec_l2Count.D.sig),(160,spec_l2Size.D.sig)],lv:=[(2,[0,3])],lx:=[(0,[0])] }
noncomputable def sem (a:Arg):Option Out:=@lift Out fun k=>D.W k a
noncomputable def T0 (a1:Arg) (v402:Int):St:={ n:=17,sl:=[(0,.val (.slc u8) a1.1),(3,.val i64 v402)],vr:=[],lent:=[] }
noncomputable def b0 (self:Int->Option Out) (e0:(Unit)->Option Out) (a1:Arg) (v402:Int):Option Out:=(spec_l2Count.sem (a1.1,())).bind fun r603=>bif decide (v402 < r603.1) then ((spec_l2Size.sem (a1.1,v402,())).bind fun r604=>bif decide (r604.1=(0:Int)) then (some (v402,())) else self (w64 (v402+(1:Int)))) else e0 ()
noncomputable abbrev B0 (_:Nat):=b0
noncomputable def q0 (a1:Arg) (z605:(Unit)):Option Out:=(spec_l2Count.sem (a1.1,())).bind fun r606=>some (r606.1,())
noncomputable abbrev Q0 (_:Nat):=q0
noncomputable def s0 (k:Nat) (a1:Arg):(Int)->Option Out:=fun v402=>D.L k [1,0,1,0,0] [0,3] [] (blockC 0 (seqC (D.N k [1,1]) D.K0)) (T0 a1 v402)
noncomputable def r0 (k:Nat) (a1:Arg):(Int)->Option Out:=rawIter (fun w v=>B0 k w (Q0 k a1) a1 v) k
theorem s0_eq (k:Nat) (a1:Arg):s0 k a1=r0 k a1:=
 funext fun v402=>iter_raw _ _ _ (T0 a1) _ (fun rec v=>by kernel_rfl) k v402
noncomputable def p (l0:(Int)->Option Out) (a1:Arg):Option Out:=l0 (0:Int)
theorem raw_eq (k:Nat) (a1:Arg):@Eq (Option Out) (D.W k a1) (p (r0 k a1) a1):=
 Eq.trans (b:=p (s0 k a1) a1) (by kernel_rfl) (by rw[s0_eq])
theorem ok:Ok prog 166 D.sig:=fd_ok func166 tlOk (by kernel_rfl) (fc spec_l2Count.ok (fc spec_l2Size.ok (fn_nil _)))
end spec_l2Empty
namespace spec_l2Put
abbrev Arg:Type:=(List UInt8)×(List UInt8)×Unit
abbrev Out:Type:=(List UInt8)×Int×Int×Unit
abbrev ps:PQ:=[(.ro,(.slc u8)),(.ro,(.slc u8))]
noncomputable def D:FD:={ fn:=f150,tl:=TL0,ps:=ps,rs:=[((.slc u8),(ownMd (.slc u8))),(i64,(roMd i64)),(i64,(roMd i64))],gl:=[(124,spec_l2Copy.D.sig),(159,spec_l2Count.D.sig),(161,spec_l2Stand.D.sig),(163,spec_l2Free.D.sig),(164,spec_l2Low.D.sig),(166,spec_l2Empty.D.sig)] }
noncomputable def sem (a:Arg):Option Out:=@lift Out fun k=>D.W k a
noncomputable def p (a1:Arg):Option Out:=(spec_l2Empty.sem (a1.1,())).bind fun r2=>(spec_l2Count.sem (a1.1,())).bind fun r3=>let j14:=fun (p12:Int) (p13:Int)=>((spec_l2Free.sem (a1.1,())).bind fun r15=>bif decide (r15.1 < w64 ((a1.2.1.length:Int)+p13)) then (some (([]:List UInt8),(0:Int),(9:Int),())) else (spec_l2Low.sem (a1.1,())).bind fun r16=>bif decide (w64 (r16.1 - (a1.2.1.length:Int)) < w64 ((2:Int)+(w64 ((2:Int)*p12)))) then (some (([]:List UInt8),(0:Int),(8:Int),())) else (spec_l2Copy.sem (a1.1,())).bind fun r17=>if 0<=(0:Int)/\(0:Int) < (r17.1.length:Int) then ((r17.1[0]?).bind fun x18=>if 0<=(1:Int)/\(1:Int) < ((r17.1.set 0 (UInt8.ofInt p12)).length:Int) then (((r17.1.set 0 (UInt8.ofInt p12))[1]?).bind fun x19=>let y20:=(r17.1.set 0 (UInt8.ofInt p12)).set 1 (UInt8.ofInt (w64 (r16.1 - (a1.2.1.length:Int))));(spec_l2Stand.sem (y20,r2.1,w64 (r16.1 - (a1.2.1.length:Int)),a1.2.1,())).bind fun r21=>some (r21.1,r2.1,(0:Int),())) else none) else none:Option Out);bif decide (r2.1=r3.1) then (bif decide ((16:Int)<=r3.1) then (some (([]:List UInt8),(0:Int),(2:Int),())) else j14 (w64 (r3.1+(1:Int))) (2:Int)) else j14 r3.1 (0:Int)
theorem raw_eq (k:Nat) (a1:Arg):@Eq (Option Out) (D.W k a1) (p a1):=by kernel_rfl
theorem ok:Ok prog 150 D.sig:=fd_ok func150 tlOk (by kernel_rfl) (fc spec_l2Copy.ok (fc spec_l2Count.ok (fc spec_l2Stand.ok (fc spec_l2Free.ok (fc spec_l2Low.ok (fc spec_l2Empty.ok (fn_nil _)))))))
end spec_l2Put
namespace spec_l2Right
abbrev Arg:Type:=L1Src×Unit
abbrev Out:Type:=(List UInt8)×L1Src×Unit
abbrev ps:PQ:=[(.mutp (roMd tL1Src),tL1Src)]
noncomputable def D:FD:={ fn:=f123,tl:=TL0,ps:=ps,rs:=[((.slc u8),(ownMd (.slc u8)))],gl:=[(30,spec_l1Next.D.sig),(32,spec_l1Chance.D.sig),(60,spec_l1Pick.D.sig),(125,spec_l1Some.D.sig),(145,spec_l2New.D.sig),(146,spec_l2Has.D.sig),(147,spec_l2Drop.D.sig),(148,spec_l2Set.D.sig),(149,spec_l2Compact.D.sig),(150,spec_l2Put.D.sig)],es:=[0],lv:=[(3,[0,3,4])],lx:=[(0,[0,3])] }
noncomputable def sem (a:Arg):Option Out:=@lift Out fun k=>D.W k a
noncomputable def T0 (a1:Arg) (v405:L1Src×(List UInt8)×Int):St:={ n:=75,sl:=[(0,.box tL1Src (roMd tL1Src) [] v405.1),(3,.own (.slc u8) (ownMd (.slc u8)) [] v405.2.1),(4,.val i64 v405.2.2)],vr:=[],lent:=[(0,0,false)] }
noncomputable def b0 (self:(L1Src×(List UInt8)×Int)->Option Out) (e0:(L1Src×(List UInt8))->Option Out) (a1:Arg) (v405:L1Src×(List UInt8)×Int):Option Out:=bif decide ((0:Int) < v405.2.2) then ((spec_l1Next.sem (v405.1,(14:Int),())).bind fun r606=>(spec_l1Some.sem (r606.2.1,w64 ((1:Int)+r606.1),())).bind fun r607=>(spec_l1Next.sem (r607.2.1,(5:Int),())).bind fun r608=>bif decide (r608.1=(0:Int)) then ((spec_l1Next.sem (r608.2.1,(6:Int),())).bind fun r609=>(spec_l2Has.sem (v405.2.1,r609.1,())).bind fun r610=>bif r610.1 then ((spec_l2Drop.sem (v405.2.1,r609.1,())).bind fun r611=>self (r609.2.1,r611.1,w64 (v405.2.2 - (1:Int)))) else self (r609.2.1,v405.2.1,w64 (v405.2.2 - (1:Int)))) else bif decide (r608.1=(1:Int)) then ((spec_l1Next.sem (r608.2.1,(6:Int),())).bind fun r612=>(spec_l2Has.sem (v405.2.1,r612.1,())).bind fun r613=>bif r613.1 then ((spec_l2Set.sem (v405.2.1,r612.1,r607.1,())).bind fun r614=>bif decide (r614.2.1=(0:Int)) then (self (r612.2.1,r614.1,w64 (v405.2.2 - (1:Int)))) else self (r612.2.1,v405.2.1,w64 (v405.2.2 - (1:Int)))) else self (r612.2.1,v405.2.1,w64 (v405.2.2 - (1:Int)))) else bif decide (r608.1=(2:Int)) then ((spec_l1Chance.sem (r608.2.1,(3:Int),())).bind fun r615=>bif r615.1 then ((spec_l2Compact.sem (v405.2.1,())).bind fun r616=>self (r615.2.1,r616.1,w64 (v405.2.2 - (1:Int)))) else self (r615.2.1,v405.2.1,w64 (v405.2.2 - (1:Int)))) else (spec_l2Put.sem (v405.2.1,r607.1,())).bind fun r617=>bif decide (r617.2.2.1=(0:Int)) then (self (r608.2.1,r617.1,w64 (v405.2.2 - (1:Int)))) else self (r608.2.1,v405.2.1,w64 (v405.2.2 - (1:Int)))) else e0 (v405.1,v405.2.1)
noncomputable abbrev B0 (_:Nat):=b0
noncomputable def q0 (a1:Arg) (z618:(L1Src×(List UInt8))):Option Out:=some (z618.2,z618.1,())
noncomputable abbrev Q0 (_:Nat):=q0
noncomputable def s0 (k:Nat) (a1:Arg):(L1Src×(List UInt8)×Int)->Option Out:=fun v405=>D.L k [1,1,0,1,0,0] [0,3,4] [] (blockC 0 (seqC (D.N k [1,1,1]) D.K0)) (T0 a1 v405)
noncomputable def r0 (k:Nat) (a1:Arg):(L1Src×(List UInt8)×Int)->Option Out:=rawIter (fun w v=>B0 k w (Q0 k a1) a1 v) k
theorem s0_eq (k:Nat) (a1:Arg):s0 k a1=r0 k a1:=
 funext fun v405=>iter_raw _ _ _ (T0 a1) _ (fun rec v=>by kernel_rfl) k v405
noncomputable def p (l0:(L1Src×(List UInt8)×Int)->Option Out) (a1:Arg):Option Out:=(spec_l1Pick.sem (a1.1,[(0:Int),(0:Int),(7:Int)],())).bind fun r2=>(spec_l2New.sem (UInt8.ofInt r2.1,())).bind fun r3=>(spec_l1Next.sem (r2.2.1,(14:Int),())).bind fun r4=>l0 (r4.2.1,r3.1,r4.1)
theorem raw_eq (k:Nat) (a1:Arg):@Eq (Option Out) (D.W k a1) (p (r0 k a1) a1):=
 Eq.trans (b:=p (s0 k a1) a1) (by kernel_rfl) (by rw[s0_eq])
theorem ok:Ok prog 123 D.sig:=fd_ok func123 tlOk (by kernel_rfl) (fc spec_l1Next.ok (fc spec_l1Chance.ok (fc spec_l1Pick.ok (fc spec_l1Some.ok (fc spec_l2New.ok (fc spec_l2Has.ok (fc spec_l2Drop.ok (fc spec_l2Set.ok (fc spec_l2Compact.ok (fc spec_l2Put.ok (fn_nil _)))))))))))
end spec_l2Right
namespace spec_l3Two
abbrev Arg:Type:=L1Src×Unit
abbrev Out:Type:=(List UInt8)×(List UInt8)×L1Src×Unit
abbrev ps:PQ:=[(.mutp (roMd tL1Src),tL1Src)]
noncomputable def D:FD:={ fn:=f81,tl:=TL0,ps:=ps,rs:=[((.slc u8),(ownMd (.slc u8))),((.slc u8),(ownMd (.slc u8)))],gl:=[(30,spec_l1Next.D.sig),(123,spec_l2Right.D.sig),(124,spec_l2Copy.D.sig)],es:=[0],lv:=[(4,[0,4,5,6])],lx:=[(0,[0,4,5])] }
noncomputable def sem (a:Arg):Option Out:=@lift Out fun k=>D.W k a
noncomputable def T0 (a1:Arg) (c406:List UInt8) (v405:L1Src×(List UInt8)×Int):St:={ n:=26,sl:=[(0,.box tL1Src (roMd tL1Src) [] v405.1),(4,.own (.slc u8) (ownMd (.slc u8)) [] c406),(5,.own (.slc u8) (ownMd (.slc u8)) [] v405.2.1),(6,.val i64 v405.2.2)],vr:=[],lent:=[(0,0,false)] }
noncomputable def b0 (self:(L1Src×(List UInt8)×Int)->Option Out) (e0:(L1Src×(List UInt8))->Option Out) (a1:Arg) (c406:List UInt8) (v405:L1Src×(List UInt8)×Int):Option Out:=bif decide ((0:Int) < v405.2.2) then ((spec_l1Next.sem (v405.1,(64:Int),())).bind fun r607=>(spec_l1Next.sem (r607.2.1,(256:Int),())).bind fun r608=>if 0<=r607.1/\r607.1 < (v405.2.1.length:Int) then ((v405.2.1[r607.1.toNat]?).bind fun x609=>let y610:=v405.2.1.set r607.1.toNat (UInt8.ofInt r608.1);self (r608.2.1,y610,w64 (v405.2.2 - (1:Int)))) else none) else e0 (v405.1,v405.2.1)
noncomputable abbrev B0 (_:Nat):=b0
noncomputable def q0 (a1:Arg) (c406:List UInt8) (z611:(L1Src×(List UInt8))):Option Out:=some (c406,z611.2,z611.1,())
noncomputable abbrev Q0 (_:Nat):=q0
noncomputable def s0 (k:Nat) (a1:Arg):(List UInt8)->(L1Src×(List UInt8)×Int)->Option Out:=fun c406=>fun v405=>D.L k [1,1,1,0,1,0,0] [0,4,5,6] [] (blockC 0 (seqC (D.N k [1,1,1,1]) D.K0)) (T0 a1 c406 v405)
noncomputable def r0 (k:Nat) (a1:Arg):(List UInt8)->(L1Src×(List UInt8)×Int)->Option Out:=fun c406=>rawIter (fun w v=>B0 k w (Q0 k a1 c406) a1 c406 v) k
theorem s0_eq (k:Nat) (a1:Arg):s0 k a1=r0 k a1:=
 funext fun c406=>funext fun v405=>iter_raw _ _ _ (T0 a1 c406) _ (fun rec v=>by kernel_rfl) k v405
noncomputable def p (l0:(List UInt8)->(L1Src×(List UInt8)×Int)->Option Out) (a1:Arg):Option Out:=(spec_l2Right.sem (a1.1,())).bind fun r2=>(spec_l2Copy.sem (r2.1,())).bind fun r3=>(spec_l1Next.sem (r2.2.1,(9:Int),())).bind fun r4=>l0 r2.1 (r4.2.1,r3.1,r4.1)
theorem raw_eq (k:Nat) (a1:Arg):@Eq (Option Out) (D.W k a1) (p (r0 k a1) a1):=
 Eq.trans (b:=p (s0 k a1) a1) (by kernel_rfl) (by rw[s0_eq])
theorem ok:Ok prog 81 D.sig:=fd_ok func81 tlOk (by kernel_rfl) (fc spec_l1Next.ok (fc spec_l2Right.ok (fc spec_l2Copy.ok (fn_nil _))))
end spec_l3Two
namespace spec_l3Diff
abbrev Arg:Type:=(List UInt8)×(List UInt8)×Unit
abbrev Out:Type:=(List Run)×Unit
abbrev ps:PQ:=[(.ro,(.slc u8)),(.ro,(.slc u8))]
noncomputable def D:FD:={ fn:=f82,tl:=TL0,ps:=ps,rs:=[((.slc tRun),(ownMd (.slc tRun)))],lv:=[(4,[0,1,5,6,7])],lx:=[(0,[5]),(1,[0,1,5,6,7])],od:=[(6,[0,1,2,3,4,5,6,7,8]),(12,[0,1,2,3,4,5,6,7,8,9,10,11,12,13])] }
noncomputable def sem (a:Arg):Option Out:=@lift Out fun k=>D.W k a
noncomputable def T0 (a1:Arg) (v402:(List Run)×Bool×Int):St:={ n:=51,sl:=[(0,.val (.slc u8) a1.1),(1,.val (.slc u8) a1.2.1),(5,.own (.slc tRun) (ownMd (.slc tRun)) [] v402.1),(6,.val .bool v402.2.1),(7,.val i64 v402.2.2)],vr:=[],lent:=[] }
noncomputable def b0 (self:((List Run)×Bool×Int)->Option Out) (e0:(List Run)->Option Out) (a1:Arg) (v402:(List Run)×Bool×Int):Option Out:=bif decide (v402.2.2 < (a1.1.length:Int)) then (if 0<=v402.2.2 then ((a1.1[v402.2.2.toNat]?).bind fun x603=>if 0<=v402.2.2 then ((a1.2.1[v402.2.2.toNat]?).bind fun x604=>bif decide ((x603.toNat:Int)=(x604.toNat:Int)) then (self (v402.1,false,w64 (v402.2.2+(1:Int)))) else let j613:=fun (p612:List Run)=>(if 0<=w64 ((p612.length:Int) - (1:Int))/\w64 ((p612.length:Int) - (1:Int)) < (p612.length:Int) then ((p612[(w64 ((p612.length:Int) - (1:Int))).toNat]?).bind fun x614=>if 0<=v402.2.2 then ((a1.2.1[v402.2.2.toNat]?).bind fun x615=>(p612[(w64 ((p612.length:Int) - (1:Int))).toNat]?).bind fun x616=>(p612[(w64 ((p612.length:Int) - (1:Int))).toNat]?).bind fun x617=>if x616.2.1.length+[x615].length<=CAP then (if (w64 ((p612.length:Int) - (1:Int))).toNat=(w64 ((p612.length:Int) - (1:Int))).toNat then ((p612.set (w64 ((p612.length:Int) - (1:Int))).toNat x617)[(w64 ((p612.length:Int) - (1:Int))).toNat]?).bind fun x618=>let y619:=(p612.set (w64 ((p612.length:Int) - (1:Int))).toNat x617).set (w64 ((p612.length:Int) - (1:Int))).toNat (x618.1,x616.2.1++[x615],x618.2.2);self (y619,true,w64 (v402.2.2+(1:Int))) else none) else none) else none) else none:Option Out);bif !v402.2.1 then (if v402.1.length+[(v402.2.2,([]:List UInt8),())].length<=CAP then (let y605:=v402.1++[(v402.2.2,([]:List UInt8),())];j613 y605) else none) else j613 v402.1) else none) else none) else e0 v402.1
noncomputable abbrev B0 (_:Nat):=b0
noncomputable def q0 (a1:Arg) (z620:(List Run)):Option Out:=some (z620,())
noncomputable abbrev Q0 (_:Nat):=q0
noncomputable def s0 (k:Nat) (a1:Arg):((List Run)×Bool×Int)->Option Out:=fun v402=>D.L k [1,1,1,0,1,0,0] [0,1,5,6,7] [] (blockC 0 (seqC (D.N k [1,1,1,1]) D.K0)) (T0 a1 v402)
noncomputable def r0 (k:Nat) (a1:Arg):((List Run)×Bool×Int)->Option Out:=rawIter (fun w v=>B0 k w (Q0 k a1) a1 v) k
theorem s0_eq (k:Nat) (a1:Arg):s0 k a1=r0 k a1:=
 funext fun v402=>iter_raw _ _ _ (T0 a1) _ (fun rec v=>by kernel_rfl) k v402
noncomputable def p (l0:((List Run)×Bool×Int)->Option Out) (a1:Arg):Option Out:=l0 (([]:List Run),false,(0:Int))
theorem raw_eq (k:Nat) (a1:Arg):@Eq (Option Out) (D.W k a1) (p (r0 k a1) a1):=
 Eq.trans (b:=p (s0 k a1) a1) (by kernel_rfl) (by rw[s0_eq])
theorem ok:Ok prog 82 D.sig:=fd_ok func82 tlOk (by kernel_rfl) (fn_nil _)
end spec_l3Diff
namespace spec_l4Draw
abbrev Arg:Type:=L1Src×Unit
abbrev Out:Type:=Record×L1Src×Unit
abbrev ps:PQ:=[(.mutp (roMd tL1Src),tL1Src)]
noncomputable def D:FD:={ fn:=f31,tl:=TL0,ps:=ps,rs:=[(tRecord,(ownMd tRecord))],gl:=[(30,spec_l1Next.D.sig),(60,spec_l1Pick.D.sig),(80,spec_l4Runs.D.sig),(81,spec_l3Two.D.sig),(82,spec_l3Diff.D.sig)],es:=[0] }
noncomputable def sem (a:Arg):Option Out:=@lift Out fun k=>D.W k a
noncomputable def p (a1:Arg):Option Out:=(spec_l1Pick.sem (a1.1,[(1:Int),(2:Int),(2:Int),(3:Int),(4:Int),(5:Int),(6:Int)],())).bind fun r2=>(spec_l1Next.sem (r2.2.1,(5:Int),())).bind fun r3=>(spec_l4Runs.sem (r2.1,())).bind fun r4=>bif !r4.1 then (some ((r2.1,w64 ((1:Int)+r3.1),(0:Int),([]:List Run),()),r3.2.1,())) else (spec_l1Next.sem (r3.2.1,(3:Int),())).bind fun r5=>(spec_l3Two.sem (r5.2.1,())).bind fun r6=>if 0<=(5:Int)/\(5:Int) < (r6.2.1.length:Int) then ((r6.2.1[5]?).bind fun x7=>if 0<=(5:Int)/\(5:Int) < (r6.2.1.length:Int) then ((r6.2.1[5]?).bind fun x8=>let y9:=r6.2.1.set 5 (UInt8.ofInt ((x7.toNat:Int)+(1:Int)));(spec_l3Diff.sem (r6.1,y9,())).bind fun r10=>let j12:=fun (p11:Record)=>(bif decide ((p11.2.2.2.1.length:Int)=(0:Int)) then (some ((p11.1,p11.2.1,p11.2.2.1,[((3:Int),[(1:UInt8)],())],p11.2.2.2.2),r6.2.2.1,())) else some (p11,r6.2.2.1,()):Option Out);bif decide (r2.1=(4:Int)) then (j12 (r2.1,(0:Int),r5.1,[((0:Int),y9,())],())) else j12 (r2.1,w64 ((1:Int)+r3.1),r5.1,r10.1,())) else none) else none
theorem raw_eq (k:Nat) (a1:Arg):@Eq (Option Out) (D.W k a1) (p a1):=by kernel_rfl
theorem ok:Ok prog 31 D.sig:=fd_ok func31 tlOk (by kernel_rfl) (fc spec_l1Next.ok (fc spec_l1Pick.ok (fc spec_l4Runs.ok (fc spec_l3Two.ok (fc spec_l3Diff.ok (fn_nil _))))))
end spec_l4Draw
namespace spec_l3Bent
abbrev Arg:Type:=L1Src×Unit
abbrev Out:Type:=(List Run)×L1Src×Unit
abbrev ps:PQ:=[(.mutp (roMd tL1Src),tL1Src)]
noncomputable def D:FD:={ fn:=f83,tl:=TL0,ps:=ps,rs:=[((.slc tRun),(ownMd (.slc tRun)))],gl:=[(30,spec_l1Next.D.sig),(60,spec_l1Pick.D.sig),(81,spec_l3Two.D.sig),(82,spec_l3Diff.D.sig),(125,spec_l1Some.D.sig)],es:=[0] }
noncomputable def sem (a:Arg):Option Out:=@lift Out fun k=>D.W k a
noncomputable def p (a1:Arg):Option Out:=(spec_l3Two.sem (a1.1,())).bind fun r2=>(spec_l3Diff.sem (r2.1,r2.2.1,())).bind fun r3=>(spec_l1Next.sem (r2.2.2.1,(10:Int),())).bind fun r4=>bif decide (r4.1=(0:Int)) then ((spec_l1Pick.sem (r4.2.1,[(-1:Int),(0:Int),(63:Int),(64:Int)],())).bind fun r5=>(spec_l1Next.sem (r5.2.1,(4:Int),())).bind fun r6=>(spec_l1Some.sem (r6.2.1,r6.1,())).bind fun r7=>if r3.1.length+[(r5.1,r7.1,())].length<=CAP then (some (r3.1++[(r5.1,r7.1,())],r7.2.1,())) else none) else bif decide (r4.1=(1:Int)) then (if 0<=(65:Int)/\(65:Int)<=(65:Int)/\(65:Int)<=(CAP:Int) then (some (List.replicate 65 ((0:Int),([]:List UInt8),()),r4.2.1,())) else none) else some (r3.1,r4.2.1,())
theorem raw_eq (k:Nat) (a1:Arg):@Eq (Option Out) (D.W k a1) (p a1):=by kernel_rfl
theorem ok:Ok prog 83 D.sig:=fd_ok func83 tlOk (by kernel_rfl) (fc spec_l1Next.ok (fc spec_l1Pick.ok (fc spec_l3Two.ok (fc spec_l3Diff.ok (fc spec_l1Some.ok (fn_nil _))))))
end spec_l3Bent
namespace spec_l4Bent
abbrev Arg:Type:=L1Src×Unit
abbrev Out:Type:=Record×L1Src×Unit
abbrev ps:PQ:=[(.mutp (roMd tL1Src),tL1Src)]
noncomputable def D:FD:={ fn:=f33,tl:=TL0,ps:=ps,rs:=[(tRecord,(ownMd tRecord))],gl:=[(30,spec_l1Next.D.sig),(31,spec_l4Draw.D.sig),(60,spec_l1Pick.D.sig),(83,spec_l3Bent.D.sig)],es:=[0] }
noncomputable def sem (a:Arg):Option Out:=@lift Out fun k=>D.W k a
noncomputable def p (a1:Arg):Option Out:=(spec_l4Draw.sem (a1.1,())).bind fun r2=>(spec_l1Next.sem (r2.2.1,(12:Int),())).bind fun r3=>bif decide (r3.1=(0:Int)) then ((spec_l1Pick.sem (r3.2.1,[(0:Int),(1:Int),(2:Int),(4:Int),(7:Int)],())).bind fun r4=>some ((r4.1,r2.1.2),r4.2.1,())) else bif decide (r3.1=(1:Int)) then ((spec_l1Pick.sem (r3.2.1,[(0:Int),(99:Int),(100:Int)],())).bind fun r5=>some ((r2.1.1,r5.1,r2.1.2.2),r5.2.1,())) else bif decide (r3.1=(2:Int)) then ((spec_l1Pick.sem (r3.2.1,[(11:Int),(12:Int),(-1:Int)],())).bind fun r6=>some ((r2.1.1,r2.1.2.1,r6.1,r2.1.2.2.2),r6.2.1,())) else bif decide (r3.1=(3:Int)) then ((spec_l3Bent.sem (r3.2.1,())).bind fun r7=>some ((r2.1.1,r2.1.2.1,r2.1.2.2.1,r7.1,r2.1.2.2.2.2),r7.2.1,())) else some (r2.1,r3.2.1,())
theorem raw_eq (k:Nat) (a1:Arg):@Eq (Option Out) (D.W k a1) (p a1):=by kernel_rfl
theorem ok:Ok prog 33 D.sig:=fd_ok func33 tlOk (by kernel_rfl) (fc spec_l1Next.ok (fc spec_l4Draw.ok (fc spec_l1Pick.ok (fc spec_l3Bent.ok (fn_nil _)))))
end spec_l4Bent
namespace spec_DrawPackAll
abbrev Arg:Type:=(List UInt8)×Unit
abbrev Out:Type:=(List Record)×Unit
abbrev ps:PQ:=[(.ro,(.slc u8))]
noncomputable def D:FD:={ fn:=f6,tl:=TL0,ps:=ps,rs:=[((.slc tRecord),(ownMd (.slc tRecord)))],gl:=[(29,spec_l1Source.D.sig),(30,spec_l1Next.D.sig),(31,spec_l4Draw.D.sig),(32,spec_l1Chance.D.sig),(33,spec_l4Bent.D.sig)],lv:=[(4,[3,4,5])],lx:=[(0,[3,4])] }
noncomputable def sem (a:Arg):Option Out:=@lift Out fun k=>D.W k a
noncomputable def T0 (a1:Arg) (v404:L1Src×(List Record)×Int):St:={ n:=28,sl:=[(3,.box tL1Src (roMd tL1Src) [] v404.1),(4,.own (.slc tRecord) (ownMd (.slc tRecord)) [] v404.2.1),(5,.val i64 v404.2.2)],vr:=[],lent:=[] }
noncomputable def b0 (self:(L1Src×(List Record)×Int)->Option Out) (e0:(L1Src×(List Record))->Option Out) (a1:Arg) (v404:L1Src×(List Record)×Int):Option Out:=bif decide ((0:Int) < v404.2.2) then ((spec_l4Draw.sem (v404.1,())).bind fun r605=>if v404.2.1.length+[r605.1].length<=CAP then (self (r605.2.1,v404.2.1++[r605.1],w64 (v404.2.2 - (1:Int)))) else none) else e0 (v404.1,v404.2.1)
noncomputable abbrev B0 (_:Nat):=b0
noncomputable def q0 (a1:Arg) (z606:(L1Src×(List Record))):Option Out:=(spec_l1Chance.sem (z606.1,(8:Int),())).bind fun r607=>bif r607.1 then ((spec_l4Bent.sem (r607.2.1,())).bind fun r608=>if z606.2.length+[r608.1].length<=CAP then (some (z606.2++[r608.1],())) else none) else some (z606.2,())
noncomputable abbrev Q0 (_:Nat):=q0
noncomputable def s0 (k:Nat) (a1:Arg):(L1Src×(List Record)×Int)->Option Out:=fun v404=>D.L k [1,1,1,0,1,0,0] [3,4,5] [] (blockC 0 (seqC (D.N k [1,1,1,1]) D.K0)) (T0 a1 v404)
noncomputable def r0 (k:Nat) (a1:Arg):(L1Src×(List Record)×Int)->Option Out:=rawIter (fun w v=>B0 k w (Q0 k a1) a1 v) k
theorem s0_eq (k:Nat) (a1:Arg):s0 k a1=r0 k a1:=
 funext fun v404=>iter_raw _ _ _ (T0 a1) _ (fun rec v=>by kernel_rfl) k v404
noncomputable def p (l0:(L1Src×(List Record)×Int)->Option Out) (a1:Arg):Option Out:=(spec_l1Source.sem (a1.1,())).bind fun r2=>(spec_l1Next.sem (r2.1,(6:Int),())).bind fun r3=>l0 (r3.2.1,([]:List Record),r3.1)
theorem raw_eq (k:Nat) (a1:Arg):@Eq (Option Out) (D.W k a1) (p (r0 k a1) a1):=
 Eq.trans (b:=p (s0 k a1) a1) (by kernel_rfl) (by rw[s0_eq])
theorem ok:Ok prog 6 D.sig:=fd_ok func6 tlOk (by kernel_rfl) (fc spec_l1Source.ok (fc spec_l1Next.ok (fc spec_l4Draw.ok (fc spec_l1Chance.ok (fc spec_l4Bent.ok (fn_nil _))))))
end spec_DrawPackAll
namespace impl_in
abbrev Arg:Type:=Int×Int×Int×Unit
abbrev Out:Type:=Bool×Unit
abbrev ps:PQ:=[(.ro,i64),(.ro,i64),(.ro,i64)]
noncomputable def D:FD:={ fn:=f65,tl:=TL0,ps:=ps,rs:=[(.bool,(roMd .bool))] }
noncomputable def sem (a:Arg):Option Out:=@lift Out fun k=>D.W k a
noncomputable def p (a1:Arg):Option Out:=bif decide (a1.2.1<=a1.1) then (some (decide (a1.1<=a1.2.2.1),())) else some (false,())
theorem raw_eq (k:Nat) (a1:Arg):@Eq (Option Out) (D.W k a1) (p a1):=by kernel_rfl
theorem ok:Ok prog 65 D.sig:=fd_ok func65 tlOk (by kernel_rfl) (fn_nil _)
end impl_in
namespace impl_isTx
abbrev Arg:Type:=Int×Unit
abbrev Out:Type:=Bool×Unit
abbrev ps:PQ:=[(.ro,i64)]
noncomputable def D:FD:={ fn:=f67,tl:=TL0,ps:=ps,rs:=[(.bool,(roMd .bool))],gl:=[(65,impl_in.D.sig)] }
noncomputable def sem (a:Arg):Option Out:=@lift Out fun k=>D.W k a
noncomputable def p (a1:Arg):Option Out:=(impl_in.sem (a1.1,(1:Int),(99:Int),())).bind fun r2=>some (r2.1,())
theorem raw_eq (k:Nat) (a1:Arg):@Eq (Option Out) (D.W k a1) (p a1):=by kernel_rfl
theorem ok:Ok prog 67 D.sig:=fd_ok func67 tlOk (by kernel_rfl) (fc impl_in.ok (fn_nil _))
end impl_isTx
namespace impl_turns
abbrev Arg:Type:=Int×Unit
abbrev Out:Type:=Bool×Unit
abbrev ps:PQ:=[(.ro,i64)]
noncomputable def D:FD:={ fn:=f84,tl:=TL0,ps:=ps,rs:=[(.bool,(roMd .bool))] }
noncomputable def sem (a:Arg):Option Out:=@lift Out fun k=>D.W k a
noncomputable def p (a1:Arg):Option Out:=bif decide (a1.1=(2:Int)) then (some (true,())) else bif decide (a1.1=(3:Int)) then (some (true,())) else some (decide (a1.1=(4:Int)),())
theorem raw_eq (k:Nat) (a1:Arg):@Eq (Option Out) (D.W k a1) (p a1):=by kernel_rfl
theorem ok:Ok prog 84 D.sig:=fd_ok func84 tlOk (by kernel_rfl) (fn_nil _)
end impl_turns
namespace impl_RunsFault
abbrev Arg:Type:=(List Run)×Unit
abbrev Out:Type:=Int×Unit
abbrev ps:PQ:=[(.ro,(.slc tRun))]
noncomputable def D:FD:={ fn:=f85,tl:=TL0,ps:=ps,rs:=[(i64,(roMd i64))],gl:=[(65,impl_in.D.sig)],lv:=[(5,[3,10,11,12])],lx:=[(0,[])] }
noncomputable def sem (a:Arg):Option Out:=@lift Out fun k=>D.W k a
noncomputable def T0 (a1:Arg) (v402:Int×Int):St:={ n:=45,sl:=[(3,.val i64 v402.1),(10,.val (.slc tRun) a1.1),(11,.val i64 (a1.1.length:Int)),(12,.val i64 v402.2)],vr:=[],lent:=[] }
noncomputable def b0 (self:(Int×Int)->Option Out) (e0:(Unit)->Option Out) (a1:Arg) (v402:Int×Int):Option Out:=bif decide (v402.2 < (a1.1.length:Int)) then (if 0<=v402.2 then ((a1.1[v402.2.toNat]?).bind fun x603=>(impl_in.sem (x603.1,(0:Int),(63:Int),())).bind fun r604=>bif !r604.1 then (some ((3:Int),())) else (impl_in.sem ((x603.2.1.length:Int),(1:Int),(64:Int),())).bind fun r605=>bif !r605.1 then (some ((3:Int),())) else bif decide ((64:Int) < w64 (x603.1+(x603.2.1.length:Int))) then (some ((3:Int),())) else bif decide (x603.1 < v402.1) then (some ((1:Int),())) else self (w64 ((w64 (x603.1+(x603.2.1.length:Int)))+(1:Int)),w64 (v402.2+(1:Int)))) else none) else e0 ()
noncomputable abbrev B0 (_:Nat):=b0
noncomputable def q0 (a1:Arg) (z606:(Unit)):Option Out:=some ((0:Int),())
noncomputable abbrev Q0 (_:Nat):=q0
noncomputable def s0 (k:Nat) (a1:Arg):(Int×Int)->Option Out:=fun v402=>D.L k [1,1,1,0,1,0,0] [3,10,11,12] [] (blockC 0 (seqC (D.N k [1,1,1,1]) D.K0)) (T0 a1 v402)
noncomputable def r0 (k:Nat) (a1:Arg):(Int×Int)->Option Out:=rawIter (fun w v=>B0 k w (Q0 k a1) a1 v) k
theorem s0_eq (k:Nat) (a1:Arg):s0 k a1=r0 k a1:=
 funext fun v402=>iter_raw _ _ _ (T0 a1) _ (fun rec v=>by kernel_rfl) k v402
noncomputable def p (l0:(Int×Int)->Option Out) (a1:Arg):Option Out:=bif decide ((64:Int) < (a1.1.length:Int)) then (some ((2:Int),())) else l0 ((0:Int),(0:Int))
theorem raw_eq (k:Nat) (a1:Arg):@Eq (Option Out) (D.W k a1) (p (r0 k a1) a1):=
 Eq.trans (b:=p (s0 k a1) a1) (by kernel_rfl) (by rw[s0_eq])
theorem ok:Ok prog 85 D.sig:=fd_ok func85 tlOk (by kernel_rfl) (fc impl_in.ok (fn_nil _))
end impl_RunsFault
namespace impl_RecordFault
abbrev Arg:Type:=Record×Unit
abbrev Out:Type:=Int×Unit
abbrev ps:PQ:=[(.ro,tRecord)]
noncomputable def D:FD:={ fn:=f34,tl:=TL0,ps:=ps,rs:=[(i64,(roMd i64))],gl:=[(65,impl_in.D.sig),(67,impl_isTx.D.sig),(84,impl_turns.D.sig),(85,impl_RunsFault.D.sig)] }
noncomputable def sem (a:Arg):Option Out:=@lift Out fun k=>D.W k a
noncomputable def p (a1:Arg):Option Out:=let j15:Option Out:=let j23:Option Out:=(impl_RunsFault.sem (a1.1.2.2.2.1,())).bind fun r24=>bif !decide (r24.1=(0:Int)) then (some (r24.1,())) else (impl_turns.sem (a1.1.1,())).bind fun r25=>bif r25.1 then (bif decide ((a1.1.2.2.2.1.length:Int)=(0:Int)) then (some ((1:Int),())) else bif decide (a1.1.1=(4:Int)) then (bif !decide ((a1.1.2.2.2.1.length:Int)=(1:Int)) then (some ((1:Int),())) else (a1.1.2.2.2.1[0]?).bind fun x26=>bif !decide ((x26.2.1.length:Int)=(64:Int)) then (some ((1:Int),())) else some ((0:Int),())) else some ((0:Int),())) else bif decide (a1.1.1=(4:Int)) then (bif !decide ((a1.1.2.2.2.1.length:Int)=(1:Int)) then (some ((1:Int),())) else (a1.1.2.2.2.1[0]?).bind fun x27=>bif !decide ((x27.2.1.length:Int)=(64:Int)) then (some ((1:Int),())) else some ((0:Int),())) else some ((0:Int),());bif !decide (a1.1.1=(4:Int)) then ((impl_isTx.sem (a1.1.2.1,())).bind fun r16=>bif !r16.1 then (some ((3:Int),())) else (impl_in.sem (a1.1.2.2.1,(0:Int),(11:Int),())).bind fun r17=>bif !r17.1 then (some ((3:Int),())) else j23) else (impl_in.sem (a1.1.2.2.1,(0:Int),(11:Int),())).bind fun r18=>bif !r18.1 then (some ((3:Int),())) else j23;(impl_in.sem (a1.1.1,(1:Int),(6:Int),())).bind fun r2=>bif !r2.1 then (some ((1:Int),())) else (impl_turns.sem (a1.1.1,())).bind fun r3=>bif !r3.1 then (bif !decide (a1.1.2.2.1=(0:Int)) then (some ((1:Int),())) else bif decide ((0:Int) < (a1.1.2.2.2.1.length:Int)) then (some ((1:Int),())) else bif decide (a1.1.1=(4:Int)) then (bif !decide (a1.1.2.1=(0:Int)) then (some ((1:Int),())) else j15) else j15) else bif decide (a1.1.1=(4:Int)) then (bif !decide (a1.1.2.1=(0:Int)) then (some ((1:Int),())) else j15) else j15
theorem raw_eq (k:Nat) (a1:Arg):@Eq (Option Out) (D.W k a1) (p a1):=by kernel_rfl
theorem ok:Ok prog 34 D.sig:=fd_ok func34 tlOk (by kernel_rfl) (fc impl_in.ok (fc impl_isTx.ok (fc impl_turns.ok (fc impl_RunsFault.ok (fn_nil _)))))
end impl_RecordFault
namespace impl_packed
abbrev Arg:Type:=Record×Unit
abbrev Out:Type:=(List UInt8)×Unit
abbrev ps:PQ:=[(.ro,tRecord)]
noncomputable def D:FD:={ fn:=f35,tl:=TL0,ps:=ps,rs:=[((.slc u8),(ownMd (.slc u8)))],lv:=[(3,[3,24,25,26]),(11,[3,6,51,52,53])],lx:=[(0,[3]),(2,[3,6])] }
noncomputable def sem (a:Arg):Option Out:=@lift Out fun k=>D.W k a
noncomputable def T0 (a1:Arg) (v402:(List UInt8)×Int):St:={ n:=72,sl:=[(3,.own (.slc u8) (ownMd (.slc u8)) [] v402.1),(24,.val (.slc tRun) a1.1.2.2.2.1),(25,.val i64 (a1.1.2.2.2.1.length:Int)),(26,.val i64 v402.2)],vr:=[],lent:=[] }
noncomputable def S0 (rec:RT Out) (a1:Arg):((List UInt8)×Int)->Option Out:=fun v402=>rec (T0 a1 v402)
noncomputable def X0_0 (K:KT Out) (a1:Arg):(List UInt8)->Option Out:=fun z=>K (.exit 0) ({ n:=72,sl:=[(3,.own (.slc u8) (ownMd (.slc u8)) [] z)],vr:=[],lent:=[] })
noncomputable def b0 (self:((List UInt8)×Int)->Option Out) (e0:(List UInt8)->Option Out) (a1:Arg) (v402:(List UInt8)×Int):Option Out:=bif decide (v402.2 < (a1.1.2.2.2.1.length:Int)) then (if 0<=v402.2 then ((a1.1.2.2.2.1[v402.2.toNat]?).bind fun x603=>if v402.1.length+[UInt8.ofInt x603.1,UInt8.ofInt (x603.2.1.length:Int)].length<=CAP then (let y604:=v402.1++[UInt8.ofInt x603.1,UInt8.ofInt (x603.2.1.length:Int)];if y604.length+x603.2.1.length<=CAP then (self (y604++x603.2.1,w64 (v402.2+(1:Int)))) else none) else none) else none) else e0 v402.1
noncomputable abbrev B0 (_:Nat):=b0
theorem B0_eq (k:Nat) (rec:RT Out) (K:KT Out) (a1:Arg) (v402:(List UInt8)×Int):D.N k [1,1,0,1,0,0] (T0 a1 v402) (loopC rec (keepF [3,24,25,26] []) K)=b0 (S0 rec a1) (X0_0 K a1) a1 v402:=by kernel_rfl
noncomputable def T1 (a1:Arg) (c1009:List UInt8) (c1010:Int) (v1008:Int×Int):St:={ n:=72,sl:=[(3,.own (.slc u8) (ownMd (.slc u8)) [] c1009),(6,.val i64 v1008.1),(51,.ref 3 [] [0,0]),(52,.val i64 c1010),(53,.val i64 v1008.2)],vr:=[],lent:=[] }
noncomputable def b1 (self:(Int×Int)->Option Out) (e2:Int->Option Out) (a1:Arg) (c1009:List UInt8) (c1010:Int) (v1008:Int×Int):Option Out:=bif decide (v1008.2 < c1010) then (if 0<=v1008.2/\v1008.2 < (c1009.length:Int) then ((c1009[v1008.2.toNat]?).bind fun x1211=>self ((w64 ((w64 (v1008.1*(31:Int)))+(w64 (x1211.toNat:Int)))).tmod (65521:Int),w64 (v1008.2+(1:Int)))) else none) else e2 v1008.1
noncomputable abbrev B1 (_:Nat):=b1
noncomputable def q1 (a1:Arg) (c1009:List UInt8) (c1010:Int) (z1212:Int):Option Out:=if c1009.length+[UInt8.ofInt (z1212.fdiv (2 ^ 8)),UInt8.ofInt z1212].length<=CAP then (let y1213:=c1009++[UInt8.ofInt (z1212.fdiv (2 ^ 8)),UInt8.ofInt z1212];some (y1213,())) else none
noncomputable abbrev Q1 (_:Nat):=q1
noncomputable def s1 (k:Nat) (a1:Arg):(List UInt8)->Int->(Int×Int)->Option Out:=fun c1009 c1010=>fun v1008=>D.L k [1,1,1,1,1,0,1,0,0] [3,6,51,52,53] [] (blockC 2 (seqC (D.N k [1,1,1,1,1,1]) D.K0)) (T1 a1 c1009 c1010 v1008)
noncomputable def r1 (k:Nat) (a1:Arg):(List UInt8)->Int->(Int×Int)->Option Out:=fun c1009 c1010=>rawIter (fun w v=>B1 k w (Q1 k a1 c1009 c1010) a1 c1009 c1010 v) k
theorem s1_eq (k:Nat) (a1:Arg):s1 k a1=r1 k a1:=
 funext fun c1009=>funext fun c1010=>funext fun v1008=>iter_raw _ _ _ (T1 a1 c1009 c1010) _ (fun rec v=>by kernel_rfl) k v1008
noncomputable def q0 (l1:(List UInt8)->Int->(Int×Int)->Option Out) (a1:Arg) (z605:(List UInt8)):Option Out:=if 0<=(0:Int)/\(0:Int) < (z605.length:Int) then ((z605[0]?).bind fun x606=>let y607:=z605.set 0 (UInt8.ofInt (w64 ((z605.length:Int)+(2:Int))));l1 y607 (y607.length:Int) ((1:Int),(0:Int))) else none
noncomputable def Q0 (k:Nat) (a1:Arg) (z605:(List UInt8)):Option Out:=q0 (r1 k a1) a1 z605
theorem Q0_eq (k:Nat) (a1:Arg) (z605:(List UInt8)):X0_0 (blockC 0 (seqC (D.N k [1,1,1]) D.K0)) a1 z605=Q0 k a1 z605:=
 Eq.trans (b:=q0 (s1 k a1) a1 z605) (by kernel_rfl) (by rw[s1_eq];rfl)
noncomputable def s0 (k:Nat) (a1:Arg):((List UInt8)×Int)->Option Out:=fun v402=>D.L k [1,1,0,1,0,0] [3,24,25,26] [] (blockC 0 (seqC (D.N k [1,1,1]) D.K0)) (T0 a1 v402)
noncomputable def r0 (k:Nat) (a1:Arg):((List UInt8)×Int)->Option Out:=rawIter (fun w v=>B0 k w (Q0 k a1) a1 v) k
theorem s0_eq (k:Nat) (a1:Arg):s0 k a1=r0 k a1:=by
 funext v402;
 have h0:X0_0 (blockC 0 (seqC (D.N k [1,1,1]) D.K0)) a1=Q0 k a1:=funext fun z=>Q0_eq k a1 z
 refine (iter_raw _ _ _ (T0 a1) (fun self v=>B0 k self (X0_0 (blockC 0 (seqC (D.N k [1,1,1]) D.K0)) a1) a1 v) (fun rec v=>B0_eq k rec (blockC 0 (seqC (D.N k [1,1,1]) D.K0)) a1 v) k v402).trans ?_
 rw[h0]
 rfl
noncomputable def p (l0:((List UInt8)×Int)->Option Out) (a1:Arg):Option Out:=l0 ([(0:UInt8),UInt8.ofInt a1.1.1,UInt8.ofInt a1.1.2.1,UInt8.ofInt a1.1.2.2.1,UInt8.ofInt (a1.1.2.2.2.1.length:Int)],(0:Int))
theorem raw_eq (k:Nat) (a1:Arg):@Eq (Option Out) (D.W k a1) (p (r0 k a1) a1):=
 Eq.trans (b:=p (s0 k a1) a1) (by kernel_rfl) (by rw[s0_eq])
theorem ok:Ok prog 35 D.sig:=fd_ok func35 tlOk (by kernel_rfl) (fn_nil _)
end impl_packed
namespace impl_PackAll
abbrev Arg:Type:=(List Record)×Unit
abbrev Out:Type:=Run×Unit
abbrev ps:PQ:=[(.ro,(.slc tRecord))]
noncomputable def D:FD:={ fn:=f7,tl:=TL0,ps:=ps,rs:=[(tRun,(ownMd tRun))],gl:=[(34,impl_RecordFault.D.sig),(35,impl_packed.D.sig)],lv:=[(3,[2,3,7,8,9])],lx:=[(0,[2,3])] }
noncomputable def sem (a:Arg):Option Out:=@lift Out fun k=>D.W k a
noncomputable def T0 (a1:Arg) (v402:(List UInt8)×Int):St:={ n:=33,sl:=[(2,.box tRun (ownMd tRun) [] ((0:Int),([]:List UInt8),())),(3,.own (.slc u8) (ownMd (.slc u8)) [] v402.1),(7,.val (.slc tRecord) a1.1),(8,.val i64 (a1.1.length:Int)),(9,.val i64 v402.2)],vr:=[],lent:=[] }
noncomputable def b0 (self:((List UInt8)×Int)->Option Out) (e0:(List UInt8)->Option Out) (a1:Arg) (v402:(List UInt8)×Int):Option Out:=bif decide (v402.2 < (a1.1.length:Int)) then (if 0<=v402.2 then ((a1.1[v402.2.toNat]?).bind fun x603=>(impl_RecordFault.sem (x603,())).bind fun r604=>bif !decide (r604.1=(0:Int)) then (some ((r604.1,([]:List UInt8),()),())) else bif decide ((v402.1.length:Int)<=(16000:Int)) then ((impl_packed.sem (x603,())).bind fun r605=>if v402.1.length+r605.1.length<=CAP then (self (v402.1++r605.1,w64 (v402.2+(1:Int)))) else none) else self (v402.1,w64 (v402.2+(1:Int)))) else none) else e0 v402.1
noncomputable abbrev B0 (_:Nat):=b0
noncomputable def q0 (a1:Arg) (z606:(List UInt8)):Option Out:=bif decide ((16000:Int) < (z606.length:Int)) then (some (((2:Int),([]:List UInt8),()),())) else some (((0:Int),z606,()),())
noncomputable abbrev Q0 (_:Nat):=q0
noncomputable def s0 (k:Nat) (a1:Arg):((List UInt8)×Int)->Option Out:=fun v402=>D.L k [1,1,0,1,0,0] [2,3,7,8,9] [] (blockC 0 (seqC (D.N k [1,1,1]) D.K0)) (T0 a1 v402)
noncomputable def r0 (k:Nat) (a1:Arg):((List UInt8)×Int)->Option Out:=rawIter (fun w v=>B0 k w (Q0 k a1) a1 v) k
theorem s0_eq (k:Nat) (a1:Arg):s0 k a1=r0 k a1:=
 funext fun v402=>iter_raw _ _ _ (T0 a1) _ (fun rec v=>by kernel_rfl) k v402
noncomputable def p (l0:((List UInt8)×Int)->Option Out) (a1:Arg):Option Out:=l0 (([]:List UInt8),(0:Int))
theorem raw_eq (k:Nat) (a1:Arg):@Eq (Option Out) (D.W k a1) (p (r0 k a1) a1):=
 Eq.trans (b:=p (s0 k a1) a1) (by kernel_rfl) (by rw[s0_eq])
theorem ok:Ok prog 7 D.sig:=fd_ok func7 tlOk (by kernel_rfl) (fc impl_RecordFault.ok (fc impl_packed.ok (fn_nil _)))
end impl_PackAll
namespace spec_l3Fault
abbrev Arg:Type:=(List Run)×Unit
abbrev Out:Type:=Int×Unit
abbrev ps:PQ:=[(.ro,(.slc tRun))]
noncomputable def D:FD:={ fn:=f87,tl:=TL0,ps:=ps,rs:=[(i64,(roMd i64))],gl:=[(86,spec_l1In.D.sig)],lv:=[(4,[0,3])],lx:=[(0,[])],od:=[(9,[0,1,2,3,4,5,6,7,8,9,10,11,12,13,14,15,16,17,18,19,20,21,22,23])] }
noncomputable def sem (a:Arg):Option Out:=@lift Out fun k=>D.W k a
noncomputable def T0 (a1:Arg) (v402:Int):St:={ n:=66,sl:=[(0,.val (.slc tRun) a1.1),(3,.val i64 v402)],vr:=[],lent:=[] }
noncomputable def b0 (self:Int->Option Out) (e0:(Unit)->Option Out) (a1:Arg) (v402:Int):Option Out:=bif decide (v402 < (a1.1.length:Int)) then (if 0<=v402 then ((a1.1[v402.toNat]?).bind fun x603=>if 0<=v402 then ((a1.1[v402.toNat]?).bind fun x604=>(spec_l1In.sem (x604.1,(0:Int),(63:Int),())).bind fun r605=>bif !r605.1 then (some ((3:Int),())) else (spec_l1In.sem ((x603.2.1.length:Int),(1:Int),(64:Int),())).bind fun r606=>bif !r606.1 then (some ((3:Int),())) else if 0<=v402 then ((a1.1[v402.toNat]?).bind fun x607=>bif decide ((64:Int) < w64 (x607.1+(x603.2.1.length:Int))) then (some ((3:Int),())) else bif decide ((0:Int) < v402) then (if 0<=v402 then ((a1.1[v402.toNat]?).bind fun x608=>if 0<=w64 (v402 - (1:Int)) then ((a1.1[(w64 (v402 - (1:Int))).toNat]?).bind fun x609=>if 0<=w64 (v402 - (1:Int)) then ((a1.1[(w64 (v402 - (1:Int))).toNat]?).bind fun x610=>bif decide (x608.1<=w64 (x609.1+(x610.2.1.length:Int))) then (some ((1:Int),())) else self (w64 (v402+(1:Int)))) else none) else none) else none) else self (w64 (v402+(1:Int)))) else none) else none) else none) else e0 ()
noncomputable abbrev B0 (_:Nat):=b0
noncomputable def q0 (a1:Arg) (z611:(Unit)):Option Out:=some ((0:Int),())
noncomputable abbrev Q0 (_:Nat):=q0
noncomputable def s0 (k:Nat) (a1:Arg):(Int)->Option Out:=fun v402=>D.L k [1,1,0,1,0,0] [0,3] [] (blockC 0 (seqC (D.N k [1,1,1]) D.K0)) (T0 a1 v402)
noncomputable def r0 (k:Nat) (a1:Arg):(Int)->Option Out:=rawIter (fun w v=>B0 k w (Q0 k a1) a1 v) k
theorem s0_eq (k:Nat) (a1:Arg):s0 k a1=r0 k a1:=
 funext fun v402=>iter_raw _ _ _ (T0 a1) _ (fun rec v=>by kernel_rfl) k v402
noncomputable def p (l0:(Int)->Option Out) (a1:Arg):Option Out:=bif decide ((64:Int) < (a1.1.length:Int)) then (some ((2:Int),())) else l0 (0:Int)
theorem raw_eq (k:Nat) (a1:Arg):@Eq (Option Out) (D.W k a1) (p (r0 k a1) a1):=
 Eq.trans (b:=p (s0 k a1) a1) (by kernel_rfl) (by rw[s0_eq])
theorem ok:Ok prog 87 D.sig:=fd_ok func87 tlOk (by kernel_rfl) (fc spec_l1In.ok (fn_nil _))
end spec_l3Fault
namespace spec_l4Fault
abbrev Arg:Type:=Record×Unit
abbrev Out:Type:=Int×Unit
abbrev ps:PQ:=[(.ro,(.ptr tRecord))]
noncomputable def D:FD:={ fn:=f36,tl:=TL0,ps:=ps,rs:=[(i64,(roMd i64))],gl:=[(80,spec_l4Runs.D.sig),(86,spec_l1In.D.sig),(87,spec_l3Fault.D.sig)] }
noncomputable def sem (a:Arg):Option Out:=@lift Out fun k=>D.W k a
noncomputable def p (a1:Arg):Option Out:=let j13:Option Out:=let j20:Option Out:=(spec_l4Runs.sem (a1.1.1,())).bind fun r21=>bif !r21.1 then (some ((0:Int),())) else (spec_l3Fault.sem (a1.1.2.2.2.1,())).bind fun r22=>bif !decide (r22.1=(0:Int)) then (some (r22.1,())) else bif decide ((a1.1.2.2.2.1.length:Int)=(0:Int)) then (some ((1:Int),())) else bif decide (a1.1.1=(4:Int)) then ((a1.1.2.2.2.1[0]?).bind fun x23=>bif !decide ((x23.2.1.length:Int)=(64:Int)) then (some ((1:Int),())) else some ((0:Int),())) else some ((0:Int),());bif !decide (a1.1.1=(4:Int)) then ((spec_l1In.sem (a1.1.2.1,(1:Int),(99:Int),())).bind fun r14=>bif !r14.1 then (some ((3:Int),())) else (spec_l1In.sem (a1.1.2.2.1,(0:Int),(11:Int),())).bind fun r15=>bif !r15.1 then (some ((3:Int),())) else j20) else (spec_l1In.sem (a1.1.2.2.1,(0:Int),(11:Int),())).bind fun r16=>bif !r16.1 then (some ((3:Int),())) else j20;(spec_l1In.sem (a1.1.1,(1:Int),(6:Int),())).bind fun r2=>bif !r2.1 then (some ((1:Int),())) else (spec_l4Runs.sem (a1.1.1,())).bind fun r3=>bif !r3.1 then (bif !decide (a1.1.2.2.1=(0:Int)) then (some ((1:Int),())) else bif decide ((0:Int) < (a1.1.2.2.2.1.length:Int)) then (some ((1:Int),())) else bif decide (a1.1.1=(4:Int)) then (bif !decide (a1.1.2.1=(0:Int)) then (some ((1:Int),())) else j13) else j13) else bif decide (a1.1.1=(4:Int)) then (bif !decide (a1.1.2.1=(0:Int)) then (some ((1:Int),())) else j13) else j13
theorem raw_eq (k:Nat) (a1:Arg):@Eq (Option Out) (D.W k a1) (p a1):=by kernel_rfl
theorem ok:Ok prog 36 D.sig:=fd_ok func36 tlOk (by kernel_rfl) (fc spec_l4Runs.ok (fc spec_l1In.ok (fc spec_l3Fault.ok (fn_nil _))))
end spec_l4Fault
namespace spec_l4Sum
abbrev Arg:Type:=(List UInt8)×Unit
abbrev Out:Type:=Int×Unit
abbrev ps:PQ:=[(.ro,(.slc u8))]
noncomputable def D:FD:={ fn:=f88,tl:=TL0,ps:=ps,rs:=[(i64,(roMd i64))],lv:=[(3,[0,3,4])],lx:=[(0,[3])] }
noncomputable def sem (a:Arg):Option Out:=@lift Out fun k=>D.W k a
noncomputable def T0 (a1:Arg) (v402:Int×Int):St:={ n:=21,sl:=[(0,.val (.slc u8) a1.1),(3,.val i64 v402.1),(4,.val i64 v402.2)],vr:=[],lent:=[] }
noncomputable def b0 (self:(Int×Int)->Option Out) (e0:Int->Option Out) (a1:Arg) (v402:Int×Int):Option Out:=bif decide (v402.2 < (a1.1.length:Int)) then (if 0<=v402.2 then ((a1.1[v402.2.toNat]?).bind fun x603=>self ((w64 ((w64 (v402.1*(31:Int)))+(w64 (x603.toNat:Int)))).tmod (65521:Int),w64 (v402.2+(1:Int)))) else none) else e0 v402.1
noncomputable abbrev B0 (_:Nat):=b0
noncomputable def q0 (a1:Arg) (z604:Int):Option Out:=some (z604,())
noncomputable abbrev Q0 (_:Nat):=q0
noncomputable def s0 (k:Nat) (a1:Arg):(Int×Int)->Option Out:=fun v402=>D.L k [1,1,0,1,0,0] [0,3,4] [] (blockC 0 (seqC (D.N k [1,1,1]) D.K0)) (T0 a1 v402)
noncomputable def r0 (k:Nat) (a1:Arg):(Int×Int)->Option Out:=rawIter (fun w v=>B0 k w (Q0 k a1) a1 v) k
theorem s0_eq (k:Nat) (a1:Arg):s0 k a1=r0 k a1:=
 funext fun v402=>iter_raw _ _ _ (T0 a1) _ (fun rec v=>by kernel_rfl) k v402
noncomputable def p (l0:(Int×Int)->Option Out) (a1:Arg):Option Out:=l0 ((1:Int),(0:Int))
theorem raw_eq (k:Nat) (a1:Arg):@Eq (Option Out) (D.W k a1) (p (r0 k a1) a1):=
 Eq.trans (b:=p (s0 k a1) a1) (by kernel_rfl) (by rw[s0_eq])
theorem ok:Ok prog 88 D.sig:=fd_ok func88 tlOk (by kernel_rfl) (fn_nil _)
end spec_l4Sum
namespace spec_l4Pack
abbrev Arg:Type:=Record×Unit
abbrev Out:Type:=(List UInt8)×Unit
abbrev ps:PQ:=[(.ro,(.ptr tRecord))]
noncomputable def D:FD:={ fn:=f37,tl:=TL0,ps:=ps,rs:=[((.slc u8),(ownMd (.slc u8)))],gl:=[(88,spec_l4Sum.D.sig)],lv:=[(3,[0,3,4])],lx:=[(0,[3])],od:=[(1,[0,1,2,3,4,5,6,7,8,9,10,11,12,13,14,15,16,17,18,19,20,21,22]),(5,[0,1,2,3,4,5,6,7,8,9,10,11,12,13,14,15,16,17,18,19,22,23,24,25,26,27,28,29,20,21,30,31])],ar:=[(5,[4,8,9,13,17,19,25,29])] }
noncomputable def sem (a:Arg):Option Out:=@lift Out fun k=>D.W k a
noncomputable def T0 (a1:Arg) (v402:(List UInt8)×Int):St:={ n:=85,sl:=[(0,.cp tRecord a1.1),(3,.own (.slc u8) (ownMd (.slc u8)) [] v402.1),(4,.val i64 v402.2)],vr:=[],lent:=[] }
noncomputable def b0 (self:((List UInt8)×Int)->Option Out) (e0:(List UInt8)->Option Out) (a1:Arg) (v402:(List UInt8)×Int):Option Out:=bif decide (v402.2 < (a1.1.2.2.2.1.length:Int)) then (if 0<=v402.2 then ((a1.1.2.2.2.1[v402.2.toNat]?).bind fun x603=>if 0<=v402.2 then ((a1.1.2.2.2.1[v402.2.toNat]?).bind fun x604=>if 0<=v402.2 then ((a1.1.2.2.2.1[v402.2.toNat]?).bind fun x605=>if v402.1.length+[UInt8.ofInt x603.1,UInt8.ofInt (x604.2.1.length:Int)].length<=CAP then (let y606:=v402.1++[UInt8.ofInt x603.1,UInt8.ofInt (x604.2.1.length:Int)];if y606.length+x605.2.1.length<=CAP then (self (y606++x605.2.1,w64 (v402.2+(1:Int)))) else none) else none) else none) else none) else none) else e0 v402.1
noncomputable abbrev B0 (_:Nat):=b0
noncomputable def q0 (a1:Arg) (z607:(List UInt8)):Option Out:=if 0<=(0:Int)/\(0:Int) < (z607.length:Int) then ((z607[0]?).bind fun x608=>let y609:=z607.set 0 (UInt8.ofInt (w64 ((z607.length:Int)+(2:Int))));(spec_l4Sum.sem (y609,())).bind fun r610=>if y609.length+[UInt8.ofInt (w64 (r610.1.tdiv (256:Int))),UInt8.ofInt (r610.1.tmod (256:Int))].length<=CAP then (let y611:=y609++[UInt8.ofInt (w64 (r610.1.tdiv (256:Int))),UInt8.ofInt (r610.1.tmod (256:Int))];some (y611,())) else none) else none
noncomputable abbrev Q0 (_:Nat):=q0
noncomputable def s0 (k:Nat) (a1:Arg):((List UInt8)×Int)->Option Out:=fun v402=>D.L k [1,1,0,1,0,0] [0,3,4] [] (blockC 0 (seqC (D.N k [1,1,1]) D.K0)) (T0 a1 v402)
noncomputable def r0 (k:Nat) (a1:Arg):((List UInt8)×Int)->Option Out:=rawIter (fun w v=>B0 k w (Q0 k a1) a1 v) k
theorem s0_eq (k:Nat) (a1:Arg):s0 k a1=r0 k a1:=
 funext fun v402=>iter_raw _ _ _ (T0 a1) _ (fun rec v=>by kernel_rfl) k v402
noncomputable def p (l0:((List UInt8)×Int)->Option Out) (a1:Arg):Option Out:=l0 ([(0:UInt8),UInt8.ofInt a1.1.1,UInt8.ofInt a1.1.2.1,UInt8.ofInt a1.1.2.2.1,UInt8.ofInt (a1.1.2.2.2.1.length:Int)],(0:Int))
theorem raw_eq (k:Nat) (a1:Arg):@Eq (Option Out) (D.W k a1) (p (r0 k a1) a1):=
 Eq.trans (b:=p (s0 k a1) a1) (by kernel_rfl) (by rw[s0_eq])
theorem ok:Ok prog 37 D.sig:=fd_ok func37 tlOk (by kernel_rfl) (fc spec_l4Sum.ok (fn_nil _))
end spec_l4Pack
namespace spec_PackAll
abbrev Arg:Type:=(List Record)×Unit
abbrev Out:Type:=Run×Unit
abbrev ps:PQ:=[(.ro,(.slc tRecord))]
noncomputable def D:FD:={ fn:=f8,tl:=TL0,ps:=ps,rs:=[(tRun,(ownMd tRun))],gl:=[(36,spec_l4Fault.D.sig),(37,spec_l4Pack.D.sig)],lv:=[(3,[0,2,3,4]),(9,[0,2,3,6])],lx:=[(0,[0,2,3]),(2,[2,3])] }
noncomputable def sem (a:Arg):Option Out:=@lift Out fun k=>D.W k a
noncomputable def T0 (a1:Arg) (v402:Int):St:={ n:=40,sl:=[(0,.val (.slc tRecord) a1.1),(2,.box tRun (ownMd tRun) [] ((0:Int),([]:List UInt8),())),(3,.own (.slc u8) (ownMd (.slc u8)) [] ([]:List UInt8)),(4,.val i64 v402)],vr:=[],lent:=[] }
noncomputable def S0 (rec:RT Out) (a1:Arg):(Int)->Option Out:=fun v402=>rec (T0 a1 v402)
noncomputable def X0_0 (K:KT Out) (a1:Arg):(Unit)->Option Out:=fun z=>K (.exit 0) ({ n:=40,sl:=[(0,.val (.slc tRecord) a1.1),(2,.box tRun (ownMd tRun) [] ((0:Int),([]:List UInt8),())),(3,.own (.slc u8) (ownMd (.slc u8)) [] ([]:List UInt8))],vr:=[],lent:=[] })
noncomputable def b0 (self:Int->Option Out) (e0:(Unit)->Option Out) (a1:Arg) (v402:Int):Option Out:=bif decide (v402 < (a1.1.length:Int)) then (if 0<=v402 then ((a1.1[v402.toNat]?).bind fun x603=>(spec_l4Fault.sem (x603,())).bind fun r604=>bif !decide (r604.1=(0:Int)) then (some ((r604.1,([]:List UInt8),()),())) else self (w64 (v402+(1:Int)))) else none) else e0 ()
noncomputable abbrev B0 (_:Nat):=b0
theorem B0_eq (k:Nat) (rec:RT Out) (K:KT Out) (a1:Arg) (v402:Int):D.N k [1,1,0,1,0,0] (T0 a1 v402) (loopC rec (keepF [0,2,3,4] []) K)=b0 (S0 rec a1) (X0_0 K a1) a1 v402:=by kernel_rfl
noncomputable def T1 (a1:Arg) (v1006:(List UInt8)×Int):St:={ n:=40,sl:=[(0,.val (.slc tRecord) a1.1),(2,.box tRun (ownMd tRun) [] ((0:Int),([]:List UInt8),())),(3,.own (.slc u8) (ownMd (.slc u8)) [] v1006.1),(6,.val i64 v1006.2)],vr:=[],lent:=[] }
noncomputable def b1 (self:((List UInt8)×Int)->Option Out) (e2:(List UInt8)->Option Out) (a1:Arg) (v1006:(List UInt8)×Int):Option Out:=bif decide (v1006.2 < (a1.1.length:Int)) then (if 0<=v1006.2 then ((a1.1[v1006.2.toNat]?).bind fun x1207=>(spec_l4Pack.sem (x1207,())).bind fun r1208=>if v1006.1.length+r1208.1.length<=CAP then (self (v1006.1++r1208.1,w64 (v1006.2+(1:Int)))) else none) else none) else e2 v1006.1
noncomputable abbrev B1 (_:Nat):=b1
noncomputable def q1 (a1:Arg) (z1209:(List UInt8)):Option Out:=bif decide ((16000:Int) < (z1209.length:Int)) then (some (((2:Int),([]:List UInt8),()),())) else some (((0:Int),z1209,()),())
noncomputable abbrev Q1 (_:Nat):=q1
noncomputable def s1 (k:Nat) (a1:Arg):((List UInt8)×Int)->Option Out:=fun v1006=>D.L k [1,1,1,0,1,0,0] [0,2,3,6] [] (blockC 2 (seqC (D.N k [1,1,1,1]) D.K0)) (T1 a1 v1006)
noncomputable def r1 (k:Nat) (a1:Arg):((List UInt8)×Int)->Option Out:=rawIter (fun w v=>B1 k w (Q1 k a1) a1 v) k
theorem s1_eq (k:Nat) (a1:Arg):s1 k a1=r1 k a1:=
 funext fun v1006=>iter_raw _ _ _ (T1 a1) _ (fun rec v=>by kernel_rfl) k v1006
noncomputable def q0 (l1:((List UInt8)×Int)->Option Out) (a1:Arg) (z605:(Unit)):Option Out:=l1 (([]:List UInt8),(0:Int))
noncomputable def Q0 (k:Nat) (a1:Arg) (z605:(Unit)):Option Out:=q0 (r1 k a1) a1 z605
theorem Q0_eq (k:Nat) (a1:Arg) (z605:(Unit)):X0_0 (blockC 0 (seqC (D.N k [1,1,1]) D.K0)) a1 z605=Q0 k a1 z605:=
 Eq.trans (b:=q0 (s1 k a1) a1 z605) (by kernel_rfl) (by rw[s1_eq];rfl)
noncomputable def s0 (k:Nat) (a1:Arg):(Int)->Option Out:=fun v402=>D.L k [1,1,0,1,0,0] [0,2,3,4] [] (blockC 0 (seqC (D.N k [1,1,1]) D.K0)) (T0 a1 v402)
noncomputable def r0 (k:Nat) (a1:Arg):(Int)->Option Out:=rawIter (fun w v=>B0 k w (Q0 k a1) a1 v) k
theorem s0_eq (k:Nat) (a1:Arg):s0 k a1=r0 k a1:=by
 funext v402;
 have h0:X0_0 (blockC 0 (seqC (D.N k [1,1,1]) D.K0)) a1=Q0 k a1:=funext fun z=>Q0_eq k a1 z
 refine (iter_raw _ _ _ (T0 a1) (fun self v=>B0 k self (X0_0 (blockC 0 (seqC (D.N k [1,1,1]) D.K0)) a1) a1 v) (fun rec v=>B0_eq k rec (blockC 0 (seqC (D.N k [1,1,1]) D.K0)) a1 v) k v402).trans ?_
 rw[h0]
 rfl
noncomputable def p (l0:(Int)->Option Out) (a1:Arg):Option Out:=l0 (0:Int)
theorem raw_eq (k:Nat) (a1:Arg):@Eq (Option Out) (D.W k a1) (p (r0 k a1) a1):=
 Eq.trans (b:=p (s0 k a1) a1) (by kernel_rfl) (by rw[s0_eq])
theorem ok:Ok prog 8 D.sig:=fd_ok func8 tlOk (by kernel_rfl) (fc spec_l4Fault.ok (fc spec_l4Pack.ok (fn_nil _)))
end spec_PackAll
namespace impl_copied
abbrev Arg:Type:=(List UInt8)×Unit
abbrev Out:Type:=(List UInt8)×Unit
abbrev ps:PQ:=[(.ro,(.slc u8))]
noncomputable def D:FD:={ fn:=f92,tl:=TL0,ps:=ps,rs:=[((.slc u8),(ownMd (.slc u8)))] }
noncomputable def sem (a:Arg):Option Out:=@lift Out fun k=>D.W k a
noncomputable def p (a1:Arg):Option Out:=if ([]:List UInt8).length+a1.1.length<=CAP then (some (([]:List UInt8)++a1.1,())) else none
theorem raw_eq (k:Nat) (a1:Arg):@Eq (Option Out) (D.W k a1) (p a1):=by kernel_rfl
theorem ok:Ok prog 92 D.sig:=fd_ok func92 tlOk (by kernel_rfl) (fn_nil _)
end impl_copied
namespace slices_Equal_byte
abbrev Arg:Type:=(List UInt8)×(List UInt8)×Unit
abbrev Out:Type:=Bool×Unit
abbrev ps:PQ:=[(.ro,(.slc u8)),(.ro,(.slc u8))]
noncomputable def D:FD:={ fn:=f98,tl:=TL0,ps:=ps,rs:=[(.bool,(roMd .bool))],lv:=[(4,[0,1,12,13])],lx:=[(0,[])],od:=[(6,[0,1,2,3,4,5,6,7,8])] }
noncomputable def sem (a:Arg):Option Out:=@lift Out fun k=>D.W k a
noncomputable def T0 (a1:Arg) (v402:Int):St:={ n:=26,sl:=[(0,.val (.slc u8) a1.1),(1,.val (.slc u8) a1.2.1),(12,.val i64 (a1.1.length:Int)),(13,.val i64 v402)],vr:=[],lent:=[] }
noncomputable def b0 (self:Int->Option Out) (e0:(Unit)->Option Out) (a1:Arg) (v402:Int):Option Out:=bif decide (v402 < (a1.1.length:Int)) then (if 0<=v402 then ((a1.1[v402.toNat]?).bind fun x603=>if 0<=v402 then ((a1.2.1[v402.toNat]?).bind fun x604=>bif !decide ((x603.toNat:Int)=(x604.toNat:Int)) then (some (false,())) else self (w64 (v402+(1:Int)))) else none) else none) else e0 ()
noncomputable abbrev B0 (_:Nat):=b0
noncomputable def q0 (a1:Arg) (z605:(Unit)):Option Out:=some (true,())
noncomputable abbrev Q0 (_:Nat):=q0
noncomputable def s0 (k:Nat) (a1:Arg):(Int)->Option Out:=fun v402=>D.L k [1,1,0,1,0,0] [0,1,12,13] [] (blockC 0 (seqC (D.N k [1,1,1]) D.K0)) (T0 a1 v402)
noncomputable def r0 (k:Nat) (a1:Arg):(Int)->Option Out:=rawIter (fun w v=>B0 k w (Q0 k a1) a1 v) k
theorem s0_eq (k:Nat) (a1:Arg):s0 k a1=r0 k a1:=
 funext fun v402=>iter_raw _ _ _ (T0 a1) _ (fun rec v=>by kernel_rfl) k v402
noncomputable def p (l0:(Int)->Option Out) (a1:Arg):Option Out:=bif !decide ((a1.1.length:Int)=(a1.2.1.length:Int)) then (some (false,())) else l0 (0:Int)
theorem raw_eq (k:Nat) (a1:Arg):@Eq (Option Out) (D.W k a1) (p (r0 k a1) a1):=
 Eq.trans (b:=p (s0 k a1) a1) (by kernel_rfl) (by rw[s0_eq])
theorem ok:Ok prog 98 D.sig:=fd_ok func98 tlOk (by kernel_rfl) (fn_nil _)
end slices_Equal_byte
namespace impl_read
abbrev Arg:Type:=(List UInt8)×Unit
abbrev Out:Type:=Record×Int×Unit
abbrev ps:PQ:=[(.ro,(.slc u8))]
noncomputable def D:FD:={ fn:=f89,tl:=TL0,ps:=ps,rs:=[(tRecord,(ownMd tRecord)),(i64,(roMd i64))],gl:=[(34,impl_RecordFault.D.sig),(35,impl_packed.D.sig),(92,impl_copied.D.sig),(98,slices_Equal_byte.D.sig)],lv:=[(7,[2,4,5,6,7,52,53])],lx:=[(0,[2,4,5,6,7])],od:=[(4,[0,1,2,3,4,5,6,7,8,9,10,11,12,13,14]),(11,[0,1,2,3,4,5,6,7,8,9,10,11,12,13,14,15,16,17,18,19,20])] }
noncomputable def sem (a:Arg):Option Out:=@lift Out fun k=>D.W k a
noncomputable def T0 (a1:Arg) (c410:List UInt8) (c411:Int) (c412:Int) (v409:Record×Int×Int):St:={ n:=123,sl:=[(2,.box tRecord (ownMd tRecord) [] ((0:Int),(0:Int),(0:Int),([]:List Run),())),(4,.val (.slc u8) c410),(5,.box tRecord (ownMd tRecord) [] v409.1),(6,.val i64 v409.2.1),(7,.val i64 c411),(52,.val i64 c412),(53,.val i64 v409.2.2)],vr:=[],lent:=[] }
noncomputable def b0 (self:(Record×Int×Int)->Option Out) (e0:(Record×Int)->Option Out) (a1:Arg) (c410:List UInt8) (c411:Int) (c412:Int) (v409:Record×Int×Int):Option Out:=bif decide (v409.2.2 < c412) then (bif decide (c411 < w64 (v409.2.1+(2:Int))) then (some (((0:Int),(0:Int),(0:Int),([]:List Run),()),(0:Int),())) else if 0<=w64 (v409.2.1+(1:Int)) then ((c410[(w64 (v409.2.1+(1:Int))).toNat]?).bind fun x613=>bif decide (c411 < w64 ((w64 (v409.2.1+(2:Int)))+(w64 (x613.toNat:Int)))) then (some (((0:Int),(0:Int),(0:Int),([]:List Run),()),(0:Int),())) else if 0<=w64 (v409.2.1+(1:Int)) then ((c410[(w64 (v409.2.1+(1:Int))).toNat]?).bind fun x614=>if 0<=v409.2.1 then ((c410[v409.2.1.toNat]?).bind fun x615=>if 0<=w64 (v409.2.1+(2:Int))/\w64 (v409.2.1+(2:Int))<=w64 ((w64 (v409.2.1+(2:Int)))+(w64 (x614.toNat:Int)))/\w64 ((w64 (v409.2.1+(2:Int)))+(w64 (x614.toNat:Int)))<=(c410.length:Int) then ((impl_copied.sem ((c410.take (w64 ((w64 (v409.2.1+(2:Int)))+(w64 (x614.toNat:Int)))).toNat).drop (w64 (v409.2.1+(2:Int))).toNat,())).bind fun r616=>if v409.1.2.2.2.1.length+[(w64 (x615.toNat:Int),r616.1,())].length<=CAP then (let y617:=v409.1.2.2.2.1++[(w64 (x615.toNat:Int),r616.1,())];self ((v409.1.1,v409.1.2.1,v409.1.2.2.1,y617,v409.1.2.2.2.2),w64 (v409.2.1+(w64 ((2:Int)+(w64 (x614.toNat:Int))))),w64 (v409.2.2+(1:Int)))) else none) else none) else none) else none) else none) else e0 (v409.1,v409.2.1)
noncomputable abbrev B0 (_:Nat):=b0
noncomputable def q0 (a1:Arg) (c410:List UInt8) (c411:Int) (c412:Int) (z618:(Record×Int)):Option Out:=bif !decide (z618.2=c411) then (some (((0:Int),(0:Int),(0:Int),([]:List Run),()),(0:Int),())) else (impl_RecordFault.sem (z618.1,())).bind fun r619=>bif !decide (r619.1=(0:Int)) then (some (((0:Int),(0:Int),(0:Int),([]:List Run),()),(0:Int),())) else (impl_packed.sem (z618.1,())).bind fun r620=>(slices_Equal_byte.sem (r620.1,c410,())).bind fun r621=>bif !r621.1 then (some (((0:Int),(0:Int),(0:Int),([]:List Run),()),(0:Int),())) else some (z618.1,(c410.length:Int),())
noncomputable abbrev Q0 (_:Nat):=q0
noncomputable def s0 (k:Nat) (a1:Arg):(List UInt8)->Int->Int->(Record×Int×Int)->Option Out:=fun c410 c411 c412=>fun v409=>D.L k [1,1,1,1,1,0,1,0,0] [2,4,5,6,7,52,53] [] (blockC 0 (seqC (D.N k [1,1,1,1,1,1]) D.K0)) (T0 a1 c410 c411 c412 v409)
noncomputable def r0 (k:Nat) (a1:Arg):(List UInt8)->Int->Int->(Record×Int×Int)->Option Out:=fun c410 c411 c412=>rawIter (fun w v=>B0 k w (Q0 k a1 c410 c411 c412) a1 c410 c411 c412 v) k
theorem s0_eq (k:Nat) (a1:Arg):s0 k a1=r0 k a1:=
 funext fun c410=>funext fun c411=>funext fun c412=>funext fun v409=>iter_raw _ _ _ (T0 a1 c410 c411 c412) _ (fun rec v=>by kernel_rfl) k v409
noncomputable def p (l0:(List UInt8)->Int->Int->(Record×Int×Int)->Option Out) (a1:Arg):Option Out:=bif decide ((a1.1.length:Int) < (7:Int)) then (some (((0:Int),(0:Int),(0:Int),([]:List Run),()),(0:Int),())) else (a1.1[0]?).bind fun x2=>bif decide ((a1.1.length:Int) < w64 (x2.toNat:Int)) then (some (((0:Int),(0:Int),(0:Int),([]:List Run),()),(0:Int),())) else (a1.1[0]?).bind fun x3=>bif decide ((x3.toNat:Int) < (7:Int)) then (some (((0:Int),(0:Int),(0:Int),([]:List Run),()),(0:Int),())) else (a1.1[0]?).bind fun x4=>if 0<=(x4.toNat:Int)/\(x4.toNat:Int)<=(a1.1.length:Int) then ((((a1.1.take (x4.toNat:Int).toNat).drop 0)[1]?).bind fun x5=>(((a1.1.take (x4.toNat:Int).toNat).drop 0)[2]?).bind fun x6=>(((a1.1.take (x4.toNat:Int).toNat).drop 0)[3]?).bind fun x7=>(((a1.1.take (x4.toNat:Int).toNat).drop 0)[4]?).bind fun x8=>l0 ((a1.1.take (x4.toNat:Int).toNat).drop 0) (w64 ((((a1.1.take (x4.toNat:Int).toNat).drop 0).length:Int) - (2:Int))) (w64 (x8.toNat:Int)) ((w64 (x5.toNat:Int),w64 (x6.toNat:Int),w64 (x7.toNat:Int),([]:List Run),()),(5:Int),(0:Int))) else none
theorem raw_eq (k:Nat) (a1:Arg):@Eq (Option Out) (D.W k a1) (p (r0 k a1) a1):=
 Eq.trans (b:=p (s0 k a1) a1) (by kernel_rfl) (by rw[s0_eq])
theorem ok:Ok prog 89 D.sig:=fd_ok func89 tlOk (by kernel_rfl) (fc impl_RecordFault.ok (fc impl_packed.ok (fc impl_copied.ok (fc slices_Equal_byte.ok (fn_nil _)))))
end impl_read
namespace impl_readAll
abbrev Arg:Type:=(List UInt8)×Unit
abbrev Out:Type:=(List Record)×Int×Unit
abbrev ps:PQ:=[(.ro,(.slc u8))]
noncomputable def D:FD:={ fn:=f38,tl:=TL0,ps:=ps,rs:=[((.slc tRecord),(ownMd (.slc tRecord))),(i64,(roMd i64))],gl:=[(89,impl_read.D.sig)],lv:=[(3,[0,4,5])] }
noncomputable def sem (a:Arg):Option Out:=@lift Out fun k=>D.W k a
noncomputable def T0 (a1:Arg) (v402:(List Record)×Int):St:={ n:=26,sl:=[(0,.val (.slc u8) a1.1),(4,.own (.slc tRecord) (ownMd (.slc tRecord)) [] v402.1),(5,.val i64 v402.2)],vr:=[],lent:=[] }
noncomputable def b0 (self:((List Record)×Int)->Option Out) (a1:Arg) (v402:(List Record)×Int):Option Out:=if 0<=v402.2/\v402.2<=(a1.1.length:Int) then ((impl_read.sem ((a1.1.take a1.1.length).drop v402.2.toNat,())).bind fun r603=>bif decide (r603.2.1=(0:Int)) then (some (v402.1,v402.2,())) else if v402.1.length+[r603.1].length<=CAP then (self (v402.1++[r603.1],w64 (v402.2+r603.2.1))) else none) else none
noncomputable abbrev B0 (_:Nat):=b0
noncomputable def s0 (k:Nat) (a1:Arg):((List Record)×Int)->Option Out:=fun v402=>D.L k [1,1,1,0,0] [0,4,5] [] (blockC 0 D.K0) (T0 a1 v402)
noncomputable def r0 (k:Nat) (a1:Arg):((List Record)×Int)->Option Out:=rawIter (fun w v=>B0 k w a1 v) k
theorem s0_eq (k:Nat) (a1:Arg):s0 k a1=r0 k a1:=
 funext fun v402=>iter_raw _ _ _ (T0 a1) _ (fun rec v=>by kernel_rfl) k v402
noncomputable def p (l0:((List Record)×Int)->Option Out) (a1:Arg):Option Out:=l0 (([]:List Record),(0:Int))
theorem raw_eq (k:Nat) (a1:Arg):@Eq (Option Out) (D.W k a1) (p (r0 k a1) a1):=
 Eq.trans (b:=p (s0 k a1) a1) (by kernel_rfl) (by rw[s0_eq])
theorem ok:Ok prog 38 D.sig:=fd_ok func38 tlOk (by kernel_rfl) (fc impl_read.ok (fn_nil _))
end impl_readAll
namespace impl_ReadLog
abbrev Arg:Type:=(List UInt8)×Unit
abbrev Out:Type:=RecordsResult×Unit
abbrev ps:PQ:=[(.ro,(.slc u8))]
noncomputable def D:FD:={ fn:=f9,tl:=TL0,ps:=ps,rs:=[(tRecordsResult,(ownMd tRecordsResult))],gl:=[(38,impl_readAll.D.sig)] }
noncomputable def sem (a:Arg):Option Out:=@lift Out fun k=>D.W k a
noncomputable def p (a1:Arg):Option Out:=bif decide ((16000:Int) < (a1.1.length:Int)) then (some (((2:Int),(0:Int),([]:List Record),()),())) else (impl_readAll.sem (a1.1,())).bind fun r2=>some (((0:Int),r2.2.1,r2.1,()),())
theorem raw_eq (k:Nat) (a1:Arg):@Eq (Option Out) (D.W k a1) (p a1):=by kernel_rfl
theorem ok:Ok prog 9 D.sig:=fd_ok func9 tlOk (by kernel_rfl) (fc impl_readAll.ok (fn_nil _))
end impl_ReadLog
namespace spec_l5Copy
abbrev Arg:Type:=Log×Unit
abbrev Out:Type:=Log×Unit
abbrev ps:PQ:=[(.ro,tLog)]
noncomputable def D:FD:={ fn:=f94,tl:=TL0,ps:=ps,rs:=[(tLog,(ownMd tLog))],gl:=[(124,spec_l2Copy.D.sig)],od:=[(1,[0,1,3,4,2,5,6,7])] }
noncomputable def sem (a:Arg):Option Out:=@lift Out fun k=>D.W k a
noncomputable def p (a1:Arg):Option Out:=(spec_l2Copy.sem (a1.1.1,())).bind fun r2=>(spec_l2Copy.sem (a1.1.2.1,())).bind fun r3=>some ((r2.1,r3.1,()),())
theorem raw_eq (k:Nat) (a1:Arg):@Eq (Option Out) (D.W k a1) (p a1):=by kernel_rfl
theorem ok:Ok prog 94 D.sig:=fd_ok func94 tlOk (by kernel_rfl) (fc spec_l2Copy.ok (fn_nil _))
end spec_l5Copy
namespace spec_l5Append
abbrev Arg:Type:=Log×Record×Unit
abbrev Out:Type:=Log×Bool×Unit
abbrev ps:PQ:=[(.ro,tLog),(.ro,(.ptr tRecord))]
noncomputable def D:FD:={ fn:=f44,tl:=TL0,ps:=ps,rs:=[(tLog,(roMd tLog)),(.bool,(roMd .bool))],gl:=[(37,spec_l4Pack.D.sig),(94,spec_l5Copy.D.sig)] }
noncomputable def sem (a:Arg):Option Out:=@lift Out fun k=>D.W k a
noncomputable def p (a1:Arg):Option Out:=(spec_l4Pack.sem (a1.2.1,())).bind fun r2=>bif decide ((16000:Int) < w64 ((w64 ((a1.1.1.length:Int)+(a1.1.2.1.length:Int)))+(r2.1.length:Int))) then (some (a1.1,false,())) else (spec_l5Copy.sem (a1.1,())).bind fun r3=>if r3.1.2.1.length+r2.1.length<=CAP then (some ((r3.1.1,r3.1.2.1++r2.1,r3.1.2.2),true,())) else none
theorem raw_eq (k:Nat) (a1:Arg):@Eq (Option Out) (D.W k a1) (p a1):=by kernel_rfl
theorem ok:Ok prog 44 D.sig:=fd_ok func44 tlOk (by kernel_rfl) (fc spec_l4Pack.ok (fc spec_l5Copy.ok (fn_nil _)))
end spec_l5Append
namespace spec_l5Append_v
abbrev Arg:Type:=Log×Record×Unit
abbrev Out:Type:=Log×Bool×Unit
abbrev ps:PQ:=[(.eatv (ownMd tLog),tLog),(.ro,(.ptr tRecord))]
noncomputable def D:FD:={ fn:=f44,tl:=TL0,ps:=ps,rs:=[(tLog,(ownMd tLog)),(.bool,(roMd .bool))],gl:=[(37,spec_l4Pack.D.sig),(94,spec_l5Copy.D.sig)] }
noncomputable def sem (a:Arg):Option Out:=@lift Out fun k=>D.W k a
noncomputable def p (a1:Arg):Option Out:=(spec_l4Pack.sem (a1.2.1,())).bind fun r2=>bif decide ((16000:Int) < w64 ((w64 ((a1.1.1.length:Int)+(a1.1.2.1.length:Int)))+(r2.1.length:Int))) then (some (a1.1,false,())) else (spec_l5Copy.sem (a1.1,())).bind fun r3=>if r3.1.2.1.length+r2.1.length<=CAP then (some ((r3.1.1,r3.1.2.1++r2.1,r3.1.2.2),true,())) else none
theorem raw_eq (k:Nat) (a1:Arg):@Eq (Option Out) (D.W k a1) (p a1):=by kernel_rfl
theorem ok:Ok prog 44 D.sig:=fd_ok func44 tlOk (by kernel_rfl) (fc spec_l4Pack.ok (fc spec_l5Copy.ok (fn_nil _)))
end spec_l5Append_v
namespace spec_l5Sync
abbrev Arg:Type:=Log×Unit
abbrev Out:Type:=Log×Unit
abbrev ps:PQ:=[(.ro,tLog)]
noncomputable def D:FD:={ fn:=f126,tl:=TL0,ps:=ps,rs:=[(tLog,(ownMd tLog))],gl:=[(124,spec_l2Copy.D.sig)],od:=[(1,[0,1,3,4,2,5,6,7])] }
noncomputable def sem (a:Arg):Option Out:=@lift Out fun k=>D.W k a
noncomputable def p (a1:Arg):Option Out:=(spec_l2Copy.sem (a1.1.1,())).bind fun r2=>if r2.1.length+a1.1.2.1.length<=CAP then (some ((r2.1++a1.1.2.1,([]:List UInt8),()),())) else none
theorem raw_eq (k:Nat) (a1:Arg):@Eq (Option Out) (D.W k a1) (p a1):=by kernel_rfl
theorem ok:Ok prog 126 D.sig:=fd_ok func126 tlOk (by kernel_rfl) (fc spec_l2Copy.ok (fn_nil _))
end spec_l5Sync
namespace spec_l5Right
abbrev Arg:Type:=L1Src×Unit
abbrev Out:Type:=Log×L1Src×Unit
abbrev ps:PQ:=[(.mutp (roMd tL1Src),tL1Src)]
noncomputable def D:FD:={ fn:=f90,tl:=TL0,ps:=ps,rs:=[(tLog,(ownMd tLog))],gl:=[(30,spec_l1Next.D.sig),(31,spec_l4Draw.D.sig),(32,spec_l1Chance.D.sig),(44,spec_l5Append_v.D.sig),(126,spec_l5Sync.D.sig)],es:=[0],lv:=[(3,[0,2,3,4])],lx:=[(0,[0,2,3])] }
noncomputable def sem (a:Arg):Option Out:=@lift Out fun k=>D.W k a
noncomputable def T0 (a1:Arg) (v403:L1Src×Log×Int):St:={ n:=25,sl:=[(0,.box tL1Src (roMd tL1Src) [] v403.1),(2,.box tLog (ownMd tLog) [] (([]:List UInt8),([]:List UInt8),())),(3,.box tLog (ownMd tLog) [] v403.2.1),(4,.val i64 v403.2.2)],vr:=[],lent:=[(0,0,false)] }
noncomputable def b0 (self:(L1Src×Log×Int)->Option Out) (e0:(L1Src×Log)->Option Out) (a1:Arg) (v403:L1Src×Log×Int):Option Out:=bif decide ((0:Int) < v403.2.2) then ((spec_l4Draw.sem (v403.1,())).bind fun r604=>(spec_l5Append_v.sem (v403.2.1,r604.1,())).bind fun r605=>(spec_l1Chance.sem (r604.2.1,(3:Int),())).bind fun r606=>bif r606.1 then ((spec_l5Sync.sem (r605.1,())).bind fun r607=>self (r606.2.1,r607.1,w64 (v403.2.2 - (1:Int)))) else self (r606.2.1,r605.1,w64 (v403.2.2 - (1:Int)))) else e0 (v403.1,v403.2.1)
noncomputable abbrev B0 (_:Nat):=b0
noncomputable def q0 (a1:Arg) (z608:(L1Src×Log)):Option Out:=some (z608.2,z608.1,())
noncomputable abbrev Q0 (_:Nat):=q0
noncomputable def s0 (k:Nat) (a1:Arg):(L1Src×Log×Int)->Option Out:=fun v403=>D.L k [1,1,0,1,0,0] [0,2,3,4] [] (blockC 0 (seqC (D.N k [1,1,1]) D.K0)) (T0 a1 v403)
noncomputable def r0 (k:Nat) (a1:Arg):(L1Src×Log×Int)->Option Out:=rawIter (fun w v=>B0 k w (Q0 k a1) a1 v) k
theorem s0_eq (k:Nat) (a1:Arg):s0 k a1=r0 k a1:=
 funext fun v403=>iter_raw _ _ _ (T0 a1) _ (fun rec v=>by kernel_rfl) k v403
noncomputable def p (l0:(L1Src×Log×Int)->Option Out) (a1:Arg):Option Out:=(spec_l1Next.sem (a1.1,(7:Int),())).bind fun r2=>l0 (r2.2.1,(([]:List UInt8),([]:List UInt8),()),r2.1)
theorem raw_eq (k:Nat) (a1:Arg):@Eq (Option Out) (D.W k a1) (p (r0 k a1) a1):=
 Eq.trans (b:=p (s0 k a1) a1) (by kernel_rfl) (by rw[s0_eq])
theorem ok:Ok prog 90 D.sig:=fd_ok func90 tlOk (by kernel_rfl) (fc spec_l1Next.ok (fc spec_l4Draw.ok (fc spec_l1Chance.ok (fc spec_l5Append_v.ok (fc spec_l5Sync.ok (fn_nil _))))))
end spec_l5Right
namespace spec_l5Bent
abbrev Arg:Type:=L1Src×Unit
abbrev Out:Type:=Log×L1Src×Unit
abbrev ps:PQ:=[(.mutp (roMd tL1Src),tL1Src)]
noncomputable def D:FD:={ fn:=f39,tl:=TL0,ps:=ps,rs:=[(tLog,(ownMd tLog))],gl:=[(30,spec_l1Next.D.sig),(90,spec_l5Right.D.sig)],es:=[0] }
noncomputable def sem (a:Arg):Option Out:=@lift Out fun k=>D.W k a
noncomputable def p (a1:Arg):Option Out:=(spec_l5Right.sem (a1.1,())).bind fun r2=>(spec_l1Next.sem (r2.2.1,(12:Int),())).bind fun r3=>bif decide (r3.1=(0:Int)) then (if r2.1.1.length+[(9:UInt8)].length<=CAP then (some ((r2.1.1++[(9:UInt8)],r2.1.2),r3.2.1,())) else none) else bif decide (r3.1=(1:Int)) then (if r2.1.2.1.length+[(7:UInt8),(1:UInt8)].length<=CAP then (some ((r2.1.1,r2.1.2.1++[(7:UInt8),(1:UInt8)],r2.1.2.2),r3.2.1,())) else none) else bif decide (r3.1=(2:Int)) then (if 0<=(16001:Int)/\(16001:Int)<=(16001:Int)/\(16001:Int)<=(CAP:Int) then (some ((r2.1.1,List.replicate 16001 (0:UInt8),r2.1.2.2),r3.2.1,())) else none) else some (r2.1,r3.2.1,())
theorem raw_eq (k:Nat) (a1:Arg):@Eq (Option Out) (D.W k a1) (p a1):=by kernel_rfl
theorem ok:Ok prog 39 D.sig:=fd_ok func39 tlOk (by kernel_rfl) (fc spec_l1Next.ok (fc spec_l5Right.ok (fn_nil _)))
end spec_l5Bent
namespace spec_DrawAppendLog
abbrev Arg:Type:=(List UInt8)×Unit
abbrev Out:Type:=Log×Record×Unit
abbrev ps:PQ:=[(.ro,(.slc u8))]
noncomputable def D:FD:={ fn:=f10,tl:=TL0,ps:=ps,rs:=[(tLog,(ownMd tLog)),(tRecord,(ownMd tRecord))],gl:=[(29,spec_l1Source.D.sig),(33,spec_l4Bent.D.sig),(39,spec_l5Bent.D.sig)] }
noncomputable def sem (a:Arg):Option Out:=@lift Out fun k=>D.W k a
noncomputable def p (a1:Arg):Option Out:=(spec_l1Source.sem (a1.1,())).bind fun r2=>(spec_l5Bent.sem (r2.1,())).bind fun r3=>(spec_l4Bent.sem (r3.2.1,())).bind fun r4=>some (r3.1,r4.1,())
theorem raw_eq (k:Nat) (a1:Arg):@Eq (Option Out) (D.W k a1) (p a1):=by kernel_rfl
theorem ok:Ok prog 10 D.sig:=fd_ok func10 tlOk (by kernel_rfl) (fc spec_l1Source.ok (fc spec_l4Bent.ok (fc spec_l5Bent.ok (fn_nil _))))
end spec_DrawAppendLog
namespace impl_Log_size
abbrev Arg:Type:=Log×Unit
abbrev Out:Type:=Int×Unit
abbrev ps:PQ:=[(.ro,tLog)]
noncomputable def D:FD:={ fn:=f91,tl:=TL0,ps:=ps,rs:=[(i64,(roMd i64))] }
noncomputable def sem (a:Arg):Option Out:=@lift Out fun k=>D.W k a
noncomputable def p (a1:Arg):Option Out:=some (w64 ((a1.1.1.length:Int)+(a1.1.2.1.length:Int)),())
theorem raw_eq (k:Nat) (a1:Arg):@Eq (Option Out) (D.W k a1) (p a1):=by kernel_rfl
theorem ok:Ok prog 91 D.sig:=fd_ok func91 tlOk (by kernel_rfl) (fn_nil _)
end impl_Log_size
namespace impl_LogFault
abbrev Arg:Type:=Log×Unit
abbrev Out:Type:=Int×Unit
abbrev ps:PQ:=[(.ro,tLog)]
noncomputable def D:FD:={ fn:=f40,tl:=TL0,ps:=ps,rs:=[(i64,(roMd i64))],gl:=[(38,impl_readAll.D.sig),(91,impl_Log_size.D.sig)],lv:=[(4,[14,15,16])],lx:=[(0,[])] }
noncomputable def sem (a:Arg):Option Out:=@lift Out fun k=>D.W k a
noncomputable def T0 (a1:Arg) (v403:Int):St:={ n:=30,sl:=[(14,.own (.slc (.slc u8)) (.slc true (roMd (.slc u8))) [] [a1.1.1,a1.1.2.1]),(15,.val i64 ([a1.1.1,a1.1.2.1].length:Int)),(16,.val i64 v403)],vr:=[],lent:=[] }
noncomputable def b0 (self:Int->Option Out) (e0:(Unit)->Option Out) (a1:Arg) (v403:Int):Option Out:=bif decide (v403 < ([a1.1.1,a1.1.2.1].length:Int)) then (if 0<=v403/\v403 < ([a1.1.1,a1.1.2.1].length:Int) then (([a1.1.1,a1.1.2.1][v403.toNat]?).bind fun x604=>(impl_readAll.sem (x604,())).bind fun r605=>bif !decide (r605.2.1=(x604.length:Int)) then (some ((5:Int),())) else self (w64 (v403+(1:Int)))) else none) else e0 ()
noncomputable abbrev B0 (_:Nat):=b0
noncomputable def q0 (a1:Arg) (z606:(Unit)):Option Out:=some ((0:Int),())
noncomputable abbrev Q0 (_:Nat):=q0
noncomputable def s0 (k:Nat) (a1:Arg):(Int)->Option Out:=fun v403=>D.L k [1,1,0,1,0,0] [14,15,16] [] (blockC 0 (seqC (D.N k [1,1,1]) D.K0)) (T0 a1 v403)
noncomputable def r0 (k:Nat) (a1:Arg):(Int)->Option Out:=rawIter (fun w v=>B0 k w (Q0 k a1) a1 v) k
theorem s0_eq (k:Nat) (a1:Arg):s0 k a1=r0 k a1:=
 funext fun v403=>iter_raw _ _ _ (T0 a1) _ (fun rec v=>by kernel_rfl) k v403
noncomputable def p (l0:(Int)->Option Out) (a1:Arg):Option Out:=(impl_Log_size.sem (a1.1,())).bind fun r2=>bif decide ((16000:Int) < r2.1) then (some ((2:Int),())) else l0 (0:Int)
theorem raw_eq (k:Nat) (a1:Arg):@Eq (Option Out) (D.W k a1) (p (r0 k a1) a1):=
 Eq.trans (b:=p (s0 k a1) a1) (by kernel_rfl) (by rw[s0_eq])
theorem ok:Ok prog 40 D.sig:=fd_ok func40 tlOk (by kernel_rfl) (fc impl_readAll.ok (fc impl_Log_size.ok (fn_nil _)))
end impl_LogFault
namespace impl_Log_appended
abbrev Arg:Type:=Log×Record×Unit
abbrev Out:Type:=Log×Bool×Unit
abbrev ps:PQ:=[(.ro,tLog),(.ro,tRecord)]
noncomputable def D:FD:={ fn:=f41,tl:=TL0,ps:=ps,rs:=[(tLog,(roMd tLog)),(.bool,(roMd .bool))],gl:=[(35,impl_packed.D.sig),(91,impl_Log_size.D.sig),(92,impl_copied.D.sig)],od:=[(4,[0,1,2,3,5,4,6,7,8,9])],ar:=[(4,[1,3])],bx:=[(4,[2])] }
noncomputable def sem (a:Arg):Option Out:=@lift Out fun k=>D.W k a
noncomputable def p (a1:Arg):Option Out:=(impl_packed.sem (a1.2.1,())).bind fun r2=>(impl_Log_size.sem (a1.1,())).bind fun r3=>bif decide ((16000:Int) < w64 (r3.1+(r2.1.length:Int))) then (some (a1.1,false,())) else (impl_copied.sem (a1.1.2.1,())).bind fun r4=>if r4.1.length+r2.1.length<=CAP then (some ((a1.1.1,r4.1++r2.1,()),true,())) else none
theorem raw_eq (k:Nat) (a1:Arg):@Eq (Option Out) (D.W k a1) (p a1):=by kernel_rfl
theorem ok:Ok prog 41 D.sig:=fd_ok func41 tlOk (by kernel_rfl) (fc impl_packed.ok (fc impl_Log_size.ok (fc impl_copied.ok (fn_nil _))))
end impl_Log_appended
namespace impl_Log_own
abbrev Arg:Type:=Log×Unit
abbrev Out:Type:=Log×Unit
abbrev ps:PQ:=[(.ro,tLog)]
noncomputable def D:FD:={ fn:=f42,tl:=TL0,ps:=ps,rs:=[(tLog,(ownMd tLog))],gl:=[(92,impl_copied.D.sig)],od:=[(1,[0,1,3,4,2,5,6,7])] }
noncomputable def sem (a:Arg):Option Out:=@lift Out fun k=>D.W k a
noncomputable def p (a1:Arg):Option Out:=(impl_copied.sem (a1.1.1,())).bind fun r2=>(impl_copied.sem (a1.1.2.1,())).bind fun r3=>some ((r2.1,r3.1,()),())
theorem raw_eq (k:Nat) (a1:Arg):@Eq (Option Out) (D.W k a1) (p a1):=by kernel_rfl
theorem ok:Ok prog 42 D.sig:=fd_ok func42 tlOk (by kernel_rfl) (fc impl_copied.ok (fn_nil _))
end impl_Log_own
namespace impl_AppendLog
abbrev Arg:Type:=Log×Record×Unit
abbrev Out:Type:=LogResult×Unit
abbrev ps:PQ:=[(.ro,tLog),(.ro,tRecord)]
noncomputable def D:FD:={ fn:=f11,tl:=TL0,ps:=ps,rs:=[(tLogResult,(ownMd tLogResult))],gl:=[(34,impl_RecordFault.D.sig),(40,impl_LogFault.D.sig),(41,impl_Log_appended.D.sig),(42,impl_Log_own.D.sig)] }
noncomputable def sem (a:Arg):Option Out:=@lift Out fun k=>D.W k a
noncomputable def p (a1:Arg):Option Out:=(impl_LogFault.sem (a1.1,())).bind fun r2=>bif !decide (r2.1=(0:Int)) then (some ((r2.1,(([]:List UInt8),([]:List UInt8),()),()),())) else (impl_RecordFault.sem (a1.2.1,())).bind fun r3=>bif !decide (r3.1=(0:Int)) then (some ((r3.1,(([]:List UInt8),([]:List UInt8),()),()),())) else (impl_Log_appended.sem (a1.1,a1.2.1,())).bind fun r4=>bif !r4.2.1 then (some (((9:Int),(([]:List UInt8),([]:List UInt8),()),()),())) else (impl_Log_own.sem (r4.1,())).bind fun r5=>some (((0:Int),r5.1,()),())
theorem raw_eq (k:Nat) (a1:Arg):@Eq (Option Out) (D.W k a1) (p a1):=by kernel_rfl
theorem ok:Ok prog 11 D.sig:=fd_ok func11 tlOk (by kernel_rfl) (fc impl_RecordFault.ok (fc impl_LogFault.ok (fc impl_Log_appended.ok (fc impl_Log_own.ok (fn_nil _)))))
end impl_AppendLog
namespace spec_l4Read
abbrev Arg:Type:=(List UInt8)×Unit
abbrev Out:Type:=Record×Unit
abbrev ps:PQ:=[(.ro,(.slc u8))]
noncomputable def D:FD:={ fn:=f151,tl:=TL0,ps:=ps,rs:=[(tRecord,(ownMd tRecord))],gl:=[(124,spec_l2Copy.D.sig)],lv:=[(4,[0,2,3,4,5])],lx:=[(0,[2,3])],od:=[(1,[0,1,2,3,4,5,6,7,8,9,10,11,12,13,14]),(8,[0,1,2,3,4,5,6,7,8,9,10,11,12,13,14,15,16,17,18,19,20])] }
noncomputable def sem (a:Arg):Option Out:=@lift Out fun k=>D.W k a
noncomputable def T0 (a1:Arg) (v405:Record×Int×Int):St:={ n:=73,sl:=[(0,.val (.slc u8) a1.1),(2,.box tRecord (ownMd tRecord) [] ((0:Int),(0:Int),(0:Int),([]:List Run),())),(3,.box tRecord (ownMd tRecord) [] v405.1),(4,.val i64 v405.2.1),(5,.val i64 v405.2.2)],vr:=[],lent:=[] }
noncomputable def b0 (self:(Record×Int×Int)->Option Out) (e0:Record->Option Out) (a1:Arg) (v405:Record×Int×Int):Option Out:=(a1.1[4]?).bind fun x606=>bif decide (v405.2.2 < w64 (x606.toNat:Int)) then (bif decide (w64 (v405.2.1+(2:Int))<=(a1.1.length:Int)) then (if 0<=w64 (v405.2.1+(1:Int)) then ((a1.1[(w64 (v405.2.1+(1:Int))).toNat]?).bind fun x607=>bif decide ((a1.1.length:Int) < w64 ((w64 (v405.2.1+(2:Int)))+(w64 (x607.toNat:Int)))) then (e0 v405.1) else if 0<=v405.2.1 then ((a1.1[v405.2.1.toNat]?).bind fun x608=>if 0<=w64 (v405.2.1+(2:Int))/\w64 (v405.2.1+(2:Int))<=w64 ((w64 (v405.2.1+(2:Int)))+(w64 (x607.toNat:Int)))/\w64 ((w64 (v405.2.1+(2:Int)))+(w64 (x607.toNat:Int)))<=(a1.1.length:Int) then ((spec_l2Copy.sem ((a1.1.take (w64 ((w64 (v405.2.1+(2:Int)))+(w64 (x607.toNat:Int)))).toNat).drop (w64 (v405.2.1+(2:Int))).toNat,())).bind fun r609=>if v405.1.2.2.2.1.length+[(w64 (x608.toNat:Int),r609.1,())].length<=CAP then (let y610:=v405.1.2.2.2.1++[(w64 (x608.toNat:Int),r609.1,())];self ((v405.1.1,v405.1.2.1,v405.1.2.2.1,y610,v405.1.2.2.2.2),w64 ((w64 (v405.2.1+(2:Int)))+(w64 (x607.toNat:Int))),w64 (v405.2.2+(1:Int)))) else none) else none) else none) else none) else e0 v405.1) else e0 v405.1
noncomputable abbrev B0 (_:Nat):=b0
noncomputable def q0 (a1:Arg) (z611:Record):Option Out:=some (z611,())
noncomputable abbrev Q0 (_:Nat):=q0
noncomputable def s0 (k:Nat) (a1:Arg):(Record×Int×Int)->Option Out:=fun v405=>D.L k [1,1,1,0,1,0,0] [0,2,3,4,5] [] (blockC 0 (seqC (D.N k [1,1,1,1]) D.K0)) (T0 a1 v405)
noncomputable def r0 (k:Nat) (a1:Arg):(Record×Int×Int)->Option Out:=rawIter (fun w v=>B0 k w (Q0 k a1) a1 v) k
theorem s0_eq (k:Nat) (a1:Arg):s0 k a1=r0 k a1:=
 funext fun v405=>iter_raw _ _ _ (T0 a1) _ (fun rec v=>by kernel_rfl) k v405
noncomputable def p (l0:(Record×Int×Int)->Option Out) (a1:Arg):Option Out:=(a1.1[1]?).bind fun x2=>(a1.1[2]?).bind fun x3=>(a1.1[3]?).bind fun x4=>l0 ((w64 (x2.toNat:Int),w64 (x3.toNat:Int),w64 (x4.toNat:Int),([]:List Run),()),(5:Int),(0:Int))
theorem raw_eq (k:Nat) (a1:Arg):@Eq (Option Out) (D.W k a1) (p (r0 k a1) a1):=
 Eq.trans (b:=p (s0 k a1) a1) (by kernel_rfl) (by rw[s0_eq])
theorem ok:Ok prog 151 D.sig:=fd_ok func151 tlOk (by kernel_rfl) (fc spec_l2Copy.ok (fn_nil _))
end spec_l4Read
namespace spec_ReadRecord
abbrev Arg:Type:=(List UInt8)×Unit
abbrev Out:Type:=RecordResult×Unit
abbrev ps:PQ:=[(.ro,(.slc u8))]
noncomputable def D:FD:={ fn:=f127,tl:=TL0,ps:=ps,rs:=[(tRecordResult,(ownMd tRecordResult))],gl:=[(36,spec_l4Fault.D.sig),(37,spec_l4Pack.D.sig),(151,spec_l4Read.D.sig)],od:=[(5,[0,1,2,5,6,7,8,3,4,9,10])],ar:=[(5,[8])] }
noncomputable def sem (a:Arg):Option Out:=@lift Out fun k=>D.W k a
noncomputable def p (a1:Arg):Option Out:=bif decide ((a1.1.length:Int) < (7:Int)) then (some (((5:Int),(0:Int),((0:Int),(0:Int),(0:Int),([]:List Run),()),()),())) else (a1.1[0]?).bind fun x2=>bif decide (w64 (x2.toNat:Int) < (7:Int)) then (some (((5:Int),(0:Int),((0:Int),(0:Int),(0:Int),([]:List Run),()),()),())) else (a1.1[0]?).bind fun x3=>bif decide ((a1.1.length:Int) < w64 (x3.toNat:Int)) then (some (((5:Int),(0:Int),((0:Int),(0:Int),(0:Int),([]:List Run),()),()),())) else (a1.1[0]?).bind fun x4=>if 0<=w64 (x4.toNat:Int)/\w64 (x4.toNat:Int)<=(a1.1.length:Int) then ((spec_l4Read.sem ((a1.1.take (w64 (x4.toNat:Int)).toNat).drop 0,())).bind fun r5=>(spec_l4Fault.sem (r5.1,())).bind fun r6=>bif !decide (r6.1=(0:Int)) then (some (((5:Int),(0:Int),((0:Int),(0:Int),(0:Int),([]:List Run),()),()),())) else if 0<=w64 (x4.toNat:Int)/\w64 (x4.toNat:Int)<=(a1.1.length:Int) then ((spec_l4Pack.sem (r5.1,())).bind fun r7=>bif !decide (r7.1=(a1.1.take (w64 (x4.toNat:Int)).toNat).drop 0) then (some (((5:Int),(0:Int),((0:Int),(0:Int),(0:Int),([]:List Run),()),()),())) else some (((0:Int),w64 (x4.toNat:Int),r5.1,()),())) else none) else none
theorem raw_eq (k:Nat) (a1:Arg):@Eq (Option Out) (D.W k a1) (p a1):=by kernel_rfl
theorem ok:Ok prog 127 D.sig:=fd_ok func127 tlOk (by kernel_rfl) (fc spec_l4Fault.ok (fc spec_l4Pack.ok (fc spec_l4Read.ok (fn_nil _))))
end spec_ReadRecord
namespace spec_l5Read
abbrev Arg:Type:=(List UInt8)×Unit
abbrev Out:Type:=(List Record)×Int×Unit
abbrev ps:PQ:=[(.ro,(.slc u8))]
noncomputable def D:FD:={ fn:=f93,tl:=TL0,ps:=ps,rs:=[((.slc tRecord),(ownMd (.slc tRecord))),(i64,(roMd i64))],gl:=[(127,spec_ReadRecord.D.sig)],lv:=[(3,[0,4,5])],lx:=[(0,[4,5])] }
noncomputable def sem (a:Arg):Option Out:=@lift Out fun k=>D.W k a
noncomputable def T0 (a1:Arg) (v402:(List Record)×Int):St:={ n:=30,sl:=[(0,.val (.slc u8) a1.1),(4,.own (.slc tRecord) (ownMd (.slc tRecord)) [] v402.1),(5,.val i64 v402.2)],vr:=[],lent:=[] }
noncomputable def b0 (self:((List Record)×Int)->Option Out) (e0:((List Record)×Int)->Option Out) (a1:Arg) (v402:(List Record)×Int):Option Out:=bif decide (v402.2 < (a1.1.length:Int)) then (if 0<=v402.2/\v402.2<=(a1.1.length:Int) then ((spec_ReadRecord.sem ((a1.1.take a1.1.length).drop v402.2.toNat,())).bind fun r603=>bif !decide (r603.1.1=(0:Int)) then (e0 (v402.1,v402.2)) else if v402.1.length+[r603.1.2.2.1].length<=CAP then (self (v402.1++[r603.1.2.2.1],w64 (v402.2+r603.1.2.1))) else none) else none) else e0 (v402.1,v402.2)
noncomputable abbrev B0 (_:Nat):=b0
noncomputable def q0 (a1:Arg) (z604:((List Record)×Int)):Option Out:=some (z604.1,z604.2,())
noncomputable abbrev Q0 (_:Nat):=q0
noncomputable def s0 (k:Nat) (a1:Arg):((List Record)×Int)->Option Out:=fun v402=>D.L k [1,1,1,0,0,0] [0,4,5] [] (blockC 0 (seqC (D.N k [1,1,1,1]) D.K0)) (T0 a1 v402)
noncomputable def r0 (k:Nat) (a1:Arg):((List Record)×Int)->Option Out:=rawIter (fun w v=>B0 k w (Q0 k a1) a1 v) k
theorem s0_eq (k:Nat) (a1:Arg):s0 k a1=r0 k a1:=
 funext fun v402=>iter_raw _ _ _ (T0 a1) _ (fun rec v=>by kernel_rfl) k v402
noncomputable def p (l0:((List Record)×Int)->Option Out) (a1:Arg):Option Out:=l0 (([]:List Record),(0:Int))
theorem raw_eq (k:Nat) (a1:Arg):@Eq (Option Out) (D.W k a1) (p (r0 k a1) a1):=
 Eq.trans (b:=p (s0 k a1) a1) (by kernel_rfl) (by rw[s0_eq])
theorem ok:Ok prog 93 D.sig:=fd_ok func93 tlOk (by kernel_rfl) (fc spec_ReadRecord.ok (fn_nil _))
end spec_l5Read
namespace spec_l5Fault
abbrev Arg:Type:=Log×Unit
abbrev Out:Type:=Int×Unit
abbrev ps:PQ:=[(.ro,(.ptr tLog))]
noncomputable def D:FD:={ fn:=f43,tl:=TL0,ps:=ps,rs:=[(i64,(roMd i64))],gl:=[(93,spec_l5Read.D.sig)],od:=[(1,[0,1,2,3,4,5,6,7,8,9,10,11])] }
noncomputable def sem (a:Arg):Option Out:=@lift Out fun k=>D.W k a
noncomputable def p (a1:Arg):Option Out:=bif decide ((16000:Int) < w64 ((a1.1.1.length:Int)+(a1.1.2.1.length:Int))) then (some ((2:Int),())) else (spec_l5Read.sem (a1.1.1,())).bind fun r2=>bif !decide (r2.2.1=(a1.1.1.length:Int)) then (some ((5:Int),())) else (spec_l5Read.sem (a1.1.2.1,())).bind fun r3=>bif !decide (r3.2.1=(a1.1.2.1.length:Int)) then (some ((5:Int),())) else some ((0:Int),())
theorem raw_eq (k:Nat) (a1:Arg):@Eq (Option Out) (D.W k a1) (p a1):=by kernel_rfl
theorem ok:Ok prog 43 D.sig:=fd_ok func43 tlOk (by kernel_rfl) (fc spec_l5Read.ok (fn_nil _))
end spec_l5Fault
namespace spec_AppendLog
abbrev Arg:Type:=Log×Record×Unit
abbrev Out:Type:=LogResult×Unit
abbrev ps:PQ:=[(.ro,tLog),(.ro,tRecord)]
noncomputable def D:FD:={ fn:=f12,tl:=TL0,ps:=ps,rs:=[(tLogResult,(roMd tLogResult))],gl:=[(36,spec_l4Fault.D.sig),(43,spec_l5Fault.D.sig),(44,spec_l5Append.D.sig)] }
noncomputable def sem (a:Arg):Option Out:=@lift Out fun k=>D.W k a
noncomputable def p (a1:Arg):Option Out:=(spec_l5Fault.sem (a1.1,())).bind fun r2=>bif !decide (r2.1=(0:Int)) then (some ((r2.1,(([]:List UInt8),([]:List UInt8),()),()),())) else (spec_l4Fault.sem (a1.2.1,())).bind fun r3=>bif !decide (r3.1=(0:Int)) then (some ((r3.1,(([]:List UInt8),([]:List UInt8),()),()),())) else (spec_l5Append.sem (a1.1,a1.2.1,())).bind fun r4=>bif !r4.2.1 then (some (((9:Int),(([]:List UInt8),([]:List UInt8),()),()),())) else some (((0:Int),r4.1,()),())
theorem raw_eq (k:Nat) (a1:Arg):@Eq (Option Out) (D.W k a1) (p a1):=by kernel_rfl
theorem ok:Ok prog 12 D.sig:=fd_ok func12 tlOk (by kernel_rfl) (fc spec_l4Fault.ok (fc spec_l5Fault.ok (fc spec_l5Append.ok (fn_nil _))))
end spec_AppendLog
namespace impl_Log_all
abbrev Arg:Type:=Log×Unit
abbrev Out:Type:=(List UInt8)×Unit
abbrev ps:PQ:=[(.ro,tLog)]
noncomputable def D:FD:={ fn:=f95,tl:=TL0,ps:=ps,rs:=[((.slc u8),(ownMd (.slc u8)))],gl:=[(92,impl_copied.D.sig)],od:=[(1,[0,1,3,4,2,5,6])] }
noncomputable def sem (a:Arg):Option Out:=@lift Out fun k=>D.W k a
noncomputable def p (a1:Arg):Option Out:=(impl_copied.sem (a1.1.1,())).bind fun r2=>if r2.1.length+a1.1.2.1.length<=CAP then (some (r2.1++a1.1.2.1,())) else none
theorem raw_eq (k:Nat) (a1:Arg):@Eq (Option Out) (D.W k a1) (p a1):=by kernel_rfl
theorem ok:Ok prog 95 D.sig:=fd_ok func95 tlOk (by kernel_rfl) (fc impl_copied.ok (fn_nil _))
end impl_Log_all
namespace impl_Log_synced
abbrev Arg:Type:=Log×Unit
abbrev Out:Type:=Log×Unit
abbrev ps:PQ:=[(.ro,tLog)]
noncomputable def D:FD:={ fn:=f45,tl:=TL0,ps:=ps,rs:=[(tLog,(ownMd tLog))],gl:=[(95,impl_Log_all.D.sig)] }
noncomputable def sem (a:Arg):Option Out:=@lift Out fun k=>D.W k a
noncomputable def p (a1:Arg):Option Out:=(impl_Log_all.sem (a1.1,())).bind fun r2=>some ((r2.1,([]:List UInt8),()),())
theorem raw_eq (k:Nat) (a1:Arg):@Eq (Option Out) (D.W k a1) (p a1):=by kernel_rfl
theorem ok:Ok prog 45 D.sig:=fd_ok func45 tlOk (by kernel_rfl) (fc impl_Log_all.ok (fn_nil _))
end impl_Log_synced
namespace impl_SyncLog
abbrev Arg:Type:=Log×Unit
abbrev Out:Type:=LogResult×Unit
abbrev ps:PQ:=[(.ro,tLog)]
noncomputable def D:FD:={ fn:=f13,tl:=TL0,ps:=ps,rs:=[(tLogResult,(ownMd tLogResult))],gl:=[(40,impl_LogFault.D.sig),(45,impl_Log_synced.D.sig)] }
noncomputable def sem (a:Arg):Option Out:=@lift Out fun k=>D.W k a
noncomputable def p (a1:Arg):Option Out:=(impl_LogFault.sem (a1.1,())).bind fun r2=>bif !decide (r2.1=(0:Int)) then (some ((r2.1,(([]:List UInt8),([]:List UInt8),()),()),())) else (impl_Log_synced.sem (a1.1,())).bind fun r3=>some (((0:Int),r3.1,()),())
theorem raw_eq (k:Nat) (a1:Arg):@Eq (Option Out) (D.W k a1) (p a1):=by kernel_rfl
theorem ok:Ok prog 13 D.sig:=fd_ok func13 tlOk (by kernel_rfl) (fc impl_LogFault.ok (fc impl_Log_synced.ok (fn_nil _)))
end impl_SyncLog
namespace impl_sameRuns_1
abbrev Arg:Type:=Run×Run×Unit
abbrev Out:Type:=Bool×Unit
abbrev ps:PQ:=[(.ro,tRun),(.ro,tRun)]
noncomputable def D:FD:={ fn:=f97,tl:=TL0,ps:=ps,rs:=[(.bool,(roMd .bool))],gl:=[(98,slices_Equal_byte.D.sig)] }
noncomputable def sem (a:Arg):Option Out:=@lift Out fun k=>D.W k a
noncomputable def p (a1:Arg):Option Out:=bif decide (a1.1.1=a1.2.1.1) then ((slices_Equal_byte.sem (a1.1.2.1,a1.2.1.2.1,())).bind fun r2=>some (r2.1,())) else some (false,())
theorem raw_eq (k:Nat) (a1:Arg):@Eq (Option Out) (D.W k a1) (p a1):=by kernel_rfl
theorem ok:Ok prog 97 D.sig:=fd_ok func97 tlOk (by kernel_rfl) (fc slices_Equal_byte.ok (fn_nil _))
end impl_sameRuns_1
namespace slices_EqualFunc_Run
abbrev Arg:Type:=(List Run)×(List Run)×(Nat×Int)×Unit
abbrev Out:Type:=Bool×Unit
abbrev ps:PQ:=[(.ro,(.slc tRun)),(.ro,(.slc tRun)),(.fix 97,.fn)]
noncomputable def D:FD:={ fn:=f96,tl:=TL0,ps:=ps,rs:=[(.bool,(roMd .bool))],gl:=[(97,impl_sameRuns_1.D.sig)],lv:=[(4,[1,2,15,16,17])],lx:=[(0,[])] }
noncomputable def sem (a:Arg):Option Out:=@lift Out fun k=>D.W k a
noncomputable def T0 (a1:Arg) (v402:Int):St:={ n:=32,sl:=[(1,.val (.slc tRun) a1.2.1),(2,.val .fn ((97,a1.2.2.1.2):Nat×Int)),(15,.val (.slc tRun) a1.1),(16,.val i64 (a1.1.length:Int)),(17,.val i64 v402)],vr:=[],lent:=[] }
noncomputable def b0 (self:Int->Option Out) (e0:(Unit)->Option Out) (a1:Arg) (v402:Int):Option Out:=bif decide (v402 < (a1.1.length:Int)) then (if 0<=v402 then ((a1.1[v402.toNat]?).bind fun x603=>if 0<=v402 then ((a1.2.1[v402.toNat]?).bind fun x604=>(impl_sameRuns_1.sem (x603,x604,())).bind fun r605=>bif !r605.1 then (some (false,())) else self (w64 (v402+(1:Int)))) else none) else none) else e0 ()
noncomputable abbrev B0 (_:Nat):=b0
noncomputable def q0 (a1:Arg) (z606:(Unit)):Option Out:=some (true,())
noncomputable abbrev Q0 (_:Nat):=q0
noncomputable def s0 (k:Nat) (a1:Arg):(Int)->Option Out:=fun v402=>D.L k [1,1,0,1,0,0] [1,2,15,16,17] [] (blockC 0 (seqC (D.N k [1,1,1]) D.K0)) (T0 a1 v402)
noncomputable def r0 (k:Nat) (a1:Arg):(Int)->Option Out:=rawIter (fun w v=>B0 k w (Q0 k a1) a1 v) k
theorem s0_eq (k:Nat) (a1:Arg):s0 k a1=r0 k a1:=
 funext fun v402=>iter_raw _ _ _ (T0 a1) _ (fun rec v=>by kernel_rfl) k v402
noncomputable def p (l0:(Int)->Option Out) (a1:Arg):Option Out:=bif !decide ((a1.1.length:Int)=(a1.2.1.length:Int)) then (some (false,())) else l0 (0:Int)
theorem raw_eq (k:Nat) (a1:Arg):@Eq (Option Out) (D.W k a1) (p (r0 k a1) a1):=
 Eq.trans (b:=p (s0 k a1) a1) (by kernel_rfl) (by rw[s0_eq])
theorem ok:Ok prog 96 D.sig:=fd_ok func96 tlOk (by kernel_rfl) (fc impl_sameRuns_1.ok (fn_nil _))
end slices_EqualFunc_Run
namespace impl_sameRuns
abbrev Arg:Type:=(List Run)×(List Run)×Unit
abbrev Out:Type:=Bool×Unit
abbrev ps:PQ:=[(.ro,(.slc tRun)),(.ro,(.slc tRun))]
noncomputable def D:FD:={ fn:=f48,tl:=TL0,ps:=ps,rs:=[(.bool,(roMd .bool))],gl:=[(96,slices_EqualFunc_Run.D.sig)] }
noncomputable def sem (a:Arg):Option Out:=@lift Out fun k=>D.W k a
noncomputable def p (a1:Arg):Option Out:=(slices_EqualFunc_Run.sem (a1.1,a1.2.1,((97,0):Nat×Int),())).bind fun r2=>some (r2.1,())
theorem raw_eq (k:Nat) (a1:Arg):@Eq (Option Out) (D.W k a1) (p a1):=by kernel_rfl
theorem ok:Ok prog 48 D.sig:=fd_ok func48 tlOk (by kernel_rfl) (fc slices_EqualFunc_Run.ok (fn_nil _))
end impl_sameRuns
namespace impl_SameRecords_1
abbrev Arg:Type:=Record×Record×Unit
abbrev Out:Type:=Bool×Unit
abbrev ps:PQ:=[(.ro,tRecord),(.ro,tRecord)]
noncomputable def D:FD:={ fn:=f47,tl:=TL0,ps:=ps,rs:=[(.bool,(roMd .bool))],gl:=[(48,impl_sameRuns.D.sig)] }
noncomputable def sem (a:Arg):Option Out:=@lift Out fun k=>D.W k a
noncomputable def p (a1:Arg):Option Out:=bif decide (a1.1.1=a1.2.1.1) then (bif decide (a1.1.2.1=a1.2.1.2.1) then (bif decide (a1.1.2.2.1=a1.2.1.2.2.1) then ((impl_sameRuns.sem (a1.1.2.2.2.1,a1.2.1.2.2.2.1,())).bind fun r2=>some (r2.1,())) else some (false,())) else some (false,())) else some (false,())
theorem raw_eq (k:Nat) (a1:Arg):@Eq (Option Out) (D.W k a1) (p a1):=by kernel_rfl
theorem ok:Ok prog 47 D.sig:=fd_ok func47 tlOk (by kernel_rfl) (fc impl_sameRuns.ok (fn_nil _))
end impl_SameRecords_1
namespace slices_EqualFunc_Record
abbrev Arg:Type:=(List Record)×(List Record)×(Nat×Int)×Unit
abbrev Out:Type:=Bool×Unit
abbrev ps:PQ:=[(.ro,(.slc tRecord)),(.ro,(.slc tRecord)),(.fix 47,.fn)]
noncomputable def D:FD:={ fn:=f46,tl:=TL0,ps:=ps,rs:=[(.bool,(roMd .bool))],gl:=[(47,impl_SameRecords_1.D.sig)],lv:=[(4,[1,2,15,16,17])],lx:=[(0,[])] }
noncomputable def sem (a:Arg):Option Out:=@lift Out fun k=>D.W k a
noncomputable def T0 (a1:Arg) (v402:Int):St:={ n:=32,sl:=[(1,.val (.slc tRecord) a1.2.1),(2,.val .fn ((47,a1.2.2.1.2):Nat×Int)),(15,.val (.slc tRecord) a1.1),(16,.val i64 (a1.1.length:Int)),(17,.val i64 v402)],vr:=[],lent:=[] }
noncomputable def b0 (self:Int->Option Out) (e0:(Unit)->Option Out) (a1:Arg) (v402:Int):Option Out:=bif decide (v402 < (a1.1.length:Int)) then (if 0<=v402 then ((a1.1[v402.toNat]?).bind fun x603=>if 0<=v402 then ((a1.2.1[v402.toNat]?).bind fun x604=>(impl_SameRecords_1.sem (x603,x604,())).bind fun r605=>bif !r605.1 then (some (false,())) else self (w64 (v402+(1:Int)))) else none) else none) else e0 ()
noncomputable abbrev B0 (_:Nat):=b0
noncomputable def q0 (a1:Arg) (z606:(Unit)):Option Out:=some (true,())
noncomputable abbrev Q0 (_:Nat):=q0
noncomputable def s0 (k:Nat) (a1:Arg):(Int)->Option Out:=fun v402=>D.L k [1,1,0,1,0,0] [1,2,15,16,17] [] (blockC 0 (seqC (D.N k [1,1,1]) D.K0)) (T0 a1 v402)
noncomputable def r0 (k:Nat) (a1:Arg):(Int)->Option Out:=rawIter (fun w v=>B0 k w (Q0 k a1) a1 v) k
theorem s0_eq (k:Nat) (a1:Arg):s0 k a1=r0 k a1:=
 funext fun v402=>iter_raw _ _ _ (T0 a1) _ (fun rec v=>by kernel_rfl) k v402
noncomputable def p (l0:(Int)->Option Out) (a1:Arg):Option Out:=bif !decide ((a1.1.length:Int)=(a1.2.1.length:Int)) then (some (false,())) else l0 (0:Int)
theorem raw_eq (k:Nat) (a1:Arg):@Eq (Option Out) (D.W k a1) (p (r0 k a1) a1):=
 Eq.trans (b:=p (s0 k a1) a1) (by kernel_rfl) (by rw[s0_eq])
theorem ok:Ok prog 46 D.sig:=fd_ok func46 tlOk (by kernel_rfl) (fc impl_SameRecords_1.ok (fn_nil _))
end slices_EqualFunc_Record
namespace impl_SameRecords
abbrev Arg:Type:=(List Record)×(List Record)×Unit
abbrev Out:Type:=Bool×Unit
abbrev ps:PQ:=[(.ro,(.slc tRecord)),(.ro,(.slc tRecord))]
noncomputable def D:FD:={ fn:=f14,tl:=TL0,ps:=ps,rs:=[(.bool,(roMd .bool))],gl:=[(46,slices_EqualFunc_Record.D.sig)] }
noncomputable def sem (a:Arg):Option Out:=@lift Out fun k=>D.W k a
noncomputable def p (a1:Arg):Option Out:=(slices_EqualFunc_Record.sem (a1.1,a1.2.1,((47,0):Nat×Int),())).bind fun r2=>some (r2.1,())
theorem raw_eq (k:Nat) (a1:Arg):@Eq (Option Out) (D.W k a1) (p a1):=by kernel_rfl
theorem ok:Ok prog 14 D.sig:=fd_ok func14 tlOk (by kernel_rfl) (fc slices_EqualFunc_Record.ok (fn_nil _))
end impl_SameRecords
namespace laws_FnLogs
abbrev Arg:Type:=(List UInt8)×Unit
abbrev Out:Type:=Bool×Unit
abbrev ps:PQ:=[(.ro,(.slc u8))]
noncomputable def D:FD:={ fn:=f3,tl:=TL0,ps:=ps,rs:=[(.bool,(roMd .bool))],gl:=[(5,laws_lwBig.D.sig),(6,spec_DrawPackAll.D.sig),(7,impl_PackAll.D.sig),(8,spec_PackAll.D.sig),(9,impl_ReadLog.D.sig),(10,spec_DrawAppendLog.D.sig),(11,impl_AppendLog.D.sig),(12,spec_AppendLog.D.sig),(13,impl_SyncLog.D.sig),(14,impl_SameRecords.D.sig)],od:=[(6,[0,3,4,1,2,5,6]),(10,[0,1,2,3,4,5,6]),(13,[1,2,4,5,0,3,6,7,8,9]),(14,[1,2,3,5,6,7,0,4,8,9,10,11]),(17,[0,1,2,3,4,5,6,7,8,9,10,11,12,13,14,15,16,17,18,19,20,21,22,23,24,25,26,27,28,29,30,31,32,33,34,35,36,40,41,37,38,39,42,43])],ar:=[(13,[2,5]),(14,[3,7]),(17,[1,8,12,18,21,29,36])],bx:=[(13,[6]),(14,[8]),(17,[7,9,10,12])],pd:=[(13,[0,8]),(14,[0,10])] }
noncomputable def sem (a:Arg):Option Out:=@lift Out fun k=>D.W k a
noncomputable def p (a1:Arg):Option Out:=(laws_lwBig.sem (a1.1,())).bind fun r2=>bif r2.1 then (some (true,())) else (spec_DrawPackAll.sem (a1.1,())).bind fun r3=>(impl_PackAll.sem (r3.1,())).bind fun r4=>bif !decide (r4.1.1=(0:Int)) then ((spec_PackAll.sem (r3.1,())).bind fun r5=>some (decide (r5.1.1=r4.1.1),())) else (impl_ReadLog.sem (r4.1.2.1,())).bind fun r6=>(spec_DrawAppendLog.sem (a1.1,())).bind fun r7=>(impl_AppendLog.sem (r7.1,r7.2.1,())).bind fun r8=>(spec_AppendLog.sem (r7.1,r7.2.1,())).bind fun r9=>bif !decide (r8.1.1=r9.1.1) then (some (false,())) else let j19:Option Out:=bif decide (r6.1.1=(0:Int)) then (bif decide (r6.1.2.1=(r4.1.2.1.length:Int)) then ((impl_SameRecords.sem (r6.1.2.2.1,r3.1,())).bind fun r20=>bif r20.1 then (some (decide ((r6.1.2.2.1.length:Int)=(r3.1.length:Int)),())) else some (false,())) else some (false,())) else some (false,());bif decide (r8.1.1=(0:Int)) then (if ([]:List UInt8).length+r7.1.1.length<=CAP then (if (([]:List UInt8)++r7.1.1).length+r7.1.2.1.length<=CAP then (let y10:=(([]:List UInt8)++r7.1.1)++r7.1.2.1;(impl_ReadLog.sem (y10,())).bind fun r11=>if ([]:List UInt8).length+r8.1.2.1.1.length<=CAP then (if (([]:List UInt8)++r8.1.2.1.1).length+r8.1.2.1.2.1.length<=CAP then (let y12:=(([]:List UInt8)++r8.1.2.1.1)++r8.1.2.1.2.1;(impl_ReadLog.sem (y12,())).bind fun r13=>(impl_SyncLog.sem (r8.1.2.1,())).bind fun r14=>bif !decide ((r13.1.2.2.1.length:Int)=w64 ((r11.1.2.2.1.length:Int)+(1:Int))) then (some (false,())) else if 0<=(r11.1.2.2.1.length:Int)/\(r11.1.2.2.1.length:Int)<=(r13.1.2.2.1.length:Int) then ((impl_SameRecords.sem ((r13.1.2.2.1.take (r11.1.2.2.1.length:Int).toNat).drop 0,r11.1.2.2.1,())).bind fun r15=>bif !r15.1 then (some (false,())) else if 0<=(r11.1.2.2.1.length:Int)/\(r11.1.2.2.1.length:Int)<=(r13.1.2.2.1.length:Int) then ((impl_SameRecords.sem ((r13.1.2.2.1.take r13.1.2.2.1.length).drop (r11.1.2.2.1.length:Int).toNat,[r7.2.1],())).bind fun r16=>bif !r16.1 then (some (false,())) else bif !decide ((r14.1.2.1.2.1.length:Int)=(0:Int)) then (some (false,())) else (impl_ReadLog.sem (r14.1.2.1.1,())).bind fun r17=>bif !decide ((r17.1.2.2.1.length:Int)=w64 ((r11.1.2.2.1.length:Int)+(1:Int))) then (some (false,())) else j19) else none) else none) else none) else none) else none) else none) else j19
theorem raw_eq (k:Nat) (a1:Arg):@Eq (Option Out) (D.W k a1) (p a1):=by kernel_rfl
theorem ok:Ok prog 3 D.sig:=fd_ok func3 tlOk (by kernel_rfl) (fc laws_lwBig.ok (fc spec_DrawPackAll.ok (fc impl_PackAll.ok (fc spec_PackAll.ok (fc impl_ReadLog.ok (fc spec_DrawAppendLog.ok (fc impl_AppendLog.ok (fc spec_AppendLog.ok (fc impl_SyncLog.ok (fc impl_SameRecords.ok (fn_nil _)))))))))))
end laws_FnLogs
end OT
set_option linter.unusedVariables false
set_option linter.unusedSimpArgs false
namespace OT
open Go
end OT
set_option linter.unusedVariables false
set_option linter.unusedSimpArgs false
namespace OT
open Go
theorem specIn_eq (a b c:Int):spec_l1In.sem (a,b,c,())=some (decide (b<=a)&&decide (a<=c),()):=by
 refine lift_eq (k:=0) fun k _=>(spec_l1In.raw_eq k _).trans ?_
 show spec_l1In.p _=_
 unfold spec_l1In.p
 by_cases h:b<=a <;> simp[h]
theorem implIn_eq (a b c:Int):impl_in.sem (a,b,c,())=some (decide (b<=a)&&decide (a<=c),()):=by
 refine lift_eq (k:=0) fun k _=>(impl_in.raw_eq k _).trans ?_
 show impl_in.p _=_
 unfold impl_in.p
 by_cases h:b<=a <;> simp[h]
theorem isTx_eq (a:Int):impl_isTx.sem (a,())=some (decide (1<=a)&&decide (a<=99),()):=by
 refine lift_eq (k:=0) fun k _=>(impl_isTx.raw_eq k _).trans ?_
 show impl_isTx.p _=_
 unfold impl_isTx.p
 simp[implIn_eq]
def inB (a b c:Int):Bool:=decide (b<=a)&&decide (a<=c)
theorem implCopied_eq (s:List UInt8) (h:s.length<=200000000000):impl_copied.sem (s,())=some (s,()):=by
 refine lift_eq (k:=0) fun k _=>(impl_copied.raw_eq k _).trans ?_
 show impl_copied.p _=_
 unfold impl_copied.p
 have:([]:List UInt8).length+s.length<=CAP:=cap_ok (by simpa using h)
 rw[if_pos this,List.nil_append]
theorem specCopy_eq (s:List UInt8) (h:s.length<=200000000000):spec_l2Copy.sem (s,())=some (s,()):=by
 refine lift_eq (k:=0) fun k _=>(spec_l2Copy.raw_eq k _).trans ?_
 show spec_l2Copy.p _=_
 unfold spec_l2Copy.p
 have:([]:List UInt8).length+s.length<=CAP:=cap_ok (by simpa using h)
 rw[if_pos this,List.nil_append]
theorem forI_fold {S O α:Type} {g:S->α->S} {fin:S->O}:∀ (xs:List α) (i:Nat) (s:S),forI (fun _ s x=>.inr (g s x)) fin i xs s=fin (xs.foldl g s)
 | [],_,_=>rfl
 | x::xs,i,s=>by simp only[forI,List.foldl_cons];exact forI_fold xs _ _
abbrev Pages:Type:=List (List UInt8)
def newF:List UInt8:=((List.replicate 64 (0:UInt8)).set 0 0).set 1 64
end OT
set_option linter.unusedVariables false
set_option linter.unusedSimpArgs false
set_option linter.unusedSectionVars false
namespace OT
open Go
def srcOk (s:L1Src) (b:Int):Prop:=List.length s.1<=1048576/\0<=s.2.1/\s.2.1<=b
theorem srcOk.mono {s:L1Src} {a b:Int} (h:srcOk s a) (hb:a<=b):srcOk s b:=⟨h.1,h.2.1,Int.le_trans h.2.2 hb⟩
theorem tmod_in {v n:Int} (hv:0<=v) (hn:1<=n):0<=v.tmod n/\v.tmod n < n:=by
 rw[Int.tmod_eq_emod_of_nonneg hv]
 exact ⟨Int.emod_nonneg _ (by omega),Int.emod_lt_of_pos _ (by omega)⟩
theorem next_ok {s:L1Src} {b n:Int} (h:srcOk s b) (hb:b<=1000000) (hn:1<=n) (hn2:n<=1000000):∃ v t,spec_l1Next.sem (s,n,())=some (v,t,())/\0<=v/\v < n/\srcOk t (b+1):=by
 obtain ⟨c,a,⟨⟩⟩:=s
 obtain ⟨hc,ha,hab⟩:=h
 replace hc:c.length<=1048576:=hc
 replace ha:0<=a:=ha
 replace hab:a<=b:=hab
 have h1:w64 (a+1)=a+1:=w64_in (by omega)
 have h2:w64 (a+1 - 1)=a:=by rw[w64_in (by omega)];omega
 suffices hs:∃ v,(0<=v/\v < n)/\spec_l1Next.p ((c,a,()),n,())=some (v,(c,a+1,()),()) by
  obtain ⟨v,hv,hp⟩:=hs
  exact ⟨v,(c,a+1,()),lift_eq (k:=0) fun k _=>(spec_l1Next.raw_eq k _).trans hp,hv.1,hv.2,hc,by show 0<=a+1;omega,by show a+1<=b+1;omega⟩
 unfold spec_l1Next.p
 have n1:¬ n < 1:=by omega
 have n0:¬ n=0:=by omega
 simp only[n1,n0,h1,h2,decide_false,cond_false,if_false]
 by_cases hl:c.length=0
 ·have e:(c.length:Int)=0:=by omega
  simp only[e,decide_true,cond_true]
  exact ⟨_,tmod_in (by rw[w64_in (by omega)];omega) hn,rfl⟩
 have e:¬ (c.length:Int)=0:=by omega
 have q0:=tmod_in (v:=a) (n:=(c.length:Int)) ha (by omega)
 have q1:=tmod_in (v:=a+1) (n:=(c.length:Int)) (by omega) (by omega)
 have i0:(a.tmod (c.length:Int)).toNat < c.length:=by omega
 have i1:((a+1).tmod (c.length:Int)).toNat < c.length:=by omega
 simp only[e,decide_false,cond_false,if_false,q0.1,q1.1,if_true,List.getElem?_eq_getElem i0,List.getElem?_eq_getElem i1,Option.bind_some]
 have hd:0<=a.tdiv (c.length:Int)/\a.tdiv (c.length:Int)<=a:=by
  rw[Int.tdiv_eq_ediv_of_nonneg ha]
  exact ⟨Int.ediv_nonneg ha (by omega),Int.ediv_le_self _ ha⟩
 have b0:(c[(a.tmod (c.length:Int)).toNat]).toNat < 256:=UInt8.toNat_lt _
 have b1:(c[((a+1).tmod (c.length:Int)).toNat]).toNat < 256:=UInt8.toNat_lt _
 generalize (c[(a.tmod (c.length:Int)).toNat]).toNat=x at b0 ⊢
 generalize (c[((a+1).tmod (c.length:Int)).toNat]).toNat=y at b1 ⊢
 generalize a.tdiv (c.length:Int)=d at hd ⊢
 have w1:w64 (x:Int)=(x:Int):=w64_in (by omega)
 have w0:w64 d=d:=w64_in (by omega)
 have w2:w64 (d*37)=d*37:=w64_in (by omega)
 have w3:w64 ((x:Int)+d*37)=(x:Int)+d*37:=w64_in (by omega)
 by_cases h200:200 < n
 ·simp only[h200,decide_true,cond_true,w0,w1,w2,w3]
  have w4:w64 (((x:Int)+d*37)*251)=((x:Int)+d*37)*251:=w64_in (by omega)
  have w5:w64 (y:Int)=(y:Int):=w64_in (by omega)
  have w6:w64 ((y:Int)*13)=(y:Int)*13:=w64_in (by omega)
  have w7:w64 (((x:Int)+d*37)*251+(y:Int)*13)=((x:Int)+d*37)*251+(y:Int)*13:=w64_in (by omega)
  have w8:w64 (((x:Int)+d*37)*251+(y:Int)*13+a)=((x:Int)+d*37)*251+(y:Int)*13+a:=w64_in (by omega)
  simp only[w4,w5,w6,w7,w8]
  exact ⟨_,tmod_in (by omega) hn,rfl⟩
 ·simp only[h200,decide_false,cond_false,w0,w1,w2,w3]
  exact ⟨_,tmod_in (by omega) hn,rfl⟩
theorem chance_ok {s:L1Src} {b n:Int} (h:srcOk s b) (hb:b<=1000000) (hn:1<=n) (hn2:n<=1000000):∃ v t,spec_l1Chance.sem (s,n,())=some (v,t,())/\srcOk t (b+1):=by
 obtain ⟨v,t,h1,_,_,h2⟩:=next_ok h hb hn hn2
 refine ⟨decide (v=0),t,lift_eq (k:=0) fun k _=>(spec_l1Chance.raw_eq k _).trans ?_,h2⟩
 unfold spec_l1Chance.p
 rw[h1]
 rfl
theorem pick_ok {s:L1Src} {b:Int} (h:srcOk s b) (hb:b<=1000000) (l:List Int) (hn:1<=l.length) (hn2:l.length<=1000000):∃ v t,spec_l1Pick.sem (s,l,())=some (v,t,())/\v ∈ l/\srcOk t (b+1):=by
 obtain ⟨v,t,h1,h2,h3,h4⟩:=next_ok (n:=(l.length:Int)) h hb (by omega) (by omega)
 have hi:v.toNat < l.length:=by omega
 refine ⟨l[v.toNat],t,lift_eq (k:=0) fun k _=>(spec_l1Pick.raw_eq k _).trans ?_,List.getElem_mem hi,h4⟩
 unfold spec_l1Pick.p
 rw[h1]
 simp only[Option.bind_some,h2,if_true,List.getElem?_eq_getElem hi]
theorem down_w {m:Nat} (h:m<=1000):w64 (((m+1:Nat):Int) - 1)=(m:Int):=by rw[w64_in (by omega)];omega
theorem down_exG {X O V:Type} (M:Int) {B:(V->Option O)->V->Option O} (enc:L1Src->X->Int->V) (I:Int->X->Prop) (d:Int) (hd:0<=d) (G:L1Src->X->Option O)
  (hin:∀ (n:Nat) (s:L1Src) (x:X) (b:Int),n<=1000->srcOk s b->b<=M->I b x->∃ s' x',srcOk s' (b+d)/\I (b+d) x'/\∀ self,B self (enc s x ((n+1:Nat):Int))=self (enc s' x' (n:Int)))
  (hout:∀ (s:L1Src) (x:X) (b:Int),srcOk s b->I b x->∀ self,B self (enc s x 0)=G s x) :
  ∀ (n:Nat) (s:L1Src) (x:X) (b:Int),n<=1000->srcOk s b->I b x->b+d*n<=M->∃ s' x',srcOk s' (b+d*n)/\I (b+d*n) x'/\∀ k,n < k->rawIter B k (enc s x (n:Int))=G s' x'
 | 0,s,x,b,_,hs,hI,_=>⟨s,x,by simpa using hs,by simpa using hI,fun k hk=>by
   obtain ⟨j,rfl⟩:∃ j,k=j+1:=⟨k - 1,by omega⟩
   rw[rawIter_succ]
   exact hout s x b hs hI _⟩
 | n+1,s,x,b,hn,hs,hI,hb=>by
  have hm:d*((n+1:Nat):Int)=d+d*(n:Int):=by rw[Int.natCast_succ,Int.mul_add,Int.mul_one,Int.add_comm]
  have hp:0<=d*(n:Int):=Int.mul_nonneg hd (by omega)
  obtain ⟨s1,x1,a1,a2,a3⟩:=hin n s x b (by omega) hs (by omega) hI
  obtain ⟨s2,x2,c1,c2,c3⟩:=down_exG M enc I d hd G hin hout n s1 x1 (b+d) (by omega) a1 a2 (by omega)
  have e:b+d*((n+1:Nat):Int)=b+d+d*(n:Int):=by omega
  refine ⟨s2,x2,e ▸ c1,e ▸ c2,fun k hk=>?_⟩
  obtain ⟨j,rfl⟩:∃ j,k=j+1:=⟨k - 1,by omega⟩
  rw[rawIter_succ,a3]
  exact c3 j (by omega)
theorem down_ex {X O V:Type} (M:Int) {B:(V->Option O)->V->Option O} (enc:L1Src->X->Int->V) (I:Int->X->Prop) (d:Int) (hd:0<=d) (fin:L1Src->X->O)
  (hin:∀ (n:Nat) (s:L1Src) (x:X) (b:Int),n<=1000->srcOk s b->b<=M->I b x->∃ s' x',srcOk s' (b+d)/\I (b+d) x'/\∀ self,B self (enc s x ((n+1:Nat):Int))=self (enc s' x' (n:Int)))
  (hout:∀ (s:L1Src) (x:X) (b:Int),srcOk s b->I b x->∀ self,B self (enc s x 0)=some (fin s x)) (n:Nat) (s:L1Src) (x:X) (b:Int) (hn:n<=1000) (hs:srcOk s b) (hI:I b x) (hb:b+d*n<=M) :
  ∃ s' x',srcOk s' (b+d*n)/\I (b+d*n) x'/\∀ k,n < k->rawIter B k (enc s x (n:Int))=some (fin s' x'):=
 down_exG M enc I d hd (fun s x=>some (fin s x)) hin hout n s x b hn hs hI hb
theorem some_ok {s:L1Src} {b:Int} (h:srcOk s b) (hb:b<=799000) (n:Nat) (hn:n<=100):∃ l t,spec_l1Some.sem (s,(n:Int),())=some (l,t,())/\l.length=n/\srcOk t (b+n):=by
 have:=down_ex 800000 (B:=fun w v=>spec_l1Some.b0 w (spec_l1Some.q0 (s,(n:Int),())) (s,(n:Int),()) v) (fun s (l:List UInt8) i=>(s,i,l)) (fun c l=>0<=b/\(l.length:Int)=c - b) 1 (by omega) (fun s l=>(l,s,()))
  (fun m s x c hm hs hc hI=>by
   obtain ⟨v,t,e1,a1,c1,s1⟩:=next_ok (n:=256) hs (by omega) (by omega) (by omega)
   refine ⟨t,x++[UInt8.ofInt v],s1,⟨hI.1,by have:=hI.2;rw[List.length_append];simp only[List.length_cons,List.length_nil];omega⟩,fun self=>?_⟩
   unfold spec_l1Some.b0
   have hlt:(0:Int) < ((m+1:Nat):Int):=by omega
   have hw:w64 (((m+1:Nat):Int) - 1)=(m:Int):=down_w hm
   simp only[hlt,decide_true,cond_true,e1,Option.bind_some,hw]
   rw[if_pos (cap_ok (by have:=hI.1;have:=hI.2;simp only[List.length_cons,List.length_nil];omega))])
  (fun s x c _ _ self=>by
   unfold spec_l1Some.b0
   rw[decide_eq_false (Int.lt_irrefl _),cond_false]
   rfl) n s [] b (by omega) h ⟨by have:=h.2;omega,by simp⟩ (by omega)
 obtain ⟨t,l,a1,a2,a3⟩:=this
 have a2:=a2.2
 refine ⟨l,t,lift_eq (k:=n+1) fun k hk=>(spec_l1Some.raw_eq k _).trans ?_,by omega,a1.mono (by omega)⟩
 exact a3 k (by omega)
end OT
set_option linter.unusedVariables false
set_option linter.unusedSimpArgs false
namespace OT
open Go
def rl (x:Row):Prop:=List.length x.2.2.2.1<=maxLen
def cl (c:Change):Prop:=rl c.2.1/\rl c.2.2.2.1
end OT
set_option linter.unusedVariables false
set_option linter.unusedSimpArgs false
namespace OT
open Go
theorem for_loopE {V S O α:Type} {B:(V->Option O)->V->Option O} (xs:List α) (enc:S->Int->V) (f:Nat->S->α->Sum (Option O) S) (fin:S->Option O) (I:Nat->S->Prop) (hmax:xs.length<=maxLen)
  (hin:∀ (i:Nat) (hi:i < xs.length) (s:S) self,I i s->B self (enc s (i:Int))=match f i s xs[i] with | .inl o=>o | .inr s'=>self (enc s' (w64 ((i:Int)+1))))
  (hI:∀ (i:Nat) (hi:i < xs.length) (s s':S),I i s->f i s xs[i]=.inr s'->I (i+1) s')
  (hout:∀ (s:S) self,I xs.length s->B self (enc s (xs.length:Int))=fin s) (s:S) (h0:I 0 s):∀ k,xs.length < k->rawIter B k (enc s 0)=forI f fin 0 xs s:=by
 have main:∀ (m i:Nat) (s:S),xs.length - i=m->i<=xs.length->I i s->∀ k,m < k->rawIter B k (enc s (i:Int))=forI f fin i (xs.drop i) s:=by
  intro m
  induction m with
  | zero=>
   intro i s hm hi hs k hk
   have hi':i=xs.length:=by omega
   subst hi'
   cases k with
   | zero=>omega
   | succ k=>
    show B (rawIter B k) _=_
    rw[hout s _ hs]
    simp[forI]
  | succ m ih=>
   intro i s hm hi hs k hk
   have hlt:i < xs.length:=by omega
   cases k with
   | zero=>omega
   | succ k=>
    show B (rawIter B k) _=_
    rw[hin i hlt s _ hs,List.drop_eq_getElem_cons hlt]
    simp only[forI]
    cases hf:f i s xs[i] with
    | inl o=>rfl
    | inr s'=>
     have hw:w64 ((i:Int)+1)=((i+1:Nat):Int):=by rw[w64_in (by rw[maxLen_val] at hmax;omega)];omega
     simp only[hw]
     exact ih (i+1) s' (by omega) (by omega) (hI i hlt s s' hs hf) k (by omega)
 intro k hk
 simpa using main xs.length 0 s (by omega) (by omega) h0 k hk
def tl (x:Tx):Prop:=List.length x.2.1<=1048576/\List.length x.2.2.1<=1048576/\List.length x.2.2.2.1<=1048576/\∀ c ∈ x.2.1,cl c
end OT
set_option linter.unusedVariables false
set_option linter.unusedSimpArgs false
namespace OT
open Go
def pb (D:List UInt8) (i:Nat):Nat:=(D.getD i 0).toNat
theorem pb_lt (D:List UInt8) (i:Nat):pb D i < 256:=UInt8.toNat_lt _
theorem pb_get {D:List UInt8} {i:Nat} (h:i < D.length):D[i]?=some D[i]/\(D[i]).toNat=pb D i:=⟨List.getElem?_eq_getElem h,by simp[pb,h]⟩
theorem pb_set (D:List UInt8) (i j:Nat) (v:UInt8):pb (D.set i v) j=if i=j/\i < D.length then v.toNat else pb D j:=by
 unfold pb
 simp only[List.getD_eq_getElem?_getD,List.getElem?_set]
 by_cases h:i=j
 ·subst h
  by_cases h2:i < D.length
  ·simp[h2]
  ·simp[h2,List.getElem?_eq_none (Nat.le_of_not_lt h2)]
 ·simp[h]
theorem pb_over {D c:List UInt8} {a:Nat} (h:a+c.length<=D.length) (j:Nat):pb (over D a c.length c) j=if a<=j/\j < a+c.length then pb c (j - a) else pb D j:=by
 unfold pb
 simp only[List.getD_eq_getElem?_getD,over_get D c h (Nat.le_refl _)]
 split <;> rfl
theorem pb_ext {A B:List UInt8} (h:A.length=B.length) (h2:∀ j,j < A.length->pb A j=pb B j):A=B:=by
 refine List.ext_getElem h fun i h1 h3=>?_
 have:=h2 i h1
 rw[<-(pb_get h1).2,<- (pb_get h3).2] at this
 exact UInt8.toNat_inj.1 this
theorem ofNat_toNat {n:Nat} (h:n < 256):(UInt8.ofNat n).toNat=n:=by
 rw[UInt8.toNat_ofNat'];omega
theorem pb_piece (D:List UInt8) (a n j:Nat) (h:j < n):pb ((D.drop a).take n) j=pb D (a+j):=by
 unfold pb
 simp only[List.getD_eq_getElem?_getD,List.getElem?_take,h,if_true,List.getElem?_drop]
def pn (p:List UInt8):Nat:=pb p 0
def plo (p:List UInt8):Nat:=pb p 1
def pat (p:List UInt8) (i:Nat):Nat:=pb p (2+2*i)
def psz (p:List UInt8) (i:Nat):Nat:=pb p (3+2*i)
def slotB (p:List UInt8) (i:Nat):Bool:=if pat p i=0\/psz p i=0 then decide (pat p i=psz p i) else decide (plo p<=pat p i)&&decide (pat p i+psz p i<=64)
def apartP (p:List UInt8) (i k:Nat):Bool:=(decide (psz p i=0)||decide (psz p k=0))||(decide (pat p i+psz p i<=pat p k)||decide (pat p k+psz p k<=pat p i))
def pageF (p:List UInt8):Int:=
 if p.length=64 then
  if pn p<=16/\2+2*pn p<=plo p/\plo p<=64 then
   if (List.range (pn p)).all (slotB p) then
    if (List.range (pn p)).all (fun i=>(List.range i).all (apartP p i)) then
     if 0 < pn p/\psz p (pn p - 1)=0 then 8 else 0
    else 8
   else 3
  else 3
 else 1
structure PageOk (p:List UInt8):Prop where
 len:p.length=64
 n:pn p<=16
 lo:2+2*pn p<=plo p
 hi:plo p<=64
 slot:∀ i,i < pn p->psz p i≠0->plo p<=pat p i/\pat p i+psz p i<=64
 zero:∀ i,i < pn p->psz p i=0->pat p i=0
 apart:∀ i k,i < pn p->k < pn p->i≠k->psz p i≠0->psz p k≠0->pat p i+psz p i<=pat p k\/pat p k+psz p k<=pat p i
 last:0 < pn p->psz p (pn p - 1)≠0
theorem slotB_iff {p:List UInt8} {i:Nat} (hlo:2<=plo p):slotB p i=true↔(psz p i≠0->plo p<=pat p i/\pat p i+psz p i<=64)/\(psz p i=0->pat p i=0):=by
 unfold slotB
 by_cases h1:psz p i=0
 ·simp[h1]
 ·by_cases h2:pat p i=0
  ·simp[h1,h2]
   omega
  ·simp[h1,h2]
theorem apartP_iff {p:List UInt8} {i k:Nat}:apartP p i k=true↔(psz p i≠0->psz p k≠0->pat p i+psz p i<=pat p k\/pat p k+psz p k<=pat p i):=by
 unfold apartP
 by_cases h1:psz p i=0
 ·simp[h1]
 ·by_cases h2:psz p k=0
  ·simp[h2]
  ·simp[h1,h2]
theorem pageF_iff {p:List UInt8}:pageF p=0↔PageOk p:=by
 constructor
 ·intro h
  unfold pageF at h
  split at h
  ·rename_i h1
   split at h
   ·rename_i h2
    split at h
    ·rename_i h3
     split at h
     ·rename_i h4
      split at h
      ·cases h
      ·rename_i h5
       have hs:∀ i,i < pn p->(psz p i≠0->plo p<=pat p i/\pat p i+psz p i<=64)/\(psz p i=0->pat p i=0):=fun i hi=>(slotB_iff (by omega)).1 (List.all_eq_true.1 h3 i (List.mem_range.2 hi))
       have ha:∀ i k,i < pn p->k < i->psz p i≠0->psz p k≠0->pat p i+psz p i<=pat p k\/pat p k+psz p k<=pat p i:=fun i k hi hk=>apartP_iff.1 (List.all_eq_true.1 (List.all_eq_true.1 h4 i (List.mem_range.2 hi)) k (List.mem_range.2 hk))
       refine ⟨h1,h2.1,h2.2.1,h2.2.2,fun i hi=>(hs i hi).1,fun i hi=>(hs i hi).2,fun i k hi hk hik z1 z2=>?_,fun hn hz=>h5 ⟨hn,hz⟩⟩
       rcases Nat.lt_or_gt_of_ne hik with h6 | h6
       ·exact (ha k i hk h6 z2 z1).symm
       ·exact ha i k hi h6 z1 z2
     ·cases h
    ·cases h
   ·cases h
  ·cases h
 ·intro h
  unfold pageF
  rw[if_pos h.len,if_pos ⟨h.n,h.lo,h.hi⟩,if_pos,if_pos,if_neg]
  ·intro ⟨h1,h2⟩
   exact h.last h1 h2
  ·refine List.all_eq_true.2 fun i hi=>List.all_eq_true.2 fun k hk=>apartP_iff.2 ?_
   have:=List.mem_range.1 hi
   have:=List.mem_range.1 hk
   exact h.apart i k (by omega) (by omega) (by omega)
  ·exact List.all_eq_true.2 fun i hi=>(slotB_iff (by have:=h.lo;omega)).2 ⟨h.slot i (List.mem_range.1 hi),h.zero i (List.mem_range.1 hi)⟩
def cellP (p:List UInt8) (i:Nat):List UInt8:=(p.drop (pat p i)).take (psz p i)
def cellOf (p:List UInt8) (i:Nat):List UInt8:=if i < pn p then cellP p i else []
theorem cellP_len {p:List UInt8} (h:PageOk p) {i:Nat} (hi:i < pn p):(cellP p i).length=psz p i:=by
 unfold cellP
 by_cases hz:psz p i=0
 ·simp[hz]
 ·have:=h.slot i hi hz
  have:=h.len
  simp only[List.length_take,List.length_drop]
  omega
theorem cellP_pb (p:List UInt8) (i j:Nat) (h:j < psz p i):pb (cellP p i) j=pb p (pat p i+j):=pb_piece p _ _ j h
theorem cellP_eq {p q:List UInt8} {i k:Nat} (hp:(cellP p i).length=psz p i) (hq:(cellP q k).length=psz q k) (hs:psz p i=psz q k) (hb:∀ j,j < psz p i->pb p (pat p i+j)=pb q (pat q k+j)):cellP p i=cellP q k:=by
 refine pb_ext (by omega) fun j hj=>?_
 rw[cellP_pb p i j (by omega),cellP_pb q k j (by omega)]
 exact hb j (by omega)
theorem cellP_is {p c:List UInt8} {i:Nat} (hp:(cellP p i).length=psz p i) (hs:psz p i=c.length) (hb:∀ j,j < c.length->pb p (pat p i+j)=pb c j):cellP p i=c:=by
 refine pb_ext (by omega) fun j hj=>?_
 rw[cellP_pb p i j (by omega)]
 exact hb j (by omega)
def stand (p:List UInt8) (s a:Nat) (c:List UInt8):List UInt8:=((over p a c.length c).set (2+2*s) (UInt8.ofNat a)).set (3+2*s) (UInt8.ofNat c.length)
theorem stand_len {p:List UInt8} (hp:p.length=64) (s:Nat) {a:Nat} {c:List UInt8} (h:a+c.length<=64):(stand p s a c).length=64:=by
 unfold stand
 rw[List.length_set,List.length_set,over_length _ _ (by omega) (Nat.le_refl _),hp]
theorem stand_pb {p:List UInt8} (hp:p.length=64) {s a:Nat} {c:List UInt8} (h:a+c.length<=64) (hs:s < 16) (j:Nat):pb (stand p s a c) j=if j=3+2*s then c.length else if j=2+2*s then a else if a<=j/\j < a+c.length then pb c (j - a) else pb p j:=by
 unfold stand
 have hl:(over p a c.length c).length=64:=by rw[over_length _ _ (by omega) (Nat.le_refl _),hp]
 rw[pb_set,pb_set,pb_over (by omega),List.length_set,hl]
 by_cases h1:j=3+2*s
 ·subst h1
  rw[if_pos ⟨rfl,by omega⟩,if_pos rfl,ofNat_toNat (by omega)]
 ·rw[if_neg (fun h=>h1 h.1.symm),if_neg h1]
  by_cases h2:j=2+2*s
  ·subst h2
   rw[if_pos ⟨rfl,by omega⟩,if_pos rfl,ofNat_toNat (by omega)]
  ·rw[if_neg (fun h=>h2 h.1.symm),if_neg h2]
structure Turned (p q:List UInt8) (s a m:Nat):Prop where
 len:q.length=64
 n:pn q=pn p\/(pn q=pn p+1/\s=pn p)
 s_lt:s < pn q
 n16:pn q<=16
 lo:2+2*pn q<=plo q
 lo2:plo q<=plo p
 at_:pat q s=a
 sz:psz q s=m
 pos:0 < m
 a_lo:plo q<=a
 a_hi:a+m<=64
 oth:∀ i,i < pn q->i≠s->pat q i=pat p i/\psz q i=psz p i
 free:∀ i,i < pn p->i≠s->psz p i≠0->a+m<=pat p i\/pat p i+psz p i<=a
 same:∀ j,plo p<=j->j < 64->(j < a\/a+m<=j)->pb q j=pb p j
theorem Turned.ok {p q:List UInt8} {s a m:Nat} (t:Turned p q s a m) (h:PageOk p):PageOk q:=by
 have hlt:∀ i,i < pn q->i≠s->i < pn p:=fun i hi hs=>by rcases t.n with h1 | ⟨h1,h2⟩ <;> omega
 have ha:=t.at_
 have hm:=t.sz
 have hpos:=t.pos
 have hlo:=t.a_lo
 have hhi:=t.a_hi
 have hlo2:=t.lo2
 have hh:=h.hi
 refine ⟨t.len,t.n16,t.lo,by omega,fun i hi hz=>?_,fun i hi hz=>?_,fun i k hi hk hik z1 z2=>?_,fun hn=>?_⟩
 ·by_cases hs:i=s
  ·subst hs;omega
  ·obtain ⟨h1,h2⟩:=t.oth i hi hs
   have:=h.slot i (hlt i hi hs) (by omega)
   omega
 ·by_cases hs:i=s
  ·subst hs;omega
  ·obtain ⟨h1,h2⟩:=t.oth i hi hs
   have:=h.zero i (hlt i hi hs) (by omega)
   omega
 ·by_cases hs:i=s
  ·subst hs
   have hks:k≠i:=fun e=>hik e.symm
   obtain ⟨h1,h2⟩:=t.oth k hk hks
   have:=t.free k (hlt k hk hks) hks (by omega)
   omega
  ·obtain ⟨h1,h2⟩:=t.oth i hi hs
   by_cases hs2:k=s
   ·subst hs2
    have:=t.free i (hlt i hi hs) hs (by omega)
    omega
   ·obtain ⟨h3,h4⟩:=t.oth k hk hs2
    have:=h.apart i k (hlt i hi hs) (hlt k hk hs2) hik (by omega) (by omega)
    omega
 ·by_cases hs:pn q - 1=s
  ·rw[hs];omega
  ·obtain ⟨h1,h2⟩:=t.oth (pn q - 1) (by omega) hs
   have hq:pn q=pn p:=by
    rcases t.n with h3 | ⟨h3,h4⟩
    ·exact h3
    ·omega
   rw[h2,hq]
   exact h.last (by omega)
theorem Turned.cell_other {p q:List UInt8} {s a m:Nat} (t:Turned p q s a m) (h:PageOk p) {i:Nat} (hi:i < pn q) (hs:i≠s):cellP q i=cellP p i:=by
 have hip:i < pn p:=by rcases t.n with h1 | ⟨h1,h2⟩ <;> omega
 obtain ⟨h1,h2⟩:=t.oth i hi hs
 refine cellP_eq (cellP_len (t.ok h) hi) (cellP_len h hip) h2 fun j hj=>?_
 have hz:psz p i≠0:=by omega
 have h3:=h.slot i hip hz
 have h4:=t.free i hip hs hz
 rw[h1]
 exact t.same _ (by omega) (by omega) (by omega)
theorem Turned.cell_this {p q:List UInt8} {s a:Nat} {c:List UInt8} (t:Turned p q s a c.length) (h:PageOk p) (hc:∀ j,j < c.length->pb q (a+j)=pb c j):cellP q s=c:=
 cellP_is (cellP_len (t.ok h) t.s_lt) t.sz fun j hj=>by rw[t.at_];exact hc j hj
theorem Turned.cells {p q:List UInt8} {s a:Nat} {c:List UInt8} (t:Turned p q s a c.length) (h:PageOk p) (hc:∀ j,j < c.length->pb q (a+j)=pb c j) (i:Nat):cellOf q i=if i=s then c else cellOf p i:=by
 have hs:=t.s_lt
 unfold cellOf
 by_cases his:i=s
 ·subst his
  rw[if_pos hs,if_pos rfl,t.cell_this h hc]
 ·rw[if_neg his]
  by_cases hi:i < pn q
  ·have hip:i < pn p:=by rcases t.n with h1 | ⟨h1,h2⟩ <;> omega
   rw[if_pos hi,if_pos hip,t.cell_other h hi his]
  ·have hip:¬ i < pn p:=by rcases t.n with h1 | ⟨h1,h2⟩ <;> omega
   rw[if_neg hi,if_neg hip]
theorem cellOf_nil {p:List UInt8} (h:PageOk p) {i:Nat} (hi:i < pn p):cellOf p i=[]↔psz p i=0:=by
 unfold cellOf
 rw[if_pos hi]
 have:=cellP_len h hi
 constructor
 ·intro e;rw[e] at this;simpa using this.symm
 ·intro e;rw[e] at this;exact List.eq_nil_of_length_eq_zero this
end OT
set_option linter.unusedVariables false
set_option linter.unusedSimpArgs false
namespace OT
open Go
def emptyG (p:List UInt8):Nat->Nat->Nat
 | 0,i=>i
 | m+1,i=>if psz p i=0 then i else emptyG p m (i+1)
def emptyF (p:List UInt8):Nat:=emptyG p (pn p) 0
theorem emptyG_spec (p:List UInt8):∀ (m i:Nat),i<=emptyG p m i/\emptyG p m i<=i+m/\(∀ j,i<=j->j < emptyG p m i->psz p j≠0)/\(emptyG p m i < i+m->psz p (emptyG p m i)=0)
 | 0,i=>by simp only[emptyG];exact ⟨by omega,by omega,fun j h1 h2=>by omega,fun h=>by omega⟩
 | m+1,i=>by
  simp only[emptyG]
  split
  ·rename_i h
   exact ⟨by omega,by omega,fun j h1 h2=>by omega,fun _=>h⟩
  ·rename_i h
   obtain ⟨h1,h2,h3,h4⟩:=emptyG_spec p m (i+1)
   refine ⟨by omega,by omega,fun j g1 g2=>?_,fun g=>h4 (by omega)⟩
   by_cases hj:j=i
   ·subst hj;exact h
   ·exact h3 j (by omega) g2
theorem emptyF_spec (p:List UInt8):emptyF p<=pn p/\(∀ j,j < emptyF p->psz p j≠0)/\(emptyF p < pn p->psz p (emptyF p)=0):=by
 obtain ⟨h1,h2,h3,h4⟩:=emptyG_spec p (pn p) 0
 exact ⟨by unfold emptyF;omega,fun j hj=>h3 j (by omega) hj,fun h=>h4 (by unfold emptyF at h;omega)⟩
def sumZ (p:List UInt8):Nat->Nat
 | 0=>0
 | m+1=>sumZ p m+psz p m
def freeF (p:List UInt8):Int:=62 - 2*(pn p:Int) - (sumZ p (pn p):Int)
theorem sumZ_mono (p:List UInt8) {a b:Nat} (h:a<=b):sumZ p a<=sumZ p b:=by
 induction b with
 | zero =>have:a=0:=by omega
          subst this;exact Nat.le_refl _
 | succ b ih=>
  by_cases hb:a=b+1
  ·subst hb;exact Nat.le_refl _
  ·have:=ih (by omega)
   simp only[sumZ];omega
theorem countP_or {α:Type} {a b:α->Bool}:∀ {l:List α},(∀ x ∈ l,a x=true->b x=true->False)->l.countP (fun x=>a x||b x)=l.countP a+l.countP b
 | [],_=>rfl
 | x::l,h=>by
  have ih:=countP_or (l:=l) fun y hy=>h y (List.mem_cons_of_mem _ hy)
  have hx:=h x List.mem_cons_self
  simp only[List.countP_cons,ih]
  cases ha:a x <;> cases hb:b x
  ·simp
  ·simp;omega
  ·simp;omega
  ·exact (hx ha hb).elim
theorem countP_seg (a m:Nat):∀ N,(List.range N).countP (fun j=>decide (a<=j/\j < a+m))=min N (a+m) - min N a
 | 0=>by simp
 | N+1=>by
  rw[List.range_succ,List.countP_append,countP_seg a m N]
  simp only[List.countP_cons,List.countP_nil,Nat.zero_add]
  by_cases h:a<=N/\N < a+m
  ·simp only[h,and_self,decide_true,if_true];omega
  ·simp only[h,decide_false,Bool.false_eq_true,if_false];omega
def covP (p:List UInt8):Nat->Nat->Bool
 | 0,_=>false
 | k+1,j=>covP p k j||decide (pat p k<=j/\j < pat p k+psz p k)
theorem covP_ex {p:List UInt8}:∀ {k j:Nat},covP p k j=true->∃ i,i < k/\pat p i<=j/\j < pat p i+psz p i
 | k+1,j,h=>by
  simp only[covP,Bool.or_eq_true,decide_eq_true_eq] at h
  rcases h with h | h
  ·obtain ⟨i,h1,h2⟩:=covP_ex h
   exact ⟨i,by omega,h2⟩
  ·exact ⟨k,by omega,h⟩
theorem covP_count {p:List UInt8} (h:PageOk p):∀ k,k<=pn p->(List.range 64).countP (covP p k)=sumZ p k
 | 0,_=>by
  have:covP p 0=fun _=>false:=rfl
  rw[this];simp[sumZ]
 | k+1,hk=>by
  have ih:=covP_count h k (by omega)
  show (List.range 64).countP (fun j=>covP p k j||decide (pat p k<=j/\j < pat p k+psz p k))=sumZ p k+psz p k
  rw[countP_or,ih,countP_seg]
  ·by_cases hz:psz p k=0
   ·omega
   ·have:=h.slot k (by omega) hz
    omega
  ·intro j _ h1 h2
   obtain ⟨i,h3,h4⟩:=covP_ex h1
   simp only[decide_eq_true_eq] at h2
   have:=h.apart i k (by omega) (by omega) (by omega) (by omega) (by omega)
   omega
theorem sum_room {p:List UInt8} (h:PageOk p):sumZ p (pn p)+plo p<=64:=by
 rw[<-covP_count h (pn p) (Nat.le_refl _)]
 have h1:(List.range 64).countP (covP p (pn p))<=(List.range 64).countP (fun j=>decide (plo p<=j/\j < plo p+(64 - plo p))):=by
  refine List.countP_mono_left fun j hj hc=>?_
  obtain ⟨i,h3,h4,h5⟩:=covP_ex hc
  have:=h.slot i h3 (by omega)
  have:=List.mem_range.1 hj
  simp only[decide_eq_true_eq]
  omega
 rw[countP_seg] at h1
 have:=h.hi
 omega
theorem free_ok {p:List UInt8} (h:PageOk p):0<=freeF p/\freeF p<=62:=by
 have:=sum_room h
 have:=h.lo
 unfold freeF
 omega
def moreF (p:List UInt8):Nat:=if emptyF p=pn p then 1 else 0
def putQ (p:List UInt8) (c:List UInt8):List UInt8:=((stand p (emptyF p) (plo p - c.length) c).set 0 (UInt8.ofNat (pn p+moreF p))).set 1 (UInt8.ofNat (plo p - c.length))
def putF (p:List UInt8) (c:List UInt8):Int:=
 if emptyF p=pn p/\16<=pn p then 2
 else if freeF p < (c.length:Int)+2*(moreF p:Int) then 9
 else if plo p < 2+2*(pn p+moreF p)+c.length then 8
 else 0
theorem put_pb {p c:List UInt8} (h:PageOk p) (hc:putF p c=0) (j:Nat):pb (putQ p c) j=if j=1 then plo p - c.length else if j=0 then pn p+moreF p else pb (stand p (emptyF p) (plo p - c.length) c) j:=by
 unfold putF at hc
 split at hc
 ·cases hc
 ·split at hc
  ·cases hc
  ·split at hc
   ·cases hc
   ·have hl:(stand p (emptyF p) (plo p - c.length) c).length=64:=stand_len h.len _ (by have:=h.hi;omega)
    have hhi:=h.hi
    have hn:=h.n
    have hm:moreF p<=1:=by unfold moreF;split <;> omega
    unfold putQ
    rw[pb_set,pb_set,List.length_set,hl,ofNat_toNat (by omega),ofNat_toNat (by omega)]
    by_cases h1:j=1
    ·subst h1;simp
    ·by_cases h0:j=0
     ·subst h0;simp
     ·rw[if_neg (by omega),if_neg (by omega),if_neg h1,if_neg h0]
theorem put_turned {p c:List UInt8} (h:PageOk p) (hc1:1<=c.length) (hc:putF p c=0):Turned p (putQ p c) (emptyF p) (plo p - c.length) c.length/\∀ j,j < c.length->pb (putQ p c) (plo p - c.length+j)=pb c j:=by
 have hb:=put_pb h hc
 obtain ⟨e1,e2,e3⟩:=emptyF_spec p
 unfold putF at hc
 split at hc
 ·cases hc
 rename_i c1
 split at hc
 ·cases hc
 split at hc
 ·cases hc
 rename_i c3
 have hhi:=h.hi
 have hlo:=h.lo
 have hn:=h.n
 have hm:(emptyF p=pn p/\moreF p=1)\/(emptyF p < pn p/\moreF p=0):=by unfold moreF;split <;> omega
 have hs:emptyF p < 16:=by omega
 have hlen:(putQ p c).length=64:=by
  unfold putQ
  rw[List.length_set,List.length_set,stand_len h.len _ (by omega)]
 have hsp:∀ j,pb (stand p (emptyF p) (plo p - c.length) c) j=_:=stand_pb h.len (a:=plo p - c.length) (c:=c) (by omega) hs
 have hpn:pn (putQ p c)=pn p+moreF p:=by show pb _ 0=_;rw[hb];simp
 have hpl:plo (putQ p c)=plo p - c.length:=by show pb _ 1=_;rw[hb];simp
 refine ⟨⟨hlen,by omega,by omega,by omega,by omega,by omega,?_,?_,by omega,by omega,by omega,fun i hi his=>?_,fun i hi his hz=>?_,fun j j1 j2 j3=>?_⟩,fun j hj=>?_⟩
 ·show pb _ _=_
  rw[hb,if_neg (by omega),if_neg (by omega),hsp,if_neg (by omega),if_pos rfl]
 ·show pb _ _=_
  rw[hb,if_neg (by omega),if_neg (by omega),hsp,if_pos rfl]
 ·constructor
  ·show pb _ _=pb _ _
   rw[hb,if_neg (by omega),if_neg (by omega),hsp,if_neg (by omega),if_neg (by omega),if_neg (by omega)]
  ·show pb _ _=pb _ _
   rw[hb,if_neg (by omega),if_neg (by omega),hsp,if_neg (by omega),if_neg (by omega),if_neg (by omega)]
 ·have:=h.slot i hi hz
  omega
 ·rw[hb,if_neg (by omega),if_neg (by omega),hsp,if_neg (by omega),if_neg (by omega),if_neg (by omega)]
 ·rw[hb,if_neg (by omega),if_neg (by omega),hsp,if_neg (by omega),if_neg (by omega),if_pos (by omega)]
  congr 1
  omega
theorem putQ_ok {p c:List UInt8} (h:PageOk p) (hc1:1<=c.length) (hc:putF p c=0):PageOk (putQ p c)/\(∀ i,cellOf (putQ p c) i=if i=emptyF p then c else cellOf p i)/\cellOf p (emptyF p)=[]:=by
 obtain ⟨t,hb⟩:=put_turned h hc1 hc
 refine ⟨t.ok h,t.cells h hb,?_⟩
 obtain ⟨e1,e2,e3⟩:=emptyF_spec p
 by_cases he:emptyF p < pn p
 ·exact (cellOf_nil h he).2 (e3 he)
 ·unfold cellOf;rw[if_neg he]
def setQ (p:List UInt8) (s:Nat) (c:List UInt8):List UInt8:=if c.length<=psz p s then stand p s (pat p s+psz p s - c.length) c else (stand p s (plo p - c.length) c).set 1 (UInt8.ofNat (plo p - c.length))
def setF (p:List UInt8) (s:Nat) (c:List UInt8):Int:=
 if c.length<=psz p s then 0
 else if freeF p+(psz p s:Int) < (c.length:Int) then 9
 else if plo p < 2+2*pn p+c.length then 8
 else 0
theorem set_turned {p c:List UInt8} {s:Nat} (h:PageOk p) (hs:s < pn p) (hz:psz p s≠0) (hc1:1<=c.length) (hc:setF p s c=0):∃ a,Turned p (setQ p s c) s a c.length/\∀ j,j < c.length->pb (setQ p s c) (a+j)=pb c j:=by
 have hhi:=h.hi
 have hlo:=h.lo
 have hn:=h.n
 have hsl:=h.slot s hs hz
 unfold setF at hc
 split at hc
 ·rename_i c1
  unfold setQ
  rw[if_pos c1]
  have hsp:∀ j,pb (stand p s (pat p s+psz p s - c.length) c) j=_:=stand_pb h.len (a:=pat p s+psz p s - c.length) (c:=c) (by omega) (by omega)
  have hpn:pn (stand p s (pat p s+psz p s - c.length) c)=pn p:=by
   show pb _ 0=pb p 0;rw[hsp,if_neg (by omega),if_neg (by omega),if_neg (by omega)]
  have hpl:plo (stand p s (pat p s+psz p s - c.length) c)=plo p:=by
   show pb _ 1=pb p 1;rw[hsp,if_neg (by omega),if_neg (by omega),if_neg (by omega)]
  refine ⟨pat p s+psz p s - c.length,⟨stand_len h.len _ (by omega),by omega,by omega,by omega,by omega,by omega,?_,?_,by omega,by omega,by omega,fun i hi his=>?_,fun i hi his hz2=>?_,fun j j1 j2 j3=>?_⟩,fun j hj=>?_⟩
  ·show pb _ _=_
   rw[hsp,if_neg (by omega),if_pos rfl]
  ·show pb _ _=_
   rw[hsp,if_pos rfl]
  ·constructor
   ·show pb _ _=pb _ _
    rw[hsp,if_neg (by omega),if_neg (by omega),if_neg (by omega)]
   ·show pb _ _=pb _ _
    rw[hsp,if_neg (by omega),if_neg (by omega),if_neg (by omega)]
  ·have:=h.apart i s hi hs his hz2 hz
   omega
  ·rw[hsp,if_neg (by omega),if_neg (by omega),if_neg (by omega)]
  ·rw[hsp,if_neg (by omega),if_neg (by omega),if_pos (by omega)]
   congr 1
   omega
 ·rename_i c1
  split at hc
  ·cases hc
  split at hc
  ·cases hc
  rename_i c3
  have hq:setQ p s c=(stand p s (plo p - c.length) c).set 1 (UInt8.ofNat (plo p - c.length)):=by unfold setQ;rw[if_neg c1]
  rw[hq]
  have hl:(stand p s (plo p - c.length) c).length=64:=stand_len h.len _ (by omega)
  have hsp:∀ j,pb (stand p s (plo p - c.length) c) j=_:=stand_pb h.len (a:=plo p - c.length) (c:=c) (by omega) (by omega)
  have hb:∀ j,pb ((stand p s (plo p - c.length) c).set 1 (UInt8.ofNat (plo p - c.length))) j=if j=1 then plo p - c.length else pb (stand p s (plo p - c.length) c) j:=fun j=>by
   rw[pb_set,hl,ofNat_toNat (by omega)]
   by_cases h1:j=1
   ·subst h1;simp
   ·rw[if_neg (by omega),if_neg h1]
  have hpn:pn ((stand p s (plo p - c.length) c).set 1 (UInt8.ofNat (plo p - c.length)))=pn p:=by
   show pb _ 0=pb p 0;rw[hb,if_neg (by omega),hsp,if_neg (by omega),if_neg (by omega),if_neg (by omega)]
  have hpl:plo ((stand p s (plo p - c.length) c).set 1 (UInt8.ofNat (plo p - c.length)))=plo p - c.length:=by
   show pb _ 1=_;rw[hb,if_pos rfl]
  refine ⟨plo p - c.length,⟨by rw[List.length_set];exact hl,by omega,by omega,by omega,by omega,by omega,?_,?_,by omega,by omega,by omega,fun i hi his=>?_,fun i hi his hz2=>?_,fun j j1 j2 j3=>?_⟩,fun j hj=>?_⟩
  ·show pb _ _=_
   rw[hb,if_neg (by omega),hsp,if_neg (by omega),if_pos rfl]
  ·show pb _ _=_
   rw[hb,if_neg (by omega),hsp,if_pos rfl]
  ·constructor
   ·show pb _ _=pb _ _
    rw[hb,if_neg (by omega),hsp,if_neg (by omega),if_neg (by omega),if_neg (by omega)]
   ·show pb _ _=pb _ _
    rw[hb,if_neg (by omega),hsp,if_neg (by omega),if_neg (by omega),if_neg (by omega)]
  ·have:=h.slot i hi hz2
   omega
  ·rw[hb,if_neg (by omega),hsp,if_neg (by omega),if_neg (by omega),if_neg (by omega)]
  ·rw[hb,if_neg (by omega),hsp,if_neg (by omega),if_neg (by omega),if_pos (by omega)]
   congr 1
   omega
theorem setQ_ok {p c:List UInt8} {s:Nat} (h:PageOk p) (hs:s < pn p) (hz:psz p s≠0) (hc1:1<=c.length) (hc:setF p s c=0):PageOk (setQ p s c)/\(∀ i,cellOf (setQ p s c) i=if i=s then c else cellOf p i):=by
 obtain ⟨a,t,hb⟩:=set_turned h hs hz hc1 hc
 exact ⟨t.ok h,t.cells h hb⟩
def trimN (q:List UInt8):Nat->Nat
 | 0=>0
 | m+1=>if psz q m=0 then trimN q m else m+1
def drop0 (p:List UInt8) (s:Nat):List UInt8:=(p.set (2+2*s) 0).set (3+2*s) 0
def dropQ (p:List UInt8) (s:Nat):List UInt8:=(drop0 p s).set 0 (UInt8.ofNat (trimN (drop0 p s) (pn p)))
theorem trimN_spec (q:List UInt8):∀ m,trimN q m<=m/\(∀ i,trimN q m<=i->i < m->psz q i=0)/\(0 < trimN q m->psz q (trimN q m - 1)≠0)
 | 0=>by simp only[trimN];exact ⟨by omega,fun i h1 h2=>by omega,fun h=>by omega⟩
 | m+1=>by
  simp only[trimN]
  obtain ⟨h1,h2,h3⟩:=trimN_spec q m
  split
  ·rename_i h
   refine ⟨by omega,fun i g1 g2=>?_,h3⟩
   by_cases hi:i=m
   ·subst hi;exact h
   ·exact h2 i g1 (by omega)
  ·rename_i h
   exact ⟨by omega,fun i g1 g2=>by omega,fun _=>by simpa using h⟩
theorem dropQ_ok {p:List UInt8} {s:Nat} (h:PageOk p) (hs:s < pn p):PageOk (dropQ p s)/\(∀ i,cellOf (dropQ p s) i=if i=s then [] else cellOf p i):=by
 have hhi:=h.hi
 have hlo:=h.lo
 have hn:=h.n
 have hlen:=h.len
 have hb0:∀ j,pb (drop0 p s) j=if j=3+2*s\/j=2+2*s then 0 else pb p j:=fun j=>by
  unfold drop0
  rw[pb_set,pb_set,List.length_set,hlen]
  by_cases h1:j=3+2*s
  ·subst h1;rw[if_pos ⟨rfl,by omega⟩,if_pos (Or.inl rfl)];rfl
  ·by_cases h2:j=2+2*s
   ·subst h2;rw[if_neg (by omega),if_pos ⟨rfl,by omega⟩,if_pos (Or.inr rfl)];rfl
   ·rw[if_neg (by omega),if_neg (by omega),if_neg (by omega)]
 have hl0:(drop0 p s).length=64:=by unfold drop0;rw[List.length_set,List.length_set,hlen]
 obtain ⟨t1,t2,t3⟩:=trimN_spec (drop0 p s) (pn p)
 have hb:∀ j,pb (dropQ p s) j=if j=0 then trimN (drop0 p s) (pn p) else if j=3+2*s\/j=2+2*s then 0 else pb p j:=fun j=>by
  unfold dropQ
  rw[pb_set,hl0,ofNat_toNat (by omega),hb0]
  by_cases h1:j=0
  ·subst h1;simp
  ·rw[if_neg (by omega),if_neg h1]
 have hpn:pn (dropQ p s)=trimN (drop0 p s) (pn p):=by show pb _ 0=_;rw[hb,if_pos rfl]
 have hpl:plo (dropQ p s)=plo p:=by show pb _ 1=pb p 1;rw[hb,if_neg (by omega),if_neg (by omega)]
 have hz0:∀ i,psz (dropQ p s) i=psz (drop0 p s) i:=fun i=>by
  show pb _ _=pb _ _
  rw[hb,hb0,if_neg (by omega)]
 have hzs:psz (dropQ p s) s=0/\pat (dropQ p s) s=0:=by
  constructor
  ·show pb _ _=_;rw[hb,if_neg (by omega),if_pos (Or.inl rfl)]
  ·show pb _ _=_;rw[hb,if_neg (by omega),if_pos (Or.inr rfl)]
 have hzo:∀ i,i≠s->psz (dropQ p s) i=psz p i/\pat (dropQ p s) i=pat p i:=fun i hi=>by
  constructor
  ·show pb _ _=pb _ _;rw[hb,if_neg (by omega),if_neg (by omega)]
  ·show pb _ _=pb _ _;rw[hb,if_neg (by omega),if_neg (by omega)]
 have hok:PageOk (dropQ p s):=by
  refine ⟨by unfold dropQ;rw[List.length_set,hl0],by omega,by omega,by omega,fun i hi hz=>?_,fun i hi hz=>?_,fun i k hi hk hik z1 z2=>?_,fun hn=>?_⟩
  ·by_cases his:i=s
   ·subst his;omega
   ·obtain ⟨g1,g2⟩:=hzo i his
    have:=h.slot i (by omega) (by omega)
    omega
  ·by_cases his:i=s
   ·subst his;omega
   ·obtain ⟨g1,g2⟩:=hzo i his
    have:=h.zero i (by omega) (by omega)
    omega
  ·have his:i≠s:=fun e=>by subst e;omega
   have hks:k≠s:=fun e=>by subst e;omega
   obtain ⟨g1,g2⟩:=hzo i his
   obtain ⟨g3,g4⟩:=hzo k hks
   have:=h.apart i k (by omega) (by omega) hik (by omega) (by omega)
   omega
  ·rw[hz0,hpn]
   exact t3 (by omega)
 refine ⟨hok,fun i=>?_⟩
 by_cases his:i=s
 ·subst his
  rw[if_pos rfl]
  by_cases hi:i < pn (dropQ p i)
  ·exact (cellOf_nil hok hi).2 hzs.1
  ·unfold cellOf;rw[if_neg hi]
 ·rw[if_neg his]
  obtain ⟨g1,g2⟩:=hzo i his
  by_cases hi:i < pn (dropQ p s)
  ·have hip:i < pn p:=by omega
   unfold cellOf
   rw[if_pos hi,if_pos hip]
   refine cellP_eq (cellP_len hok hi) (cellP_len h hip) g1 fun j hj=>?_
   have:=h.slot i hip (by omega)
   rw[g2,hb,if_neg (by omega),if_neg (by omega)]
  ·have e1:cellOf (dropQ p s) i=[]:=by unfold cellOf;rw[if_neg hi]
   rw[e1]
   by_cases hip:i < pn p
   ·refine ((cellOf_nil h hip).2 ?_).symm
    rw[<-g1,hz0]
    exact t2 i (by omega) hip
   ·unfold cellOf;rw[if_neg hip]
def compS (p:List UInt8) (s:List UInt8×Nat) (i:Nat):List UInt8×Nat:=if psz p i=0 then s else (stand s.1 i (s.2 - psz p i) (cellP p i),s.2 - psz p i)
def comp0 (p:List UInt8):List UInt8:=p.take (2+2*pn p)++List.replicate (62 - 2*pn p) (0:UInt8)
def compL (p:List UInt8) (k:Nat):List UInt8×Nat:=(List.range k).foldl (compS p) (comp0 p,64)
def compQ (p:List UInt8):List UInt8:=(compL p (pn p)).1.set 1 (UInt8.ofNat (compL p (pn p)).2)
theorem compL_succ (p:List UInt8) (k:Nat):compL p (k+1)=compS p (compL p k) k:=by
 unfold compL
 rw[List.range_succ,List.foldl_append]
 rfl
structure CompI (p:List UInt8) (k:Nat) (o:List UInt8) (a:Nat):Prop where
 len:o.length=64
 n:pb o 0=pn p
 a:a=64 - sumZ p k
 sz:∀ i,i < pn p->psz o i=psz p i
 old:∀ i,i < pn p->(k<=i\/psz p i=0)->pat o i=pat p i
 new:∀ i,i < k->psz p i≠0->pat o i=64 - sumZ p (i+1)/\∀ j,j < psz p i->pb o (64 - sumZ p (i+1)+j)=pb p (pat p i+j)
theorem comp_inv {p:List UInt8} (h:PageOk p):∀ k,k<=pn p->CompI p k (compL p k).1 (compL p k).2
 | 0,_=>by
  have hn:=h.n
  have hlen:=h.len
  have hl:(comp0 p).length=64:=by unfold comp0;simp only[List.length_append,List.length_take,List.length_replicate];omega
  have hb:∀ j,j < 2+2*pn p->pb (comp0 p) j=pb p j:=fun j hj=>by
   unfold pb comp0
   simp only[List.getD_eq_getElem?_getD]
   rw[List.getElem?_append_left (by simp only[List.length_take];omega),List.getElem?_take,if_pos hj]
  refine ⟨hl,hb 0 (by omega),by simp only[sumZ];rfl,fun i hi=>?_,fun i hi _=>?_,fun i hi=>by omega⟩
  ·exact hb _ (by omega)
  ·exact hb _ (by omega)
 | k+1,hk=>by
  have ih:=comp_inv h k (by omega)
  rw[compL_succ]
  unfold compS
  have hroom:=sum_room h
  have hmono:=sumZ_mono p (show k+1<=pn p from hk)
  have hlo:=h.lo
  have hn:=h.n
  simp only[sumZ] at hmono
  by_cases hz:psz p k=0
  ·rw[if_pos hz]
   refine ⟨ih.len,ih.n,?_,ih.sz,fun i hi ho=>ih.old i hi (by rcases ho with ho | ho <;> omega),fun i hi hzi=>?_⟩
   ·rw[ih.a];simp only[sumZ];omega
   ·have:i≠k:=fun e=>by subst e;exact hzi hz
    exact ih.new i (by omega) hzi
  ·rw[if_neg hz]
   have hcl:(cellP p k).length=psz p k:=cellP_len h (by omega)
   have ha:=ih.a
   have hfit:(compL p k).2 - psz p k+(cellP p k).length<=64:=by omega
   have hsp:∀ j,pb (stand (compL p k).1 k ((compL p k).2 - psz p k) (cellP p k)) j=_:=stand_pb ih.len (a:=(compL p k).2 - psz p k) (c:=cellP p k) hfit (by omega)
   refine ⟨stand_len ih.len _ hfit,?_,by simp only[sumZ];omega,fun i hi=>?_,fun i hi ho=>?_,fun i hi hzi=>?_⟩
   ·rw[hsp,if_neg (by omega),if_neg (by omega),if_neg (by omega)];exact ih.n
   ·show pb _ _=_
    rw[hsp]
    by_cases hik:i=k
    ·subst hik;rw[if_pos rfl];exact hcl
    ·rw[if_neg (by omega),if_neg (by omega),if_neg (by omega)]
     exact ih.sz i hi
   ·have hik:i≠k:=fun e=>by subst e;rcases ho with ho | ho <;> omega
    show pb _ _=_
    rw[hsp,if_neg (by omega),if_neg (by omega),if_neg (by omega)]
    exact ih.old i hi (by rcases ho with ho | ho <;> omega)
   ·by_cases hik:i=k
    ·subst hik
     constructor
     ·show pb _ _=_
      rw[hsp,if_neg (by omega),if_pos rfl]
      simp only[sumZ];omega
     ·intro j hj
      simp only[sumZ]
      rw[hsp,if_neg (by omega),if_neg (by omega),if_pos (by omega)]
      rw[show 64 - (sumZ p i+psz p i)+j - ((compL p i).2 - psz p i)=j by omega]
      exact cellP_pb p i j hj
    ·have hm2:=sumZ_mono p (show i+1<=k by omega)
     have hm3:=sumZ_mono p (show i+1<=pn p by omega)
     obtain ⟨g1,g2⟩:=ih.new i (by omega) hzi
     constructor
     ·show pb _ _=_
      rw[hsp,if_neg (by omega),if_neg (by omega),if_neg (by omega)]
      exact g1
     ·intro j hj
      rw[hsp,if_neg (by omega),if_neg (by omega),if_neg (by omega)]
      exact g2 j hj
theorem compQ_ok {p:List UInt8} (h:PageOk p):PageOk (compQ p)/\(∀ i,cellOf (compQ p) i=cellOf p i)/\pn (compQ p)=pn p:=by
 have I:=comp_inv h (pn p) (Nat.le_refl _)
 have hroom:=sum_room h
 have hlo:=h.lo
 have hn:=h.n
 have ha:=I.a
 have hb:∀ j,pb (compQ p) j=if j=1 then (compL p (pn p)).2 else pb (compL p (pn p)).1 j:=fun j=>by
  unfold compQ
  rw[pb_set,I.len,ofNat_toNat (by omega)]
  by_cases h1:j=1
  ·subst h1;simp
  ·rw[if_neg (by omega),if_neg h1]
 have hpn:pn (compQ p)=pn p:=by show pb _ 0=_;rw[hb,if_neg (by omega)];exact I.n
 have hpl:plo (compQ p)=64 - sumZ p (pn p):=by show pb _ 1=_;rw[hb,if_pos rfl];exact ha
 have hz:∀ i,i < pn p->psz (compQ p) i=psz p i:=fun i hi=>by show pb _ _=_;rw[hb,if_neg (by omega)];exact I.sz i hi
 have hat:∀ i,i < pn p->psz p i≠0->pat (compQ p) i=64 - sumZ p (i+1):=fun i hi hzi=>by show pb _ _=_;rw[hb,if_neg (by omega)];exact (I.new i hi hzi).1
 have hok:PageOk (compQ p):=by
  refine ⟨by unfold compQ;rw[List.length_set];exact I.len,by omega,by omega,by omega,fun i hi hzi=>?_,fun i hi hzi=>?_,fun i k hi hk hik z1 z2=>?_,fun hn=>?_⟩
  ·have h1:=hz i (by omega)
   have h2:=hat i (by omega) (by omega)
   have h3:=sumZ_mono p (show i+1<=pn p by omega)
   have h4:sumZ p (i+1)=sumZ p i+psz p i:=rfl
   omega
  ·have h1:=hz i (by omega)
   show pb _ _=_
   rw[hb,if_neg (by omega)]
   exact (I.old i (by omega) (Or.inr (by omega))).trans (h.zero i (by omega) (by omega))
  ·have h1:=hz i (by omega)
   have h2:=hat i (by omega) (by omega)
   have h3:=hz k (by omega)
   have h4:=hat k (by omega) (by omega)
   have e1:sumZ p (i+1)=sumZ p i+psz p i:=rfl
   have e2:sumZ p (k+1)=sumZ p k+psz p k:=rfl
   have m1:=sumZ_mono p (show i+1<=pn p by omega)
   have m2:=sumZ_mono p (show k+1<=pn p by omega)
   rcases Nat.lt_or_gt_of_ne hik with h6 | h6
   ·have:=sumZ_mono p (show i+1<=k from h6)
    omega
   ·have:=sumZ_mono p (show k+1<=i from h6)
    omega
  ·rw[hpn,hz _ (by omega)]
   exact h.last (by omega)
 refine ⟨hok,fun i=>?_,hpn⟩
 unfold cellOf
 rw[hpn]
 by_cases hi:i < pn p
 ·rw[if_pos hi,if_pos hi]
  refine cellP_eq (cellP_len hok (by omega)) (cellP_len h hi) (hz i hi) fun j hj=>?_
  have h1:=hz i hi
  have hzi:psz p i≠0:=by omega
  rw[hat i hi hzi,hb,if_neg (by
   have:=sumZ_mono p (show i+1<=pn p by omega)
   omega)]
  exact (I.new i hi hzi).2 j (by omega)
 ·rw[if_neg hi,if_neg hi]
def newPg:List UInt8:=((List.replicate 64 (0:UInt8)).set 0 0).set 1 64
theorem newPg_ok:PageOk newPg/\∀ i,cellOf newPg i=[]:=by
 refine ⟨pageF_iff.1 (by decide +kernel),fun i=>?_⟩
 unfold cellOf
 rw[if_neg (by show ¬ i < 0;omega)]
end OT
set_option linter.unusedVariables false
set_option linter.unusedSimpArgs false
namespace OT
open Go
theorem ix3 {i:Nat} (h:i < 1000):w64 ((3:Int)+w64 ((2:Int)*(i:Int)))=((3+2*i:Nat):Int):=by
 rw[w64_in (n:=(2:Int)*(i:Int)) (by omega),w64_in (by omega)];omega
theorem ix2 {i:Nat} (h:i < 1000):w64 ((2:Int)+w64 ((2:Int)*(i:Int)))=((2+2*i:Nat):Int):=by
 rw[w64_in (n:=(2:Int)*(i:Int)) (by omega),w64_in (by omega)];omega
theorem wpb (p:List UInt8) (i:Nat):w64 ((pb p i:Nat):Int)=((pb p i:Nat):Int):=by
 have:=pb_lt p i
 exact w64_in (by omega)
theorem read_pb {R:Type} {p:List UInt8} {i:Nat} (h:i < p.length) (K:UInt8->Option R):(p[i]?).bind K=K p[i]:=by rw[(pb_get h).1];rfl
section
variable {p:List UInt8} (hp:p.length=64)
include hp
theorem pCount_eq:spec_l2Count.sem (p,())=some ((pn p:Int),()):=by
 refine lift_eq (k:=0) fun k _=>(spec_l2Count.raw_eq k _).trans ?_
 show spec_l2Count.p _=_
 unfold spec_l2Count.p
 simp only[read_pb (show 0 < p.length by omega),(pb_get (show 0 < p.length by omega)).2,wpb]
 rfl
theorem pLow_eq:spec_l2Low.sem (p,())=some ((plo p:Int),()):=by
 refine lift_eq (k:=0) fun k _=>(spec_l2Low.raw_eq k _).trans ?_
 show spec_l2Low.p _=_
 unfold spec_l2Low.p
 simp only[read_pb (show 1 < p.length by omega),(pb_get (show 1 < p.length by omega)).2,wpb]
 rfl
theorem pSize_eq {i:Nat} (hi:i < 16):spec_l2Size.sem (p,(i:Int),())=some ((psz p i:Int),()):=by
 refine lift_eq (k:=0) fun k _=>(spec_l2Size.raw_eq k _).trans ?_
 show spec_l2Size.p _=_
 unfold spec_l2Size.p
 simp only[ix3 (show i < 1000 by omega),Int.natCast_nonneg,if_true,Int.toNat_natCast,read_pb (show 3+2*i < p.length by omega),(pb_get (show 3+2*i < p.length by omega)).2,wpb]
 rfl
theorem pPlace_eq {i:Nat} (hi:i < 16):spec_l2Place.sem (p,(i:Int),())=some ((pat p i:Int),()):=by
 refine lift_eq (k:=0) fun k _=>(spec_l2Place.raw_eq k _).trans ?_
 show spec_l2Place.p _=_
 unfold spec_l2Place.p
 simp only[ix2 (show i < 1000 by omega),Int.natCast_nonneg,if_true,Int.toNat_natCast,read_pb (show 2+2*i < p.length by omega),(pb_get (show 2+2*i < p.length by omega)).2,wpb]
 rfl
end
end OT
set_option linter.unusedVariables false
set_option linter.unusedSimpArgs false
namespace OT
open Go
theorem range_loop {V S O:Type} {B:(V->Option O)->V->Option O} (n:Nat) (enc:S->Int->V) (f:Nat->S->Sum (Option O) S) (fin:S->Option O) (I:Nat->S->Prop) (hn:n<=1048576)
  (hin:∀ (i:Nat),i < n->∀ (s:S) self,I i s->B self (enc s (i:Int))=match f i s with | .inl o=>o | .inr s'=>self (enc s' (w64 ((i:Int)+1))))
  (hI:∀ (i:Nat),i < n->∀ (s s':S),I i s->f i s=.inr s'->I (i+1) s')
  (hout:∀ (s:S) self,I n s->B self (enc s (n:Int))=fin s) (s:S) (h0:I 0 s) (k:Nat) (hk:n < k):rawIter B k (enc s 0)=forI (fun _ s x=>f x s) fin 0 (List.range n) s:=
 for_loopE (List.range n) enc (fun _ s x=>f x s) fin I (by rw[maxLen_val,List.length_range];omega)
  (fun i hi s self h=>by rw[List.length_range] at hi;simp only[List.getElem_range];exact hin i hi s self h)
  (fun i hi s s' h hf=>by rw[List.length_range] at hi;simp only[List.getElem_range] at hf;exact hI i hi s s' h hf)
  (fun s self h=>by rw[List.length_range] at h ⊢;exact hout s self h) s h0 k (by rw[List.length_range];exact hk)
section
variable {p:List UInt8} (hp:PageOk p)
include hp
theorem specHas_eq (s:Nat):spec_l2Has.sem (p,(s:Int),())=some (decide (s < pn p)&&!decide (psz p s=0),()):=by
 refine lift_eq (k:=0) fun k _=>(spec_l2Has.raw_eq k _).trans ?_
 show spec_l2Has.p _=_
 unfold spec_l2Has.p
 have hn:=hp.n
 have hl:=hp.len
 have hw:w64 ((pn p:Int) - 1)=(pn p:Int) - 1:=w64_in (by omega)
 have h0:decide ((0:Int)<=(s:Int))=true:=decide_eq_true (by omega)
 have h1:decide ((s:Int)<=(pn p:Int) - 1)=decide (s < pn p):=by rw[decide_eq_decide];omega
 simp only[pCount_eq hl,Option.bind_some,hw,specIn_eq,h0,h1,Bool.true_and]
 by_cases hs:s < pn p
 ·have e2:decide ((0:Int) < (psz p s:Int))=!decide (psz p s=0):=by
   by_cases hz:psz p s=0
   ·simp[hz]
   ·have:(0:Int) < (psz p s:Int):=by omega
    rw[decide_eq_true this,decide_eq_false hz];rfl
  simp only[hs,decide_true,cond_true,pSize_eq hl (show s < 16 by omega),Option.bind_some,e2,Bool.true_and]
 ·simp only[hs,decide_false,cond_false,Bool.false_and]
theorem cell_in {s:Nat} (hs:s < pn p):pat p s+psz p s<=64:=by
 by_cases hz:psz p s=0
 ·have:=hp.zero s hs hz;omega
 ·exact (hp.slot s hs hz).2
theorem specCellAt_eq {s:Nat} (hs:s < pn p):spec_l2Cell.sem (p,(s:Int),())=some (cellP p s,()):=by
 refine lift_eq (k:=0) fun k _=>(spec_l2Cell.raw_eq k _).trans ?_
 show spec_l2Cell.p _=_
 unfold spec_l2Cell.p cellP
 have hn:=hp.n
 have hl:=hp.len
 have hc:=cell_in hp hs
 have hw:w64 ((pat p s:Int)+(psz p s:Int))=((pat p s+psz p s:Nat):Int):=by rw[w64_in (by omega)];omega
 have hb:(0:Int)<=(pat p s:Int)/\(pat p s:Int)<=((pat p s+psz p s:Nat):Int)/\((pat p s+psz p s:Nat):Int)<=(p.length:Int):=by omega
 simp only[pPlace_eq hl (show s < 16 by omega),pSize_eq hl (show s < 16 by omega),Option.bind_some,hw]
 rw[if_pos hb,if_pos (cap_ok (by simp only[List.length_nil,List.length_drop,List.length_take];omega))]
 simp only[Int.toNat_natCast,List.drop_take,List.nil_append]
 rw[show pat p s+psz p s - pat p s=psz p s by omega]
end
end OT
set_option linter.unusedVariables false
set_option linter.unusedSimpArgs false
set_option linter.unusedSectionVars false
namespace OT
open Go
theorem set_same {p:List UInt8} {i n:Nat} (h:pb p i=n) (hn:n < 256):p.set i (UInt8.ofNat n)=p:=by
 refine pb_ext (by rw[List.length_set]) fun j hj=>?_
 rw[pb_set]
 split
 ·rename_i h1
  rw[ofNat_toNat hn,<- h,h1.1]
 ·rfl
theorem u8_of (n:Nat):UInt8.ofInt ((n:Nat):Int)=UInt8.ofNat n:=by
 refine UInt8.toNat_inj.1 ?_
 rw[UInt8.toNat_ofNat']
 simp only[UInt8.ofInt]
 rw[UInt8.toNat_ofNat']
 omega
theorem forI_empty {O:Type} (p:List UInt8) (g:Nat->O):∀ (m a i:Nat),forI (fun _ (_:Unit) (x:Nat)=>if psz p x=0 then .inl (g x) else .inr ()) (fun _=>g (a+m)) i (List.range' a m) ()=g (emptyG p m a)
 | 0,a,i=>rfl
 | m+1,a,i=>by
  rw[List.range'_succ]
  simp only[forI,emptyG]
  by_cases h:psz p a=0
  ·simp only[h,if_true]
  ·simp only[h,if_false]
   have:=forI_empty p g m (a+1) (i+1)
   rw[show a+1+m=a+(m+1) by omega] at this
   exact this
theorem sumZ_fold (p:List UInt8) (b:Int):∀ n,(List.range n).foldl (fun s x=>s - (psz p x:Int)) b=b - (sumZ p n:Int)
 | 0=>by simp[sumZ]
 | n+1=>by rw[List.range_succ,List.foldl_append,sumZ_fold p b n];simp only[List.foldl_cons,List.foldl_nil,sumZ];omega
theorem sumZ_le (p:List UInt8):∀ n,sumZ p n<=256*n
 | 0=>by simp[sumZ]
 | n+1=>by have:=sumZ_le p n;have:=pb_lt p (3+2*n);simp only[sumZ];unfold psz;omega
section
variable {p:List UInt8} (hp:PageOk p)
include hp
theorem specEmpty_eq:spec_l2Empty.sem (p,())=some ((emptyF p:Int),()):=by
 have hn:=hp.n
 refine lift_eq (k:=100) fun k hk=>(spec_l2Empty.raw_eq k _).trans ?_
 have:=range_loop (B:=fun self v=>spec_l2Empty.B0 k self (fun z=>spec_l2Empty.Q0 k (p,()) z) (p,()) v) (pn p) (fun (_:Unit) (i:Int)=>i) (fun x _=>if psz p x=0 then .inl (some ((x:Int),())) else .inr ()) (fun _=>some ((pn p:Int),())) (fun _ _=>True) (by omega)
  (fun i hi s self _=>by
   show spec_l2Empty.b0 _ _ _ _=_
   unfold spec_l2Empty.b0
   have hlt:(i:Int) < (pn p:Int):=by omega
   simp only[pCount_eq hp.len,Option.bind_some,hlt,decide_true,cond_true,pSize_eq hp.len (show i < 16 by omega)]
   by_cases hz:psz p i=0
   ·simp only[hz,Int.natCast_zero,decide_true,cond_true,if_true]
   ·have:¬ ((psz p i:Int)=0):=by omega
    simp only[hz,this,decide_false,cond_false,if_false])
  (fun _ _ _ _ _ _=>trivial) (fun s self _=>by
   show spec_l2Empty.b0 _ _ _ _=_
   unfold spec_l2Empty.b0
   simp only[pCount_eq hp.len,Option.bind_some,Int.lt_irrefl,decide_false,cond_false]
   show spec_l2Empty.q0 _ _=_
   unfold spec_l2Empty.q0
   simp only[pCount_eq hp.len,Option.bind_some]) () trivial k (by omega)
 refine this.trans ?_
 rw[List.range_eq_range']
 have h2:=forI_empty p (fun n=>(some ((n:Int),()):Option spec_l2Empty.Out)) (pn p) 0 0
 simp only[Nat.zero_add] at h2
 exact h2
theorem specFree_eq:spec_l2Free.sem (p,())=some (freeF p,()):=by
 have hn:=hp.n
 have hw:w64 ((62:Int) - w64 ((2:Int)*(pn p:Int)))=62 - 2*(pn p:Int):=by rw[w64_in (n:=(2:Int)*(pn p:Int)) (by omega),w64_in (by omega)]
 refine lift_eq (k:=100) fun k hk=>(spec_l2Free.raw_eq k _).trans ?_
 unfold spec_l2Free.p
 simp only[pCount_eq hp.len,Option.bind_some,hw]
 have:=range_loop (B:=fun self v=>spec_l2Free.B0 k self (fun z=>spec_l2Free.Q0 k (p,()) z) (p,()) v) (pn p) (fun (s:Int) (i:Int)=>(s,i)) (fun x s=>.inr (s - (psz p x:Int))) (fun s=>some (s,())) (fun i s=>s=62 - 2*(pn p:Int) - (sumZ p i:Int)) (by omega)
  (fun i hi s self hs=>by
   show spec_l2Free.b0 _ _ _ _=_
   unfold spec_l2Free.b0
   have hlt:(i:Int) < (pn p:Int):=by omega
   have h1:=pb_lt p (3+2*i)
   have h2:=sumZ_le p i
   have h3:psz p i < 256:=h1
   simp only[pCount_eq hp.len,Option.bind_some,hlt,decide_true,cond_true,pSize_eq hp.len (show i < 16 by omega)]
   rw[w64_in (n:=s - (psz p i:Int)) (by omega)])
  (fun i hi s s' hs hf=>by injection hf with hf;simp only[sumZ];omega) (fun s self _=>by
   show spec_l2Free.b0 _ _ _ _=_
   unfold spec_l2Free.b0
   simp only[pCount_eq hp.len,Option.bind_some,Int.lt_irrefl,decide_false,cond_false]
   rfl) (62 - 2*(pn p:Int)) (by simp[sumZ]) k (by omega)
 rw[forI_fold (g:=fun s x=>s - (psz p x:Int)),sumZ_fold] at this
 exact this
end
theorem specStand_eq {p c:List UInt8} {s a:Nat} (hp:p.length=64) (hs:s < 16) (h:a+c.length<=64):spec_l2Stand.sem (p,(s:Int),(a:Int),c,())=some (stand p s a c,()):=by
 refine lift_eq (k:=0) fun k _=>(spec_l2Stand.raw_eq k _).trans ?_
 show spec_l2Stand.p _=_
 unfold spec_l2Stand.p stand
 have h1:(0:Int)<=(a:Int)/\(a:Int)<=(p.length:Int):=by omega
 have hm:min c.length (p.length - a)=c.length:=by omega
 have hl:(over p a c.length c).length=64:=by rw[over_length _ _ (by omega) (Nat.le_refl _),hp]
 have i2:(0:Int)<=((2+2*s:Nat):Int)/\((2+2*s:Nat):Int) < ((64:Nat):Int):=by omega
 have i3:(0:Int)<=((3+2*s:Nat):Int)/\((3+2*s:Nat):Int) < ((64:Nat):Int):=by omega
 simp only[h1,and_self,if_true,Int.toNat_natCast,hm,ix2 (show s < 1000 by omega),ix3 (show s < 1000 by omega),List.length_set,hl,i2,i3,u8_of]
 rw[read_pb (by omega),read_pb (by rw[List.length_set];omega)]
section
variable {p:List UInt8} (hp:PageOk p) (c:List UInt8) (hc1:1<=c.length) (hc:c.length<=20)
include hp hc1 hc
theorem gPut_key:∀ m:Nat,moreF p=m->m<=1->¬ (emptyF p=pn p/\16<=pn p)->emptyF p < 16->∀ (d:Int),d=2*(m:Int)->∀ (e:Int),e=((pn p+m:Nat):Int) ->
   (bif decide (freeF p < w64 ((c.length:Int)+d)) then (some (([]:List UInt8),(0:Int),(9:Int),()):Option spec_l2Put.Out) else
    bif decide (w64 ((plo p:Int) - (c.length:Int)) < w64 ((2:Int)+w64 ((2:Int)*e))) then some (([]:List UInt8),(0:Int),(8:Int),()) else
     if 0<=(0:Int)/\(0:Int) < (p.length:Int) then ((p[0]?).bind fun x18=>if 0<=(1:Int)/\(1:Int) < ((p.set 0 (UInt8.ofInt e)).length:Int) then (((p.set 0 (UInt8.ofInt e))[1]?).bind fun x19=>(spec_l2Stand.sem ((p.set 0 (UInt8.ofInt e)).set 1 (UInt8.ofInt (w64 ((plo p:Int) - (c.length:Int)))),(emptyF p:Int),w64 ((plo p:Int) - (c.length:Int)),c,())).bind fun r21=>some (r21.1,(emptyF p:Int),(0:Int),())) else none) else none) =
    some (if putF p c=0 then putQ p c else [],if putF p c=0 then (emptyF p:Int) else 0,putF p c,()):=by
 intro m hm hm1 hno he d hd e hee
 have hn:=hp.n
 have hlo:=hp.lo
 have hhi:=hp.hi
 obtain ⟨e1,e2,e3⟩:=emptyF_spec p
 obtain ⟨f1,f2⟩:=free_ok hp
 subst hd;subst hee
 unfold putF
 rw[if_neg hno,hm]
 have w1:w64 ((c.length:Int)+2*(m:Int))=(c.length:Int)+2*(m:Int):=w64_in (by omega)
 rw[w1]
 by_cases c1:freeF p < (c.length:Int)+2*(m:Int)
 ·simp only[c1,decide_true,cond_true,if_true,show ¬ ((9:Int)=0) by decide,if_false]
 have w2:w64 ((plo p:Int) - (c.length:Int))=(plo p:Int) - (c.length:Int):=w64_in (by omega)
 have w3:w64 ((2:Int)+w64 ((2:Int)*((pn p+m:Nat):Int)))=((2+2*(pn p+m):Nat):Int):=ix2 (by omega)
 simp only[c1,decide_false,cond_false,if_false,w2,w3]
 by_cases c2:plo p < 2+2*(pn p+m)+c.length
 ·have:(plo p:Int) - (c.length:Int) < ((2+2*(pn p+m):Nat):Int):=by omega
  simp only[c2,this,decide_true,cond_true,if_true,show ¬ ((8:Int)=0) by decide,if_false]
 have n2:¬ ((plo p:Int) - (c.length:Int) < ((2+2*(pn p+m):Nat):Int)):=by omega
 have hl:=hp.len
 have g1:(0:Int)<=0/\(0:Int) < (p.length:Int):=by omega
 have g2:(0:Int)<=1/\(1:Int) < (p.length:Int):=by omega
 have w4:(plo p:Int) - (c.length:Int)=((plo p - c.length:Nat):Int):=by omega
 have n4:¬ (((plo p - c.length:Nat):Int) < ((2+2*(pn p+m):Nat):Int)):=by omega
 simp only[c2,n4,decide_false,cond_false,if_false,g1,g2,and_self,if_true,List.length_set,w4,u8_of]
 rw[read_pb (by omega),read_pb (by rw[List.length_set];omega)]
 rw[specStand_eq (by rw[List.length_set,List.length_set];omega) he (by omega)]
 simp only[Option.bind_some]
 have:stand ((p.set 0 (UInt8.ofNat (pn p+m))).set 1 (UInt8.ofNat (plo p - c.length))) (emptyF p) (plo p - c.length) c=putQ p c:=by
  unfold putQ
  rw[hm]
  have hl1:(stand p (emptyF p) (plo p - c.length) c).length=64:=stand_len hl _ (by omega)
  refine pb_ext ?_ fun j hj=>?_
  ·rw[stand_len (by rw[List.length_set,List.length_set];omega) _ (by omega),List.length_set,List.length_set,hl1]
  rw[stand_pb (by rw[List.length_set,List.length_set];omega) (by omega) he,pb_set,pb_set,pb_set,pb_set,stand_pb hl (by omega) he]
  simp only[List.length_set,hl,hl1]
  have o1:2+2*emptyF p<=plo p - c.length:=by
   unfold moreF at hm
   split at hm <;> omega
  by_cases j0:j=0
  ·subst j0
   rw[if_neg (by omega),if_neg (by omega),if_neg (by omega),if_neg (by omega),if_pos ⟨rfl,by omega⟩,if_neg (by omega),if_pos ⟨rfl,by omega⟩]
  ·by_cases j1:j=1
   ·subst j1
    rw[if_neg (by omega),if_neg (by omega),if_neg (by omega),if_pos ⟨rfl,by omega⟩,if_pos ⟨rfl,by omega⟩]
   ·have k0:¬ (0=j/\0 < 64):=by omega
    have k1:¬ (1=j/\1 < 64):=by omega
    simp only[k0,k1,if_false]
 rw[this]
theorem gPut_eq:spec_l2Put.sem (p,c,())=some (if putF p c=0 then putQ p c else [],if putF p c=0 then (emptyF p:Int) else 0,putF p c,()):=by
 have hn:=hp.n
 have hlo:=hp.lo
 have hhi:=hp.hi
 obtain ⟨e1,e2,e3⟩:=emptyF_spec p
 refine lift_eq (k:=0) fun k _=>(spec_l2Put.raw_eq k _).trans ?_
 show spec_l2Put.p _=_
 unfold spec_l2Put.p
 obtain ⟨f1,f2⟩:=free_ok hp
 simp only[specEmpty_eq hp,pCount_eq hp.len,specFree_eq hp,pLow_eq hp.len,specCopy_eq p (by have:=hp.len;omega),Option.bind_some]
 by_cases he:emptyF p=pn p
 ·have he':(emptyF p:Int)=(pn p:Int):=by omega
  rw[decide_eq_true he',cond_true]
  by_cases h16:16<=pn p
  ·have h16':(16:Int)<=(pn p:Int):=by omega
   have:putF p c=2:=by unfold putF;rw[if_pos ⟨he,h16⟩]
   simp only[h16',decide_true,cond_true,this,show ¬ ((2:Int)=0) by decide,if_false]
  ·have h16':¬ (16:Int)<=(pn p:Int):=by omega
   simp only[h16',decide_false,cond_false]
   have hw:w64 ((pn p:Int)+1)=((pn p+1:Nat):Int):=by rw[w64_in (by omega)];omega
   have:=gPut_key hp c hc1 hc 1 (by unfold moreF;rw[if_pos he]) (by omega) (fun h=>h16 h.2) (by omega) 2 (by omega) (w64 ((pn p:Int)+1)) hw
   exact this
 ·have he':¬ ((emptyF p:Int)=(pn p:Int)):=by omega
  simp only[he',decide_false,cond_false]
  exact gPut_key hp c hc1 hc 0 (by unfold moreF;rw[if_neg he]) (by omega) (fun h=>he h.1) (by omega) 0 (by omega) (pn p:Int) (by omega)
end
end OT
set_option linter.unusedVariables false
set_option linter.unusedSimpArgs false
set_option linter.unusedSectionVars false
namespace OT
open Go
section
variable {p:List UInt8} (hp:PageOk p) (c:List UInt8) (hc1:1<=c.length) (hc:c.length<=20)
include hp hc1 hc
variable {s:Nat} (hs:s < pn p) (hz:psz p s≠0)
include hs hz
theorem specSet_eq:spec_l2Set.sem (p,(s:Int),c,())=some (if setF p s c=0 then setQ p s c else [],setF p s c,()):=by
 have hn:=hp.n
 have hlo:=hp.lo
 have hhi:=hp.hi
 have hl:=hp.len
 obtain ⟨f1,f2⟩:=free_ok hp
 obtain ⟨s1,s2⟩:=hp.slot s hs hz
 refine lift_eq (k:=0) fun k _=>(spec_l2Set.raw_eq k _).trans ?_
 show spec_l2Set.p _=_
 unfold spec_l2Set.p setF setQ
 simp only[pSize_eq hl (show s < 16 by omega),specCopy_eq p (by omega),pPlace_eq hl (show s < 16 by omega),specFree_eq hp,pLow_eq hl,pCount_eq hl,Option.bind_some]
 by_cases c1:c.length<=psz p s
 ·have c1':(c.length:Int)<=(psz p s:Int):=by omega
  have w1:w64 ((w64 ((pat p s:Int)+(psz p s:Int))) - (c.length:Int))=((pat p s+psz p s - c.length:Nat):Int):=by
   rw[w64_in (n:=(pat p s:Int)+(psz p s:Int)) (by omega),w64_in (by omega)];omega
  simp only[c1,c1',decide_true,cond_true,if_true,w1,specStand_eq hl (show s < 16 by omega) (show pat p s+psz p s - c.length+c.length<=64 by omega),Option.bind_some]
 have c1':¬ (c.length:Int)<=(psz p s:Int):=by omega
 have w2:w64 (freeF p+(psz p s:Int))=freeF p+(psz p s:Int):=w64_in (by omega)
 simp only[c1,c1',decide_false,cond_false,if_false,w2]
 by_cases c2:freeF p+(psz p s:Int) < (c.length:Int)
 ·simp only[c2,decide_true,cond_true,if_true,show ¬ ((9:Int)=0) by decide,if_false]
 have w3:w64 ((plo p:Int) - (c.length:Int))=(plo p:Int) - (c.length:Int):=w64_in (by omega)
 simp only[c2,decide_false,cond_false,if_false,w3,ix2 (show pn p < 1000 by omega)]
 by_cases c3:plo p < 2+2*pn p+c.length
 ·have:(plo p:Int) - (c.length:Int) < ((2+2*pn p:Nat):Int):=by omega
  simp only[c3,this,decide_true,cond_true,if_true,show ¬ ((8:Int)=0) by decide,if_false]
 have n3:¬ ((plo p:Int) - (c.length:Int) < ((2+2*pn p:Nat):Int)):=by omega
 have w4:(plo p:Int) - (c.length:Int)=((plo p - c.length:Nat):Int):=by omega
 have n4:¬ (((plo p - c.length:Nat):Int) < ((2+2*pn p:Nat):Int)):=by omega
 have g2:(0:Int)<=1/\(1:Int) < (p.length:Int):=by omega
 simp only[c3,n4,decide_false,cond_false,if_false,w4,g2,and_self,if_true,u8_of]
 rw[read_pb (by omega),specStand_eq (by rw[List.length_set];omega) (by omega) (by omega)]
 simp only[Option.bind_some]
 have:stand (p.set 1 (UInt8.ofNat (plo p - c.length))) s (plo p - c.length) c=(stand p s (plo p - c.length) c).set 1 (UInt8.ofNat (plo p - c.length)):=by
  have hl1:(stand p s (plo p - c.length) c).length=64:=stand_len hl _ (by omega)
  refine pb_ext ?_ fun j hj=>?_
  ·rw[stand_len (by rw[List.length_set];omega) _ (by omega),List.length_set,hl1]
  rw[stand_pb (by rw[List.length_set];omega) (by omega) (by omega),pb_set,pb_set,stand_pb hl (by omega) (by omega),hl1,hl]
  by_cases j1:j=1
  ·subst j1
   rw[if_neg (by omega),if_neg (by omega),if_neg (by omega),if_pos ⟨rfl,by omega⟩,if_pos ⟨rfl,by omega⟩]
  ·have k1:¬ (1=j/\1 < 64):=by omega
   simp only[k1,if_false]
 rw[this]
end
def trimQ (v:List UInt8):List UInt8:=v.set 0 (UInt8.ofNat (trimN v (pn v)))
theorem trimN_same {v w:List UInt8} (h:∀ i,psz v i=psz w i):∀ m,trimN v m=trimN w m
 | 0=>rfl
 | m+1=>by simp only[trimN,h,trimN_same h m]
theorem trim_step {v:List UInt8} (hl:v.length=64) (h0:0 < pn v) (hz:psz v (pn v - 1)=0):trimQ (v.set 0 (UInt8.ofNat (pn v - 1)))=trimQ v/\pn (v.set 0 (UInt8.ofNat (pn v - 1)))=pn v - 1:=by
 have hlt:pn v < 256:=pb_lt v 0
 have hpn:pn (v.set 0 (UInt8.ofNat (pn v - 1)))=pn v - 1:=by
  show pb _ 0=_
  rw[pb_set,if_pos ⟨rfl,by omega⟩,ofNat_toNat (by omega)]
 refine ⟨?_,hpn⟩
 have hs:∀ i,psz (v.set 0 (UInt8.ofNat (pn v - 1))) i=psz v i:=fun i=>by
  show pb _ _=pb _ _
  rw[pb_set,if_neg (by omega)]
 unfold trimQ
 rw[hpn,trimN_same hs,List.set_set]
 obtain ⟨n,hn⟩:∃ n,pn v=n+1:=⟨pn v - 1,by omega⟩
 rw[hn] at hz ⊢
 simp only[trimN,Nat.add_sub_cancel] at hz ⊢
 rw[if_pos hz]
theorem trim_stop {v:List UInt8} (h:pn v=0\/psz v (pn v - 1)≠0):trimQ v=v:=by
 unfold trimQ
 refine set_same ?_ ?_
 ·show pn v=_
  rcases h with h | h
  ·rw[h];rfl
  ·by_cases h0:pn v=0
   ·rw[h0];rfl
   obtain ⟨n,hn⟩:∃ n,pn v=n+1:=⟨pn v - 1,by omega⟩
   rw[hn] at h ⊢
   simp only[trimN,Nat.add_sub_cancel] at h ⊢
   rw[if_neg h]
 ·have:=(trimN_spec v (pn v)).1
  have hlt:pn v < 256:=pb_lt v 0
  omega
theorem u8_pred {v:List UInt8} (hl:v.length=64) (h0:0 < pn v):UInt8.ofInt ((((v[0]'(by omega)).toNat:Nat):Int) - 1)=UInt8.ofNat (pn v - 1):=by
 have h1:(v[0]'(by omega)).toNat=pn v:=(pb_get (show 0 < v.length by omega)).2
 rw[h1]
 have:((pn v:Nat):Int) - 1=((pn v - 1:Nat):Int):=by omega
 rw[this]
 exact u8_of _
section
variable {p:List UInt8} (hp:PageOk p) {s:Nat} (hs:s < pn p)
include hp hs
theorem drop0_len:(drop0 p s).length=64:=by unfold drop0;rw[List.length_set,List.length_set,hp.len]
theorem drop0_pn:pn (drop0 p s)=pn p:=by
 show pb _ 0=pb _ 0
 unfold drop0
 rw[pb_set,if_neg (by omega),pb_set,if_neg (by omega)]
theorem dropQ_trim:dropQ p s=trimQ (drop0 p s):=by unfold dropQ trimQ;rw[drop0_pn hp hs]
theorem specDrop_eq:spec_l2Drop.sem (p,(s:Int),())=some (dropQ p s,()):=by
 have hn:=hp.n
 have hl:=hp.len
 refine lift_eq (k:=100) fun k hk=>(spec_l2Drop.raw_eq k _).trans ?_
 unfold spec_l2Drop.p
 have i2:(0:Int)<=((2+2*s:Nat):Int)/\((2+2*s:Nat):Int) < (p.length:Int):=by omega
 have i3:(0:Int)<=((3+2*s:Nat):Int)/\((3+2*s:Nat):Int) < (p.length:Int):=by omega
 simp only[specCopy_eq p (by omega),Option.bind_some,ix2 (show s < 1000 by omega),ix3 (show s < 1000 by omega),i2,i3,and_self,if_true,Int.toNat_natCast,List.length_set]
 rw[read_pb (by omega),read_pb (by rw[List.length_set];omega),dropQ_trim hp hs]
 have hd:=drop0_pn hp hs
 refine rawIter_eq (fun v=>(trimQ v,())) (fun v=>v.length=64/\pn v<=16) pn (fun v ⟨hv,hvn⟩ self=>?_) k (drop0 p s) ⟨drop0_len hp hs,by omega⟩ (by omega)
 show spec_l2Drop.b0 _ _ _ _=_\/∃ v',spec_l2Drop.b0 _ _ _ _=_/\_
 unfold spec_l2Drop.b0
 have g:(0:Int)<=0/\(0:Int) < (v.length:Int):=by omega
 have e0:((v[0]'(by omega)).toNat:Nat)=pn v:=(pb_get (show 0 < v.length by omega)).2
 simp only[g,and_self,if_true,read_pb (show 0 < v.length by omega)]
 by_cases h0:pn v=0
 ·left
  have:¬ ((0:Int) < (((v[0]'(by omega)).toNat:Nat):Int)):=by rw[e0];omega
  rw[decide_eq_false this,trim_stop (Or.inl h0)]
  rfl
 have h1:(0:Int) < (((v[0]'(by omega)).toNat:Nat):Int):=by rw[e0];omega
 have hw:w64 ((w64 (((v[0]'(by omega)).toNat:Nat):Int)) - 1)=((pn v - 1:Nat):Int):=by
  rw[e0,w64_in (n:=((pn v:Nat):Int)) (by omega),w64_in (by omega)];omega
 rw[decide_eq_true h1,hw,pSize_eq hv (show pn v - 1 < 16 by omega)]
 simp only[Option.bind_some,cond_true]
 by_cases hz:psz v (pn v - 1)=0
 ·right
  obtain ⟨t1,t2⟩:=trim_step hv (by omega) hz
  refine ⟨v.set 0 (UInt8.ofNat (pn v - 1)),?_,by rw[t1],⟨by rw[List.length_set,hv],by omega⟩,by omega⟩
  simp only[hz,Int.natCast_zero,decide_true,cond_true]
  rw[u8_pred hv (by omega)]
 ·left
  have:¬ ((psz v (pn v - 1):Int)=0):=by omega
  rw[decide_eq_false this,trim_stop (Or.inr hz)]
  rfl
end
end OT
set_option linter.unusedVariables false
set_option linter.unusedSimpArgs false
set_option linter.unusedSectionVars false
namespace OT
open Go
theorem pb_app (a b:List UInt8) (j:Nat):pb (a++b) j=if j < a.length then pb a j else pb b (j - a.length):=by
 unfold pb
 simp only[List.getD_eq_getElem?_getD]
 split
 ·rename_i h;rw[List.getElem?_append_left h]
 ·rename_i h;rw[List.getElem?_append_right (by omega)]
theorem pb_zero (n j:Nat):pb (List.replicate n (0:UInt8)) j=0:=by
 unfold pb
 simp only[List.getD_eq_getElem?_getD,List.getElem?_replicate]
 split <;> rfl
section
variable {p:List UInt8} (hp:PageOk p)
include hp
theorem comp0_eq:over (List.replicate 64 (0:UInt8)) 0 (min ((p.take (2+2*pn p)).drop 0).length (List.replicate 64 (0:UInt8)).length) ((p.take (2+2*pn p)).drop 0)=comp0 p:=by
 have hn:=hp.n
 have hl:=hp.len
 have ht:(p.take (2+2*pn p)).length=2+2*pn p:=by rw[List.length_take];omega
 rw[List.drop_zero,List.length_replicate,show min (p.take (2+2*pn p)).length 64=(p.take (2+2*pn p)).length by omega]
 refine pb_ext ?_ fun j hj=>?_
 ·rw[over_length _ _ (by rw[List.length_replicate];omega) (Nat.le_refl _)]
  unfold comp0
  rw[List.length_append,List.length_replicate,List.length_replicate];omega
 ·rw[pb_over (by rw[List.length_replicate];omega)]
  unfold comp0
  rw[pb_app,ht,pb_zero,pb_zero]
  by_cases h:j < 2+2*pn p
  ·rw[if_pos ⟨by omega,by omega⟩,if_pos h,Nat.sub_zero]
  ·rw[if_neg (by omega),if_neg h]
theorem comp_at {k:Nat} (hk:k < pn p) (hz:psz p k≠0):(compL p k).1.length=64/\psz p k<=(compL p k).2/\(compL p k).2<=64/\psz (compL p k).1 k=psz p k/\2+2*pn p<=(compL p k).2 - psz p k:=by
 have I:=comp_inv hp k (by omega)
 have hroom:=sum_room hp
 have hm:=sumZ_mono p (show k+1<=pn p from hk)
 have hlo:=hp.lo
 have ha:=I.a
 simp only[sumZ] at hm
 exact ⟨I.len,by omega,by omega,I.sz k hk,by omega⟩
theorem comp_end:(compL p (pn p)).1.length=64/\(compL p (pn p)).2<=64:=by
 have I:=comp_inv hp (pn p) (Nat.le_refl _)
 have ha:=I.a
 exact ⟨I.len,by omega⟩
theorem specComp_eq:spec_l2Compact.sem (p,())=some (compQ p,()):=by
 have hn:=hp.n
 have hl:=hp.len
 refine lift_eq (k:=100) fun k hk=>(spec_l2Compact.raw_eq k _).trans ?_
 unfold spec_l2Compact.p
 have g1:(0:Int)<=64/\(64:Int)<=64/\(64:Int)<=(CAP:Int):=by unfold CAP;omega
 have g2:(0:Int)<=((2+2*pn p:Nat):Int)/\((2+2*pn p:Nat):Int)<=(p.length:Int):=by omega
 simp only[pCount_eq hl,Option.bind_some,ix2 (show pn p < 1000 by omega),g1,g2,and_self,if_true,Int.toNat_natCast]
 rw[comp0_eq hp]
 have:=range_loop (B:=fun self v=>spec_l2Compact.B0 k self (fun z=>spec_l2Compact.Q0 k (p,()) (pn p:Int) z) (p,()) (pn p:Int) v) (pn p) (fun (s:List UInt8×Nat) (i:Int)=>(s.1,(s.2:Int),i)) (fun x s=>.inr (compS p s x)) (fun s=>some (s.1.set 1 (UInt8.ofNat s.2),())) (fun i s=>s=compL p i) (by omega)
  (fun i hi s self hs=>by
   subst hs
   show spec_l2Compact.b0 _ _ _ _ _=_
   unfold spec_l2Compact.b0 compS
   have hlt:(i:Int) < (pn p:Int):=by omega
   simp only[hlt,decide_true,cond_true,pSize_eq hl (show i < 16 by omega),Option.bind_some]
   by_cases hz:psz p i=0
   ·simp only[hz,Int.natCast_zero,decide_true,cond_true,if_true]
   ·have hz':¬ ((psz p i:Int)=0):=by omega
    obtain ⟨c1,c2,c3,c4,c5⟩:=comp_at hp hi hz
    have hcl:=cellP_len hp hi
    have hw:w64 (((compL p i).2:Int) - (psz p i:Int))=(((compL p i).2 - psz p i:Nat):Int):=by rw[w64_in (by omega)];omega
    simp only[hz,hz',decide_false,cond_false,if_false,specCellAt_eq hp hi,Option.bind_some,hcl,hw,specStand_eq c1 (show i < 16 by omega) (show (compL p i).2 - psz p i+(cellP p i).length<=64 by omega)])
  (fun i hi s s' hs hf=>by injection hf with hf;subst hf;rw[hs,compL_succ]) (fun s self hs=>by
   subst hs
   obtain ⟨c1,c2⟩:=comp_end hp
   show spec_l2Compact.b0 _ _ _ _ _=_
   unfold spec_l2Compact.b0
   simp only[Int.lt_irrefl,decide_false,cond_false]
   show spec_l2Compact.q0 _ _ _=_
   unfold spec_l2Compact.q0
   have g:(0:Int)<=1/\(1:Int) < ((compL p (pn p)).1.length:Int):=by omega
   simp only[g,and_self,if_true,u8_of]
   rw[read_pb (by omega)]) (comp0 p,64) rfl k (by omega)
 rw[forI_fold (g:=fun s x=>compS p s x)] at this
 exact this
end
end OT
set_option linter.unusedVariables false
set_option linter.unusedSimpArgs false
namespace OT
open Go
theorem specNew_eq:spec_l2New.sem ((0:UInt8),())=some (newF,()):=by
 refine lift_eq (k:=66) fun k hk=>(spec_l2New.raw_eq k _).trans ?_
 unfold spec_l2New.p
 have:=for_loop (B:=fun self v=>spec_l2New.B0 0 self (fun z=>spec_l2New.Q0 0 ((0:UInt8),()) z) ((0:UInt8),()) v) (List.replicate 64 (0:UInt8)) (fun (s:List UInt8) (i:Int)=>(s,i)) (fun _ s _=>.inr s) (fun s=>(newF,())) (fun _ s=>s=List.replicate 64 (0:UInt8)) (by rw[maxLen_val];simp)
  (fun i hi s self hI=>by
   show spec_l2New.b0 _ _ _ _=_
   unfold spec_l2New.b0
   subst hI
   simp only[List.length_replicate] at hi ⊢
   have hlt:(i:Int) < (64:Int):=by omega
   have hin:(0:Int)<=(i:Int)/\(i:Int) < ((64:Nat):Int):=by omega
   have hg:(List.replicate 64 (0:UInt8))[i]?=some 0:=(List.getElem?_replicate (n:=64) (i:=i) (a:=(0:UInt8))).trans (if_pos hi)
   have hs:(List.replicate 64 (0:UInt8)).set i 0=List.replicate 64 (0:UInt8):=List.set_replicate_self
   simp only[hlt,hin,and_self,decide_true,cond_true,if_true,Int.toNat_natCast,hg,Option.bind_some,hs])
  (fun i hi s s' hI hs=>by injection hs with hs;rw[<-hs,hI]) (fun s self hI=>by
   show spec_l2New.b0 _ _ _ _=_
   unfold spec_l2New.b0
   subst hI
   have:¬ (((64:Nat):Int) < 64):=by omega
   simp only[List.length_replicate,this,decide_false,cond_false]
   rfl) (List.replicate 64 (0:UInt8)) rfl k (by simp;omega)
 rw[forI_fold (g:=fun s _=>s)] at this
 have hc:(0:Int)<=64/\(64:Int)<=64/\(64:Int)<=(CAP:Int):=⟨by omega,by omega,by simp only[CAP];omega⟩
 rw[if_pos hc]
 exact this
end OT
