/- The proof's parts, merged: Functions  a body that is run on data gives the contract.. No conditions but those that each states. -/
import Derived.Test.YthpkgnffmmmhiaaGreatSc
import Derived.ProofKit
import Derived.Deep.Slices
import Derived.Laws.BitsLemmas
import Derived.Shelf.SlSortCmp.NoneTotal
import Derived.Test.YthpkgnffmmmhiaaGreatProg
import Derived.KernelRfl
set_option linter.unusedVariables false
set_option linter.unusedSimpArgs false
namespace OT
open Go
section
variable {P:Program} {w:World} {A:Cells} {R:Type} {x:R} {E:Env}
theorem init_len:∀ (ps:List (PM×Ty)) (v:(tupT (ps.map (·.2))).den),(initSlots ps v).length=ps.length
 | [],_=>rfl
 | (.ro,t)::ps,v=>by cases t <;> simp[initSlots,init_len ps v.2]
 | (.fix f,t)::ps,v=>by cases t <;> simp[initSlots,init_len ps v.2]
 | (.mutp m,t)::ps,v=>by simp[initSlots,init_len ps v.2]
 | (.muts m,t)::ps,v=>by simp[initSlots,init_len ps v.2]
 | (.eat m,t)::ps,v=>by simp[initSlots,init_len ps v.2]
 | (.eatv m,t)::ps,v=>by simp[initSlots,init_len ps v.2]
theorem args_len:∀ (ps:List (PM×Ty)) {v:(tupT (ps.map (·.2))).den} {xs:List Value} {G:FP},ArgsRel P w A ps v xs G->xs.length=ps.length
 | [],_,_,_,h=>by have h:_=[]:=h;rw[h];rfl
 | (pm,t)::ps,_,_,_,h=>by
  obtain ⟨y,ys,F1,F2,rfl,_,_,h2⟩:=h
  simp[args_len ps h2]
theorem init_ok:∀ (ps:List (PM×Ty)) {v:(tupT (ps.map (·.2))).den} {xs:List Value} {G:FP},ArgsRel P w A ps v xs G->psOk ps=true ->
  ∃ Fi:Nat->FP,(∀ b k,sumF ps.length Fi b k<=G b k)/\∀ i s,(initSlots ps v)[i]?=some s->∃ y,xs[i]?=some y/\(∀ σ a,SlotRel P A σ a w y s (Fi i))/\(∀ t m H v,s=.box t m H v->(i,i,false) ∈ lentOf 0 ps) /\
   ((i,i,true) ∈ lentOf 0 ps->∃ t m H v,s=.own t m H v):=by
 have main:∀ (ps:List (PM×Ty)) (n:Nat) {v:(tupT (ps.map (·.2))).den} {xs:List Value} {G:FP},ArgsRel P w A ps v xs G->psOk ps=true ->
   ∃ Fi:Nat->FP,(∀ b k,sumF ps.length Fi b k<=G b k)/\∀ i s,(initSlots ps v)[i]?=some s->∃ y,xs[i]?=some y/\(∀ σ a,SlotRel P A σ a w y s (Fi i))/\(∀ t m H v,s=.box t m H v->(n+i,n+i,false) ∈ lentOf n ps) /\
    ((n+i,n+i,true) ∈ lentOf n ps->∃ t m H v,s=.own t m H v):=by
  have hlt:∀ (ps:List (PM×Ty)) (n j k:Nat) (c:Bool),(j,k,c) ∈ lentOf n ps->n<=j/\j=k:=by
   intro ps
   induction ps with
   | nil=>intro n j k c h;cases h
   | cons p ps ih=>
    intro n j k c h
    obtain ⟨pm,t⟩:=p
    cases pm with
    | ro=>have:=ih (n+1) j k c h;omega
    | fix f=>have:=ih (n+1) j k c h;omega
    | eatv m=>have:=ih (n+1) j k c h;omega
    | mutp m=>
     rcases List.mem_cons.1 h with e | h
     ·injection e with e1 e2;injection e2 with e2 e3;omega
     ·have:=ih (n+1) j k c h;omega
    | eat m=>
     rcases List.mem_cons.1 h with e | h
     ·injection e with e1 e2;injection e2 with e2 e3;omega
     ·have:=ih (n+1) j k c h;omega
    | muts m=>
     rcases List.mem_cons.1 h with e | h
     ·injection e with e1 e2;injection e2 with e2 e3;omega
     ·have:=ih (n+1) j k c h;omega
  intro ps
  induction ps with
  | nil=>intro n v xs G h _;exact ⟨fun _ _ _=>0,fun b k=>Nat.zero_le _,fun i s hs=>by cases hs⟩
  | cons p ps ih=>
   intro n v xs G h hp
   obtain ⟨pm,t⟩:=p
   obtain ⟨y,ys,F1,F2,rfl,hs,ha,hr⟩:=h
   have hp':psOk ps=true:=hp
   obtain ⟨Fi,g1,g2⟩:=ih (n+1) hr hp'
   obtain ⟨s0,hs0,hrel,hbox,hown⟩:∃ s0,initSlots ((pm,t)::ps) v=s0::initSlots ps v.2/\(∀ σ a,SlotRel P A σ a w y s0 F1)/\(∀ t' m' H' v',s0=.box t' m' H' v'->∃ m,pm=.mutp m\/pm=.eat m)/\((∃ m,pm=.muts m)->∃ t' m H v,s0=.own t' m H v):=by
    cases pm with
    | ro=>
     obtain ⟨cs,h1,h2⟩:=ha
     cases t with
     | ptr e=>
      refine ⟨.cp e v.1,rfl,fun σ a=>?_,(fun _ _ _ _ e=>by cases e),fun ⟨m,e⟩=>by cases e⟩
      have hl:=Ro.length _ h2
      match cs,hl with
      | [u],_=>
       rw[mkV_one _ _ rfl] at h1
       subst h1
       exact h2
     | _=>exact ⟨.val _ v.1,rfl,fun σ a=>⟨cs,h1,h2⟩,(fun _ _ _ _ e=>by cases e),fun ⟨m,e⟩=>by cases e⟩
    | fix f=>
     obtain ⟨⟨cs,h1,h2⟩,h3⟩:=ha
     cases t with
     | fn=>
      refine ⟨.val .fn (f,v.1.2),rfl,fun σ a=>⟨cs,h1,?_⟩,(fun _ _ _ _ e=>by cases e),fun ⟨m,e⟩=>by cases e⟩
      have e:v.1=(f,v.1.2):=by have:=h3 rfl;rw[<-this]
      rw[<-e];exact h2
     | _=>exact ⟨.dead,rfl,fun σ a=>trivial,(fun _ _ _ _ e=>by cases e),fun ⟨m,e⟩=>by cases e⟩
    | mutp m=>
     obtain ⟨b,o,L,F3,h1,h2,h3,h4,h5,h6⟩:=ha
     exact ⟨.box t m [] v.1,rfl,fun σ a=>⟨b,o,L,F3,h1,h2,h3,h4,h5,h6⟩,fun _ _ _ _ _=>⟨m,.inl rfl⟩,fun ⟨m,e⟩=>by cases e⟩
    | eat m=>
     obtain ⟨b,o,L,F3,h1,h2,h3,h4,h5,h6⟩:=ha
     exact ⟨.box t m [] v.1,rfl,fun σ a=>⟨b,o,L,F3,h1,h2,h3,h4,h5,h6⟩,fun _ _ _ _ _=>⟨m,.inr rfl⟩,fun ⟨m,e⟩=>by cases e⟩
    | muts m=>
     obtain ⟨cs,h1,h2⟩:=ha
     exact ⟨.own t m [] v.1,rfl,fun σ a=>⟨cs,h1,h2⟩,(fun _ _ _ _ e=>by cases e),fun _=>⟨_,_,_,_,rfl⟩⟩
    | eatv m=>
     obtain ⟨cs,h1,h2⟩:=ha
     exact ⟨.own t m [] v.1,rfl,fun σ a=>⟨cs,h1,h2⟩,(fun _ _ _ _ e=>by cases e),fun _=>⟨_,_,_,_,rfl⟩⟩
   refine ⟨fun k=>match k with | 0=>F1 | k+1=>Fi k,fun b k=>?_,fun i s hi=>?_⟩
   ·have:sumF (ps.length+1) (fun k=>match k with | 0=>F1 | k+1=>Fi k) b k=F1 b k+sumF ps.length Fi b k:=by
     rw[Nat.add_comm,sumF_add]
     congr 1
     ·simp[sumF]
     ·refine congrFun (congrFun (sumF_congr fun j hj=>?_) b) k
      rw[Nat.add_comm]
    show sumF (ps.length+1) _ b k<=G b k
    rw[this]
    have:=hs b k;have:=g1 b k;omega
   ·rw[hs0] at hi
    cases i with
    | zero=>
     injection hi with hi
     subst hi
     refine ⟨y,rfl,hrel,fun t' m' H' v' e=>?_,fun hm=>?_⟩
     ·obtain ⟨m,rfl | rfl⟩:=hbox t' m' H' v' e
      ·exact List.mem_cons_self
      ·exact List.mem_cons_self
     ·refine hown ?_
      cases pm with
      | muts m=>exact ⟨m,rfl⟩
      | ro=>have:=hlt ps (n+1) _ _ _ hm;omega
      | fix f=>have:=hlt ps (n+1) _ _ _ hm;omega
      | eatv m=>have:=hlt ps (n+1) _ _ _ hm;omega
      | mutp m=>
       rcases List.mem_cons.1 hm with e | hm
       ·injection e with e1 e2;injection e2 with e2 e3;cases e3
       ·have:=hlt ps (n+1) _ _ _ hm;omega
      | eat m=>
       rcases List.mem_cons.1 hm with e | hm
       ·injection e with e1 e2;injection e2 with e2 e3;cases e3
       ·have:=hlt ps (n+1) _ _ _ hm;omega
    | succ i=>
     obtain ⟨y',q1,q2,q3,q4⟩:=g2 i s hi
     have hidx:n+1+i=n+(i+1):=by omega
     rw[hidx] at q3 q4
     refine ⟨y',q1,q2,fun t' m' H' v' e=>?_,fun hm=>q4 ?_⟩
     ·have:=q3 t' m' H' v' e
      cases pm with
      | ro=>exact this
      | fix f=>exact this
      | eatv m=>exact this
      | mutp m=>exact List.mem_cons_of_mem _ this
      | eat m=>exact List.mem_cons_of_mem _ this
      | muts m=>exact List.mem_cons_of_mem _ this
     ·cases pm with
      | ro=>exact hm
      | fix f=>exact hm
      | eatv m=>exact hm
      | mutp m=>
       rcases List.mem_cons.1 hm with e | hm
       ·injection e with e1 e2;omega
       ·exact hm
      | eat m=>
       rcases List.mem_cons.1 hm with e | hm
       ·injection e with e1 e2;omega
       ·exact hm
      | muts m=>
       rcases List.mem_cons.1 hm with e | hm
       ·injection e with e1 e2;omega
       ·exact hm
 intro ps v xs G h hp
 obtain ⟨Fi,g1,g2⟩:=main ps 0 h hp
 exact ⟨Fi,g1,fun i s hi=>by simpa using g2 i s hi⟩
theorem lent_idx:∀ (ps:List (PM×Ty)) (n j k:Nat) (c:Bool),(j,k,c) ∈ lentOf n ps->n<=j/\j=k/\j < n+ps.length:=by
 intro ps
 induction ps with
 | nil=>intro n j k c h;cases h
 | cons p ps ih=>
  intro n j k c h
  obtain ⟨pm,t⟩:=p
  simp only[List.length_cons]
  cases pm with
  | ro=>have:=ih (n+1) j k c h;omega
  | fix f=>have:=ih (n+1) j k c h;omega
  | eatv m=>have:=ih (n+1) j k c h;omega
  | mutp m=>
   rcases List.mem_cons.1 h with e | h
   ·injection e with e1 e2;injection e2 with e2 e3;omega
   ·have:=ih (n+1) j k c h;omega
  | eat m=>
   rcases List.mem_cons.1 h with e | h
   ·injection e with e1 e2;injection e2 with e2 e3;omega
   ·have:=ih (n+1) j k c h;omega
  | muts m=>
   rcases List.mem_cons.1 h with e | h
   ·injection e with e1 e2;injection e2 with e2 e3;omega
   ·have:=ih (n+1) j k c h;omega
theorem look_num:∀ (ss:List Slot) (n i:Nat),lookN (numbered n ss) i=if n<=i then ss[i - n]? else none
 | [],n,i=>by simp[numbered,lookN]
 | s::ss,n,i=>by
  simp only[numbered,lookN,look_num ss (n+1) i]
  by_cases hi:n=i
  ·subst hi;simp
  ·have:Nat.beq n i=false:=by
    cases hb:Nat.beq n i with
    | false=>rfl
    | true=>exact absurd (Nat.eq_of_beq_eq_true hb) hi
   simp only[this,Bool.false_eq_true,if_false]
   by_cases hle:n<=i
   ·rw[if_pos (by omega),if_pos hle]
    have e:i - n=(i - (n+1))+1:=by omega
    rw[e,List.getElem?_cons_succ]
   ·rw[if_neg (by omega),if_neg hle]
theorem begin_ok {g:Sig} {v:(tupT (g.ps.map (·.2))).den} {xs:List Value} {F0:FP} {n:Nat} (h:ArgsRel P w A g.ps v xs F0) (hp:psOk g.ps=true) (hn:g.ps.length<=n) (h1:∀ b i,F0 b i<=1) (h2:∀ b i,1<=F0 b i->¬ A b i) (h3:∀ b i,1<=F0 b i\/A b i->b < w.heap.size) :
  ∃ F,Rel0 P { w0:=w,A0:=A,F0:=F0,args:=xs.toArray } A (initSt g.ps v n) { tmps:=xs.toArray++Array.replicate (n - xs.toArray.size) undef,defers:=[] } w F:=by
 obtain ⟨Fi,g1,g2⟩:=init_ok g.ps h hp
 have hlen:=args_len g.ps h
 have hil:=init_len g.ps v
 have hget:∀ i,(initSt g.ps v n).get i=if i < n then (match (initSlots g.ps v)[i]? with | some s=>s | none=>.dead) else .dead:=fun i=>by
  unfold St.get initSt
  simp only[look_num,Nat.zero_le,if_true,Nat.sub_zero]
  by_cases hi:i < n
  ·rw[if_pos (by simpa [Nat.blt_eq] using hi),if_pos hi]
   rfl
  ·rw[if_neg (by simpa [Nat.blt_eq] using hi),if_neg hi]
 have htmp:∀ i (y:Value),xs[i]?=some y->tmp { tmps:=xs.toArray++Array.replicate (n - xs.toArray.size) undef,defers:=[] } i=y:=fun i y hy=>by
  have hi:=(List.getElem?_eq_some_iff.1 hy).1
  unfold tmp
  rw[Array.getD_eq_getD_getElem?,Array.getElem?_append_left (by simpa using hi)]
  simp[hy]
 have hsum:∀ b k,sumF n (fun i=>if i < g.ps.length then Fi i else fun _ _=>0) b k<=F0 b k:=fun b k=>by
  have e:n=g.ps.length+(n - g.ps.length):=by omega
  rw[e,sumF_add]
  have e1:=congrFun (congrFun (sumF_congr (n:=g.ps.length) (f:=fun i=>if i < g.ps.length then Fi i else fun _ _=>0) (g:=Fi) (fun j hj=>by simp only[if_pos hj])) b) k
  have e2:=congrFun (congrFun (sumF_congr (n:=n - g.ps.length) (f:=fun j=>(fun i=>if i < g.ps.length then Fi i else fun _ _=>0) (g.ps.length+j)) (g:=fun _ _ _=>0) (fun j hj=>by simp only;rw[if_neg (by omega)])) b) k
  rw[e1,e2,sumF_zero]
  exact g1 b k
 refine ⟨fun i=>if i < g.ps.length then Fi i else fun _ _=>0,?_,rfl,fun i hi=>?_,(fun d r p snap hm=>by cases hm),fun b k=>?_,fun b k hp=>?_,fun b k hp=>?_,fun i=>rfl,Ext.refl _ _,fun b k hp=>?_,fun _ _ h=>h,fun _ _ h=>.inl h,fun j k hm=>?_,fun r t m H v' hg hl=>?_,fun j k hm R hR=>?_⟩
 ·simp only[Array.size_append,List.size_toArray,Array.size_replicate,hlen,initSt];omega
 ·rw[hget]
  have hi:i < n:=hi
  rw[if_pos hi]
  cases hs:(initSlots g.ps v)[i]? with
  | none=>trivial
  | some s=>
   obtain ⟨y,q1,q2,_⟩:=g2 i s hs
   have hlt:i < g.ps.length:=by rw[<-hil];exact (List.getElem?_eq_some_iff.1 hs).1
   rw[htmp i y q1]
   simp only[if_pos hlt]
   exact q2 _ _
 ·have:=hsum b k;have:=h1 b k;show 0+sumF n _ b k<=1;omega
 ·have hp:1<=0+sumF n (fun i=>if i < g.ps.length then Fi i else fun _ _=>0) b k:=hp
  have:=hsum b k
  exact h2 b k (by omega)
 ·refine h3 b k (hp.imp (fun hp=>?_) id)
  have hp:1<=0+sumF n (fun i=>if i < g.ps.length then Fi i else fun _ _=>0) b k:=hp
  have:=hsum b k
  omega
 ·have hp:1<=0+sumF n (fun i=>if i < g.ps.length then Fi i else fun _ _=>0) b k:=hp
  have:=hsum b k
  left;show 1<=F0 b k;omega
 ·obtain ⟨_,rfl,hj⟩:=lent_idx g.ps 0 j k false hm
  have hj:j < xs.length:=by omega
  rw[htmp j xs[j] (List.getElem?_eq_getElem hj)]
  simp[hj]
 ·exfalso
  rw[hget] at hg
  split at hg
  ·cases hs:(initSlots g.ps v)[r]? with
   | none=>rw[hs] at hg;cases hg
   | some s=>
    rw[hs] at hg
    obtain ⟨y,_,_,q3,_⟩:=g2 r s hs
    exact hl r (q3 t m H v' hg)
  ·cases hg
 ·obtain ⟨_,rfl,hj⟩:=lent_idx g.ps 0 j k true hm
  have hj':j < (initSlots g.ps v).length:=by omega
  have hs:=List.getElem?_eq_getElem hj'
  obtain ⟨y,q1,q2,_,q4⟩:=g2 j _ hs
  obtain ⟨t,m,H,v',e⟩:=q4 hm
  have hjn:j < n:=by omega
  rw[hget,if_pos hjn,hs] at hR
  simp only[e,rootPl,Option.some.injEq] at hR
  subst hR
  rw[htmp j y q1]
  have h2:=q2 (initSt g.ps v n) { tmps:=#[],defers:=[] }
  rw[e] at h2
  obtain ⟨cs,c1,c2⟩:=h2
  have:=mkV_cells (Rep.length _ c2) (Rep.one _ c2)
  show mkV t y.cells.toList=_
  rw[c1,this,<- c1]
  have hjx:=(List.getElem?_eq_some_iff.1 q1)
  obtain ⟨hjx,e2⟩:=hjx
  simp[hjx,e2]
noncomputable def funOk (P:Program) (E:Env) (fn:Func) (ps:List (PM×Ty)) (rs:List (Ty×Md)) (es:List Nat):Bool:=
 codeOk P E (bodyOf fn)&&rvOk E rs fn.results.toList&&psOk ps&&Nat.ble ps.length fn.ntmps&&decide es.Nodup
theorem sound_of_body (hE:EnvOk P E) {f:FuncId} {fn:Func} (hf:P.funcs[f]?=some fn) (hb:fn.body.isSome=true) {g:Sig} {es fr:List Nat} (hok:funOk P E fn g.ps g.rs es=true) (hF:∀ v out,g.F v=some out->∃ k,bodyK E k fn g.ps g.rs es fr v=some out):Sound P f g:=by
 intro w A F0 v xs hargs h1 h2 h3 out hout
 obtain ⟨k,hk⟩:=hF v out hout
 simp only[funOk,Bool.and_eq_true,Nat.ble_eq,decide_eq_true_eq] at hok
 obtain ⟨⟨⟨⟨hcode,hrv⟩,hps⟩,hnt⟩,hnd⟩:=hok
 obtain ⟨c,hc⟩:=Option.isSome_iff_exists.1 hb
 have hbo:bodyOf fn=c:=by simp[bodyOf,hc]
 rw[hbo] at hcode
 obtain ⟨F,hrel⟩:=begin_ok hargs hps hnt h1 h2 h3
 unfold bodyK at hk
 rw[hbo] at hk
 have hxl:=args_len g.ps hargs
 have hend:∀ (a':Act) (w':World) (σ':St),outK g.ps g.rs es fn.results.toList (mvs fr) σ'=some out->RelE P { w0:=w,A0:=A,F0:=F0,args:=xs.toArray } σ' a' w' ->
   a'.defers=[]/\∃ rv,(results fn a'.tmps).run P w'=.ok rv w'/\(∃ rv',Ending.returned rv=.returned rv'/\Ext w w' F0/\∃ (A':Cells) (G GR GM:FP),(∀ b i,A b i->A' b i)/\(∀ b i,A' b i->A b i\/1<=F0 b i\/w.heap.size<=b) /\
    (∀ b i,1<=G b i->1<=F0 b i\/w.heap.size<=b)/\(∀ b i,G b i<=1)/\(∀ b i,1<=G b i->¬ A' b i)/\(∀ b i,1<=G b i\/A' b i->b < w'.heap.size)/\(∀ b i,GR b i+GM b i<=G b i) /\
    RetRel P w' A' (splitR g.rs out).1 rv' GR/\MutsRel P w' A' g.ps (splitR g.rs out).2 xs GM):=by
  intro a' w' σ' ho hr
  obtain ⟨A1,F1,hr⟩:=hr
  unfold outK at ho
  obtain ⟨A2,σ2,X2,F2,vals,L,Fi,pre,r1,r2,r3,r4,r5,r6,r7,r8,r9⟩:=res_ok hE g.rs fn.results.toList 0 hrv hr ho
  obtain ⟨vs,us,Gi,m1,m2,m3,m4,m5,m6⟩:=muts_ok r2 0 g.ps es hps hnd (by simp[hxl]) r3
  have hpre:pre vs=out:=Option.some.inj m1
  have hsp:splitR g.rs out=(L,vs):=by rw[<-hpre,r4]
  have hGR:∀ b i,sumF L.length Fi b i<=X2 b i:=fun b i=>by have:=r8 b i;omega
  have hGM0:∀ b i,sumL Gi us b i<=sumL F2 us b i:=fun b i=>by
   have:∀ l:List Nat,(∀ j ∈ l,j ∈ us)->sumL Gi l b i<=sumL F2 l b i:=by
    intro l
    induction l with
    | nil=>intro _;exact Nat.le_refl _
    | cons j l ih=>
     intro hl
     have:=m5 j b i (hl j List.mem_cons_self)
     have:=ih fun j' hj'=>hl j' (List.mem_cons_of_mem _ hj')
     simp only[sumL];omega
   exact this us fun _ h=>h
  have hGM:∀ b i,sumL Gi us b i<=sumF σ2.n F2 b i:=fun b i=>Nat.le_trans (hGM0 b i) (sumL_le us F2 m3 m4 b i)
  refine ⟨r2.defers,_,results_run (by rw[r6]) r7,_,rfl,r2.ext,?_⟩
  obtain ⟨A3,hA3⟩:∃ A3:Cells,∀ b i,A3 b i↔(A2 b i\/(1<=X2 b i+sumF σ2.n F2 b i/\sumF L.length Fi b i+sumL Gi us b i=0)):=⟨fun b i=>A2 b i\/(1<=X2 b i+sumF σ2.n F2 b i/\sumF L.length Fi b i+sumL Gi us b i=0),fun _ _=>Iff.rfl⟩
  have hA23:∀ b i,A2 b i->A3 b i:=fun b i h=>(hA3 b i).2 (.inl h)
  have htot:∀ b i,X2 b i+sumF σ2.n F2 b i<=1:=fun b i=>r2.tot b i
  refine ⟨A3,fun b i=>sumF L.length Fi b i+sumL Gi us b i,sumF L.length Fi,sumL Gi us,fun b i ha=>hA23 b i (r2.a0 b i ha),fun b i ha=>?_,fun b i hp=>?_,fun b i=>?_,fun b i hp ha=>?_,fun b i hp=>?_,fun _ _=>Nat.le_refl _,?_,?_⟩
  ·rcases (hA3 b i).1 ha with ha | ⟨hp,_⟩
   ·exact r2.a1 b i ha
   ·exact .inr (r2.own b i hp)
  ·have hp:1<=sumF L.length Fi b i+sumL Gi us b i:=hp
   exact r2.own b i (by have:=hGR b i;have:=hGM b i;omega)
  ·show sumF L.length Fi b i+sumL Gi us b i<=1
   have:=hGR b i;have:=hGM b i;have:=htot b i;omega
  ·have hp:1<=sumF L.length Fi b i+sumL Gi us b i:=hp
   rcases (hA3 b i).1 ha with ha | ⟨_,hz⟩
   ·exact r2.dis b i (by have:=hGR b i;have:=hGM b i;omega) ha
   ·omega
  ·rcases hp with hp | ha
   ·have hp:1<=sumF L.length Fi b i+sumL Gi us b i:=hp
    exact r2.bnd b i (.inl (by have:=hGR b i;have:=hGM b i;omega))
   ·rcases (hA3 b i).1 ha with ha | ⟨hp,_⟩
    ·exact r2.bnd b i (.inr ha)
    ·exact r2.bnd b i (.inl hp)
  ·rw[hsp]
   have hres:=r9 A3 hA23 (fun b i hx _ hz=>(hA3 b i).2 (.inr ⟨by omega,by
    have:=hGM b i;have:=htot b i;omega⟩))
   show RetRel P w' A3 L _ _
   match L,r5,hres with
   | [],_,_=>trivial
   | [y],hl,hres=>
    match vals,hl with
    | [u],_=>
     obtain ⟨u',cs,e1,e2,e3⟩:=hres 0 y rfl
     injection e1 with e1
     subst e1
     refine ⟨cs,by simpa using e2,e3.le fun b i=>by simp[sumF]⟩
   | y::z::L,hl,hres=>
    refine ⟨vals.toArray,Fi,?_,fun _ _=>Nat.le_refl _,fun j q hq=>?_⟩
    ·rw[dif_neg]
     simp only[List.size_toArray,hl,List.length_cons];omega
    ·obtain ⟨u,cs,e1,e2,e3⟩:=hres j q hq
     exact ⟨u,cs,by simpa using e1,e2,e3⟩
  ·rw[hsp]
   refine m6 A3 hA23 fun i b k' hi hp hz=>(hA3 b k').2 (.inr ⟨by have:=le_sumF F2 (m4 i hi) b k';omega,?_⟩)
   have h4:=le_sumF F2 (m4 i hi) b k'
   have h5:=htot b k'
   have h6:=hGR b k'
   have h7:sumL Gi us b k'=0:=by
    rcases Nat.eq_zero_or_pos (sumL Gi us b k') with h0 | h0
    ·exact h0
    ·obtain ⟨j,hj,hpj⟩:=sumL_pos h0
     by_cases hij:j=i
     ·subst hij;omega
     ·have:=m5 j b k' hj
      have:=le_sumF2 F2 (m4 j hj) (m4 i hi) hij b k'
      omega
   omega
 refine calls_of_wp hf hc (wp_mono (code_ok hE c hcode hrel hk) fun e a' w' hq=>?_)
 cases e with
 | normal=>obtain ⟨σ',h4,h5⟩:=hq;exact hend a' w' σ' h4 h5
 | ret=>obtain ⟨σ',h4,h5⟩:=hq;exact hend a' w' σ' h4 h5
 | exit j=>obtain ⟨σ',h4,h5⟩:=hq;cases h4
 | _=>exact hq.elim
end
end OT
set_option linter.unusedVariables false
set_option linter.unusedSimpArgs false
namespace OT
open Go
def OLD (w:World):Cells:=fun b _=>b < w.heap.size
def argT:Ty->Bool
 | .int _ | .bool | .str | .unit=>true
 | .pair a b=>argT a&&argT b
 | .slc e=>argT e
 | _=>false
def okD:(T:Ty)->T.den->Prop
 | .int k,n=>k.min<=toI k n/\toI k n<=k.max
 | .str,s=>List.length s<=maxLen
 | .pair a b,v=>okD a v.1/\okD b v.2
 | .slc e,v=>List.length v<=maxLen/\∀ x ∈ (v:List e.den),okD e x
 | _,_=>True
def okA:(ps:List (PM×Ty))->(tupT (ps.map (·.2))).den->Prop
 | [],_=>True
 | (_,T)::ps,v=>okD T v.1/\okA ps v.2
section
variable {P:Program} {w:World} {H:Type} {enc:TypeId×Value->H}
theorem cells_sz {T:Ty} {i:TypeId} (h:layB P T (.inl i)=true):P.cellsOf i=T.sz:=by
 obtain ⟨inf,h1,h2,_⟩:=infoOk_some (layB_info h)
 simp[Program.cellsOf,h1,h2]
theorem add_none {a:Addr} {k:Nat} {u:Value} (h:w.cell? (a.add k)=some u) (hk:k=0\/a.spot=none):a.spot=none:=by
 rcases hk with rfl | hk
 ·unfold Addr.add at h
  rw[if_pos rfl] at h
  unfold World.cell? at h
  split at h
  ·split at h
   ·cases h
   ·rename_i hs
    cases hsp:a.spot with
    | none=>rfl
    | some s=>rw[hsp] at hs;simp at hs
  ·cases h
 ·exact hk
theorem trod_ro:∀ (T:Ty),argT T=true ->
  (∀ i,layB P T (.inl i)=true->∀ fuel cs x,DataW.trod enc P w 0 (fun _=>true) true fuel i cs=some x->∃ v:T.den,okD T v/\Ro P w (OLD w) T v cs) /\
  (∀ fs off,layB P T (.inr (fs,off))=true->∀ n (cs:List Value),cs.length=off+T.sz->(∀ f ∈ fs,∃ x,DataW.trod enc P w 0 (fun _=>true) true n f.type ((cs.drop f.offset).take (P.cellsOf f.type))=some x)->∃ v:T.den,okD T v/\Ro P w (OLD w) T v (cs.drop off)):=by
 intro T
 induction T with
 | int k=>
  intro _
  refine ⟨fun i hl fuel cs x h=>?_,fun fs off hl=>by simp[layB] at hl⟩
  obtain ⟨n,rfl,_,hwf⟩:=DataW.trod_int (lay_int hl) h
  simp only[Lit.wf,Bool.and_eq_true,decide_eq_true_eq] at hwf
  cases k with
  | u8=>
   have h1:toI .u8 (UInt8.ofInt n)=n:=by
    have:=toI_inI .u8 n (fun _=>by
     have h1:(0:Int)<=n:=hwf.1
     have h2:n<=(255:Int):=hwf.2
     omega)
    exact this
   refine ⟨(UInt8.ofInt n:UInt8),?_,?_⟩
   ·show IntKind.u8.min<=toI .u8 (UInt8.ofInt n)/\toI .u8 (UInt8.ofInt n)<=IntKind.u8.max
    rw[h1];exact hwf
   ·show [Value.int .u8 n]=[Value.int .u8 (toI .u8 (UInt8.ofInt n))]
    rw[h1]
  | _=>exact ⟨n,hwf,rfl⟩
 | bool=>
  intro _
  refine ⟨fun i hl fuel cs x h=>?_,fun fs off hl=>by simp[layB] at hl⟩
  have hu:P.underlying i=some .bool:=by
   simp only[layB,Bool.and_eq_true] at hl
   have h2:=hl.2
   split at h2
   ·assumption
   ·cases h2
  obtain ⟨b,rfl,_⟩:=DataW.trod_bool hu h
  exact ⟨b,trivial,rfl⟩
 | str=>
  intro _
  refine ⟨fun i hl fuel cs x h=>?_,fun fs off hl=>by simp[layB] at hl⟩
  obtain ⟨s,rfl,_,hsm⟩:=DataW.trod_string (lay_str hl) h
  exact ⟨s.data.toList,(by show s.data.toList.length<=maxLen;rw[Array.length_toList];exact hsm),by simp only[Ro]⟩
 | unit=>
  intro _
  refine ⟨fun i hl fuel cs x h=>?_,fun fs off hl n cs hlen _=>⟨(),trivial,?_⟩⟩
  ·simp only[layB,Bool.and_eq_true] at hl
   have h2:=hl.2
   split at h2
   ·rename_i fs hu
    obtain ⟨xs,n,_,_,hlen,_⟩:=DataW.trod_struct hu h
    have hsz:P.cellsOf i=0:=by
     obtain ⟨inf,h1,h3,_⟩:=infoOk_some hl.1
     simp[Program.cellsOf,h1,h3,Ty.sz]
    rw[hsz] at hlen
    exact ⟨(),trivial,by simp only[Ro];exact List.eq_nil_of_length_eq_zero hlen⟩
   ·cases h2
  ·simp only[Ro]
   exact List.drop_of_length_le (by simp only[Ty.sz] at hlen;omega)
 | pair a b iha ihb=>
  intro ha
  simp only[argT,Bool.and_eq_true] at ha
  have hinr:∀ fs off,layB P (.pair a b) (.inr (fs,off))=true->∀ n (cs:List Value),cs.length=off+(Ty.pair a b).sz->(∀ f ∈ fs,∃ x,DataW.trod enc P w 0 (fun _=>true) true n f.type ((cs.drop f.offset).take (P.cellsOf f.type))=some x)->∃ v:(Ty.pair a b).den,okD (.pair a b) v/\Ro P w (OLD w) (.pair a b) v (cs.drop off):=by
   intro fs off hl n cs hlen hf
   cases fs with
   | nil=>simp[layB] at hl
   | cons f r=>
    simp only[layB,Bool.and_eq_true,Nat.beq_eq,Nat.ble_eq] at hl
    obtain ⟨⟨⟨ho,_⟩,h1⟩,h2⟩:=hl
    simp only[Ty.sz] at hlen
    obtain ⟨x,hx⟩:=hf f List.mem_cons_self
    rw[ho,cells_sz h1] at hx
    obtain ⟨v1,o1,r1⟩:=(iha ha.1).1 _ h1 _ _ _ hx
    obtain ⟨v2,o2,r2⟩:=(ihb ha.2).2 r (off+a.sz) h2 n cs (by omega) (fun f' hf'=>hf f' (List.mem_cons_of_mem _ hf'))
    exact ⟨(v1,v2),⟨o1,o2⟩,r1,by rw[List.drop_drop];exact r2⟩
  refine ⟨fun i hl fuel cs x h=>?_,hinr⟩
  have hl0:=hl
  simp only[layB,Bool.and_eq_true] at hl
  have h2:=hl.2
  split at h2
  ·rename_i fs hu
   split at h2
   ·rename_i f r hfs
    have h3:layB P (.pair a b) (.inr (f::r,0))=true:=by
     simp only[layB,Nat.zero_add];exact h2
    obtain ⟨xs,n,_,_,hlen,hxl,hfields⟩:=DataW.trod_struct hu h
    rw[cells_sz hl0] at hlen
    have:=hinr (f::r) 0 h3 n cs (by omega) (fun f' hf'=>by
     rw[<-hfs] at hf'
     obtain ⟨j,hj,e⟩:=List.mem_iff_getElem.1 hf'
     have hj':j < fs.size:=by simpa using hj
     have:=hfields j f' (by rw[Array.getElem?_eq_getElem hj'];simpa using e)
     rw[this,List.getElem?_eq_getElem (by omega)]
     exact ⟨_,rfl⟩)
    simpa using this
   ·cases h2
  ·cases h2
 | slc e ih=>
  intro ha
  simp only[argT] at ha
  refine ⟨fun i hl fuel cs x h=>?_,fun fs off hl=>by simp[layB] at hl⟩
  obtain ⟨el,hu,hsz,hle⟩:=lay_slc hl
  rcases DataW.trod_slice hu h with ⟨rfl,_⟩ | ⟨a,len,cap,elems,rest,n,_,rfl,_,_,hlc,hcm,hel,hels,hrest,_⟩
  ·exact ⟨[],⟨Nat.zero_le _,fun x hx=>by cases hx⟩,none,0,rfl,Nat.le_refl _,fun _=>rfl,fun ad e=>by cases e⟩
  ·rw[cells_sz hle] at hels hrest
   have hcell:∀ k y,(w.cells? 0 (a.add (k*e.sz)) e.sz).bind (DataW.trod enc P w 0 (fun _=>true) true n el)=some y->∃ cs',w.cells? 0 (a.add (k*e.sz)) e.sz=some cs'/\DataW.trod enc P w 0 (fun _=>true) true n el cs'=some y:=fun k y hk=>by
    cases hc:w.cells? 0 (a.add (k*e.sz)) e.sz with
    | none=>rw[hc] at hk;cases hk
    | some cs'=>rw[hc] at hk;exact ⟨cs',rfl,hk⟩
   have hspot:0 < cap->a.spot=none:=fun hpos=>by
    have hfirst:∃ cs',w.cells? 0 (a.add (0*e.sz)) e.sz=some cs':=by
     by_cases hlen:0 < len
     ·have h0:=hels 0 hlen
      rw[List.getElem?_eq_getElem (by omega)] at h0
      obtain ⟨cs',h1,_⟩:=hcell 0 _ h0
      exact ⟨cs',h1⟩
     ·obtain rfl:len=0:=by omega
      obtain ⟨hr1,hr2⟩:=hrest rfl
      have h0:=hr2 0 (by omega)
      rw[List.getElem?_eq_getElem (by omega)] at h0
      obtain ⟨cs',h1,_⟩:=hcell (0+0) _ h0
      exact ⟨cs',by simpa using h1⟩
    obtain ⟨cs',h1⟩:=hfirst
    obtain ⟨_,hl1,h2⟩:=World.cells?_some h1
    have h3:=h2 0 (by omega)
    rw[List.getElem?_eq_getElem (by omega),Nat.zero_mul] at h3
    have h4:(a.add 0).add 0=a.add 0:=by unfold Addr.add;simp
    rw[h4] at h3
    exact add_none h3 (.inl rfl)
   have each:∀ k:Fin len,∃ v:e.den,okD e v/\∃ L:List Value,L.length=e.sz/\(∀ j u,L[j]?=some u->ce w a.block (a.off+k.val*e.sz+j)=some u/\OLD w a.block (a.off+k.val*e.sz+j))/\Ro P w (OLD w) e v L:=fun k=>by
    have h0:=hels k.val k.isLt
    rw[List.getElem?_eq_getElem (by have:=k.isLt;omega)] at h0
    obtain ⟨cs',h1,h2⟩:=hcell k.val _ h0
    obtain ⟨v,ho,hv⟩:=(ih ha).1 _ hle _ _ _ h2
    obtain ⟨_,hl1,h3⟩:=World.cells?_some h1
    refine ⟨v,ho,cs',hl1,fun j u hu=>?_,hv⟩
    have hj:=(List.getElem?_eq_some_iff.1 hu).1
    have h4:=h3 j (by omega)
    rw[hu] at h4
    have hsp:=hspot (by have:=k.isLt;omega)
    obtain ⟨b,off,sp⟩:=a
    simp only at hsp
    subst hsp
    rw[addr_add,addr_add] at h4
    have h5:ce w b (off+k.val*e.sz+j)=some u:=cell_ce h4 (Ro.one e hv u (List.mem_of_getElem? hu))
    exact ⟨h5,ce_lt h5⟩
   obtain ⟨f,hf⟩:=Classical.axiomOfChoice each
   refine ⟨List.ofFn f,⟨by simp;omega,fun x hx=>?_⟩,some a,cap,by simp,by simpa using hlc,(fun e=>by cases e),fun ad e=>?_⟩
   ·obtain ⟨j,rfl⟩:=List.mem_ofFn.1 hx
    exact (hf j).1
   injection e with e
   subst e
   refine ⟨hspot,fun k y hk=>?_⟩
   rw[List.getElem?_ofFn] at hk
   split at hk
   ·rename_i hlt
    injection hk with hk
    subst hk
    exact (hf ⟨k,hlt⟩).2
   ·cases hk
 | _=>intro ha;simp[argT] at ha
theorem arg_val {T:Ty} (ha:argT T=true) {i:TypeId} (hl:layB P T (.inl i)=true) {r:Reach} {b0:Nat} {v:Value} (h:Value.okWide P w r b0 i v):v=mkV T v.cells.toList:=by
 cases T with
 | int k=>
  have hu:=lay_int hl
  cases v <;> simp[Value.okWide,Cell.okWide,Cell.ok,hu] at h <;> simp[mkV,isAgg,Value.cells]
 | bool=>
  have hu:P.underlying i=some .bool:=by
   simp only[layB,Bool.and_eq_true] at hl
   have h2:=hl.2
   split at h2
   ·assumption
   ·cases h2
  cases v <;> simp[Value.okWide,Cell.okWide,Cell.ok,hu] at h <;> simp[mkV,isAgg,Value.cells]
 | str=>
  have hu:=lay_str hl
  cases v <;> simp[Value.okWide,Cell.okWide,Cell.ok,hu] at h <;> simp[mkV,isAgg,Value.cells]
 | slc e=>
  obtain ⟨el,hu,_⟩:=lay_slc hl
  cases v <;> simp[Value.okWide,Cell.okWide,Cell.ok,hu] at h <;> simp[mkV,isAgg,Value.cells]
 | unit=>
  simp only[layB,Bool.and_eq_true] at hl
  have h2:=hl.2
  split at h2
  ·rename_i fs hu
   simp only[Value.okWide,hu] at h
   obtain ⟨cs,rfl,_⟩:=h
   simp[mkV,isAgg,Value.cells]
  ·cases h2
 | pair a b=>
  simp only[layB,Bool.and_eq_true] at hl
  have h2:=hl.2
  split at h2
  ·rename_i fs hu
   simp only[Value.okWide,hu] at h
   obtain ⟨cs,rfl,_⟩:=h
   simp[mkV,isAgg,Value.cells]
  ·cases h2
 | _=>simp[argT] at ha
def roLay (P:Program):List (PM×Ty)->List TypeId->Bool
 | [],[]=>true
 | (.ro,T)::ps,t::ts=>argT T&&layB P T (.inl t)&&P.readableRec t&&Nat.blt t P.types.size&&roLay P ps ts
 | _,_=>false
theorem args_ro:∀ (ps:List (PM×Ty)) (ts:List TypeId) (args:List Value) (ds:List (DataW H)) (p:List MemPlace) {b0:Nat},roLay P ps ts=true->DataW.TrodAll enc P w 0 (fun _=>true) true ts args ds p ->
  (∀ (j:Nat) t v,ts[j]?=some t->args[j]?=some v->Value.okWide P w .any b0 t v)->∃ v,okA ps v/\ArgsRel P w (OLD w) ps v args (fun _ _=>0)
 | [],[],args,ds,p,b0,_,h,_=>by
  cases args with
  | nil=>exact ⟨(),trivial,rfl⟩
  | cons _ _=>simp[DataW.TrodAll] at h
 | (.ro,T)::ps,t::ts,args,ds,p,b0,hl,h,hok=>by
  simp only[roLay,Bool.and_eq_true] at hl
  cases args with
  | nil=>simp[DataW.TrodAll] at h
  | cons v args=>
   cases ds with
   | nil=>simp[DataW.TrodAll] at h
   | cons d ds=>
    obtain ⟨p1,q1,⟨fuel,h1⟩,h2,_⟩:=h
    obtain ⟨x,hox,hx⟩:=(trod_ro T hl.1.1.1.1).1 t hl.1.1.1.2 _ _ _ h1
    obtain ⟨xs,hoxs,hxs⟩:=args_ro ps ts args ds q1 (b0:=b0) hl.2 h2 (fun j t' v' ht hv=>hok (j+1) t' v' ht hv)
    exact ⟨(x,xs),⟨hox,hoxs⟩,v,args,fun _ _=>0,fun _ _=>0,rfl,fun _ _=>Nat.le_refl _,⟨_,arg_val hl.1.1.1.1 hl.1.1.1.2 (hok 0 t v rfl rfl),hx⟩,hxs⟩
theorem args_stay (hlo:laidOutB P=true) {W W':World} (hb:RowKit.Below W.heap.size W W') {sp:Nat->Bool}:∀ (ps:List (PM×Ty)) (ts:List TypeId) (args:List Value) (ds:List (DataW H)) (p:List MemPlace),roLay P ps ts=true->DataW.TrodAll enc P W 0 (fun _=>true) true ts args ds p ->
  (∀ x ∈ p,x.block < W.heap.size)->(∀ x ∈ p,sp x.block=true)->DataW.TrodAll enc P W' 0 sp true ts args ds p
 | [],[],args,ds,p,_,h,_,_=>by
  cases args with
  | nil=>
   cases ds with
   | nil=>exact h
   | cons _ _=>simp[DataW.TrodAll] at h
  | cons _ _=>simp[DataW.TrodAll] at h
 | (.ro,T)::ps,t::ts,args,ds,p,hl,h,hlt,hsp=>by
  simp only[roLay,Bool.and_eq_true] at hl
  cases args with
  | nil=>simp[DataW.TrodAll] at h
  | cons v args=>
   cases ds with
   | nil=>simp[DataW.TrodAll] at h
   | cons d ds=>
    obtain ⟨p1,q1,h1,h2,rfl⟩:=h
    have ht:t < P.types.size:=by have:=hl.1.2;rwa [Nat.blt_eq] at this
    exact ⟨p1,q1,WideElems.Trod_stays hlo hl.1.1.2 ht h1 (fun x hx=>hb.same (hlt x (List.mem_append_left _ hx))) (fun x hx=>hsp x (List.mem_append_left _ hx)),
     args_stay hlo hb ps ts args ds q1 hl.2 h2 (fun x hx=>hlt x (List.mem_append_right _ hx)) (fun x hx=>hsp x (List.mem_append_right _ hx)),rfl⟩
theorem law_calls {f:FuncId} {cap:Bool} {ps:List (PM×Ty)} {Fn:(tupT (ps.map (·.2))).den->Option (tupT ([((Ty.bool,roMd .bool):Ty×Md)].map (·.1)++mutTys ps)).den} (hs:Sound P f { cap:=cap,ps:=ps,rs:=[(.bool,roMd .bool)],F:=Fn }) (htrue:∀ v,okA ps v->∃ u,Fn v=some (true,u))
  {ts:List TypeId} (hl:roLay P ps ts=true) {args:List Value} {ds:List (DataW H)} {p:List MemPlace} (hA:DataW.TrodAll enc P w 0 (fun _=>true) true ts args ds p) {b0:Nat} (hok:∀ (j:Nat) t v,ts[j]?=some t->args[j]?=some v->Value.okWide P w .any b0 t v) :
  Calls P f args.toArray w fun e W'=>e=.returned (.bool true)/\RowKit.Below w.heap.size w W':=by
 obtain ⟨v,hov,hv⟩:=args_ro ps ts args ds p hl hA hok
 obtain ⟨u,hu⟩:=htrue v hov
 refine (hs w (OLD w) (fun _ _=>0) v args hv (fun _ _=>Nat.zero_le _) (fun b i h=>by omega) (fun b i h=>?_) _ hu).mono fun e W' h=>?_
 ·rcases h with h | h
  ·omega
  ·exact h
 ·obtain ⟨rv,rfl,hext,A',G,GR,GM,_,_,_,_,_,_,_,hret,_⟩:=h
  obtain ⟨cs,h1,h2⟩:=hret
  simp only[splitR] at h1 h2
  have h2:cs=[.bool true]:=h2
  subst h2
  exact ⟨by rw[h1];rfl,hext.os,hext.tape,hext.output,hext.size,fun b hb=>hext.obj b hb fun _=>rfl⟩
theorem law_post {C:Checked} {f:Func} {s:ChangeSpec} {W W':World} {args:Array Value} {ds:List (DataW H)} {p:List MemPlace} {apart fresh handsOn:Bool} (hlo:laidOutB P=true) {ps:List (PM×Ty)} {ts:List TypeId} (hts:f.params.toList=ts) (hl:roLay P ps ts=true) {tb:TypeId} (hr:f.resultTypes=#[tb]) (hu:P.underlying tb=some .bool)
  (hvars:s.vars=[]) (hW:DataW.Whole enc P f.params.toList s.vars apart W args.toList ds [] p) (hA:DataW.TrodAll enc P W 0 (fun _=>true) true ts args.toList ds p) (hfn:s.fn H (ds++[])={ results:=[.lit (.bool true)],args:=ds }) (hb:RowKit.Below W.heap.size W W') :
  s.post enc P f apart fresh handsOn false W args (.bool true) W':=by
 have hlt:∀ x ∈ p,x.block < W.heap.size:=fun x hx=>by simpa using hW.lt x hx
 refine ⟨ds,[],p,[],p,[],hW,?_,?_,?_,World.keptBut_mono (fun x hx=>⟨hx,.inr (.inl hx)⟩) (hb.frame (· ∈ p)),fun e=>by cases e⟩
 ·rw[hfn,hr]
  exact ⟨[],[],RowKit.shut_bool hu true,rfl,rfl⟩
 ·rw[hfn,hts]
  exact args_stay hlo hb ps ts args.toList ds p hl hA hlt (fun x hx=>by simpa using hlt x hx)
 ·rw[hfn,hvars]
  rfl
end
end OT
namespace OT
open Go
def tiOk (P:Program) (l:List (Nat×Ty)):Bool:=l.all fun p=>layB P p.2 (.inl p.1)
def eqOkL (P:Program) (l:List (Nat×Ty)):Bool:=l.all fun p=>!(p.2.eqOk&&isAgg p.2)||(eqB P p.2 (.inl p.1)&&(P.eqGuardType P.depth p.1 == false)&&Nat.ble (dep p.2) 10000)
theorem look_mem {α:Type}:∀ {l:List (Nat×α)} {i:Nat} {x:α},lookN l i=some x->(i,x) ∈ l
 | (k,y)::l,i,x,h=>by
  simp only[lookN] at h
  split at h
  ·rename_i hk
   injection h with h
   rw[Nat.eq_of_beq_eq_true hk,h];exact List.mem_cons_self
  ·exact List.mem_cons_of_mem _ (look_mem h)
def FnOk (P:Program) (l:List (Nat×Sig)):Prop:=∀ f g,lookN l f=some g->Sound P f g/\EnterOk P f g.cap
theorem fn_nil (P:Program):FnOk P []:=fun f g h=>by cases h
theorem fn_cons {P:Program} {f:Nat} {g:Sig} {l:List (Nat×Sig)} (h1:Sound P f g) (h2:EnterOk P f g.cap) (h3:FnOk P l):FnOk P ((f,g)::l):=fun f' g' h=>by
 simp only[lookN] at h
 split at h
 ·rename_i hk
  injection h with h
  subst h
  rw[<-Nat.eq_of_beq_eq_true hk]
  exact ⟨h1,h2⟩
 ·exact h3 f' g' h
theorem env_ok {P:Program} {E:Env} {tl:List (Nat×Ty)} {gl:List (Nat×Sig)} (h1:E.TI=lookN tl) (h2:E.G=lookN gl) (h3:tiOk P tl=true) (h4:eqOkL P tl=true) (h5:FnOk P gl):EnvOk P E where
 ti i T h:=by rw[h1] at h;exact List.all_eq_true.1 h3 _ (look_mem h)
 eq i T h hq ha:=by
  rw[h1] at h
  have:=List.all_eq_true.1 h4 _ (look_mem h)
  simp only[hq,ha,Bool.and_self,Bool.not_true,Bool.false_or,Bool.and_eq_true,beq_iff_eq,Nat.ble_eq] at this
  exact ⟨this.1.1,this.1.2,this.2⟩
 fn f g h:=by rw[h2] at h;exact h5 f g h
def Ok (P:Program) (f:FuncId) (g:Sig):Prop:=Sound P f g/\EnterOk P f g.cap
theorem fc {P:Program} {f:Nat} {g:Sig} {l:List (Nat×Sig)} (h:Ok P f g) (h3:FnOk P l):FnOk P ((f,g)::l):=fn_cons h.1 h.2 h3
def enterB (fn:Func) (cap:Bool):Bool:=!(fn.name == "runtime.NumGoroutine")&&!fn.body.isNone&&Nat.beq fn.nfree (match cap with | true=>1 | false=>0)
noncomputable def okB (P:Program) (E:Env) (fn:Func) (ps:PQ) (rs:RQ) (es:List Nat) (cap:Bool) (tl:TL):Bool:=(tiOk P tl&&eqOkL P tl)&&(enterB fn cap&&funOk P E fn ps rs es)
theorem fn_ok {P:Program} {E:Env} {f:FuncId} {fn:Func} (hf:P.funcs[f]?=some fn) {g:Sig} {es fr:List Nat} {tl:TL} {gl:GL} (h1:E.TI=lookN tl) (h2:E.G=lookN gl) (hok:okB P E fn g.ps g.rs es g.cap tl=true) (hg:FnOk P gl) (hF:∀ v,g.F v=lift fun k=>bodyK E k fn g.ps g.rs es fr v):Ok P f g:=by
 simp only[okB,enterB,Bool.and_eq_true,Bool.not_eq_true',Nat.beq_eq] at hok
 obtain ⟨⟨a1,a2⟩,⟨⟨b1,b2⟩,b3⟩,c⟩:=hok
 have hb:fn.body.isSome=true:=by
  cases h:fn.body with
  | none=>rw[h] at b2;cases b2
  | some _=>rfl
 exact ⟨sound_of_body (env_ok h1 h2 a1 a2 hg) hf hb c fun v out h=>lift_some (by rw[<-hF];exact h),fn,hf,b1,b2,b3⟩
structure FD where
 fn:Func
 tl:TL
 ps:PQ
 rs:RQ
 gl:GL:=[]
 es:List Nat:=[]
 fr:List Nat:=[]
 cap:Bool:=false
 fz:List (Nat×Nat×Nat):=[]
 lv:List (Nat×List Nat):=[]
 lx:List (Nat×List Nat):=[]
 lf:List (Nat×List (Nat×Md)):=[]
 od:List (Nat×List Nat):=[]
 ar:List (Nat×List Nat):=[]
 bx:List (Nat×List Nat):=[]
 pd:List (Nat×List Nat):=[]
 er:List (Nat×List (Nat×Nat)):=[]
noncomputable def FD.E (D:FD):Env:={ TI:=lookN D.tl,G:=lookN D.gl,fz:=D.fz,lv:=D.lv,lx:=D.lx,lf:=D.lf,od:=D.od,ar:=D.ar,bx:=D.bx,pd:=D.pd,er:=D.er }
noncomputable def FD.W (D:FD) (k:Nat) (a:(tupT (D.ps.map (·.2))).den):Option (tupT (D.rs.map (·.1)++mutTys D.ps)).den:=bodyK D.E k D.fn D.ps D.rs D.es D.fr a
noncomputable def FD.F (D:FD) (a:(tupT (D.ps.map (·.2))).den):Option (tupT (D.rs.map (·.1)++mutTys D.ps)).den:=lift fun k=>D.W k a
noncomputable def FD.sig (D:FD):Sig:={ cap:=D.cap,ps:=D.ps,rs:=D.rs,F:=D.F }
noncomputable def FD.fin (D:FD):St->Option (tupT (D.rs.map (·.1)++mutTys D.ps)).den:=outK D.ps D.rs D.es D.fn.results.toList (mvs D.fr)
noncomputable def FD.K0 (D:FD):KT (tupT (D.rs.map (·.1)++mutTys D.ps)).den:=endK D.fin
noncomputable def FD.N (D:FD) (k:Nat) (p:List Nat):St->KT (tupT (D.rs.map (·.1)++mutTys D.ps)).den->Option (tupT (D.rs.map (·.1)++mutTys D.ps)).den:=codeK D.E k D.fin (sub p (bodyOf D.fn))
noncomputable def FD.L (D:FD) (k:Nat) (p live:List Nat) (fro:List (Nat×Md)) (K:KT (tupT (D.rs.map (·.1)++mutTys D.ps)).den) (σ:St):Option (tupT (D.rs.map (·.1)++mutTys D.ps)).den:=iterK (D.N k p) (keepF live fro) K k σ
theorem fd_ok {P:Program} {D:FD} {f:FuncId} (hf:P.funcs[f]?=some D.fn) (ht:(tiOk P D.tl&&eqOkL P D.tl)=true) (hok:(enterB D.fn D.cap&&funOk P D.E D.fn D.ps D.rs D.es)=true) (hg:FnOk P D.gl):Ok P f D.sig:=
 fn_ok (es:=D.es) (fr:=D.fr) (tl:=D.tl) (gl:=D.gl) (E:=D.E) hf rfl rfl (by rw[okB,ht,Bool.true_and];exact hok) hg fun _=>rfl
end OT
namespace OT
open Go
theorem w64_in {n:Int} (h:-9223372036854775808<=n/\n<=9223372036854775807):w64 n=n:=by
 unfold w64
 rw[IntKind.wrap_i64]
 omega
theorem maxLen_val:maxLen=9223372036854775807:=by simp[maxLen]
theorem rawIter_eq {V R:Type} {B:(V->Option R)->V->Option R} (f:V->R) (I:V->Prop) (μ:V->Nat)
  (h:∀ v,I v->∀ self,B self v=some (f v)\/∃ v',B self v=self v'/\f v'=f v/\I v'/\μ v' < μ v):∀ (k:Nat) (v:V),I v->μ v < k->rawIter B k v=some (f v)
 | 0,v,_,hk=>by omega
 | k+1,v,hI,hk=>by
  show B (rawIter B k) v=some (f v)
  rcases h v hI (rawIter B k) with h1 | ⟨v',h1,h2,h3,h4⟩
  ·exact h1
  ·rw[h1,rawIter_eq f I μ h k v' h3 (by omega),h2]
end OT
set_option linter.unusedVariables false
set_option linter.unusedSimpArgs false
namespace OT
open Go
theorem rawIter_succ {V R:Type} (B:(V->Option R)->V->Option R) (k:Nat) (v:V):rawIter B (k+1) v=B (rawIter B k) v:=rfl
def sumW {α:Type} (f:α->Nat):List α->Nat
 | []=>0
 | x::xs=>f x+sumW f xs
def zz:(t:Ty)->t.den->Nat
 | .str,v=>List.length v
 | .pair a b,v=>zz a v.1+zz b v.2
 | .slc e,v=>List.length v+sumW (zz e) v
 | _,_=>0
end OT
set_option linter.unusedVariables false
set_option linter.unusedSimpArgs false
namespace OT
open Go
def forI {S O α:Type} (f:Nat->S->α->Sum O S) (fin:S->O):Nat->List α->S->O
 | _,[],s=>fin s
 | i,x::xs,s=>match f i s x with
  | .inl o=>o
  | .inr s'=>forI f fin (i+1) xs s'
theorem for_loop {V S O α:Type} {B:(V->Option O)->V->Option O} (xs:List α) (enc:S->Int->V) (f:Nat->S->α->Sum O S) (fin:S->O) (I:Nat->S->Prop) (hmax:xs.length<=maxLen)
  (hin:∀ (i:Nat) (hi:i < xs.length) (s:S) self,I i s->B self (enc s (i:Int))=match f i s xs[i] with | .inl o=>some o | .inr s'=>self (enc s' (w64 ((i:Int)+1))))
  (hI:∀ (i:Nat) (hi:i < xs.length) (s s':S),I i s->f i s xs[i]=.inr s'->I (i+1) s')
  (hout:∀ (s:S) self,I xs.length s->B self (enc s (xs.length:Int))=some (fin s)) (s:S) (h0:I 0 s):∀ k,xs.length < k->rawIter B k (enc s 0)=some (forI f fin 0 xs s):=by
 have main:∀ (m i:Nat) (s:S),xs.length - i=m->i<=xs.length->I i s->∀ k,m < k->rawIter B k (enc s (i:Int))=some (forI f fin i (xs.drop i) s):=by
  intro m
  induction m with
  | zero=>
   intro i s hm hi hs k hk
   have hi':i=xs.length:=by omega
   subst hi'
   cases k with
   | zero=>omega
   | succ k=>
    show B (rawIter B k) _=_
    rw[hout s _ hs]
    simp[forI]
  | succ m ih=>
   intro i s hm hi hs k hk
   have hlt:i < xs.length:=by omega
   cases k with
   | zero=>omega
   | succ k=>
    show B (rawIter B k) _=_
    rw[hin i hlt s _ hs,List.drop_eq_getElem_cons hlt]
    simp only[forI]
    cases hf:f i s xs[i] with
    | inl o=>rfl
    | inr s'=>
     have hw:w64 ((i:Int)+1)=((i+1:Nat):Int):=by rw[w64_in (by rw[maxLen_val] at hmax;omega)];omega
     simp only[hw]
     exact ih (i+1) s' (by omega) (by omega) (hI i hlt s s' hs hf) k (by omega)
 intro k hk
 simpa using main xs.length 0 s (by omega) (by omega) h0 k hk
theorem forI_check {O α:Type} (p:α->Bool) (bad:O) (fin:Unit->O):∀ (xs:List α) (i:Nat),forI (fun _ _ x=>if p x then .inr () else .inl bad) fin i xs ()=if xs.all p then fin () else bad
 | [],_=>rfl
 | x::xs,i=>by
  simp only[forI,List.all_cons]
  by_cases h:p x=true
  ·simp[h,forI_check p bad fin xs (i+1)]
  ·simp[h]
def firstF {α:Type} (c:α->Int):List α->Int
 | []=>0
 | x::xs=>if c x=0 then firstF c xs else c x
theorem forI_first {O α:Type} (c:α->Int) (bad:Int->O) (fin:Unit->O):∀ (xs:List α) (i:Nat),forI (fun _ _ x=>if c x=0 then .inr () else .inl (bad (c x))) fin i xs ()=if firstF c xs=0 then fin () else bad (firstF c xs)
 | [],_=>rfl
 | x::xs,i=>by
  simp only[forI,firstF]
  by_cases h:c x=0
  ·simp[h,forI_first c bad fin xs (i+1)]
  ·simp[h]
theorem cap_ok {n:Nat} (h:n<=200000000000):n<=CAP:=by simp only[CAP];omega
end OT
set_option linter.unusedVariables false
set_option linter.unusedSimpArgs false
namespace OT
open Go
def simpT:Ty->Bool
 | .int _ | .bool | .str | .unit=>true
 | .pair a b=>simpT a&&simpT b
 | _=>false
def encT:(t:Ty)->t.den->List Value
 | .int k,v=>[.int k (toI k v)]
 | .bool,v=>[.bool v]
 | .str,v=>[.string ⟨List.toArray v⟩]
 | .unit,_=>[]
 | .pair a b,v=>encT a v.1++encT b v.2
 | _,_=>[]
section
variable {P:Program} {w:World} {A:Cells}
theorem ro_enc:∀ (t:Ty),simpT t=true->∀ (v:t.den),Ro P w A t v (encT t v):=by
 intro t
 induction t with
 | pair a b iha ihb=>
  intro h v
  simp only[simpT,Bool.and_eq_true] at h
  have h1:=iha h.1 v.1
  have hl:=Ro.length a h1
  show Ro P w A a v.1 ((encT a v.1++encT b v.2).take a.sz)/\Ro P w A b v.2 ((encT a v.1++encT b v.2).drop a.sz)
  rw[List.take_append_of_le_length (by omega),List.take_of_length_le (by omega),List.drop_append_of_le_length (by omega),List.drop_of_length_le (by omega),List.nil_append]
  exact ⟨h1,ihb h.2 v.2⟩
 | int k=>intro _ v;rfl
 | bool=>intro _ v;rfl
 | str=>intro _ v;rfl
 | unit=>intro _ v;rfl
 | _=>intro h;simp[simpT] at h
theorem enc_ro:∀ (t:Ty),simpT t=true->∀ {v:t.den} {cs:List Value},Ro P w A t v cs->cs=encT t v:=by
 intro t
 induction t with
 | pair a b iha ihb=>
  intro h v cs hr
  simp only[simpT,Bool.and_eq_true] at h
  have h1:=iha h.1 hr.1
  have h2:=ihb h.2 hr.2
  rw[<-List.take_append_drop a.sz cs,h1,h2]
  rfl
 | int k=>intro _ v cs h;exact h
 | bool=>intro _ v cs h;exact h
 | str=>intro _ v cs h;exact h
 | unit=>intro _ v cs h;exact h
 | _=>intro h;simp[simpT] at h
theorem simp_flat:∀ (t:Ty),simpT t=true->t.flat=true:=by
 intro t
 induction t with
 | pair a b iha ihb=>intro h;simp only[simpT,Bool.and_eq_true] at h;simp only[Ty.flat,iha h.1,ihb h.2,Bool.and_self]
 | int k=>intro _;rfl
 | bool=>intro _;rfl
 | str=>intro _;rfl
 | unit=>intro _;rfl
 | _=>intro h;simp[simpT] at h
end
theorem ce_cells {w:World} {b i:Nat} {u:Value} {c:Array Value} {e:TypeId} {fr:Nat×Nat} (h:w.heap[b]?=some (.cells c e fr)) (hu:ce w b i=some u):c[i]?=some u:=by
 unfold ce at hu
 simp only[h,World.cell?] at hu
 cases hc:c[i]? with
 | none=>simp[hc] at hu
 | some v=>
  simp only[hc,Option.isSome_none,Bool.false_eq_true,if_false,Option.bind_some] at hu
  rw[(oneV_some hu).1]
theorem ce_of_cells {w:World} {b i:Nat} {u:Value} {c:Array Value} {e:TypeId} {fr:Nat×Nat} (h:w.heap[b]?=some (.cells c e fr)) (hg:c[i]?=some u) (hu:u.oneCell'=true):ce w b i=some u:=by
 refine cell_ce ?_ hu
 simp only[World.cell?,h,Option.isSome_none,Bool.false_eq_true,if_false,hg]
end OT
set_option linter.unusedVariables false
set_option linter.unusedSimpArgs false
namespace OT
open Go Go.Sort
instance inhDen (e:Ty):Inhabited e.den:=⟨e.zero⟩
noncomputable def sortF (e:Ty) (cs:e.den×e.den×Unit->Option (Int×Unit)) (v:List e.den):Option (List e.den):=open Classical in
 if List.length v<=CAP then (if h:∃ cf:e.den->e.den->Int,(∀ x y,cs (x,y,())=some (cf x y,()))/\SWO (Go.Proofs.ltOf cf) then some (pdq (Go.Proofs.ltOf h.choose) v.toArray 0 v.toArray.size (Lib.bitLen v.toArray.size) true true).toList else none) else none
theorem sortF_eq {e:Ty} {cs:e.den×e.den×Unit->Option (Int×Unit)} {cf:e.den->e.den->Int} (h1:∀ x y,cs (x,y,())=some (cf x y,())) (h2:SWO (Go.Proofs.ltOf cf)) (v:List e.den) (hl:List.length v<=CAP):sortF e cs v=some (pdq (Go.Proofs.ltOf cf) v.toArray 0 v.toArray.size (Lib.bitLen v.toArray.size) true true).toList:=by
 have hex:∃ cf:e.den->e.den->Int,(∀ x y,cs (x,y,())=some (cf x y,()))/\SWO (Go.Proofs.ltOf cf):=⟨cf,h1,h2⟩
 have he:hex.choose=cf:=by
  funext x y
  have:=(hex.choose_spec.1 x y).symm.trans (h1 x y)
  injection this with this
  exact congrArg Prod.fst this
 unfold sortF
 rw[if_pos hl,dif_pos hex,he]
theorem sortF_some {e:Ty} {cs:e.den×e.den×Unit->Option (Int×Unit)} {v r:List e.den} (h:sortF e cs v=some r):∃ cf:e.den->e.den->Int,(∀ x y,cs (x,y,())=some (cf x y,()))/\SWO (Go.Proofs.ltOf cf)/\List.length v<=CAP/\r=(pdq (Go.Proofs.ltOf cf) v.toArray 0 v.toArray.size (Lib.bitLen v.toArray.size) true true).toList:=by
 by_cases hl:List.length v<=CAP
 ·by_cases hex:∃ cf:e.den->e.den->Int,(∀ x y,cs (x,y,())=some (cf x y,()))/\SWO (Go.Proofs.ltOf cf)
  ·obtain ⟨cf,h1,h2⟩:=hex
   rw[sortF_eq h1 h2 v hl] at h
   injection h with h
   exact ⟨cf,h1,h2,hl,h.symm⟩
  ·unfold sortF at h
   rw[if_pos hl,dif_neg hex] at h
   cases h
 ·unfold sortF at h
  rw[if_neg hl] at h
  cases h
theorem pdq_spec {α:Type} [Inhabited α] {lt:α->α->Bool} (h:SWO lt) (v:List α):(pdq lt v.toArray 0 v.toArray.size (Lib.bitLen v.toArray.size) true true).toList.Perm v/\(pdq lt v.toArray 0 v.toArray.size (Lib.bitLen v.toArray.size) true true).toList.Pairwise fun x y=>lt y x=false:=by
 have hs:=pdq_sorts lt h v.toArray 0 v.toArray.size (Lib.bitLen v.toArray.size) true true (Nat.zero_le _) (Nat.le_refl _) (Or.inl rfl)
 generalize pdq lt v.toArray 0 v.toArray.size (Lib.bitLen v.toArray.size) true true=p at hs ⊢
 obtain ⟨⟨h1,h2,h3⟩,h4⟩:=hs
 refine ⟨?_,?_⟩
 ·have e1:p.extract 0 v.toArray.size=p:=by rw[<-h1];exact Array.extract_size ..
  have e2:v.toArray.extract 0 v.toArray.size=v.toArray:=Array.extract_size ..
  rw[e1,e2] at h3
  exact h3
 ·rw[List.pairwise_iff_getElem]
  intro i j hi hj hij
  have hj':j < p.size:=by simpa using hj
  have:=h4 i j (Nat.zero_le _) hij (by omega)
  rw[getElem!_pos _ i (by omega),getElem!_pos _ j hj'] at this
  simpa using this
section
variable {P:Program}
theorem ext_grow {w w':World} (h:Ext w w' (fun _ _=>0)):∃ q os,w'=grow (w.drewN q) os:=by
 refine ⟨w'.drawn - w.drawn,w'.heap.extract w.heap.size w'.heap.size,?_⟩
 have hh:w'.heap=w.heap++w'.heap.extract w.heap.size w'.heap.size:=by
  apply Array.ext_getElem?
  intro i
  by_cases hi:i < w.heap.size
  ·rw[h.obj i hi fun _=>rfl,Array.getElem?_append_left hi]
  ·rw[Array.getElem?_append_right (by omega),Array.getElem?_extract]
   by_cases hi':i < w'.heap.size
   ·rw[if_pos (by omega)]
    congr 1
    omega
   ·rw[if_neg (by omega),Array.getElem?_eq_none (by omega)]
 have h1:=h.os
 have h2:=h.tape
 have h3:=h.output
 have h4:=h.drawn
 cases w with
 | mk heap tape drawn os output=>
  cases w' with
  | mk heap' tape' drawn' os' output'=>
   simp only at h1 h2 h3 h4 hh
   subst h1;subst h2;subst h3
   simp only[grow,World.drewN,World.mk.injEq,true_and,and_true]
   exact ⟨hh,by omega⟩
theorem cmp_lays {e:Ty} (hs:simpT e=true) (ha:isAgg e=true) {g:Nat} {cF:e.den×e.den×Unit->Option (Int×Unit)} (hg:Sound P g { ps:=[(.ro,e),(.ro,e)],rs:=[(.int .i64,roMd (.int .i64))],F:=cF }) {cf:e.den->e.den->Int} (hc:∀ x y,cF (x,y,())=some (cf x y,())) (b size:Nat) (w:World):Go.Proofs.CmpLays P g #[] (encT e) e.sz cf b 0 size w:=by
 intro m os dk _ x y
 have hargs:ArgsRel P (Go.Proofs.sortWorldK (encT e) e.sz w b 0 m dk os) (fun _ _=>False) [(.ro,e),(.ro,e)] (x,y,()) [.agg (encT e x).toArray,.agg (encT e y).toArray] (fun _ _=>0):=
  ⟨_,_,fun _ _=>0,fun _ _=>0,rfl,fun _ _=>Nat.le_refl _,⟨encT e x,by simp[mkV,ha],ro_enc e hs x⟩,_,_,fun _ _=>0,fun _ _=>0,rfl,fun _ _=>Nat.le_refl _,⟨encT e y,by simp[mkV,ha],ro_enc e hs y⟩,rfl⟩
 refine (hg _ (fun _ _=>False) (fun _ _=>0) (x,y,()) _ hargs (fun _ _=>Nat.zero_le _) (fun _ _ h=>by omega) (fun _ _ h=>by rcases h with h | h;omega;exact h.elim) (cf x y,()) (hc x y)).mono ?_
 rintro ex w' ⟨rv,rfl,hext,A',G,GR,GM,_,_,_,_,_,_,_,hret,_⟩
 obtain ⟨cs,h1,h2⟩:=hret
 refine ⟨?_,ext_grow hext⟩
 have h2:cs=[.int .i64 (cf x y)]:=h2
 rw[h1,h2]
 rfl
theorem sort_ok {ρ:Go.Shelf.Ren} (L:Go.Proofs.SlLaysF0.n6 P ρ) {e:Ty} (hs:simpT e=true) (ha:isAgg e=true) (hl:layB P e (.inl (ρ.t 24))=true) (h1:1<=e.sz) {g:Nat} {cF:e.den×e.den×Unit->Option (Int×Unit)}
  (hg:Ok P g { ps:=[(.ro,e),(.ro,e)],rs:=[(.int .i64,roMd (.int .i64))],F:=cF }) (he:EnterOk P (ρ.f 6) false) :
  Ok P (ρ.f 6) { ps:=[(.muts (ownMd (.slc e)),.slc e),(.fix g,.fn)],rs:=[],F:=fun v=>(sortF e cF v.1).map fun r=>(r,()) }:=by
 refine ⟨?_,he⟩
 intro w A F0 v xs hargs hle hdis hbnd out hout
 obtain ⟨vs,⟨fg,fv⟩,⟨⟩⟩:=v
 obtain ⟨x,xs',F1,F2,rfl,hF,⟨cs,rfl,hrep⟩,x2,xs'',F3,F4,rfl,hF2,⟨⟨cs2,rfl,hfn⟩,hfix⟩,hnil⟩:=hargs
 have hnil:xs''=[]:=hnil
 subst hnil
 have hfg:fg=g:=hfix rfl
 subst hfg
 obtain ⟨caps,rfl,fn,hfn1,hfn2⟩:=hfn
 have hcaps:caps=#[]:=by
  obtain ⟨fn',k1,_,_,k4⟩:=hg.2
  have hfn1:P.funcs[fg]?=some fn:=hfn1
  rw[hfn1] at k1
  injection k1 with k1
  subst k1
  have k4:fn.nfree=0:=k4
  rcases hfn2 with ⟨_,q⟩ | ⟨q,_⟩
  ·exact q
  ·omega
 subst hcaps
 have hx2:mkV .fn [.func (.func fg) #[] #[]]=.func (.func fg) #[] #[]:=rfl
 have hout:(sortF e cF vs).map (fun r=>(r,()))=some out:=hout
 cases hsort:sortF e cF vs with
 | none=>rw[hsort] at hout;cases hout
 | some r=>
 rw[hsort] at hout
 injection hout with hout
 subst hout
 obtain ⟨cf,hc,hO,hcap,hr⟩:=sortF_some hsort
 have hspec:=pdq_spec hO vs
 rw[<-hr] at hspec
 have hrep':=hrep
 simp only[Rep,hole,List.any_nil,Bool.false_eq_true,if_false,ownMd,mdOf,Md.own,if_true] at hrep
 obtain ⟨xa,cap,rfl,g2,g3,g4,g5⟩:=hrep
 have hv1:mkV (.slc e) [.slice xa (List.length vs) cap]=.slice xa (List.length vs) cap:=rfl
 rw[hx2,hv1]
 have hfin:∀ (w':World) (F1':FP),Ext w w' F0->(∀ b i,F1' b i<=F1 b i)->Rep P w' A (.slc e) (ownMd (.slc e)) [] r [.slice xa (List.length vs) cap] F1' ->
   ∃ rv,Ending.returned (.tuple #[])=.returned rv/\Ext w w' F0/\∃ (A':Cells) (G GR GM:FP),(∀ b i,A b i->A' b i)/\(∀ b i,A' b i->A b i\/1<=F0 b i\/w.heap.size<=b)/\(∀ b i,1<=G b i->1<=F0 b i\/w.heap.size<=b)/\(∀ b i,G b i<=1)/\(∀ b i,1<=G b i->¬ A' b i)/\(∀ b i,1<=G b i\/A' b i->b < w'.heap.size)/\(∀ b i,GR b i+GM b i<=G b i) /\
   RetRel P w' A' [] rv GR/\MutsRel P w' A' [(.muts (ownMd (.slc e)),.slc e),(.fix fg,.fn)] (r,()) [.slice xa (List.length vs) cap,.func (.func fg) #[] #[]] GM:=fun w' F1' hext hF1 hrp=>
  ⟨_,rfl,hext,A,F0,fun _ _=>0,F0,fun _ _ h=>h,fun _ _ h=>.inl h,fun _ _ h=>.inl h,hle,hdis,fun b i h=>Nat.lt_of_lt_of_le (hbnd b i h) hext.size,fun b i=>by show 0+F0 b i<=F0 b i;omega,trivial,F1',F2,fun b i=>by have:=hF b i;have:=hF1 b i;omega,⟨_,rfl,hrp⟩,trivial⟩
 by_cases h0:List.length vs=0
 ·have hvs:vs=[]:=List.eq_nil_of_length_eq_zero h0
  have hrn:r=[]:=by
   have:=hspec.1.length_eq
   exact List.eq_nil_of_length_eq_zero (by omega)
  rw[h0]
  refine (Go.Proofs.AnyF.slices_SortFunc_none L xa cap (.func (.func fg) #[] #[]) w).mono ?_
  rintro ex w' ⟨rfl,hw⟩
  rw[hw]
  rw[h0] at hfin
  refine hfin w F1 (Ext.refl _ _) (fun _ _=>Nat.le_refl _) ?_
  rw[hrn,<- hvs]
  have:List.length vs=0:=h0
  rw[this] at hrep'
  exact hrep'
 ·cases xa with
  | none=>have:=g4 rfl;omega
  | some ad=>
   obtain ⟨q1,q2,q3,Fi,q4,q5⟩:=g5 ad rfl
   obtain ⟨b,off,sp⟩:=ad
   simp only at q1 q2 q3 q4 q5
   subst q1;subst q2
   obtain ⟨c,el,fr,c1,c2,c3,c4⟩:=q3
   have hb:=(Array.getElem?_eq_some_iff.1 c1).1
   have hsz:vs.toArray.size=List.length vs:=by simp
   have hbl:List.length vs*e.sz<=cap*e.sz:=Nat.mul_le_mul_right _ g2
   have hpos:1<=List.length vs*e.sz:=Nat.mul_le_mul (show 1<=List.length vs by omega) h1
   have hcell:∀ (i:Nat) (y:e.den),vs[i]?=some y->Has w b (i*e.sz) (encT e y):=fun i y hy=>by
    obtain ⟨L0,l1,l2,l3⟩:=q5 i y hy
    have:=enc_ro e hs (Rep.flat e (simp_flat e hs) l3)
    rw[<-this]
    exact l2
   have hH:Go.Sort.HoldsK (encT e) e.sz w b 0 vs.toArray:=by
    intro j hj
    rw[Go.Sort.size_flatK,hsz] at hj
    rw[Nat.zero_add,Go.Sort.get_flatK _ _ _ _ (by rw[hsz];exact hj)]
    have hi:j / e.sz < List.length vs:=by rw[Nat.div_lt_iff_lt_mul h1];exact hj
    have hy:=List.getElem?_eq_getElem hi
    have hm:=Nat.mod_lt j h1
    have hel:(encT e (vs[j / e.sz]))[j % e.sz]?=some ((encT e (vs[j / e.sz]))[j % e.sz]!):=by
     have hlen:=Ro.length e (ro_enc (P:=P) (w:=w) (A:=A) e hs (vs[j / e.sz]))
     rw[List.getElem?_eq_getElem (by omega),getElem!_pos _ _ (by omega)]
    have hce:=hcell _ _ hy _ _ hel
    have hdm:j / e.sz*e.sz+j % e.sz=j:=by rw[Nat.mul_comm];exact Nat.div_add_mod j e.sz
    rw[hdm] at hce
    have hone:=Ro.one e (ro_enc (P:=P) (w:=w) (A:=A) e hs (vs[j / e.sz])) _ (List.mem_of_getElem? hel)
    have hcc:=ce_cell hce hone
    refine ⟨?_,?_⟩
    ·show _=some (id _)
     rw[hcc]
     have:vs.toArray[j / e.sz]! = vs[j / e.sz]:=by rw[getElem!_pos _ _ (by rw[hsz];exact hi)];simp
     rw[this]
     rfl
    ·simp only[World.frozen?,c1]
     have:=c3 j (by omega)
     simp only[Bool.and_eq_false_imp,decide_eq_true_eq,decide_eq_false_iff_not,not_and] at this ⊢
     intro h
     first | exact this h | (have:=this (by simpa using h);simpa using this)
   have hkit:=Go.Proofs.AnyQ.slices_SortFunc_eq L e.sz (fun w=>by rw[run_isAgg hl,ha]) (fun w=>run_sizeOf hl) (encT e) (fun y=>Ro.length e (ro_enc (P:=P) (w:=w) (A:=A) e hs y)) (fun y u hu=>Ro.one e (ro_enc (P:=P) (w:=w) (A:=A) e hs y) u hu) cf hO fg #[] b 0 cap vs.toArray w
    (fun args w=>enter_run hg.2 args) (cmp_lays hs ha hg.1 hc b _ w) hH hb (by rw[hsz];unfold CAP at hcap;omega)
   rw[hsz] at hkit
   refine hkit.mono ?_
   rintro ex w' ⟨rfl,n,os,rfl⟩
   rw[hsz] at hr
   have hrd:(pdq (Go.Proofs.ltOf cf) vs.toArray 0 (List.length vs) (Lib.bitLen (List.length vs)) true true)=r.toArray:=by rw[hr]
   rw[hrd]
   have hrl:r.length=List.length vs:=hspec.1.length_eq
   have hold:∀ b',b' < w.heap.size->b'≠b->(Go.Proofs.sortWorldK (encT e) e.sz w b 0 n r.toArray os).heap[b']?=w.heap[b']?:=fun b' hb' hne=>by
    simp only[Go.Proofs.sortWorldK,grow,Go.Sort.putRowK,Go.Sort.putRow,Go.Sort.mapBlock,Go.Sort.ahead]
    rw[Array.getElem?_append_left (by simpa using hb'),Array.getElem?_modify,if_neg (fun e=>hne e.symm)]
   have hnew:(Go.Proofs.sortWorldK (encT e) e.sz w b 0 n r.toArray os).heap[b]?=some (.cells (Go.Sort.putCells id 0 (Go.Sort.flatK (encT e) e.sz r.toArray) c) el fr):=by
    simp only[Go.Proofs.sortWorldK,grow,Go.Sort.putRowK,Go.Sort.putRow,Go.Sort.mapBlock,Go.Sort.ahead]
    rw[Array.getElem?_append_left (by simpa using hb),Array.getElem?_modify,if_pos rfl,c1]
    rfl
   have hcs:(Go.Sort.putCells id 0 (Go.Sort.flatK (encT e) e.sz r.toArray) c).size=c.size:=by simp[Go.Sort.putCells]
   have hext:Ext w (Go.Proofs.sortWorldK (encT e) e.sz w b 0 n r.toArray os) F0:=by
    have hown:∀ i,i < cap*e.sz->1<=F0 b i:=fun i hi=>by
     have h3:=hF b i
     have h4:=q4 b i
     have h5:rng b 0 (cap*e.sz) b i=1:=by simp only[rng];rw[if_pos ⟨trivial,by omega,by omega⟩]
     omega
    refine ⟨?_,fun b' i hb' hz u hu=>?_,fun b' m hm=>?_,fun b' i hb'=>?_,rfl,rfl,rfl,fun b' hb' hz=>?_,Nat.le_add_right _ _⟩
    ·simp only[Go.Proofs.sortWorldK,grow,Go.Sort.putRowK,Go.Sort.putRow,Go.Sort.mapBlock,Go.Sort.ahead,Array.size_append,Array.size_modify]
     omega
    ·by_cases hbb:b'=b
     ·subst hbb
      have hi:¬ i < cap*e.sz:=fun hi=>by have:=hown i hi;omega
      exfalso
      have:=ce_cells c1 hu
      rw[Array.getElem?_eq_none (by omega)] at this
      cases this
     ·rw[ce_block (hold b' hb' hbb)];exact hu
    ·by_cases hbb:b'=b
     ·subst hbb
      obtain ⟨c',e',f',m1,m2,m3⟩:=hm
      rw[c1] at m1
      injection m1 with m1
      injection m1 with m1 m4 m5
      subst m1;subst m4;subst m5
      exact ⟨_,_,_,hnew,by rw[hcs];exact m2,m3⟩
     ·have hb':b' < w.heap.size:=hm.lt
      exact (own_of_block (hold b' hb' hbb) m).1 hm
    ·by_cases hbb:b'=b
     ·subst hbb
      simp only[World.frozen?,hnew,c1]
     ·exact fr_of_block (hold b' hb' hbb) i
    ·by_cases hbb:b'=b
     ·subst hbb
      have:=hown 0 (by omega)
      have:=hz 0
      omega
     ·exact hold b' hb' hbb
   refine hfin _ F1 hext (fun _ _=>Nat.le_refl _) ?_
   simp only[Rep,hole,List.any_nil,Bool.false_eq_true,if_false,ownMd,mdOf,Md.own,if_true]
   refine ⟨some ⟨b,0,none⟩,cap,by rw[hrl],by rw[hrl];exact g2,g3,(fun e=>by cases e),fun ad e2=>?_⟩
   injection e2 with e2
   subst e2
   refine ⟨rfl,rfl,⟨_,_,_,hnew,by rw[hcs];exact c2,c3,c4⟩,fun _ _ _=>0,fun b' i=>?_,fun i y hy=>?_⟩
   ·have h3:=q4 b' i
    have h4:sumF (List.length r) (fun _ _ _=>0) b' i=0:=by
     generalize List.length r=nn
     induction nn with
     | zero=>rfl
     | succ nn ih=>simp only[sumF,ih]
    show rng b 0 (cap*e.sz) b' i+sumF (List.length r) (fun _ _ _=>0) b' i<=F1 b' i
    rw[h4]
    omega
   ·refine ⟨encT e y,Ro.length e (ro_enc (P:=P) (w:=w) (A:=A) e hs y),fun j u hu=>?_,?_⟩
    ·have hj:=(List.getElem?_eq_some_iff.1 hu).1
     have hlen:=Ro.length e (ro_enc (P:=P) (w:=w) (A:=A) e hs y)
     have hi:=(List.getElem?_eq_some_iff.1 hy).1
     have hij:i*e.sz+j < r.length*e.sz:=by
      have:=Nat.mul_le_mul_right e.sz (show i+1<=r.length from hi)
      rw[Nat.add_mul,Nat.one_mul] at this
      omega
     have hdiv:(i*e.sz+j) / e.sz=i:=(Go.Sort.blk_iff e.sz i _ h1).1 ⟨by omega,by omega⟩
     have hmod:(i*e.sz+j) % e.sz=j:=by rw[Nat.mod_eq_sub_div_mul,hdiv];omega
     have hget:(Go.Sort.putCells id 0 (Go.Sort.flatK (encT e) e.sz r.toArray) c)[i*e.sz+j]?=some u:=by
      have hlt:i*e.sz+j < c.size:=by rw[hrl] at hij;omega
      simp only[Go.Sort.putCells,Array.getElem?_mapIdx,Array.getElem?_eq_getElem hlt,Option.map_some,Nat.zero_le,true_and,Nat.zero_add,Nat.sub_zero,Go.Sort.size_flatK,List.size_toArray,hij,if_true,id]
      rw[Go.Sort.get_flatK _ _ _ _ (by simpa using hij),hdiv,hmod]
      have hy2:r.toArray[i]! = y:=by
       rw[getElem!_pos _ _ (by simpa using hi)]
       have:=(List.getElem?_eq_some_iff.1 hy).2
       simpa using this
      rw[hy2,getElem!_pos (encT e y) j hj]
      exact congrArg some (List.getElem?_eq_some_iff.1 hu).2
     have hone:=Ro.one e (ro_enc (P:=P) (w:=w) (A:=A) e hs y) _ (List.mem_of_getElem? hu)
     exact ce_of_cells hnew hget hone
    ·exact Ro.flat e _ (simp_flat e hs) (ro_enc e hs y)
end
end OT
set_option maxRecDepth 100000
set_option linter.unusedVariables false
namespace OT
open Go Go.Proofs.Tryz
abbrev L1Src:Type:=((List UInt8)×Int×Unit)
abbrev tL1Src:Ty:=(tupT [(.slc u8),i64])
abbrev Row:Type:=(Int×Int×Int×(List UInt8)×Unit)
abbrev tRow:Ty:=(tupT [i64,i64,i64,.str])
abbrev CellResult:Type:=(Int×Int×Int×Int×Row×Unit)
abbrev tCellResult:Ty:=(tupT [i64,i64,i64,i64,tRow])
abbrev L6Spot:Type:=(Int×Int×CellResult×Unit)
abbrev tL6Spot:Ty:=(tupT [i64,i64,tCellResult])
abbrev Edit:Type:=(Int×(List UInt8)×Unit)
abbrev tEdit:Ty:=(tupT [i64,(.slc u8)])
abbrev EditsResult:Type:=(Int×(List Edit)×(List (List UInt8))×Unit)
abbrev tEditsResult:Ty:=(tupT [i64,(.slc tEdit),(.slc (.slc u8))])
abbrev L7Work:Type:=((List (List UInt8))×(List Edit)×Unit)
abbrev tL7Work:Ty:=(tupT [(.slc (.slc u8)),(.slc tEdit)])
abbrev Seen:Type:=(Row×Int×Int×Bool×Int×Int×Unit)
abbrev tSeen:Ty:=(tupT [tRow,i64,i64,.bool,i64,i64])
abbrev PageResult:Type:=(Int×Int×(List UInt8)×Unit)
abbrev tPageResult:Ty:=(tupT [i64,i64,(.slc u8)])
abbrev RowsResult:Type:=(Int×(List Row)×Unit)
abbrev tRowsResult:Ty:=(tupT [i64,(.slc tRow)])
abbrev PlaceResult:Type:=(Int×Int×Int×Row×Unit)
abbrev tPlaceResult:Ty:=(tupT [i64,i64,i64,tRow])
abbrev Change:Type:=(Bool×Row×Bool×Row×Unit)
abbrev tChange:Ty:=(tupT [.bool,tRow,.bool,tRow])
abbrev ChangesResult:Type:=(Int×(List Change)×Unit)
abbrev tChangesResult:Ty:=(tupT [i64,(.slc tChange)])
abbrev Key:Type:=(Int×Int×Unit)
abbrev tKey:Ty:=(tupT [i64,i64])
abbrev Tx:Type:=(Int×(List Change)×(List Int)×(List Key)×Unit)
abbrev tTx:Ty:=(tupT [i64,(.slc tChange),(.slc i64),(.slc tKey)])
abbrev Plain:Type:=((List Row)×(List Tx)×Int×Unit)
abbrev tPlain:Ty:=(tupT [(.slc tRow),(.slc tTx),i64])
abbrev PlainResult:Type:=(Int×Int×Plain×Unit)
abbrev tPlainResult:Ty:=(tupT [i64,i64,tPlain])
abbrev ChangeResult:Type:=(Int×Bool×Change×Unit)
abbrev tChangeResult:Ty:=(tupT [i64,.bool,tChange])
abbrev Op:Type:=(Int×Int×Row×Int×Unit)
abbrev tOp:Ty:=(tupT [i64,i64,tRow,i64])
abbrev RunResult:Type:=(Int×(List Int)×(List Int)×Plain×Unit)
abbrev tRunResult:Ty:=(tupT [i64,(.slc i64),(.slc i64),tPlain])
abbrev TxsResult:Type:=(Int×(List Tx)×Unit)
abbrev tTxsResult:Ty:=(tupT [i64,(.slc tTx)])
abbrev Record:Type:=(Int×Int×Int×(List Edit)×Unit)
abbrev tRecord:Ty:=(tupT [i64,i64,i64,(.slc tEdit)])
abbrev Miner:Type:=((List (List UInt8))×(List ChangesResult)×Unit)
abbrev tMiner:Ty:=(tupT [(.slc (.slc u8)),(.slc tChangesResult)])
abbrev MinerResult:Type:=(Int×Bool×Bool×Int×(List Change)×Miner×Unit)
abbrev tMinerResult:Ty:=(tupT [i64,.bool,.bool,i64,(.slc tChange),tMiner])
abbrev MinedResult:Type:=(Int×(List ChangesResult)×Miner×Unit)
abbrev tMinedResult:Ty:=(tupT [i64,(.slc tChangesResult),tMiner])
noncomputable def TL0:TL:=[(22,(.slc u8)),(2,i64),(26,tRow),(5,u8),(24,(.slc (.slc u8))),(3,i64),(159,tCellResult),(9,.str),(31,tEditsResult),(33,(.slc tRow)),(161,tL6Spot),(372,tPageResult),(29,(.slc tEdit)),(147,tSeen),(267,tL7Work),(382,tL7Work),(272,(.slc tL6Spot)),(73,(.slc i64)),(142,(.slc tSeen)),(189,tEdit),(35,tRowsResult),(170,(.slc .str)),(4,.bool),(38,tPlaceResult),(260,tL1Src),(363,(.arr 64 .bool)),(365,(.map (.arr 2 i64) tRow)),(366,(.arr 2 i64)),(368,(.map (.arr 2 i64) .bool))]
theorem tlOk:(tiOk prog TL0&&eqOkL prog TL0)=true:=by kernel_rfl
namespace laws_lwBig
abbrev Arg:Type:=(List UInt8)×Unit
abbrev Out:Type:=Bool×Unit
abbrev ps:PQ:=[(.ro,(.slc u8))]
noncomputable def D:FD:={ fn:=f13,tl:=TL0,ps:=ps,rs:=[(.bool,(roMd .bool))] }
noncomputable def sem (a:Arg):Option Out:=@lift Out fun k=>D.W k a
noncomputable def p (a1:Arg):Option Out:=some (decide ((1048576:Int) < (a1.1.length:Int)),())
theorem raw_eq (k:Nat) (a1:Arg):@Eq (Option Out) (D.W k a1) (p a1):=by kernel_rfl
theorem ok:Ok prog 13 D.sig:=fd_ok func13 tlOk (by kernel_rfl) (fn_nil _)
end laws_lwBig
namespace spec_l1Source
abbrev Arg:Type:=(List UInt8)×Unit
abbrev Out:Type:=L1Src×Unit
abbrev ps:PQ:=[(.ro,(.slc u8))]
noncomputable def D:FD:={ fn:=f83,tl:=TL0,ps:=ps,rs:=[((.ptr tL1Src),(.ptr true (roMd tL1Src)))] }
noncomputable def sem (a:Arg):Option Out:=@lift Out fun k=>D.W k a
noncomputable def p (a1:Arg):Option Out:=some ((a1.1,(0:Int),()),())
theorem raw_eq (k:Nat) (a1:Arg):@Eq (Option Out) (D.W k a1) (p a1):=by kernel_rfl
theorem ok:Ok prog 83 D.sig:=fd_ok func83 tlOk (by kernel_rfl) (fn_nil _)
end spec_l1Source
namespace spec_l1Next
abbrev Arg:Type:=L1Src×Int×Unit
abbrev Out:Type:=Int×L1Src×Unit
abbrev ps:PQ:=[(.mutp (roMd tL1Src),tL1Src),(.ro,i64)]
noncomputable def D:FD:={ fn:=f101,tl:=TL0,ps:=ps,rs:=[(i64,(roMd i64))],es:=[0],od:=[(8,[0,1,2,3,4,5,6,7,8,9,10,11,12,13,14,15]),(10,[0,1,2,3,4,5,6,7,8,9,10,11,12,13,14,15,16,17])] }
noncomputable def sem (a:Arg):Option Out:=@lift Out fun k=>D.W k a
noncomputable def p (a1:Arg):Option Out:=bif decide (a1.2.1 < (1:Int)) then (some ((0:Int),(a1.1.1,w64 (a1.1.2.1+(1:Int)),a1.1.2.2),())) else bif decide ((a1.1.1.length:Int)=(0:Int)) then (if a1.2.1=0 then none else some ((w64 ((w64 ((w64 (a1.1.2.1+(1:Int))) - (1:Int)))*(7:Int))).tmod a1.2.1,(a1.1.1,w64 (a1.1.2.1+(1:Int)),a1.1.2.2),())) else if (a1.1.1.length:Int)=0 then none else if 0<=(w64 ((w64 (a1.1.2.1+(1:Int))) - (1:Int))).tmod (a1.1.1.length:Int) then ((a1.1.1[((w64 ((w64 (a1.1.2.1+(1:Int))) - (1:Int))).tmod (a1.1.1.length:Int)).toNat]?).bind fun x2=>if (a1.1.1.length:Int)=0 then none else let j5:=fun (p4:Int)=>(if a1.2.1=0 then none else some (p4.tmod a1.2.1,(a1.1.1,w64 (a1.1.2.1+(1:Int)),a1.1.2.2),()):Option Out);bif decide ((200:Int) < a1.2.1) then (if (a1.1.1.length:Int)=0 then none else if 0<=(w64 ((w64 ((w64 (a1.1.2.1+(1:Int))) - (1:Int)))+(1:Int))).tmod (a1.1.1.length:Int) then ((a1.1.1[((w64 ((w64 ((w64 (a1.1.2.1+(1:Int))) - (1:Int)))+(1:Int))).tmod (a1.1.1.length:Int)).toNat]?).bind fun x3=>j5 (w64 ((w64 ((w64 ((w64 ((w64 (x2.toNat:Int))+(w64 ((w64 ((w64 ((w64 (a1.1.2.1+(1:Int))) - (1:Int))).tdiv (a1.1.1.length:Int)))*(37:Int)))))*(251:Int)))+(w64 ((w64 (x3.toNat:Int))*(13:Int)))))+(w64 ((w64 (a1.1.2.1+(1:Int))) - (1:Int)))))) else none) else j5 (w64 ((w64 (x2.toNat:Int))+(w64 ((w64 ((w64 ((w64 (a1.1.2.1+(1:Int))) - (1:Int))).tdiv (a1.1.1.length:Int)))*(37:Int)))))) else none
theorem raw_eq (k:Nat) (a1:Arg):@Eq (Option Out) (D.W k a1) (p a1):=by kernel_rfl
theorem ok:Ok prog 101 D.sig:=fd_ok func101 tlOk (by kernel_rfl) (fn_nil _)
end spec_l1Next
namespace spec_l1Chance
abbrev Arg:Type:=L1Src×Int×Unit
abbrev Out:Type:=Bool×L1Src×Unit
abbrev ps:PQ:=[(.mutp (roMd tL1Src),tL1Src),(.ro,i64)]
noncomputable def D:FD:={ fn:=f99,tl:=TL0,ps:=ps,rs:=[(.bool,(roMd .bool))],gl:=[(101,spec_l1Next.D.sig)],es:=[0] }
noncomputable def sem (a:Arg):Option Out:=@lift Out fun k=>D.W k a
noncomputable def p (a1:Arg):Option Out:=(spec_l1Next.sem (a1.1,a1.2.1,())).bind fun r2=>some (decide (r2.1=(0:Int)),r2.2.1,())
theorem raw_eq (k:Nat) (a1:Arg):@Eq (Option Out) (D.W k a1) (p a1):=by kernel_rfl
theorem ok:Ok prog 99 D.sig:=fd_ok func99 tlOk (by kernel_rfl) (fc spec_l1Next.ok (fn_nil _))
end spec_l1Chance
namespace spec_l1Pick
abbrev Arg:Type:=L1Src×(List Int)×Unit
abbrev Out:Type:=Int×L1Src×Unit
abbrev ps:PQ:=[(.mutp (roMd tL1Src),tL1Src),(.ro,(.slc i64))]
noncomputable def D:FD:={ fn:=f117,tl:=TL0,ps:=ps,rs:=[(i64,(roMd i64))],gl:=[(101,spec_l1Next.D.sig)],es:=[0] }
noncomputable def sem (a:Arg):Option Out:=@lift Out fun k=>D.W k a
noncomputable def p (a1:Arg):Option Out:=(spec_l1Next.sem (a1.1,(a1.2.1.length:Int),())).bind fun r2=>if 0<=r2.1 then ((a1.2.1[r2.1.toNat]?).bind fun x3=>some (x3,r2.2.1,())) else none
theorem raw_eq (k:Nat) (a1:Arg):@Eq (Option Out) (D.W k a1) (p a1):=by kernel_rfl
theorem ok:Ok prog 117 D.sig:=fd_ok func117 tlOk (by kernel_rfl) (fc spec_l1Next.ok (fn_nil _))
end spec_l1Pick
namespace spec_l1Draw
abbrev Arg:Type:=L1Src×Unit
abbrev Out:Type:=Row×L1Src×Unit
abbrev ps:PQ:=[(.mutp (roMd tL1Src),tL1Src)]
noncomputable def D:FD:={ fn:=f186,tl:=TL0,ps:=ps,rs:=[(tRow,(roMd tRow))],gl:=[(101,spec_l1Next.D.sig),(117,spec_l1Pick.D.sig)],es:=[0] }
noncomputable def sem (a:Arg):Option Out:=@lift Out fun k=>D.W k a
noncomputable def p (a1:Arg):Option Out:=(spec_l1Next.sem (a1.1,(3:Int),())).bind fun r2=>(spec_l1Next.sem (r2.2.1,(6:Int),())).bind fun r3=>(spec_l1Next.sem (r3.2.1,(9:Int),())).bind fun r4=>(spec_l1Pick.sem (r4.2.1,[r4.1,(300:Int),(999:Int)],())).bind fun r5=>(spec_l1Next.sem (r5.2.1,(4:Int),())).bind fun r6=>if 0<=r6.1/\r6.1 < ([([]:List UInt8),([97]:List UInt8),([97,98,99]:List UInt8),([97,98,99,100,101,102,103,104]:List UInt8)].length:Int) then (([([]:List UInt8),([97]:List UInt8),([97,98,99]:List UInt8),([97,98,99,100,101,102,103,104]:List UInt8)][r6.1.toNat]?).bind fun x7=>some ((r2.1,w64 ((1:Int)+r3.1),r5.1,x7,()),r6.2.1,())) else none
theorem raw_eq (k:Nat) (a1:Arg):@Eq (Option Out) (D.W k a1) (p a1):=by kernel_rfl
theorem ok:Ok prog 186 D.sig:=fd_ok func186 tlOk (by kernel_rfl) (fc spec_l1Next.ok (fc spec_l1Pick.ok (fn_nil _)))
end spec_l1Draw
namespace spec_l1Cell
abbrev Arg:Type:=Int×Row×Unit
abbrev Out:Type:=(List UInt8)×Unit
abbrev ps:PQ:=[(.ro,i64),(.ro,(.ptr tRow))]
noncomputable def D:FD:={ fn:=f202,tl:=TL0,ps:=ps,rs:=[((.slc u8),(ownMd (.slc u8)))],od:=[(1,[0,1,2,3,4,5,6,7,8,9,10,11,12,13,14,15,16,17,18,19,20,21,22,23,24,25,26,27,28,29,30,31])] }
noncomputable def sem (a:Arg):Option Out:=@lift Out fun k=>D.W k a
noncomputable def p (a1:Arg):Option Out:=if a1.2.1.2.2.2.1.length<=CAP then (if [UInt8.ofInt a1.1,UInt8.ofInt a1.2.1.1,UInt8.ofInt a1.2.1.2.1,UInt8.ofInt (w64 (a1.2.1.2.2.1.tdiv (256:Int))),UInt8.ofInt (a1.2.1.2.2.1.tmod (256:Int)),UInt8.ofInt (a1.2.1.2.2.2.1.length:Int)].length+a1.2.1.2.2.2.1.length<=CAP then (let y2:=[UInt8.ofInt a1.1,UInt8.ofInt a1.2.1.1,UInt8.ofInt a1.2.1.2.1,UInt8.ofInt (w64 (a1.2.1.2.2.1.tdiv (256:Int))),UInt8.ofInt (a1.2.1.2.2.1.tmod (256:Int)),UInt8.ofInt (a1.2.1.2.2.2.1.length:Int)]++a1.2.1.2.2.2.1;some (y2,())) else none) else none
theorem raw_eq (k:Nat) (a1:Arg):@Eq (Option Out) (D.W k a1) (p a1):=by kernel_rfl
theorem ok:Ok prog 202 D.sig:=fd_ok func202 tlOk (by kernel_rfl) (fn_nil _)
end spec_l1Cell
namespace spec_l1Stub
abbrev Arg:Type:=Int×Int×Unit
abbrev Out:Type:=(List UInt8)×Unit
abbrev ps:PQ:=[(.ro,i64),(.ro,i64)]
noncomputable def D:FD:={ fn:=f210,tl:=TL0,ps:=ps,rs:=[((.slc u8),(ownMd (.slc u8)))] }
noncomputable def sem (a:Arg):Option Out:=@lift Out fun k=>D.W k a
noncomputable def p (a1:Arg):Option Out:=some ([(1:UInt8),UInt8.ofInt a1.1,UInt8.ofInt a1.2.1],())
theorem raw_eq (k:Nat) (a1:Arg):@Eq (Option Out) (D.W k a1) (p a1):=by kernel_rfl
theorem ok:Ok prog 210 D.sig:=fd_ok func210 tlOk (by kernel_rfl) (fn_nil _)
end spec_l1Stub
namespace spec_l1Before
abbrev Arg:Type:=Row×Row×Unit
abbrev Out:Type:=Bool×Unit
abbrev ps:PQ:=[(.ro,(.ptr tRow)),(.ro,(.ptr tRow))]
noncomputable def D:FD:={ fn:=f302,tl:=TL0,ps:=ps,rs:=[(.bool,(roMd .bool))],od:=[(1,[0,1,2,3,4,5,6,7,8,9,10,11,12,13,14,15,16,17,18,19,20,21,22,23,24,25,26,27,28,29,30,31])] }
noncomputable def sem (a:Arg):Option Out:=@lift Out fun k=>D.W k a
noncomputable def p (a1:Arg):Option Out:=bif decide (a1.1.1 < a1.2.1.1) then (some (true,())) else bif decide (a1.1.1=a1.2.1.1) then (some (decide (a1.1.2.1 < a1.2.1.2.1),())) else some (false,())
theorem raw_eq (k:Nat) (a1:Arg):@Eq (Option Out) (D.W k a1) (p a1):=by kernel_rfl
theorem ok:Ok prog 302 D.sig:=fd_ok func302 tlOk (by kernel_rfl) (fn_nil _)
end spec_l1Before
namespace spec_l6Put
abbrev Arg:Type:=(List Row)×Row×Unit
abbrev Out:Type:=(List Row)×Unit
abbrev ps:PQ:=[(.ro,(.slc tRow)),(.ro,tRow)]
noncomputable def D:FD:={ fn:=f204,tl:=TL0,ps:=ps,rs:=[((.slc tRow),(ownMd (.slc tRow)))],gl:=[(302,spec_l1Before.D.sig)],lv:=[(2,[0,3,5])],lx:=[(0,[0,3,5])],od:=[(5,[0,1,4,5,6,2,3,7,8])] }
noncomputable def sem (a:Arg):Option Out:=@lift Out fun k=>D.W k a
noncomputable def T0 (a1:Arg) (v402:Int):St:={ n:=32,sl:=[(0,.val (.slc tRow) a1.1),(3,.box tRow (roMd tRow) [] a1.2.1),(5,.val i64 v402)],vr:=[],lent:=[] }
noncomputable def b0 (self:Int->Option Out) (e0:Int->Option Out) (a1:Arg) (v402:Int):Option Out:=bif decide (v402 < (a1.1.length:Int)) then (if 0<=v402 then ((a1.1[v402.toNat]?).bind fun x603=>(spec_l1Before.sem (x603,a1.2.1,())).bind fun r604=>bif r604.1 then (self (w64 (v402+(1:Int)))) else e0 v402) else none) else e0 v402
noncomputable abbrev B0 (_:Nat):=b0
noncomputable def q0 (a1:Arg) (z605:Int):Option Out:=if 0<=z605/\z605<=(a1.1.length:Int) then (if ([]:List Row).length+((a1.1.take z605.toNat).drop 0).length<=CAP then (let y606:=([]:List Row)++((a1.1.take z605.toNat).drop 0);if 0<=z605/\z605<=(a1.1.length:Int) then (if y606.length+[a1.2.1].length<=CAP then (if (y606++[a1.2.1]).length+((a1.1.take a1.1.length).drop z605.toNat).length<=CAP then (let y607:=(y606++[a1.2.1])++((a1.1.take a1.1.length).drop z605.toNat);some (y607,())) else none) else none) else none) else none) else none
noncomputable abbrev Q0 (_:Nat):=q0
noncomputable def s0 (k:Nat) (a1:Arg):(Int)->Option Out:=fun v402=>D.L k [1,1,0,0,0] [0,3,5] [] (blockC 0 (seqC (D.N k [1,1,1]) D.K0)) (T0 a1 v402)
noncomputable def r0 (k:Nat) (a1:Arg):(Int)->Option Out:=rawIter (fun w v=>B0 k w (Q0 k a1) a1 v) k
theorem s0_eq (k:Nat) (a1:Arg):s0 k a1=r0 k a1:=
 funext fun v402=>iter_raw _ _ _ (T0 a1) _ (fun rec v=>by kernel_rfl) k v402
noncomputable def p (l0:(Int)->Option Out) (a1:Arg):Option Out:=l0 (0:Int)
theorem raw_eq (k:Nat) (a1:Arg):@Eq (Option Out) (D.W k a1) (p (r0 k a1) a1):=
 Eq.trans (b:=p (s0 k a1) a1) (by kernel_rfl) (by rw[s0_eq])
theorem ok:Ok prog 204 D.sig:=fd_ok func204 tlOk (by kernel_rfl) (fc spec_l1Before.ok (fn_nil _))
end spec_l6Put
namespace spec_l6At
abbrev Arg:Type:=(List Row)×Int×Int×Unit
abbrev Out:Type:=Int×Unit
abbrev ps:PQ:=[(.ro,(.slc tRow)),(.ro,i64),(.ro,i64)]
noncomputable def D:FD:={ fn:=f211,tl:=TL0,ps:=ps,rs:=[(i64,(roMd i64))],lv:=[(2,[0,1,2,7])],lx:=[(0,[])] }
noncomputable def sem (a:Arg):Option Out:=@lift Out fun k=>D.W k a
noncomputable def T0 (a1:Arg) (v402:Int):St:={ n:=31,sl:=[(0,.val (.slc tRow) a1.1),(1,.val i64 a1.2.1),(2,.val i64 a1.2.2.1),(7,.val i64 v402)],vr:=[],lent:=[] }
noncomputable def b0 (self:Int->Option Out) (e0:(Unit)->Option Out) (a1:Arg) (v402:Int):Option Out:=bif decide (v402 < (a1.1.length:Int)) then (if 0<=v402 then ((a1.1[v402.toNat]?).bind fun x603=>bif decide (x603.1=a1.2.1) then (if 0<=v402 then ((a1.1[v402.toNat]?).bind fun x604=>bif decide (x604.2.1=a1.2.2.1) then (some (v402,())) else self (w64 (v402+(1:Int)))) else none) else self (w64 (v402+(1:Int)))) else none) else e0 ()
noncomputable abbrev B0 (_:Nat):=b0
noncomputable def q0 (a1:Arg) (z605:(Unit)):Option Out:=some ((-1:Int),())
noncomputable abbrev Q0 (_:Nat):=q0
noncomputable def s0 (k:Nat) (a1:Arg):(Int)->Option Out:=fun v402=>D.L k [1,0,1,0,0] [0,1,2,7] [] (blockC 0 (seqC (D.N k [1,1]) D.K0)) (T0 a1 v402)
noncomputable def r0 (k:Nat) (a1:Arg):(Int)->Option Out:=rawIter (fun w v=>B0 k w (Q0 k a1) a1 v) k
theorem s0_eq (k:Nat) (a1:Arg):s0 k a1=r0 k a1:=
 funext fun v402=>iter_raw _ _ _ (T0 a1) _ (fun rec v=>by kernel_rfl) k v402
noncomputable def p (l0:(Int)->Option Out) (a1:Arg):Option Out:=l0 (0:Int)
theorem raw_eq (k:Nat) (a1:Arg):@Eq (Option Out) (D.W k a1) (p (r0 k a1) a1):=
 Eq.trans (b:=p (s0 k a1) a1) (by kernel_rfl) (by rw[s0_eq])
theorem ok:Ok prog 211 D.sig:=fd_ok func211 tlOk (by kernel_rfl) (fn_nil _)
end spec_l6At
namespace spec_l6DrawRows
abbrev Arg:Type:=L1Src×Unit
abbrev Out:Type:=(List Row)×L1Src×Unit
abbrev ps:PQ:=[(.mutp (roMd tL1Src),tL1Src)]
noncomputable def D:FD:={ fn:=f106,tl:=TL0,ps:=ps,rs:=[((.slc tRow),(ownMd (.slc tRow)))],gl:=[(101,spec_l1Next.D.sig),(186,spec_l1Draw.D.sig),(204,spec_l6Put.D.sig),(211,spec_l6At.D.sig)],es:=[0],lv:=[(3,[0,3,4])],lx:=[(0,[0,3])] }
noncomputable def sem (a:Arg):Option Out:=@lift Out fun k=>D.W k a
noncomputable def T0 (a1:Arg) (v403:L1Src×(List Row)×Int):St:={ n:=26,sl:=[(0,.box tL1Src (roMd tL1Src) [] v403.1),(3,.own (.slc tRow) (ownMd (.slc tRow)) [] v403.2.1),(4,.val i64 v403.2.2)],vr:=[],lent:=[(0,0,false)] }
noncomputable def b0 (self:(L1Src×(List Row)×Int)->Option Out) (e0:(L1Src×(List Row))->Option Out) (a1:Arg) (v403:L1Src×(List Row)×Int):Option Out:=bif decide ((0:Int) < v403.2.2) then ((spec_l1Draw.sem (v403.1,())).bind fun r604=>(spec_l6At.sem (v403.2.1,r604.1.1,r604.1.2.1,())).bind fun r605=>bif decide (r605.1 < (0:Int)) then ((spec_l6Put.sem (v403.2.1,r604.1,())).bind fun r606=>self (r604.2.1,r606.1,w64 (v403.2.2 - (1:Int)))) else self (r604.2.1,v403.2.1,w64 (v403.2.2 - (1:Int)))) else e0 (v403.1,v403.2.1)
noncomputable abbrev B0 (_:Nat):=b0
noncomputable def q0 (a1:Arg) (z607:(L1Src×(List Row))):Option Out:=some (z607.2,z607.1,())
noncomputable abbrev Q0 (_:Nat):=q0
noncomputable def s0 (k:Nat) (a1:Arg):(L1Src×(List Row)×Int)->Option Out:=fun v403=>D.L k [1,1,0,1,0,0] [0,3,4] [] (blockC 0 (seqC (D.N k [1,1,1]) D.K0)) (T0 a1 v403)
noncomputable def r0 (k:Nat) (a1:Arg):(L1Src×(List Row)×Int)->Option Out:=rawIter (fun w v=>B0 k w (Q0 k a1) a1 v) k
theorem s0_eq (k:Nat) (a1:Arg):s0 k a1=r0 k a1:=
 funext fun v403=>iter_raw _ _ _ (T0 a1) _ (fun rec v=>by kernel_rfl) k v403
noncomputable def p (l0:(L1Src×(List Row)×Int)->Option Out) (a1:Arg):Option Out:=(spec_l1Next.sem (a1.1,(7:Int),())).bind fun r2=>l0 (r2.2.1,([]:List Row),r2.1)
theorem raw_eq (k:Nat) (a1:Arg):@Eq (Option Out) (D.W k a1) (p (r0 k a1) a1):=
 Eq.trans (b:=p (s0 k a1) a1) (by kernel_rfl) (by rw[s0_eq])
theorem ok:Ok prog 106 D.sig:=fd_ok func106 tlOk (by kernel_rfl) (fc spec_l1Next.ok (fc spec_l1Draw.ok (fc spec_l6Put.ok (fc spec_l6At.ok (fn_nil _)))))
end spec_l6DrawRows
namespace spec_l2Copy
abbrev Arg:Type:=(List UInt8)×Unit
abbrev Out:Type:=(List UInt8)×Unit
abbrev ps:PQ:=[(.ro,(.slc u8))]
noncomputable def D:FD:={ fn:=f124,tl:=TL0,ps:=ps,rs:=[((.slc u8),(ownMd (.slc u8)))] }
noncomputable def sem (a:Arg):Option Out:=@lift Out fun k=>D.W k a
noncomputable def p (a1:Arg):Option Out:=if ([]:List UInt8).length+a1.1.length<=CAP then (some (([]:List UInt8)++a1.1,())) else none
theorem raw_eq (k:Nat) (a1:Arg):@Eq (Option Out) (D.W k a1) (p a1):=by kernel_rfl
theorem ok:Ok prog 124 D.sig:=fd_ok func124 tlOk (by kernel_rfl) (fn_nil _)
end spec_l2Copy
namespace spec_l2Count
abbrev Arg:Type:=(List UInt8)×Unit
abbrev Out:Type:=Int×Unit
abbrev ps:PQ:=[(.ro,(.slc u8))]
noncomputable def D:FD:={ fn:=f294,tl:=TL0,ps:=ps,rs:=[(i64,(roMd i64))] }
noncomputable def sem (a:Arg):Option Out:=@lift Out fun k=>D.W k a
noncomputable def p (a1:Arg):Option Out:=(a1.1[0]?).bind fun x2=>some (w64 (x2.toNat:Int),())
theorem raw_eq (k:Nat) (a1:Arg):@Eq (Option Out) (D.W k a1) (p a1):=by kernel_rfl
theorem ok:Ok prog 294 D.sig:=fd_ok func294 tlOk (by kernel_rfl) (fn_nil _)
end spec_l2Count
namespace spec_l2Size
abbrev Arg:Type:=(List UInt8)×Int×Unit
abbrev Out:Type:=Int×Unit
abbrev ps:PQ:=[(.ro,(.slc u8)),(.ro,i64)]
noncomputable def D:FD:={ fn:=f295,tl:=TL0,ps:=ps,rs:=[(i64,(roMd i64))] }
noncomputable def sem (a:Arg):Option Out:=@lift Out fun k=>D.W k a
noncomputable def p (a1:Arg):Option Out:=if 0<=w64 ((3:Int)+(w64 ((2:Int)*a1.2.1))) then ((a1.1[(w64 ((3:Int)+(w64 ((2:Int)*a1.2.1)))).toNat]?).bind fun x2=>some (w64 (x2.toNat:Int),())) else none
theorem raw_eq (k:Nat) (a1:Arg):@Eq (Option Out) (D.W k a1) (p a1):=by kernel_rfl
theorem ok:Ok prog 295 D.sig:=fd_ok func295 tlOk (by kernel_rfl) (fn_nil _)
end spec_l2Size
namespace spec_l2Empty
abbrev Arg:Type:=(List UInt8)×Unit
abbrev Out:Type:=Int×Unit
abbrev ps:PQ:=[(.ro,(.slc u8))]
noncomputable def D:FD:={ fn:=f353,tl:=TL0,ps:=ps,rs:=[(i64,(roMd i64))],gl:=[(294,spec_l2Count.D.sig),(295,spec_l2Size.D.sig)],lv:=[(2,[0,3])],lx:=[(0,[0])] }
noncomputable def sem (a:Arg):Option Out:=@lift Out fun k=>D.W k a
noncomputable def T0 (a1:Arg) (v402:Int):St:={ n:=17,sl:=[(0,.val (.slc u8) a1.1),(3,.val i64 v402)],vr:=[],lent:=[] }
noncomputable def b0 (self:Int->Option Out) (e0:(Unit)->Option Out) (a1:Arg) (v402:Int):Option Out:=(spec_l2Count.sem (a1.1,())).bind fun r603=>bif decide (v402 < r603.1) then ((spec_l2Size.sem (a1.1,v402,())).bind fun r604=>bif decide (r604.1=(0:Int)) then (some (v402,())) else self (w64 (v402+(1:Int)))) else e0 ()
noncomputable abbrev B0 (_:Nat):=b0
noncomputable def q0 (a1:Arg) (z605:(Unit)):Option Out:=(spec_l2Count.sem (a1.1,())).bind fun r606=>some (r606.1,())
noncomputable abbrev Q0 (_:Nat):=q0
noncomputable def s0 (k:Nat) (a1:Arg):(Int)->Option Out:=fun v402=>D.L k [1,0,1,0,0] [0,3] [] (blockC 0 (seqC (D.N k [1,1]) D.K0)) (T0 a1 v402)
noncomputable def r0 (k:Nat) (a1:Arg):(Int)->Option Out:=rawIter (fun w v=>B0 k w (Q0 k a1) a1 v) k
theorem s0_eq (k:Nat) (a1:Arg):s0 k a1=r0 k a1:=
 funext fun v402=>iter_raw _ _ _ (T0 a1) _ (fun rec v=>by kernel_rfl) k v402
noncomputable def p (l0:(Int)->Option Out) (a1:Arg):Option Out:=l0 (0:Int)
theorem raw_eq (k:Nat) (a1:Arg):@Eq (Option Out) (D.W k a1) (p (r0 k a1) a1):=
 Eq.trans (b:=p (s0 k a1) a1) (by kernel_rfl) (by rw[s0_eq])
theorem ok:Ok prog 353 D.sig:=fd_ok func353 tlOk (by kernel_rfl) (fc spec_l2Count.ok (fc spec_l2Size.ok (fn_nil _)))
end spec_l2Empty
namespace spec_l2Free
abbrev Arg:Type:=(List UInt8)×Unit
abbrev Out:Type:=Int×Unit
abbrev ps:PQ:=[(.ro,(.slc u8))]
noncomputable def D:FD:={ fn:=f354,tl:=TL0,ps:=ps,rs:=[(i64,(roMd i64))],gl:=[(294,spec_l2Count.D.sig),(295,spec_l2Size.D.sig)],lv:=[(3,[0,3,4])],lx:=[(0,[3])] }
noncomputable def sem (a:Arg):Option Out:=@lift Out fun k=>D.W k a
noncomputable def T0 (a1:Arg) (v403:Int×Int):St:={ n:=21,sl:=[(0,.val (.slc u8) a1.1),(3,.val i64 v403.1),(4,.val i64 v403.2)],vr:=[],lent:=[] }
noncomputable def b0 (self:(Int×Int)->Option Out) (e0:Int->Option Out) (a1:Arg) (v403:Int×Int):Option Out:=(spec_l2Count.sem (a1.1,())).bind fun r604=>bif decide (v403.2 < r604.1) then ((spec_l2Size.sem (a1.1,v403.2,())).bind fun r605=>self (w64 (v403.1 - r605.1),w64 (v403.2+(1:Int)))) else e0 v403.1
noncomputable abbrev B0 (_:Nat):=b0
noncomputable def q0 (a1:Arg) (z606:Int):Option Out:=some (z606,())
noncomputable abbrev Q0 (_:Nat):=q0
noncomputable def s0 (k:Nat) (a1:Arg):(Int×Int)->Option Out:=fun v403=>D.L k [1,1,0,1,0,0] [0,3,4] [] (blockC 0 (seqC (D.N k [1,1,1]) D.K0)) (T0 a1 v403)
noncomputable def r0 (k:Nat) (a1:Arg):(Int×Int)->Option Out:=rawIter (fun w v=>B0 k w (Q0 k a1) a1 v) k
theorem s0_eq (k:Nat) (a1:Arg):s0 k a1=r0 k a1:=
 funext fun v403=>iter_raw _ _ _ (T0 a1) _ (fun rec v=>by kernel_rfl) k v403
noncomputable def p (l0:(Int×Int)->Option Out) (a1:Arg):Option Out:=(spec_l2Count.sem (a1.1,())).bind fun r2=>l0 (w64 ((62:Int) - (w64 ((2:Int)*r2.1))),(0:Int))
theorem raw_eq (k:Nat) (a1:Arg):@Eq (Option Out) (D.W k a1) (p (r0 k a1) a1):=
 Eq.trans (b:=p (s0 k a1) a1) (by kernel_rfl) (by rw[s0_eq])
theorem ok:Ok prog 354 D.sig:=fd_ok func354 tlOk (by kernel_rfl) (fc spec_l2Count.ok (fc spec_l2Size.ok (fn_nil _)))
end spec_l2Free
namespace spec_l2Low
abbrev Arg:Type:=(List UInt8)×Unit
abbrev Out:Type:=Int×Unit
abbrev ps:PQ:=[(.ro,(.slc u8))]
noncomputable def D:FD:={ fn:=f355,tl:=TL0,ps:=ps,rs:=[(i64,(roMd i64))] }
noncomputable def sem (a:Arg):Option Out:=@lift Out fun k=>D.W k a
noncomputable def p (a1:Arg):Option Out:=(a1.1[1]?).bind fun x2=>some (w64 (x2.toNat:Int),())
theorem raw_eq (k:Nat) (a1:Arg):@Eq (Option Out) (D.W k a1) (p a1):=by kernel_rfl
theorem ok:Ok prog 355 D.sig:=fd_ok func355 tlOk (by kernel_rfl) (fn_nil _)
end spec_l2Low
namespace spec_l2Stand
abbrev Arg:Type:=(List UInt8)×Int×Int×(List UInt8)×Unit
abbrev Out:Type:=(List UInt8)×Unit
abbrev ps:PQ:=[(.muts (ownMd (.slc u8)),(.slc u8)),(.ro,i64),(.ro,i64),(.ro,(.slc u8))]
noncomputable def D:FD:={ fn:=f356,tl:=TL0,ps:=ps,rs:=[],es:=[0] }
noncomputable def sem (a:Arg):Option Out:=@lift Out fun k=>D.W k a
noncomputable def p (a1:Arg):Option Out:=if 0<=a1.2.2.1/\a1.2.2.1<=(a1.1.length:Int) then (let y2:=over a1.1 a1.2.2.1.toNat (min a1.2.2.2.1.length (a1.1.length - a1.2.2.1.toNat)) a1.2.2.2.1;if 0<=w64 ((2:Int)+(w64 ((2:Int)*a1.2.1)))/\w64 ((2:Int)+(w64 ((2:Int)*a1.2.1))) < (y2.length:Int) then ((y2[(w64 ((2:Int)+(w64 ((2:Int)*a1.2.1)))).toNat]?).bind fun x3=>let y4:=y2.set (w64 ((2:Int)+(w64 ((2:Int)*a1.2.1)))).toNat (UInt8.ofInt a1.2.2.1);if 0<=w64 ((3:Int)+(w64 ((2:Int)*a1.2.1)))/\w64 ((3:Int)+(w64 ((2:Int)*a1.2.1))) < (y4.length:Int) then ((y4[(w64 ((3:Int)+(w64 ((2:Int)*a1.2.1)))).toNat]?).bind fun x5=>let y6:=y4.set (w64 ((3:Int)+(w64 ((2:Int)*a1.2.1)))).toNat (UInt8.ofInt (a1.2.2.2.1.length:Int));some (y6,())) else none) else none) else none
theorem raw_eq (k:Nat) (a1:Arg):@Eq (Option Out) (D.W k a1) (p a1):=by kernel_rfl
theorem ok:Ok prog 356 D.sig:=fd_ok func356 tlOk (by kernel_rfl) (fn_nil _)
end spec_l2Stand
namespace spec_l2Put
abbrev Arg:Type:=(List UInt8)×(List UInt8)×Unit
abbrev Out:Type:=(List UInt8)×Int×Int×Unit
abbrev ps:PQ:=[(.ro,(.slc u8)),(.ro,(.slc u8))]
noncomputable def D:FD:={ fn:=f285,tl:=TL0,ps:=ps,rs:=[((.slc u8),(ownMd (.slc u8))),(i64,(roMd i64)),(i64,(roMd i64))],gl:=[(124,spec_l2Copy.D.sig),(294,spec_l2Count.D.sig),(353,spec_l2Empty.D.sig),(354,spec_l2Free.D.sig),(355,spec_l2Low.D.sig),(356,spec_l2Stand.D.sig)] }
noncomputable def sem (a:Arg):Option Out:=@lift Out fun k=>D.W k a
noncomputable def p (a1:Arg):Option Out:=(spec_l2Empty.sem (a1.1,())).bind fun r2=>(spec_l2Count.sem (a1.1,())).bind fun r3=>let j14:=fun (p12:Int) (p13:Int)=>((spec_l2Free.sem (a1.1,())).bind fun r15=>bif decide (r15.1 < w64 ((a1.2.1.length:Int)+p13)) then (some (([]:List UInt8),(0:Int),(9:Int),())) else (spec_l2Low.sem (a1.1,())).bind fun r16=>bif decide (w64 (r16.1 - (a1.2.1.length:Int)) < w64 ((2:Int)+(w64 ((2:Int)*p12)))) then (some (([]:List UInt8),(0:Int),(8:Int),())) else (spec_l2Copy.sem (a1.1,())).bind fun r17=>if 0<=(0:Int)/\(0:Int) < (r17.1.length:Int) then ((r17.1[0]?).bind fun x18=>if 0<=(1:Int)/\(1:Int) < ((r17.1.set 0 (UInt8.ofInt p12)).length:Int) then (((r17.1.set 0 (UInt8.ofInt p12))[1]?).bind fun x19=>let y20:=(r17.1.set 0 (UInt8.ofInt p12)).set 1 (UInt8.ofInt (w64 (r16.1 - (a1.2.1.length:Int))));(spec_l2Stand.sem (y20,r2.1,w64 (r16.1 - (a1.2.1.length:Int)),a1.2.1,())).bind fun r21=>some (r21.1,r2.1,(0:Int),())) else none) else none:Option Out);bif decide (r2.1=r3.1) then (bif decide ((16:Int)<=r3.1) then (some (([]:List UInt8),(0:Int),(2:Int),())) else j14 (w64 (r3.1+(1:Int))) (2:Int)) else j14 r3.1 (0:Int)
theorem raw_eq (k:Nat) (a1:Arg):@Eq (Option Out) (D.W k a1) (p a1):=by kernel_rfl
theorem ok:Ok prog 285 D.sig:=fd_ok func285 tlOk (by kernel_rfl) (fc spec_l2Copy.ok (fc spec_l2Count.ok (fc spec_l2Empty.ok (fc spec_l2Free.ok (fc spec_l2Low.ok (fc spec_l2Stand.ok (fn_nil _)))))))
end spec_l2Put
namespace spec_l2New
abbrev Arg:Type:=UInt8×Unit
abbrev Out:Type:=(List UInt8)×Unit
abbrev ps:PQ:=[(.ro,u8)]
noncomputable def D:FD:={ fn:=f300,tl:=TL0,ps:=ps,rs:=[((.slc u8),(ownMd (.slc u8)))],lv:=[(3,[0,3,4])],lx:=[(0,[3])] }
noncomputable def sem (a:Arg):Option Out:=@lift Out fun k=>D.W k a
noncomputable def T0 (a1:Arg) (v402:(List UInt8)×Int):St:={ n:=19,sl:=[(0,.val u8 a1.1),(3,.own (.slc u8) (ownMd (.slc u8)) [] v402.1),(4,.val i64 v402.2)],vr:=[],lent:=[] }
noncomputable def b0 (self:((List UInt8)×Int)->Option Out) (e0:(List UInt8)->Option Out) (a1:Arg) (v402:(List UInt8)×Int):Option Out:=bif decide (v402.2 < (64:Int)) then (if 0<=v402.2/\v402.2 < (v402.1.length:Int) then ((v402.1[v402.2.toNat]?).bind fun x603=>self (v402.1.set v402.2.toNat a1.1,w64 (v402.2+(1:Int)))) else none) else e0 v402.1
noncomputable abbrev B0 (_:Nat):=b0
noncomputable def q0 (a1:Arg) (z604:(List UInt8)):Option Out:=if 0<=(0:Int)/\(0:Int) < (z604.length:Int) then ((z604[0]?).bind fun x605=>if 0<=(1:Int)/\(1:Int) < ((z604.set 0 (0:UInt8)).length:Int) then (((z604.set 0 (0:UInt8))[1]?).bind fun x606=>let y607:=(z604.set 0 (0:UInt8)).set 1 (64:UInt8);some (y607,())) else none) else none
noncomputable abbrev Q0 (_:Nat):=q0
noncomputable def s0 (k:Nat) (a1:Arg):((List UInt8)×Int)->Option Out:=fun v402=>D.L k [1,1,0,1,0,0] [0,3,4] [] (blockC 0 (seqC (D.N k [1,1,1]) D.K0)) (T0 a1 v402)
noncomputable def r0 (k:Nat) (a1:Arg):((List UInt8)×Int)->Option Out:=rawIter (fun w v=>B0 k w (Q0 k a1) a1 v) k
theorem s0_eq (k:Nat) (a1:Arg):s0 k a1=r0 k a1:=
 funext fun v402=>iter_raw _ _ _ (T0 a1) _ (fun rec v=>by kernel_rfl) k v402
noncomputable def p (l0:((List UInt8)×Int)->Option Out) (a1:Arg):Option Out:=if 0<=(64:Int)/\(64:Int)<=(64:Int)/\(64:Int)<=(CAP:Int) then (l0 (List.replicate 64 (0:UInt8),(0:Int))) else none
theorem raw_eq (k:Nat) (a1:Arg):@Eq (Option Out) (D.W k a1) (p (r0 k a1) a1):=
 Eq.trans (b:=p (s0 k a1) a1) (by kernel_rfl) (by rw[s0_eq])
theorem ok:Ok prog 300 D.sig:=fd_ok func300 tlOk (by kernel_rfl) (fn_nil _)
end spec_l2New
namespace spec_l6Pages
abbrev Arg:Type:=L1Src×Unit
abbrev Out:Type:=(List (List UInt8))×L1Src×Unit
abbrev ps:PQ:=[(.mutp (roMd tL1Src),tL1Src)]
noncomputable def D:FD:={ fn:=f283,tl:=TL0,ps:=ps,rs:=[((.slc (.slc u8)),(ownMd (.slc (.slc u8))))],gl:=[(99,spec_l1Chance.D.sig),(101,spec_l1Next.D.sig),(106,spec_l6DrawRows.D.sig),(202,spec_l1Cell.D.sig),(210,spec_l1Stub.D.sig),(285,spec_l2Put.D.sig),(300,spec_l2New.D.sig)],es:=[0],lv:=[(4,[0,3,4,5])],lx:=[(0,[0,3]),(1,[0,3,4,5])],od:=[(7,[0,1,2,3,4,5,6,7,8,9,10,11,12,13,14]),(9,[0,1,2,3,4,5,6,7,8,9,10,11,12]),(14,[0,1,2,3,4,5,6,7,8,9,10,11,12,13,14,15])] }
noncomputable def sem (a:Arg):Option Out:=@lift Out fun k=>D.W k a
noncomputable def T0 (a1:Arg) (c406:List Row) (v405:L1Src×(List (List UInt8))×Int):St:={ n:=83,sl:=[(0,.box tL1Src (roMd tL1Src) [] v405.1),(3,.own (.slc (.slc u8)) (ownMd (.slc (.slc u8))) [] v405.2.1),(4,.own (.slc tRow) (ownMd (.slc tRow)) [] c406),(5,.val i64 v405.2.2)],vr:=[],lent:=[(0,0,false)] }
noncomputable def b0 (self:(L1Src×(List (List UInt8))×Int)->Option Out) (e0:(L1Src×(List (List UInt8)))->Option Out) (a1:Arg) (c406:List Row) (v405:L1Src×(List (List UInt8))×Int):Option Out:=bif decide (v405.2.2 < (c406.length:Int)) then ((spec_l1Chance.sem (v405.1,(3:Int),())).bind fun r607=>bif r607.1 then (if 0<=(1:Int)/\(1:Int) < (v405.2.1.length:Int) then ((v405.2.1[1]?).bind fun x608=>if 0<=v405.2.2/\v405.2.2 < (c406.length:Int) then ((c406[v405.2.2.toNat]?).bind fun x609=>(spec_l1Cell.sem ((2:Int),x609,())).bind fun r610=>(v405.2.1[1]?).bind fun x611=>(spec_l2Put.sem (x611,r610.1,())).bind fun r612=>bif decide (r612.2.2.1=(0:Int)) then (if 0<=(0:Int)/\(0:Int) < (v405.2.1.length:Int) then ((v405.2.1[0]?).bind fun x613=>(spec_l1Stub.sem ((1:Int),r612.2.1,())).bind fun r614=>(v405.2.1[0]?).bind fun x615=>(spec_l2Put.sem (x615,r614.1,())).bind fun r616=>bif decide (r616.2.2.1=(0:Int)) then (if 0<=(1:Int)/\(1:Int) < (v405.2.1.length:Int) then ((v405.2.1[1]?).bind fun x617=>if 0<=(0:Int)/\(0:Int) < ((v405.2.1.set 1 r612.1).length:Int) then (((v405.2.1.set 1 r612.1)[0]?).bind fun x618=>self (r607.2.1,(v405.2.1.set 1 r612.1).set 0 r616.1,w64 (v405.2.2+(1:Int)))) else none) else none) else self (r607.2.1,v405.2.1,w64 (v405.2.2+(1:Int)))) else none) else self (r607.2.1,v405.2.1,w64 (v405.2.2+(1:Int)))) else none) else none) else (spec_l1Next.sem (r607.2.1,(2:Int),())).bind fun r619=>if 0<=r619.1/\r619.1 < (v405.2.1.length:Int) then ((v405.2.1[r619.1.toNat]?).bind fun x620=>if 0<=v405.2.2/\v405.2.2 < (c406.length:Int) then ((c406[v405.2.2.toNat]?).bind fun x621=>(spec_l1Cell.sem ((0:Int),x621,())).bind fun r622=>(v405.2.1[r619.1.toNat]?).bind fun x623=>(spec_l2Put.sem (x623,r622.1,())).bind fun r624=>bif decide (r624.2.2.1=(0:Int)) then (if 0<=r619.1/\r619.1 < (v405.2.1.length:Int) then ((v405.2.1[r619.1.toNat]?).bind fun x625=>self (r619.2.1,v405.2.1.set r619.1.toNat r624.1,w64 (v405.2.2+(1:Int)))) else none) else self (r619.2.1,v405.2.1,w64 (v405.2.2+(1:Int)))) else none) else none) else e0 (v405.1,v405.2.1)
noncomputable abbrev B0 (_:Nat):=b0
noncomputable def q0 (a1:Arg) (c406:List Row) (z626:(L1Src×(List (List UInt8)))):Option Out:=some (z626.2,z626.1,())
noncomputable abbrev Q0 (_:Nat):=q0
noncomputable def s0 (k:Nat) (a1:Arg):(List Row)->(L1Src×(List (List UInt8))×Int)->Option Out:=fun c406=>fun v405=>D.L k [1,1,1,0,1,0,0] [0,3,4,5] [] (blockC 0 (seqC (D.N k [1,1,1,1]) D.K0)) (T0 a1 c406 v405)
noncomputable def r0 (k:Nat) (a1:Arg):(List Row)->(L1Src×(List (List UInt8))×Int)->Option Out:=fun c406=>rawIter (fun w v=>B0 k w (Q0 k a1 c406) a1 c406 v) k
theorem s0_eq (k:Nat) (a1:Arg):s0 k a1=r0 k a1:=
 funext fun c406=>funext fun v405=>iter_raw _ _ _ (T0 a1 c406) _ (fun rec v=>by kernel_rfl) k v405
noncomputable def p (l0:(List Row)->(L1Src×(List (List UInt8))×Int)->Option Out) (a1:Arg):Option Out:=(spec_l2New.sem ((0:UInt8),())).bind fun r2=>(spec_l2New.sem ((0:UInt8),())).bind fun r3=>(spec_l6DrawRows.sem (a1.1,())).bind fun r4=>l0 r4.1 (r4.2.1,[r2.1,r3.1],(0:Int))
theorem raw_eq (k:Nat) (a1:Arg):@Eq (Option Out) (D.W k a1) (p (r0 k a1) a1):=
 Eq.trans (b:=p (s0 k a1) a1) (by kernel_rfl) (by rw[s0_eq])
theorem ok:Ok prog 283 D.sig:=fd_ok func283 tlOk (by kernel_rfl) (fc spec_l1Chance.ok (fc spec_l1Next.ok (fc spec_l6DrawRows.ok (fc spec_l1Cell.ok (fc spec_l1Stub.ok (fc spec_l2Put.ok (fc spec_l2New.ok (fn_nil _))))))))
end spec_l6Pages
namespace spec_l2Place
abbrev Arg:Type:=(List UInt8)×Int×Unit
abbrev Out:Type:=Int×Unit
abbrev ps:PQ:=[(.ro,(.slc u8)),(.ro,i64)]
noncomputable def D:FD:={ fn:=f366,tl:=TL0,ps:=ps,rs:=[(i64,(roMd i64))] }
noncomputable def sem (a:Arg):Option Out:=@lift Out fun k=>D.W k a
noncomputable def p (a1:Arg):Option Out:=if 0<=w64 ((2:Int)+(w64 ((2:Int)*a1.2.1))) then ((a1.1[(w64 ((2:Int)+(w64 ((2:Int)*a1.2.1)))).toNat]?).bind fun x2=>some (w64 (x2.toNat:Int),())) else none
theorem raw_eq (k:Nat) (a1:Arg):@Eq (Option Out) (D.W k a1) (p a1):=by kernel_rfl
theorem ok:Ok prog 366 D.sig:=fd_ok func366 tlOk (by kernel_rfl) (fn_nil _)
end spec_l2Place
namespace spec_l2Set
abbrev Arg:Type:=(List UInt8)×Int×(List UInt8)×Unit
abbrev Out:Type:=(List UInt8)×Int×Unit
abbrev ps:PQ:=[(.ro,(.slc u8)),(.ro,i64),(.ro,(.slc u8))]
noncomputable def D:FD:={ fn:=f306,tl:=TL0,ps:=ps,rs:=[((.slc u8),(ownMd (.slc u8))),(i64,(roMd i64))],gl:=[(124,spec_l2Copy.D.sig),(294,spec_l2Count.D.sig),(295,spec_l2Size.D.sig),(354,spec_l2Free.D.sig),(355,spec_l2Low.D.sig),(356,spec_l2Stand.D.sig),(366,spec_l2Place.D.sig)] }
noncomputable def sem (a:Arg):Option Out:=@lift Out fun k=>D.W k a
noncomputable def p (a1:Arg):Option Out:=(spec_l2Size.sem (a1.1,a1.2.1,())).bind fun r2=>(spec_l2Copy.sem (a1.1,())).bind fun r3=>bif decide ((a1.2.2.1.length:Int)<=r2.1) then ((spec_l2Place.sem (a1.1,a1.2.1,())).bind fun r4=>(spec_l2Stand.sem (r3.1,a1.2.1,w64 ((w64 (r4.1+r2.1)) - (a1.2.2.1.length:Int)),a1.2.2.1,())).bind fun r5=>some (r5.1,(0:Int),())) else (spec_l2Free.sem (a1.1,())).bind fun r6=>bif decide (w64 (r6.1+r2.1) < (a1.2.2.1.length:Int)) then (some (([]:List UInt8),(9:Int),())) else (spec_l2Low.sem (a1.1,())).bind fun r7=>(spec_l2Count.sem (a1.1,())).bind fun r8=>bif decide (w64 (r7.1 - (a1.2.2.1.length:Int)) < w64 ((2:Int)+(w64 ((2:Int)*r8.1)))) then (some (([]:List UInt8),(8:Int),())) else if 0<=(1:Int)/\(1:Int) < (r3.1.length:Int) then ((r3.1[1]?).bind fun x9=>let y10:=r3.1.set 1 (UInt8.ofInt (w64 (r7.1 - (a1.2.2.1.length:Int))));(spec_l2Stand.sem (y10,a1.2.1,w64 (r7.1 - (a1.2.2.1.length:Int)),a1.2.2.1,())).bind fun r11=>some (r11.1,(0:Int),())) else none
theorem raw_eq (k:Nat) (a1:Arg):@Eq (Option Out) (D.W k a1) (p a1):=by kernel_rfl
theorem ok:Ok prog 306 D.sig:=fd_ok func306 tlOk (by kernel_rfl) (fc spec_l2Copy.ok (fc spec_l2Count.ok (fc spec_l2Size.ok (fc spec_l2Free.ok (fc spec_l2Low.ok (fc spec_l2Stand.ok (fc spec_l2Place.ok (fn_nil _))))))))
end spec_l2Set
namespace spec_l2Cell
abbrev Arg:Type:=(List UInt8)×Int×Unit
abbrev Out:Type:=(List UInt8)×Unit
abbrev ps:PQ:=[(.ro,(.slc u8)),(.ro,i64)]
noncomputable def D:FD:={ fn:=f297,tl:=TL0,ps:=ps,rs:=[((.slc u8),(ownMd (.slc u8)))],gl:=[(295,spec_l2Size.D.sig),(366,spec_l2Place.D.sig)] }
noncomputable def sem (a:Arg):Option Out:=@lift Out fun k=>D.W k a
noncomputable def p (a1:Arg):Option Out:=(spec_l2Place.sem (a1.1,a1.2.1,())).bind fun r2=>(spec_l2Size.sem (a1.1,a1.2.1,())).bind fun r3=>if 0<=r2.1/\r2.1<=w64 (r2.1+r3.1)/\w64 (r2.1+r3.1)<=(a1.1.length:Int) then (if ([]:List UInt8).length+((a1.1.take (w64 (r2.1+r3.1)).toNat).drop r2.1.toNat).length<=CAP then (let y4:=([]:List UInt8)++((a1.1.take (w64 (r2.1+r3.1)).toNat).drop r2.1.toNat);some (y4,())) else none) else none
theorem raw_eq (k:Nat) (a1:Arg):@Eq (Option Out) (D.W k a1) (p a1):=by kernel_rfl
theorem ok:Ok prog 297 D.sig:=fd_ok func297 tlOk (by kernel_rfl) (fc spec_l2Size.ok (fc spec_l2Place.ok (fn_nil _)))
end spec_l2Cell
namespace spec_l2Compact
abbrev Arg:Type:=(List UInt8)×Unit
abbrev Out:Type:=(List UInt8)×Unit
abbrev ps:PQ:=[(.ro,(.slc u8))]
noncomputable def D:FD:={ fn:=f307,tl:=TL0,ps:=ps,rs:=[((.slc u8),(ownMd (.slc u8)))],gl:=[(294,spec_l2Count.D.sig),(295,spec_l2Size.D.sig),(297,spec_l2Cell.D.sig),(356,spec_l2Stand.D.sig)],lv:=[(6,[0,3,4,5,6])],lx:=[(0,[4,5]),(1,[0,3,4,5,6])] }
noncomputable def sem (a:Arg):Option Out:=@lift Out fun k=>D.W k a
noncomputable def T0 (a1:Arg) (c405:Int) (v404:(List UInt8)×Int×Int):St:={ n:=44,sl:=[(0,.val (.slc u8) a1.1),(3,.val i64 c405),(4,.own (.slc u8) (ownMd (.slc u8)) [] v404.1),(5,.val i64 v404.2.1),(6,.val i64 v404.2.2)],vr:=[],lent:=[] }
noncomputable def b0 (self:((List UInt8)×Int×Int)->Option Out) (e0:((List UInt8)×Int)->Option Out) (a1:Arg) (c405:Int) (v404:(List UInt8)×Int×Int):Option Out:=bif decide (v404.2.2 < c405) then ((spec_l2Size.sem (a1.1,v404.2.2,())).bind fun r606=>bif decide (r606.1=(0:Int)) then (self (v404.1,v404.2.1,w64 (v404.2.2+(1:Int)))) else (spec_l2Cell.sem (a1.1,v404.2.2,())).bind fun r607=>(spec_l2Stand.sem (v404.1,v404.2.2,w64 (v404.2.1 - (r607.1.length:Int)),r607.1,())).bind fun r608=>self (r608.1,w64 (v404.2.1 - (r607.1.length:Int)),w64 (v404.2.2+(1:Int)))) else e0 (v404.1,v404.2.1)
noncomputable abbrev B0 (_:Nat):=b0
noncomputable def q0 (a1:Arg) (c405:Int) (z609:((List UInt8)×Int)):Option Out:=if 0<=(1:Int)/\(1:Int) < (z609.1.length:Int) then ((z609.1[1]?).bind fun x610=>some (z609.1.set 1 (UInt8.ofInt z609.2),())) else none
noncomputable abbrev Q0 (_:Nat):=q0
noncomputable def s0 (k:Nat) (a1:Arg):Int->((List UInt8)×Int×Int)->Option Out:=fun c405=>fun v404=>D.L k [1,1,1,1,1,0,1,0,0] [0,3,4,5,6] [] (blockC 0 (seqC (D.N k [1,1,1,1,1,1]) D.K0)) (T0 a1 c405 v404)
noncomputable def r0 (k:Nat) (a1:Arg):Int->((List UInt8)×Int×Int)->Option Out:=fun c405=>rawIter (fun w v=>B0 k w (Q0 k a1 c405) a1 c405 v) k
theorem s0_eq (k:Nat) (a1:Arg):s0 k a1=r0 k a1:=
 funext fun c405=>funext fun v404=>iter_raw _ _ _ (T0 a1 c405) _ (fun rec v=>by kernel_rfl) k v404
noncomputable def p (l0:Int->((List UInt8)×Int×Int)->Option Out) (a1:Arg):Option Out:=(spec_l2Count.sem (a1.1,())).bind fun r2=>if 0<=(64:Int)/\(64:Int)<=(64:Int)/\(64:Int)<=(CAP:Int) then (if 0<=w64 ((2:Int)+(w64 ((2:Int)*r2.1)))/\w64 ((2:Int)+(w64 ((2:Int)*r2.1)))<=(a1.1.length:Int) then (let y3:=over (List.replicate 64 (0:UInt8)) 0 (min ((a1.1.take (w64 ((2:Int)+(w64 ((2:Int)*r2.1)))).toNat).drop 0).length (List.replicate 64 (0:UInt8)).length) ((a1.1.take (w64 ((2:Int)+(w64 ((2:Int)*r2.1)))).toNat).drop 0);l0 r2.1 (y3,(64:Int),(0:Int))) else none) else none
theorem raw_eq (k:Nat) (a1:Arg):@Eq (Option Out) (D.W k a1) (p (r0 k a1) a1):=
 Eq.trans (b:=p (s0 k a1) a1) (by kernel_rfl) (by rw[s0_eq])
theorem ok:Ok prog 307 D.sig:=fd_ok func307 tlOk (by kernel_rfl) (fc spec_l2Count.ok (fc spec_l2Size.ok (fc spec_l2Cell.ok (fc spec_l2Stand.ok (fn_nil _)))))
end spec_l2Compact
namespace spec_l1In
abbrev Arg:Type:=Int×Int×Int×Unit
abbrev Out:Type:=Bool×Unit
abbrev ps:PQ:=[(.ro,i64),(.ro,i64),(.ro,i64)]
noncomputable def D:FD:={ fn:=f123,tl:=TL0,ps:=ps,rs:=[(.bool,(roMd .bool))] }
noncomputable def sem (a:Arg):Option Out:=@lift Out fun k=>D.W k a
noncomputable def p (a1:Arg):Option Out:=bif decide (a1.2.1<=a1.1) then (some (decide (a1.1<=a1.2.2.1),())) else some (false,())
theorem raw_eq (k:Nat) (a1:Arg):@Eq (Option Out) (D.W k a1) (p a1):=by kernel_rfl
theorem ok:Ok prog 123 D.sig:=fd_ok func123 tlOk (by kernel_rfl) (fn_nil _)
end spec_l1In
namespace spec_l2Has
abbrev Arg:Type:=(List UInt8)×Int×Unit
abbrev Out:Type:=Bool×Unit
abbrev ps:PQ:=[(.ro,(.slc u8)),(.ro,i64)]
noncomputable def D:FD:={ fn:=f367,tl:=TL0,ps:=ps,rs:=[(.bool,(roMd .bool))],gl:=[(123,spec_l1In.D.sig),(294,spec_l2Count.D.sig),(295,spec_l2Size.D.sig)] }
noncomputable def sem (a:Arg):Option Out:=@lift Out fun k=>D.W k a
noncomputable def p (a1:Arg):Option Out:=(spec_l2Count.sem (a1.1,())).bind fun r2=>(spec_l1In.sem (a1.2.1,(0:Int),w64 (r2.1 - (1:Int)),())).bind fun r3=>bif r3.1 then ((spec_l2Size.sem (a1.1,a1.2.1,())).bind fun r4=>some (decide ((0:Int) < r4.1),())) else some (false,())
theorem raw_eq (k:Nat) (a1:Arg):@Eq (Option Out) (D.W k a1) (p a1):=by kernel_rfl
theorem ok:Ok prog 367 D.sig:=fd_ok func367 tlOk (by kernel_rfl) (fc spec_l1In.ok (fc spec_l2Count.ok (fc spec_l2Size.ok (fn_nil _))))
end spec_l2Has
namespace spec_l2Drop
abbrev Arg:Type:=(List UInt8)×Int×Unit
abbrev Out:Type:=(List UInt8)×Unit
abbrev ps:PQ:=[(.ro,(.slc u8)),(.ro,i64)]
noncomputable def D:FD:={ fn:=f368,tl:=TL0,ps:=ps,rs:=[((.slc u8),(ownMd (.slc u8)))],gl:=[(124,spec_l2Copy.D.sig),(295,spec_l2Size.D.sig)],lv:=[(4,[5])],lx:=[(0,[5])] }
noncomputable def sem (a:Arg):Option Out:=@lift Out fun k=>D.W k a
noncomputable def T0 (a1:Arg) (v407:List UInt8):St:={ n:=38,sl:=[(5,.own (.slc u8) (ownMd (.slc u8)) [] v407)],vr:=[],lent:=[] }
noncomputable def b0 (self:(List UInt8)->Option Out) (e0:(List UInt8)->Option Out) (a1:Arg) (v407:List UInt8):Option Out:=if 0<=(0:Int)/\(0:Int) < (v407.length:Int) then ((v407[0]?).bind fun x608=>bif decide ((0:Int) < (x608.toNat:Int)) then (if 0<=(0:Int)/\(0:Int) < (v407.length:Int) then ((v407[0]?).bind fun x609=>(spec_l2Size.sem (v407,w64 ((w64 (x609.toNat:Int)) - (1:Int)),())).bind fun r610=>bif decide (r610.1=(0:Int)) then (if 0<=(0:Int)/\(0:Int) < (v407.length:Int) then ((v407[0]?).bind fun x611=>if 0<=(0:Int)/\(0:Int) < (v407.length:Int) then ((v407[0]?).bind fun x612=>let y613:=v407.set 0 (UInt8.ofInt ((x611.toNat:Int) - (1:Int)));self y613) else none) else none) else e0 v407) else none) else e0 v407) else none
noncomputable abbrev B0 (_:Nat):=b0
noncomputable def q0 (a1:Arg) (z614:(List UInt8)):Option Out:=some (z614,())
noncomputable abbrev Q0 (_:Nat):=q0
noncomputable def s0 (k:Nat) (a1:Arg):(List UInt8)->Option Out:=fun v407=>D.L k [1,1,1,1,0,0,0] [5] [] (blockC 0 (seqC (D.N k [1,1,1,1,1]) D.K0)) (T0 a1 v407)
noncomputable def r0 (k:Nat) (a1:Arg):(List UInt8)->Option Out:=rawIter (fun w v=>B0 k w (Q0 k a1) a1 v) k
theorem s0_eq (k:Nat) (a1:Arg):s0 k a1=r0 k a1:=
 funext fun v407=>iter_raw _ _ _ (T0 a1) _ (fun rec v=>by kernel_rfl) k v407
noncomputable def p (l0:(List UInt8)->Option Out) (a1:Arg):Option Out:=(spec_l2Copy.sem (a1.1,())).bind fun r2=>if 0<=w64 ((2:Int)+(w64 ((2:Int)*a1.2.1)))/\w64 ((2:Int)+(w64 ((2:Int)*a1.2.1))) < (r2.1.length:Int) then ((r2.1[(w64 ((2:Int)+(w64 ((2:Int)*a1.2.1)))).toNat]?).bind fun x3=>let y4:=r2.1.set (w64 ((2:Int)+(w64 ((2:Int)*a1.2.1)))).toNat (0:UInt8);if 0<=w64 ((3:Int)+(w64 ((2:Int)*a1.2.1)))/\w64 ((3:Int)+(w64 ((2:Int)*a1.2.1))) < (y4.length:Int) then ((y4[(w64 ((3:Int)+(w64 ((2:Int)*a1.2.1)))).toNat]?).bind fun x5=>let y6:=y4.set (w64 ((3:Int)+(w64 ((2:Int)*a1.2.1)))).toNat (0:UInt8);l0 y6) else none) else none
theorem raw_eq (k:Nat) (a1:Arg):@Eq (Option Out) (D.W k a1) (p (r0 k a1) a1):=
 Eq.trans (b:=p (s0 k a1) a1) (by kernel_rfl) (by rw[s0_eq])
theorem ok:Ok prog 368 D.sig:=fd_ok func368 tlOk (by kernel_rfl) (fc spec_l2Copy.ok (fc spec_l2Size.ok (fn_nil _)))
end spec_l2Drop
namespace spec_l1Some
abbrev Arg:Type:=L1Src×Int×Unit
abbrev Out:Type:=(List UInt8)×L1Src×Unit
abbrev ps:PQ:=[(.mutp (roMd tL1Src),tL1Src),(.ro,i64)]
noncomputable def D:FD:={ fn:=f387,tl:=TL0,ps:=ps,rs:=[((.slc u8),(ownMd (.slc u8)))],gl:=[(101,spec_l1Next.D.sig)],es:=[0],lv:=[(2,[0,1,5])],lx:=[(0,[0,5])] }
noncomputable def sem (a:Arg):Option Out:=@lift Out fun k=>D.W k a
noncomputable def T0 (a1:Arg) (v402:L1Src×Int×(List UInt8)):St:={ n:=18,sl:=[(0,.box tL1Src (roMd tL1Src) [] v402.1),(1,.val i64 v402.2.1),(5,.own (.slc u8) (ownMd (.slc u8)) [] v402.2.2)],vr:=[],lent:=[(0,0,false)] }
noncomputable def b0 (self:(L1Src×Int×(List UInt8))->Option Out) (e0:(L1Src×(List UInt8))->Option Out) (a1:Arg) (v402:L1Src×Int×(List UInt8)):Option Out:=bif decide ((0:Int) < v402.2.1) then ((spec_l1Next.sem (v402.1,(256:Int),())).bind fun r603=>if v402.2.2.length+[UInt8.ofInt r603.1].length<=CAP then (self (r603.2.1,w64 (v402.2.1 - (1:Int)),v402.2.2++[UInt8.ofInt r603.1])) else none) else e0 (v402.1,v402.2.2)
noncomputable abbrev B0 (_:Nat):=b0
noncomputable def q0 (a1:Arg) (z604:(L1Src×(List UInt8))):Option Out:=some (z604.2,z604.1,())
noncomputable abbrev Q0 (_:Nat):=q0
noncomputable def s0 (k:Nat) (a1:Arg):(L1Src×Int×(List UInt8))->Option Out:=fun v402=>D.L k [1,1,0,0,0] [0,1,5] [] (blockC 0 (seqC (D.N k [1,1,1]) D.K0)) (T0 a1 v402)
noncomputable def r0 (k:Nat) (a1:Arg):(L1Src×Int×(List UInt8))->Option Out:=rawIter (fun w v=>B0 k w (Q0 k a1) a1 v) k
theorem s0_eq (k:Nat) (a1:Arg):s0 k a1=r0 k a1:=
 funext fun v402=>iter_raw _ _ _ (T0 a1) _ (fun rec v=>by kernel_rfl) k v402
noncomputable def p (l0:(L1Src×Int×(List UInt8))->Option Out) (a1:Arg):Option Out:=l0 (a1.1,a1.2.1,([]:List UInt8))
theorem raw_eq (k:Nat) (a1:Arg):@Eq (Option Out) (D.W k a1) (p (r0 k a1) a1):=
 Eq.trans (b:=p (s0 k a1) a1) (by kernel_rfl) (by rw[s0_eq])
theorem ok:Ok prog 387 D.sig:=fd_ok func387 tlOk (by kernel_rfl) (fc spec_l1Next.ok (fn_nil _))
end spec_l1Some
namespace spec_l2Right
abbrev Arg:Type:=L1Src×Unit
abbrev Out:Type:=(List UInt8)×L1Src×Unit
abbrev ps:PQ:=[(.mutp (roMd tL1Src),tL1Src)]
noncomputable def D:FD:={ fn:=f352,tl:=TL0,ps:=ps,rs:=[((.slc u8),(ownMd (.slc u8)))],gl:=[(99,spec_l1Chance.D.sig),(101,spec_l1Next.D.sig),(117,spec_l1Pick.D.sig),(285,spec_l2Put.D.sig),(300,spec_l2New.D.sig),(306,spec_l2Set.D.sig),(307,spec_l2Compact.D.sig),(367,spec_l2Has.D.sig),(368,spec_l2Drop.D.sig),(387,spec_l1Some.D.sig)],es:=[0],lv:=[(3,[0,3,4])],lx:=[(0,[0,3])] }
noncomputable def sem (a:Arg):Option Out:=@lift Out fun k=>D.W k a
noncomputable def T0 (a1:Arg) (v405:L1Src×(List UInt8)×Int):St:={ n:=75,sl:=[(0,.box tL1Src (roMd tL1Src) [] v405.1),(3,.own (.slc u8) (ownMd (.slc u8)) [] v405.2.1),(4,.val i64 v405.2.2)],vr:=[],lent:=[(0,0,false)] }
noncomputable def b0 (self:(L1Src×(List UInt8)×Int)->Option Out) (e0:(L1Src×(List UInt8))->Option Out) (a1:Arg) (v405:L1Src×(List UInt8)×Int):Option Out:=bif decide ((0:Int) < v405.2.2) then ((spec_l1Next.sem (v405.1,(14:Int),())).bind fun r606=>(spec_l1Some.sem (r606.2.1,w64 ((1:Int)+r606.1),())).bind fun r607=>(spec_l1Next.sem (r607.2.1,(5:Int),())).bind fun r608=>bif decide (r608.1=(0:Int)) then ((spec_l1Next.sem (r608.2.1,(6:Int),())).bind fun r609=>(spec_l2Has.sem (v405.2.1,r609.1,())).bind fun r610=>bif r610.1 then ((spec_l2Drop.sem (v405.2.1,r609.1,())).bind fun r611=>self (r609.2.1,r611.1,w64 (v405.2.2 - (1:Int)))) else self (r609.2.1,v405.2.1,w64 (v405.2.2 - (1:Int)))) else bif decide (r608.1=(1:Int)) then ((spec_l1Next.sem (r608.2.1,(6:Int),())).bind fun r612=>(spec_l2Has.sem (v405.2.1,r612.1,())).bind fun r613=>bif r613.1 then ((spec_l2Set.sem (v405.2.1,r612.1,r607.1,())).bind fun r614=>bif decide (r614.2.1=(0:Int)) then (self (r612.2.1,r614.1,w64 (v405.2.2 - (1:Int)))) else self (r612.2.1,v405.2.1,w64 (v405.2.2 - (1:Int)))) else self (r612.2.1,v405.2.1,w64 (v405.2.2 - (1:Int)))) else bif decide (r608.1=(2:Int)) then ((spec_l1Chance.sem (r608.2.1,(3:Int),())).bind fun r615=>bif r615.1 then ((spec_l2Compact.sem (v405.2.1,())).bind fun r616=>self (r615.2.1,r616.1,w64 (v405.2.2 - (1:Int)))) else self (r615.2.1,v405.2.1,w64 (v405.2.2 - (1:Int)))) else (spec_l2Put.sem (v405.2.1,r607.1,())).bind fun r617=>bif decide (r617.2.2.1=(0:Int)) then (self (r608.2.1,r617.1,w64 (v405.2.2 - (1:Int)))) else self (r608.2.1,v405.2.1,w64 (v405.2.2 - (1:Int)))) else e0 (v405.1,v405.2.1)
noncomputable abbrev B0 (_:Nat):=b0
noncomputable def q0 (a1:Arg) (z618:(L1Src×(List UInt8))):Option Out:=some (z618.2,z618.1,())
noncomputable abbrev Q0 (_:Nat):=q0
noncomputable def s0 (k:Nat) (a1:Arg):(L1Src×(List UInt8)×Int)->Option Out:=fun v405=>D.L k [1,1,0,1,0,0] [0,3,4] [] (blockC 0 (seqC (D.N k [1,1,1]) D.K0)) (T0 a1 v405)
noncomputable def r0 (k:Nat) (a1:Arg):(L1Src×(List UInt8)×Int)->Option Out:=rawIter (fun w v=>B0 k w (Q0 k a1) a1 v) k
theorem s0_eq (k:Nat) (a1:Arg):s0 k a1=r0 k a1:=
 funext fun v405=>iter_raw _ _ _ (T0 a1) _ (fun rec v=>by kernel_rfl) k v405
noncomputable def p (l0:(L1Src×(List UInt8)×Int)->Option Out) (a1:Arg):Option Out:=(spec_l1Pick.sem (a1.1,[(0:Int),(0:Int),(7:Int)],())).bind fun r2=>(spec_l2New.sem (UInt8.ofInt r2.1,())).bind fun r3=>(spec_l1Next.sem (r2.2.1,(14:Int),())).bind fun r4=>l0 (r4.2.1,r3.1,r4.1)
theorem raw_eq (k:Nat) (a1:Arg):@Eq (Option Out) (D.W k a1) (p (r0 k a1) a1):=
 Eq.trans (b:=p (s0 k a1) a1) (by kernel_rfl) (by rw[s0_eq])
theorem ok:Ok prog 352 D.sig:=fd_ok func352 tlOk (by kernel_rfl) (fc spec_l1Chance.ok (fc spec_l1Next.ok (fc spec_l1Pick.ok (fc spec_l2Put.ok (fc spec_l2New.ok (fc spec_l2Set.ok (fc spec_l2Compact.ok (fc spec_l2Has.ok (fc spec_l2Drop.ok (fc spec_l1Some.ok (fn_nil _)))))))))))
end spec_l2Right
namespace spec_l2Bent
abbrev Arg:Type:=L1Src×Unit
abbrev Out:Type:=(List UInt8)×L1Src×Unit
abbrev ps:PQ:=[(.mutp (roMd tL1Src),tL1Src)]
noncomputable def D:FD:={ fn:=f284,tl:=TL0,ps:=ps,rs:=[((.slc u8),(roMd (.slc u8)))],gl:=[(101,spec_l1Next.D.sig),(352,spec_l2Right.D.sig)],es:=[0],fz:=[(4,2,0)] }
noncomputable def sem (a:Arg):Option Out:=@lift Out fun k=>D.W k a
noncomputable def p (a1:Arg):Option Out:=(spec_l2Right.sem (a1.1,())).bind fun r2=>(spec_l1Next.sem (r2.2.1,(12:Int),())).bind fun r3=>bif decide (r3.1=(0:Int)) then (if 0<=(1:Int)/\(1:Int)<=(r2.1.length:Int) then (some ((r2.1.take r2.1.length).drop 1,r3.2.1,())) else none) else bif decide (r3.1=(1:Int)) then ((spec_l1Next.sem (r3.2.1,(12:Int),())).bind fun r4=>(spec_l1Next.sem (r4.2.1,(70:Int),())).bind fun r5=>if 0<=r4.1/\r4.1 < (r2.1.length:Int) then ((r2.1[r4.1.toNat]?).bind fun x6=>some (r2.1.set r4.1.toNat (UInt8.ofInt r5.1),r5.2.1,())) else none) else some (r2.1,r3.2.1,())
theorem raw_eq (k:Nat) (a1:Arg):@Eq (Option Out) (D.W k a1) (p a1):=by kernel_rfl
theorem ok:Ok prog 284 D.sig:=fd_ok func284 tlOk (by kernel_rfl) (fc spec_l1Next.ok (fc spec_l2Right.ok (fn_nil _)))
end spec_l2Bent
namespace spec_l6Bent
abbrev Arg:Type:=L1Src×Unit
abbrev Out:Type:=(List (List UInt8))×L1Src×Unit
abbrev ps:PQ:=[(.mutp (roMd tL1Src),tL1Src)]
noncomputable def D:FD:={ fn:=f184,tl:=TL0,ps:=ps,rs:=[((.slc (.slc u8)),(.slc true (roMd (.slc u8))))],gl:=[(101,spec_l1Next.D.sig),(186,spec_l1Draw.D.sig),(202,spec_l1Cell.D.sig),(210,spec_l1Stub.D.sig),(283,spec_l6Pages.D.sig),(284,spec_l2Bent.D.sig),(285,spec_l2Put.D.sig)],es:=[0],od:=[(8,[0,1,2,3,5,4,6,7,8,9,10,11,12,13,14,15]),(13,[0,1,2,3,4,5,6,7,8,9,10,11])],er:=[(8,[(2,16)])] }
noncomputable def sem (a:Arg):Option Out:=@lift Out fun k=>D.W k a
noncomputable def p (a1:Arg):Option Out:=(spec_l6Pages.sem (a1.1,())).bind fun r2=>(spec_l1Next.sem (r2.2.1,(14:Int),())).bind fun r3=>bif decide (r3.1=(0:Int)) then ((spec_l2Bent.sem (r3.2.1,())).bind fun r4=>if 0<=(0:Int)/\(0:Int) < (r2.1.length:Int) then ((r2.1[0]?).bind fun x5=>some (r2.1.set 0 r4.1,r4.2.1,())) else none) else bif decide (r3.1=(1:Int)) then (if 0<=(13:Int)/\(13:Int)<=(13:Int)/\(13:Int)<=(CAP:Int) then (some (List.replicate 13 ([]:List UInt8),r3.2.1,())) else none) else bif decide (r3.1=(2:Int)) then (if 0<=(0:Int)/\(0:Int) < (r2.1.length:Int) then ((r2.1[0]?).bind fun x6=>(spec_l1Next.sem (r3.2.1,(2:Int),())).bind fun r7=>(spec_l1Next.sem (r7.2.1,(3:Int),())).bind fun r8=>(spec_l1Stub.sem (r7.1,r8.1,())).bind fun r9=>(r2.1[0]?).bind fun x10=>(spec_l2Put.sem (x10,r9.1,())).bind fun r11=>bif decide (r11.2.2.1=(0:Int)) then (if 0<=(0:Int)/\(0:Int) < (r2.1.length:Int) then ((r2.1[0]?).bind fun x12=>some (r2.1.set 0 r11.1,r8.2.1,())) else none) else some (r2.1,r8.2.1,())) else none) else bif decide (r3.1=(3:Int)) then ((spec_l1Draw.sem (r3.2.1,())).bind fun r13=>if 0<=(1:Int)/\(1:Int) < (r2.1.length:Int) then ((r2.1[1]?).bind fun x14=>(spec_l1Cell.sem ((0:Int),r13.1,())).bind fun r15=>(r2.1[1]?).bind fun x16=>(spec_l2Put.sem (x16,r15.1,())).bind fun r17=>bif decide (r17.2.2.1=(0:Int)) then (if 0<=(1:Int)/\(1:Int) < (r2.1.length:Int) then ((r2.1[1]?).bind fun x18=>some (r2.1.set 1 r17.1,r13.2.1,())) else none) else some (r2.1,r13.2.1,())) else none) else some (r2.1,r3.2.1,())
theorem raw_eq (k:Nat) (a1:Arg):@Eq (Option Out) (D.W k a1) (p a1):=by kernel_rfl
theorem ok:Ok prog 184 D.sig:=fd_ok func184 tlOk (by kernel_rfl) (fc spec_l1Next.ok (fc spec_l1Draw.ok (fc spec_l1Cell.ok (fc spec_l1Stub.ok (fc spec_l6Pages.ok (fc spec_l2Bent.ok (fc spec_l2Put.ok (fn_nil _))))))))
end spec_l6Bent
namespace spec_l1Text
abbrev Arg:Type:=(List UInt8)×Unit
abbrev Out:Type:=Bool×Unit
abbrev ps:PQ:=[(.ro,.str)]
noncomputable def D:FD:={ fn:=f199,tl:=TL0,ps:=ps,rs:=[(.bool,(roMd .bool))],lv:=[(2,[0,3])],lx:=[(0,[0])] }
noncomputable def sem (a:Arg):Option Out:=@lift Out fun k=>D.W k a
noncomputable def T0 (a1:Arg) (v402:Int):St:={ n:=23,sl:=[(0,.val .str a1.1),(3,.val i64 v402)],vr:=[],lent:=[] }
noncomputable def b0 (self:Int->Option Out) (e0:(Unit)->Option Out) (a1:Arg) (v402:Int):Option Out:=bif decide (v402 < (a1.1.length:Int)) then (if 0<=v402 then ((a1.1[v402.toNat]?).bind fun x603=>bif decide ((x603.toNat:Int) < (97:Int)) then (some (false,())) else if 0<=v402 then ((a1.1[v402.toNat]?).bind fun x604=>bif decide ((122:Int) < (x604.toNat:Int)) then (some (false,())) else self (w64 (v402+(1:Int)))) else none) else none) else e0 ()
noncomputable abbrev B0 (_:Nat):=b0
noncomputable def q0 (a1:Arg) (z605:(Unit)):Option Out:=some (decide ((a1.1.length:Int)<=(8:Int)),())
noncomputable abbrev Q0 (_:Nat):=q0
noncomputable def s0 (k:Nat) (a1:Arg):(Int)->Option Out:=fun v402=>D.L k [1,0,1,0,0] [0,3] [] (blockC 0 (seqC (D.N k [1,1]) D.K0)) (T0 a1 v402)
noncomputable def r0 (k:Nat) (a1:Arg):(Int)->Option Out:=rawIter (fun w v=>B0 k w (Q0 k a1) a1 v) k
theorem s0_eq (k:Nat) (a1:Arg):s0 k a1=r0 k a1:=
 funext fun v402=>iter_raw _ _ _ (T0 a1) _ (fun rec v=>by kernel_rfl) k v402
noncomputable def p (l0:(Int)->Option Out) (a1:Arg):Option Out:=l0 (0:Int)
theorem raw_eq (k:Nat) (a1:Arg):@Eq (Option Out) (D.W k a1) (p (r0 k a1) a1):=
 Eq.trans (b:=p (s0 k a1) a1) (by kernel_rfl) (by rw[s0_eq])
theorem ok:Ok prog 199 D.sig:=fd_ok func199 tlOk (by kernel_rfl) (fn_nil _)
end spec_l1Text
namespace spec_l1Fault
abbrev Arg:Type:=Row×Unit
abbrev Out:Type:=Int×Unit
abbrev ps:PQ:=[(.ro,(.ptr tRow))]
noncomputable def D:FD:={ fn:=f94,tl:=TL0,ps:=ps,rs:=[(i64,(roMd i64))],gl:=[(123,spec_l1In.D.sig),(199,spec_l1Text.D.sig)] }
noncomputable def sem (a:Arg):Option Out:=@lift Out fun k=>D.W k a
noncomputable def p (a1:Arg):Option Out:=(spec_l1In.sem (a1.1.1,(0:Int),(3:Int),())).bind fun r2=>bif !r2.1 then (some ((3:Int),())) else (spec_l1In.sem (a1.1.2.1,(1:Int),(99:Int),())).bind fun r3=>bif !r3.1 then (some ((3:Int),())) else (spec_l1In.sem (a1.1.2.2.1,(0:Int),(999:Int),())).bind fun r4=>bif !r4.1 then (some ((3:Int),())) else (spec_l1Text.sem (a1.1.2.2.2.1,())).bind fun r5=>bif !r5.1 then (some ((5:Int),())) else some ((0:Int),())
theorem raw_eq (k:Nat) (a1:Arg):@Eq (Option Out) (D.W k a1) (p a1):=by kernel_rfl
theorem ok:Ok prog 94 D.sig:=fd_ok func94 tlOk (by kernel_rfl) (fc spec_l1In.ok (fc spec_l1Text.ok (fn_nil _)))
end spec_l1Fault
namespace spec_l1Place
abbrev Arg:Type:=Int×Int×Unit
abbrev Out:Type:=Bool×Unit
abbrev ps:PQ:=[(.ro,i64),(.ro,i64)]
noncomputable def D:FD:={ fn:=f365,tl:=TL0,ps:=ps,rs:=[(.bool,(roMd .bool))],gl:=[(123,spec_l1In.D.sig)] }
noncomputable def sem (a:Arg):Option Out:=@lift Out fun k=>D.W k a
noncomputable def p (a1:Arg):Option Out:=(spec_l1In.sem (a1.1,(0:Int),(11:Int),())).bind fun r2=>bif r2.1 then ((spec_l1In.sem (a1.2.1,(0:Int),(15:Int),())).bind fun r3=>some (r3.1,())) else some (false,())
theorem raw_eq (k:Nat) (a1:Arg):@Eq (Option Out) (D.W k a1) (p a1):=by kernel_rfl
theorem ok:Ok prog 365 D.sig:=fd_ok func365 tlOk (by kernel_rfl) (fc spec_l1In.ok (fn_nil _))
end spec_l1Place
namespace spec_l1Read
abbrev Arg:Type:=(List UInt8)×Unit
abbrev Out:Type:=CellResult×Bool×Unit
abbrev ps:PQ:=[(.ro,(.slc u8))]
noncomputable def D:FD:={ fn:=f296,tl:=TL0,ps:=ps,rs:=[(tCellResult,(roMd tCellResult)),(.bool,(roMd .bool))],gl:=[(94,spec_l1Fault.D.sig),(365,spec_l1Place.D.sig)],od:=[(2,[0,1,2,3,4,5,6,7,8,9,10]),(3,[0,1,2,3,4,5,6,7]),(6,[0,1,2,3,4,5,6,7,8,9,10,11,12,13,14,15,16,17,18,19,20,21,22,23]),(7,[0,1,2,3,4,5,6,7,8,9])] }
noncomputable def sem (a:Arg):Option Out:=@lift Out fun k=>D.W k a
noncomputable def p (a1:Arg):Option Out:=let j16:Option Out:=bif decide ((a1.1.length:Int) < (6:Int)) then (some (((0:Int),(0:Int),(0:Int),(0:Int),((0:Int),(0:Int),(0:Int),([]:List UInt8),()),()),false,())) else (a1.1[0]?).bind fun x17=>bif decide ((x17.toNat:Int)=(1:Int)) then (some (((0:Int),(0:Int),(0:Int),(0:Int),((0:Int),(0:Int),(0:Int),([]:List UInt8),()),()),false,())) else (a1.1[0]?).bind fun x18=>bif decide ((2:Int) < (x18.toNat:Int)) then (some (((0:Int),(0:Int),(0:Int),(0:Int),((0:Int),(0:Int),(0:Int),([]:List UInt8),()),()),false,())) else (a1.1[5]?).bind fun x19=>bif !decide ((a1.1.length:Int)=w64 ((6:Int)+(w64 (x19.toNat:Int)))) then (some (((0:Int),(0:Int),(0:Int),(0:Int),((0:Int),(0:Int),(0:Int),([]:List UInt8),()),()),false,())) else (a1.1[1]?).bind fun x20=>(a1.1[2]?).bind fun x21=>(a1.1[3]?).bind fun x22=>(a1.1[4]?).bind fun x23=>if 0<=(6:Int)/\(6:Int)<=(a1.1.length:Int) then (let y24:=w64 ((w64 ((w64 (x22.toNat:Int))*(256:Int)))+(w64 (x23.toNat:Int)));(a1.1[0]?).bind fun x25=>(spec_l1Fault.sem ((w64 (x20.toNat:Int),w64 (x21.toNat:Int),y24,(a1.1.take a1.1.length).drop 6,()),())).bind fun r26=>some (((0:Int),w64 (x25.toNat:Int),(0:Int),(0:Int),(w64 (x20.toNat:Int),w64 (x21.toNat:Int),y24,(a1.1.take a1.1.length).drop 6,()),()),decide (r26.1=(0:Int)),())) else none;bif decide ((a1.1.length:Int)=(3:Int)) then ((a1.1[0]?).bind fun x2=>bif decide ((x2.toNat:Int)=(1:Int)) then ((a1.1[1]?).bind fun x3=>(a1.1[2]?).bind fun x4=>(spec_l1Place.sem (w64 (x3.toNat:Int),w64 (x4.toNat:Int),())).bind fun r5=>some (((0:Int),(1:Int),w64 (x3.toNat:Int),w64 (x4.toNat:Int),((0:Int),(0:Int),(0:Int),([]:List UInt8),()),()),r5.1,())) else j16) else j16
theorem raw_eq (k:Nat) (a1:Arg):@Eq (Option Out) (D.W k a1) (p a1):=by kernel_rfl
theorem ok:Ok prog 296 D.sig:=fd_ok func296 tlOk (by kernel_rfl) (fc spec_l1Fault.ok (fc spec_l1Place.ok (fn_nil _)))
end spec_l1Read
namespace spec_l6Spots
abbrev Arg:Type:=(List (List UInt8))×Unit
abbrev Out:Type:=(List L6Spot)×Unit
abbrev ps:PQ:=[(.ro,(.slc (.slc u8)))]
noncomputable def D:FD:={ fn:=f197,tl:=TL0,ps:=ps,rs:=[((.slc tL6Spot),(ownMd (.slc tL6Spot)))],gl:=[(294,spec_l2Count.D.sig),(295,spec_l2Size.D.sig),(296,spec_l1Read.D.sig),(297,spec_l2Cell.D.sig)],lv:=[(3,[0,3,4]),(6,[0,3,4,5])],lx:=[(0,[3]),(2,[0,3,4])] }
noncomputable def sem (a:Arg):Option Out:=@lift Out fun k=>D.W k a
noncomputable def T0 (a1:Arg) (v402:(List (List UInt8))×(List L6Spot)×Int):St:={ n:=49,sl:=[(0,.val (.slc (.slc u8)) v402.1),(3,.own (.slc tL6Spot) (ownMd (.slc tL6Spot)) [] v402.2.1),(4,.val i64 v402.2.2)],vr:=[],lent:=[] }
noncomputable def S0 (rec:RT Out) (a1:Arg):((List (List UInt8))×(List L6Spot)×Int)->Option Out:=fun v402=>rec (T0 a1 v402)
noncomputable def X0_0 (K:KT Out) (a1:Arg):(List L6Spot)->Option Out:=fun z=>K (.exit 0) ({ n:=49,sl:=[(3,.own (.slc tL6Spot) (ownMd (.slc tL6Spot)) [] z)],vr:=[],lent:=[] })
noncomputable def T1 (a1:Arg) (c1004:List (List UInt8)) (c1005:Int) (v1003:(List L6Spot)×Int):St:={ n:=49,sl:=[(0,.val (.slc (.slc u8)) c1004),(3,.own (.slc tL6Spot) (ownMd (.slc tL6Spot)) [] v1003.1),(4,.val i64 c1005),(5,.val i64 v1003.2)],vr:=[],lent:=[] }
noncomputable def b1 (self:((List L6Spot)×Int)->Option Out) (e2:(List L6Spot)->Option Out) (a1:Arg) (c1004:List (List UInt8)) (c1005:Int) (v1003:(List L6Spot)×Int):Option Out:=if 0<=c1005 then ((c1004[c1005.toNat]?).bind fun x1206=>(spec_l2Count.sem (x1206,())).bind fun r1207=>bif decide (v1003.2 < r1207.1) then (if 0<=c1005 then ((c1004[c1005.toNat]?).bind fun x1208=>(spec_l2Size.sem (x1208,v1003.2,())).bind fun r1209=>bif decide ((0:Int) < r1209.1) then (if 0<=c1005 then ((c1004[c1005.toNat]?).bind fun x1210=>(spec_l2Cell.sem (x1210,v1003.2,())).bind fun r1211=>(spec_l1Read.sem (r1211.1,())).bind fun r1212=>if v1003.1.length+[(c1005,v1003.2,r1212.1,())].length<=CAP then (let y1213:=v1003.1++[(c1005,v1003.2,r1212.1,())];self (y1213,w64 (v1003.2+(1:Int)))) else none) else none) else self (v1003.1,w64 (v1003.2+(1:Int)))) else none) else e2 v1003.1) else none
noncomputable abbrev B1 (_:Nat):=b1
noncomputable def q0 (self:((List (List UInt8))×(List L6Spot)×Int)->Option Out) (e0:(List L6Spot)->Option Out) (a1:Arg) (c1004:List (List UInt8)) (c1005:Int) (z1214:(List L6Spot)):Option Out:=self (c1004,z1214,w64 (c1005+(1:Int)))
noncomputable abbrev Q0 (_:Nat):=q0
noncomputable def s1 (k:Nat) (rec:RT Out) (K:KT Out) (a1:Arg):(List (List UInt8))->Int->((List L6Spot)×Int)->Option Out:=fun c1004 c1005=>fun v1003=>D.L k [1,1,0,1,0,0,1,0,0,1,0,0] [0,3,4,5] [] (blockC 2 (blockC 1 (seqC (D.N k [1,1,0,1,0,0,1,1]) (loopC rec (keepF [0,3,4] []) K)))) (T1 a1 c1004 c1005 v1003)
noncomputable def r1 (k:Nat) (self:((List (List UInt8))×(List L6Spot)×Int)->Option Out) (e0:(List L6Spot)->Option Out) (a1:Arg):(List (List UInt8))->Int->((List L6Spot)×Int)->Option Out:=fun c1004 c1005=>rawIter (fun w v=>B1 k w (Q0 k self e0 a1 c1004 c1005) a1 c1004 c1005 v) k
theorem s1_eq (k:Nat) (rec:RT Out) (K:KT Out) (a1:Arg):s1 k rec K a1=r1 k (S0 rec a1) (X0_0 K a1) a1:=
 funext fun c1004=>funext fun c1005=>funext fun v1003=>iter_raw _ _ _ (T1 a1 c1004 c1005) _ (fun rec v=>by kernel_rfl) k v1003
noncomputable def b0 (self:((List (List UInt8))×(List L6Spot)×Int)->Option Out) (e0:(List L6Spot)->Option Out) (l1:(List (List UInt8))->Int->((List L6Spot)×Int)->Option Out) (a1:Arg) (v402:(List (List UInt8))×(List L6Spot)×Int):Option Out:=bif decide (v402.2.2 < (v402.1.length:Int)) then (l1 v402.1 v402.2.2 (v402.2.1,(0:Int))) else e0 v402.2.1
noncomputable def B0 (k:Nat) (self:((List (List UInt8))×(List L6Spot)×Int)->Option Out) (e0:(List L6Spot)->Option Out) (a1:Arg) (v402:(List (List UInt8))×(List L6Spot)×Int):Option Out:=b0 self e0 (r1 k self e0 a1) a1 v402
theorem B0_eq (k:Nat) (rec:RT Out) (K:KT Out) (a1:Arg) (v402:(List (List UInt8))×(List L6Spot)×Int):D.N k [1,1,0,1,0,0] (T0 a1 v402) (loopC rec (keepF [0,3,4] []) K)=B0 k (S0 rec a1) (X0_0 K a1) a1 v402:=
 Eq.trans (b:=b0 (S0 rec a1) (X0_0 K a1) (s1 k rec K a1) a1 v402) (by kernel_rfl) (by rw[s1_eq];rfl)
noncomputable def q1 (a1:Arg) (z1215:(List L6Spot)):Option Out:=some (z1215,())
noncomputable abbrev Q1 (_:Nat):=q1
theorem Q1_eq (k:Nat) (a1:Arg) (z1215:(List L6Spot)):X0_0 (blockC 0 (seqC (D.N k [1,1,1]) D.K0)) a1 z1215=q1 a1 z1215:=by kernel_rfl
noncomputable def s0 (k:Nat) (a1:Arg):((List (List UInt8))×(List L6Spot)×Int)->Option Out:=fun v402=>D.L k [1,1,0,1,0,0] [0,3,4] [] (blockC 0 (seqC (D.N k [1,1,1]) D.K0)) (T0 a1 v402)
noncomputable def r0 (k:Nat) (a1:Arg):((List (List UInt8))×(List L6Spot)×Int)->Option Out:=rawIter (fun w v=>B0 k w (Q1 k a1) a1 v) k
theorem s0_eq (k:Nat) (a1:Arg):s0 k a1=r0 k a1:=by
 funext v402;
 have h0:X0_0 (blockC 0 (seqC (D.N k [1,1,1]) D.K0)) a1=Q1 k a1:=funext fun z=>Q1_eq k a1 z
 refine (iter_raw _ _ _ (T0 a1) (fun self v=>B0 k self (X0_0 (blockC 0 (seqC (D.N k [1,1,1]) D.K0)) a1) a1 v) (fun rec v=>B0_eq k rec (blockC 0 (seqC (D.N k [1,1,1]) D.K0)) a1 v) k v402).trans ?_
 rw[h0]
 rfl
noncomputable def p (l0:((List (List UInt8))×(List L6Spot)×Int)->Option Out) (a1:Arg):Option Out:=l0 (a1.1,([]:List L6Spot),(0:Int))
theorem raw_eq (k:Nat) (a1:Arg):@Eq (Option Out) (D.W k a1) (p (r0 k a1) a1):=
 Eq.trans (b:=p (s0 k a1) a1) (by kernel_rfl) (by rw[s0_eq])
theorem ok:Ok prog 197 D.sig:=fd_ok func197 tlOk (by kernel_rfl) (fc spec_l2Count.ok (fc spec_l2Size.ok (fc spec_l1Read.ok (fc spec_l2Cell.ok (fn_nil _)))))
end spec_l6Spots
namespace spec_l6Cell
abbrev Arg:Type:=(List (List UInt8))×Int×Int×Unit
abbrev Out:Type:=CellResult×Bool×Unit
abbrev ps:PQ:=[(.ro,(.slc (.slc u8))),(.ro,i64),(.ro,i64)]
noncomputable def D:FD:={ fn:=f298,tl:=TL0,ps:=ps,rs:=[(tCellResult,(roMd tCellResult)),(.bool,(roMd .bool))],gl:=[(123,spec_l1In.D.sig),(296,spec_l1Read.D.sig),(297,spec_l2Cell.D.sig),(367,spec_l2Has.D.sig)] }
noncomputable def sem (a:Arg):Option Out:=@lift Out fun k=>D.W k a
noncomputable def p (a1:Arg):Option Out:=(spec_l1In.sem (a1.2.1,(0:Int),w64 ((a1.1.length:Int) - (1:Int)),())).bind fun r2=>bif !r2.1 then (some (((0:Int),(0:Int),(0:Int),(0:Int),((0:Int),(0:Int),(0:Int),([]:List UInt8),()),()),false,())) else if 0<=a1.2.1 then ((a1.1[a1.2.1.toNat]?).bind fun x3=>(spec_l2Has.sem (x3,a1.2.2.1,())).bind fun r4=>bif !r4.1 then (some (((0:Int),(0:Int),(0:Int),(0:Int),((0:Int),(0:Int),(0:Int),([]:List UInt8),()),()),false,())) else if 0<=a1.2.1 then ((a1.1[a1.2.1.toNat]?).bind fun x5=>(spec_l2Cell.sem (x5,a1.2.2.1,())).bind fun r6=>(spec_l1Read.sem (r6.1,())).bind fun r7=>some (r7.1,r7.2.1,())) else none) else none
theorem raw_eq (k:Nat) (a1:Arg):@Eq (Option Out) (D.W k a1) (p a1):=by kernel_rfl
theorem ok:Ok prog 298 D.sig:=fd_ok func298 tlOk (by kernel_rfl) (fc spec_l1In.ok (fc spec_l1Read.ok (fc spec_l2Cell.ok (fc spec_l2Has.ok (fn_nil _)))))
end spec_l6Cell
namespace spec_l6Seen
abbrev Arg:Type:=(List (List UInt8))×Unit
abbrev Out:Type:=(List L6Spot)×Unit
abbrev ps:PQ:=[(.ro,(.slc (.slc u8)))]
noncomputable def D:FD:={ fn:=f198,tl:=TL0,ps:=ps,rs:=[((.slc tL6Spot),(ownMd (.slc tL6Spot)))],gl:=[(197,spec_l6Spots.D.sig),(298,spec_l6Cell.D.sig)],lv:=[(4,[0,3,4,5])],lx:=[(0,[3]),(1,[0,3,4,5])] }
noncomputable def sem (a:Arg):Option Out:=@lift Out fun k=>D.W k a
noncomputable def T0 (a1:Arg) (c404:List L6Spot) (v403:(List L6Spot)×Int):St:={ n:=50,sl:=[(0,.val (.slc (.slc u8)) a1.1),(3,.own (.slc tL6Spot) (ownMd (.slc tL6Spot)) [] v403.1),(4,.own (.slc tL6Spot) (ownMd (.slc tL6Spot)) [] c404),(5,.val i64 v403.2)],vr:=[],lent:=[] }
noncomputable def b0 (self:((List L6Spot)×Int)->Option Out) (e0:(List L6Spot)->Option Out) (a1:Arg) (c404:List L6Spot) (v403:(List L6Spot)×Int):Option Out:=bif decide (v403.2 < (c404.length:Int)) then (if 0<=v403.2/\v403.2 < (c404.length:Int) then ((c404[v403.2.toNat]?).bind fun x605=>bif decide (x605.2.2.1.2.1=(2:Int)) then (self (v403.1,w64 (v403.2+(1:Int)))) else let j609:=fun (p608:L6Spot)=>(if v403.1.length+[p608].length<=CAP then (self (v403.1++[p608],w64 (v403.2+(1:Int)))) else none:Option Out);bif decide (x605.2.2.1.2.1=(1:Int)) then ((spec_l6Cell.sem (a1.1,x605.2.2.1.2.2.1,x605.2.2.1.2.2.2.1,())).bind fun r606=>j609 (x605.1,x605.2.1,(x605.2.2.1.1,x605.2.2.1.2.1,x605.2.2.1.2.2.1,x605.2.2.1.2.2.2.1,r606.1.2.2.2.2.1,x605.2.2.1.2.2.2.2.2),x605.2.2.2)) else j609 x605) else none) else e0 v403.1
noncomputable abbrev B0 (_:Nat):=b0
noncomputable def q0 (a1:Arg) (c404:List L6Spot) (z610:(List L6Spot)):Option Out:=some (z610,())
noncomputable abbrev Q0 (_:Nat):=q0
noncomputable def s0 (k:Nat) (a1:Arg):(List L6Spot)->((List L6Spot)×Int)->Option Out:=fun c404=>fun v403=>D.L k [1,1,1,0,1,0,0] [0,3,4,5] [] (blockC 0 (seqC (D.N k [1,1,1,1]) D.K0)) (T0 a1 c404 v403)
noncomputable def r0 (k:Nat) (a1:Arg):(List L6Spot)->((List L6Spot)×Int)->Option Out:=fun c404=>rawIter (fun w v=>B0 k w (Q0 k a1 c404) a1 c404 v) k
theorem s0_eq (k:Nat) (a1:Arg):s0 k a1=r0 k a1:=
 funext fun c404=>funext fun v403=>iter_raw _ _ _ (T0 a1 c404) _ (fun rec v=>by kernel_rfl) k v403
noncomputable def p (l0:(List L6Spot)->((List L6Spot)×Int)->Option Out) (a1:Arg):Option Out:=(spec_l6Spots.sem (a1.1,())).bind fun r2=>l0 r2.1 (([]:List L6Spot),(0:Int))
theorem raw_eq (k:Nat) (a1:Arg):@Eq (Option Out) (D.W k a1) (p (r0 k a1) a1):=
 Eq.trans (b:=p (s0 k a1) a1) (by kernel_rfl) (by rw[s0_eq])
theorem ok:Ok prog 198 D.sig:=fd_ok func198 tlOk (by kernel_rfl) (fc spec_l6Spots.ok (fc spec_l6Cell.ok (fn_nil _)))
end spec_l6Seen
namespace spec_l6Find
abbrev Arg:Type:=(List (List UInt8))×Int×Int×Unit
abbrev Out:Type:=L6Spot×Bool×Unit
abbrev ps:PQ:=[(.ro,(.slc (.slc u8))),(.ro,i64),(.ro,i64)]
noncomputable def D:FD:={ fn:=f95,tl:=TL0,ps:=ps,rs:=[(tL6Spot,(roMd tL6Spot)),(.bool,(roMd .bool))],gl:=[(198,spec_l6Seen.D.sig)],lv:=[(3,[1,2,6,8,9])],lx:=[(0,[6])] }
noncomputable def sem (a:Arg):Option Out:=@lift Out fun k=>D.W k a
noncomputable def T0 (a1:Arg) (c404:List L6Spot) (v403:Int):St:={ n:=43,sl:=[(1,.val i64 a1.2.1),(2,.val i64 a1.2.2.1),(6,.box tL6Spot (roMd tL6Spot) [] ((0:Int),(0:Int),((0:Int),(0:Int),(0:Int),(0:Int),((0:Int),(0:Int),(0:Int),([]:List UInt8),()),()),())),(8,.own (.slc tL6Spot) (ownMd (.slc tL6Spot)) [] c404),(9,.val i64 v403)],vr:=[],lent:=[] }
noncomputable def b0 (self:Int->Option Out) (e0:(Unit)->Option Out) (a1:Arg) (c404:List L6Spot) (v403:Int):Option Out:=bif decide (v403 < (c404.length:Int)) then (if 0<=v403/\v403 < (c404.length:Int) then ((c404[v403.toNat]?).bind fun x605=>bif decide (x605.2.2.1.2.2.2.2.1.1=a1.2.1) then (if 0<=v403/\v403 < (c404.length:Int) then ((c404[v403.toNat]?).bind fun x606=>bif decide (x606.2.2.1.2.2.2.2.1.2.1=a1.2.2.1) then (if 0<=v403/\v403 < (c404.length:Int) then ((c404[v403.toNat]?).bind fun x607=>some (x607,true,())) else none) else self (w64 (v403+(1:Int)))) else none) else self (w64 (v403+(1:Int)))) else none) else e0 ()
noncomputable abbrev B0 (_:Nat):=b0
noncomputable def q0 (a1:Arg) (c404:List L6Spot) (z608:(Unit)):Option Out:=some (((0:Int),(0:Int),((0:Int),(0:Int),(0:Int),(0:Int),((0:Int),(0:Int),(0:Int),([]:List UInt8),()),()),()),false,())
noncomputable abbrev Q0 (_:Nat):=q0
noncomputable def s0 (k:Nat) (a1:Arg):(List L6Spot)->(Int)->Option Out:=fun c404=>fun v403=>D.L k [1,1,0,1,0,0] [1,2,6,8,9] [] (blockC 0 (seqC (D.N k [1,1,1]) D.K0)) (T0 a1 c404 v403)
noncomputable def r0 (k:Nat) (a1:Arg):(List L6Spot)->(Int)->Option Out:=fun c404=>rawIter (fun w v=>B0 k w (Q0 k a1 c404) a1 c404 v) k
theorem s0_eq (k:Nat) (a1:Arg):s0 k a1=r0 k a1:=
 funext fun c404=>funext fun v403=>iter_raw _ _ _ (T0 a1 c404) _ (fun rec v=>by kernel_rfl) k v403
noncomputable def p (l0:(List L6Spot)->(Int)->Option Out) (a1:Arg):Option Out:=(spec_l6Seen.sem (a1.1,())).bind fun r2=>l0 r2.1 (0:Int)
theorem raw_eq (k:Nat) (a1:Arg):@Eq (Option Out) (D.W k a1) (p (r0 k a1) a1):=
 Eq.trans (b:=p (s0 k a1) a1) (by kernel_rfl) (by rw[s0_eq])
theorem ok:Ok prog 95 D.sig:=fd_ok func95 tlOk (by kernel_rfl) (fc spec_l6Seen.ok (fn_nil _))
end spec_l6Find
namespace spec_l7Bad
abbrev Arg:Type:=Int×Unit
abbrev Out:Type:=EditsResult×Unit
abbrev ps:PQ:=[(.ro,i64)]
noncomputable def D:FD:={ fn:=f93,tl:=TL0,ps:=ps,rs:=[(tEditsResult,(ownMd tEditsResult))] }
noncomputable def sem (a:Arg):Option Out:=@lift Out fun k=>D.W k a
noncomputable def p (a1:Arg):Option Out:=some ((a1.1,([]:List Edit),([]:List (List UInt8)),()),())
theorem raw_eq (k:Nat) (a1:Arg):@Eq (Option Out) (D.W k a1) (p a1):=by kernel_rfl
theorem ok:Ok prog 93 D.sig:=fd_ok func93 tlOk (by kernel_rfl) (fn_nil _)
end spec_l7Bad
namespace spec_l7Copy
abbrev Arg:Type:=(List (List UInt8))×Unit
abbrev Out:Type:=(List (List UInt8))×Unit
abbrev ps:PQ:=[(.ro,(.slc (.slc u8)))]
noncomputable def D:FD:={ fn:=f122,tl:=TL0,ps:=ps,rs:=[((.slc (.slc u8)),(ownMd (.slc (.slc u8))))],gl:=[(124,spec_l2Copy.D.sig)],lv:=[(3,[0,3,4])],lx:=[(0,[3])] }
noncomputable def sem (a:Arg):Option Out:=@lift Out fun k=>D.W k a
noncomputable def T0 (a1:Arg) (v402:(List (List UInt8))×Int):St:={ n:=21,sl:=[(0,.val (.slc (.slc u8)) a1.1),(3,.own (.slc (.slc u8)) (ownMd (.slc (.slc u8))) [] v402.1),(4,.val i64 v402.2)],vr:=[],lent:=[] }
noncomputable def b0 (self:((List (List UInt8))×Int)->Option Out) (e0:(List (List UInt8))->Option Out) (a1:Arg) (v402:(List (List UInt8))×Int):Option Out:=bif decide (v402.2 < (a1.1.length:Int)) then (if 0<=v402.2 then ((a1.1[v402.2.toNat]?).bind fun x603=>(spec_l2Copy.sem (x603,())).bind fun r604=>if v402.1.length+[r604.1].length<=CAP then (self (v402.1++[r604.1],w64 (v402.2+(1:Int)))) else none) else none) else e0 v402.1
noncomputable abbrev B0 (_:Nat):=b0
noncomputable def q0 (a1:Arg) (z605:(List (List UInt8))):Option Out:=some (z605,())
noncomputable abbrev Q0 (_:Nat):=q0
noncomputable def s0 (k:Nat) (a1:Arg):((List (List UInt8))×Int)->Option Out:=fun v402=>D.L k [1,1,0,1,0,0] [0,3,4] [] (blockC 0 (seqC (D.N k [1,1,1]) D.K0)) (T0 a1 v402)
noncomputable def r0 (k:Nat) (a1:Arg):((List (List UInt8))×Int)->Option Out:=rawIter (fun w v=>B0 k w (Q0 k a1) a1 v) k
theorem s0_eq (k:Nat) (a1:Arg):s0 k a1=r0 k a1:=
 funext fun v402=>iter_raw _ _ _ (T0 a1) _ (fun rec v=>by kernel_rfl) k v402
noncomputable def p (l0:((List (List UInt8))×Int)->Option Out) (a1:Arg):Option Out:=l0 (([]:List (List UInt8)),(0:Int))
theorem raw_eq (k:Nat) (a1:Arg):@Eq (Option Out) (D.W k a1) (p (r0 k a1) a1):=
 Eq.trans (b:=p (s0 k a1) a1) (by kernel_rfl) (by rw[s0_eq])
theorem ok:Ok prog 122 D.sig:=fd_ok func122 tlOk (by kernel_rfl) (fc spec_l2Copy.ok (fn_nil _))
end spec_l7Copy
namespace spec_l7Start
abbrev Arg:Type:=(List (List UInt8))×Unit
abbrev Out:Type:=L7Work×Unit
abbrev ps:PQ:=[(.ro,(.slc (.slc u8)))]
noncomputable def D:FD:={ fn:=f200,tl:=TL0,ps:=ps,rs:=[((.ptr tL7Work),(ownMd (.ptr tL7Work)))],gl:=[(122,spec_l7Copy.D.sig)] }
noncomputable def sem (a:Arg):Option Out:=@lift Out fun k=>D.W k a
noncomputable def p (a1:Arg):Option Out:=(spec_l7Copy.sem (a1.1,())).bind fun r2=>some ((r2.1,([]:List Edit),()),())
theorem raw_eq (k:Nat) (a1:Arg):@Eq (Option Out) (D.W k a1) (p a1):=by kernel_rfl
theorem ok:Ok prog 200 D.sig:=fd_ok func200 tlOk (by kernel_rfl) (fc spec_l7Copy.ok (fn_nil _))
end spec_l7Start
namespace spec_l7Turn
abbrev Arg:Type:=L7Work×Int×(List UInt8)×Unit
abbrev Out:Type:=L7Work×Unit
abbrev ps:PQ:=[(.mutp (ownMd tL7Work),tL7Work),(.ro,i64),(.ro,(.slc u8))]
noncomputable def D:FD:={ fn:=f301,tl:=TL0,ps:=ps,rs:=[],gl:=[(124,spec_l2Copy.D.sig)],es:=[0],od:=[(1,[0,1,2,3,4,5,6,7,8,9,10,11]),(2,[0,1,2,3,4,5,6,7,8,9,10]),(3,[0,1,2,3,4,5,6,7,8]),(4,[0,1,2,3,4,5,6,7,8,9,10,11,12,13])] }
noncomputable def sem (a:Arg):Option Out:=@lift Out fun k=>D.W k a
noncomputable def p (a1:Arg):Option Out:=let j9:=fun (p8:L7Work)=>((spec_l2Copy.sem (a1.2.2.1,())).bind fun r10=>if p8.2.1.length+[(a1.2.1,r10.1,())].length<=CAP then (some ((p8.1,p8.2.1++[(a1.2.1,r10.1,())],p8.2.2),())) else none:Option Out);bif decide (a1.2.1=(a1.1.1.length:Int)) then ((spec_l2Copy.sem (a1.2.2.1,())).bind fun r2=>if a1.1.1.length+[r2.1].length<=CAP then (j9 (a1.1.1++[r2.1],a1.1.2)) else none) else if 0<=a1.2.1/\a1.2.1 < (a1.1.1.length:Int) then ((a1.1.1[a1.2.1.toNat]?).bind fun x3=>(a1.1.1[a1.2.1.toNat]?).bind fun x4=>bif decide (x4=a1.2.2.1) then (some (a1.1,())) else (spec_l2Copy.sem (a1.2.2.1,())).bind fun r5=>if 0<=a1.2.1/\a1.2.1 < (a1.1.1.length:Int) then ((a1.1.1[a1.2.1.toNat]?).bind fun x6=>j9 (a1.1.1.set a1.2.1.toNat r5.1,a1.1.2)) else none) else none
theorem raw_eq (k:Nat) (a1:Arg):@Eq (Option Out) (D.W k a1) (p a1):=by kernel_rfl
theorem ok:Ok prog 301 D.sig:=fd_ok func301 tlOk (by kernel_rfl) (fc spec_l2Copy.ok (fn_nil _))
end spec_l7Turn
namespace spec_l7PutIn
abbrev Arg:Type:=L7Work×Int×(List UInt8)×Unit
abbrev Out:Type:=Int×Bool×L7Work×Unit
abbrev ps:PQ:=[(.mutp (ownMd tL7Work),tL7Work),(.ro,i64),(.ro,(.slc u8))]
noncomputable def D:FD:={ fn:=f299,tl:=TL0,ps:=ps,rs:=[(i64,(roMd i64)),(.bool,(roMd .bool))],gl:=[(285,spec_l2Put.D.sig),(301,spec_l7Turn.D.sig),(307,spec_l2Compact.D.sig)],es:=[0] }
noncomputable def sem (a:Arg):Option Out:=@lift Out fun k=>D.W k a
noncomputable def p (a1:Arg):Option Out:=if 0<=a1.2.1/\a1.2.1 < (a1.1.1.length:Int) then ((a1.1.1[a1.2.1.toNat]?).bind fun x2=>(a1.1.1[a1.2.1.toNat]?).bind fun x3=>(spec_l2Put.sem (x3,a1.2.2.1,())).bind fun r4=>let j17:=fun (p13:L7Work) (p14:List UInt8) (p15:Int) (p16:Int)=>(bif !decide (p16=(0:Int)) then (some ((0:Int),false,p13,())) else (spec_l7Turn.sem (p13,a1.2.1,p14,())).bind fun r18=>some (p15,true,r18.1,()):Option Out);bif decide (r4.2.2.1=(8:Int)) then (if 0<=a1.2.1/\a1.2.1 < (a1.1.1.length:Int) then ((a1.1.1[a1.2.1.toNat]?).bind fun x5=>(a1.1.1[a1.2.1.toNat]?).bind fun x6=>(spec_l2Compact.sem (x6,())).bind fun r7=>(spec_l7Turn.sem (a1.1,a1.2.1,r7.1,())).bind fun r8=>if 0<=a1.2.1/\a1.2.1 < (r8.1.1.length:Int) then ((r8.1.1[a1.2.1.toNat]?).bind fun x9=>(r8.1.1[a1.2.1.toNat]?).bind fun x10=>(spec_l2Put.sem (x10,a1.2.2.1,())).bind fun r11=>j17 r8.1 r11.1 r11.2.1 r11.2.2.1) else none) else none) else j17 a1.1 r4.1 r4.2.1 r4.2.2.1) else none
theorem raw_eq (k:Nat) (a1:Arg):@Eq (Option Out) (D.W k a1) (p a1):=by kernel_rfl
theorem ok:Ok prog 299 D.sig:=fd_ok func299 tlOk (by kernel_rfl) (fc spec_l2Put.ok (fc spec_l7Turn.ok (fc spec_l2Compact.ok (fn_nil _))))
end spec_l7PutIn
namespace spec_l7Place
abbrev Arg:Type:=L7Work×Int×(List UInt8)×Unit
abbrev Out:Type:=Int×Int×Bool×L7Work×Unit
abbrev ps:PQ:=[(.mutp (ownMd tL7Work),tL7Work),(.ro,i64),(.ro,(.slc u8))]
noncomputable def D:FD:={ fn:=f201,tl:=TL0,ps:=ps,rs:=[(i64,(roMd i64)),(i64,(roMd i64)),(.bool,(roMd .bool))],gl:=[(285,spec_l2Put.D.sig),(299,spec_l7PutIn.D.sig),(300,spec_l2New.D.sig),(301,spec_l7Turn.D.sig)],es:=[0],lv:=[(2,[0,1,2,9])],lx:=[(0,[0,2]),(1,[0,1,2,9])] }
noncomputable def sem (a:Arg):Option Out:=@lift Out fun k=>D.W k a
noncomputable def T0 (a1:Arg) (v402:L7Work×Int):St:={ n:=65,sl:=[(0,.box tL7Work (ownMd tL7Work) [] v402.1),(1,.val i64 a1.2.1),(2,.val (.slc u8) a1.2.2.1),(9,.val i64 v402.2)],vr:=[],lent:=[(0,0,false)] }
noncomputable def b0 (self:(L7Work×Int)->Option Out) (e0:L7Work->Option Out) (a1:Arg) (v402:L7Work×Int):Option Out:=bif decide (v402.2 < (v402.1.1.length:Int)) then (bif decide (v402.2=a1.2.1) then (self (v402.1,w64 (v402.2+(1:Int)))) else (spec_l7PutIn.sem (v402.1,v402.2,a1.2.2.1,())).bind fun r603=>bif r603.2.1 then (some (v402.2,r603.1,true,r603.2.2.1,())) else self (r603.2.2.1,w64 (v402.2+(1:Int)))) else e0 v402.1
noncomputable abbrev B0 (_:Nat):=b0
noncomputable def q0 (a1:Arg) (z604:L7Work):Option Out:=bif decide ((12:Int)<=(z604.1.length:Int)) then (some ((0:Int),(0:Int),false,z604,())) else (spec_l2New.sem ((0:UInt8),())).bind fun r605=>(spec_l2Put.sem (r605.1,a1.2.2.1,())).bind fun r606=>(spec_l7Turn.sem (z604,(z604.1.length:Int),r606.1,())).bind fun r607=>some (w64 ((r607.1.1.length:Int) - (1:Int)),r606.2.1,true,r607.1,())
noncomputable abbrev Q0 (_:Nat):=q0
noncomputable def s0 (k:Nat) (a1:Arg):(L7Work×Int)->Option Out:=fun v402=>D.L k [1,0,1,0,0] [0,1,2,9] [] (blockC 0 (seqC (D.N k [1,1]) D.K0)) (T0 a1 v402)
noncomputable def r0 (k:Nat) (a1:Arg):(L7Work×Int)->Option Out:=rawIter (fun w v=>B0 k w (Q0 k a1) a1 v) k
theorem s0_eq (k:Nat) (a1:Arg):s0 k a1=r0 k a1:=
 funext fun v402=>iter_raw _ _ _ (T0 a1) _ (fun rec v=>by kernel_rfl) k v402
noncomputable def p (l0:(L7Work×Int)->Option Out) (a1:Arg):Option Out:=l0 (a1.1,(0:Int))
theorem raw_eq (k:Nat) (a1:Arg):@Eq (Option Out) (D.W k a1) (p (r0 k a1) a1):=
 Eq.trans (b:=p (s0 k a1) a1) (by kernel_rfl) (by rw[s0_eq])
theorem ok:Ok prog 201 D.sig:=fd_ok func201 tlOk (by kernel_rfl) (fc spec_l2Put.ok (fc spec_l7PutIn.ok (fc spec_l2New.ok (fc spec_l7Turn.ok (fn_nil _)))))
end spec_l7Place
namespace spec_l7Done
abbrev Arg:Type:=L7Work×Unit
abbrev Out:Type:=EditsResult×Unit
abbrev ps:PQ:=[(.eat (ownMd tL7Work),tL7Work)]
noncomputable def D:FD:={ fn:=f203,tl:=TL0,ps:=ps,rs:=[(tEditsResult,(ownMd tEditsResult))],fz:=[(1,3,7),(1,7,7)],od:=[(1,[0,1,2,3,4,5,6,7,8,9])] }
noncomputable def sem (a:Arg):Option Out:=@lift Out fun k=>D.W k a
noncomputable def p (a1:Arg):Option Out:=some (((0:Int),a1.1.2.1,a1.1.1,()),())
theorem raw_eq (k:Nat) (a1:Arg):@Eq (Option Out) (D.W k a1) (p a1):=by kernel_rfl
theorem ok:Ok prog 203 D.sig:=fd_ok func203 tlOk (by kernel_rfl) (fn_nil _)
end spec_l7Done
namespace spec_l7Insert
abbrev Arg:Type:=(List (List UInt8))×Row×Unit
abbrev Out:Type:=EditsResult×Unit
abbrev ps:PQ:=[(.ro,(.slc (.slc u8))),(.ro,(.ptr tRow))]
noncomputable def D:FD:={ fn:=f96,tl:=TL0,ps:=ps,rs:=[(tEditsResult,(ownMd tEditsResult))],gl:=[(93,spec_l7Bad.D.sig),(200,spec_l7Start.D.sig),(201,spec_l7Place.D.sig),(202,spec_l1Cell.D.sig),(203,spec_l7Done.D.sig)] }
noncomputable def sem (a:Arg):Option Out:=@lift Out fun k=>D.W k a
noncomputable def p (a1:Arg):Option Out:=(spec_l7Start.sem (a1.1,())).bind fun r2=>(spec_l1Cell.sem ((0:Int),a1.2.1,())).bind fun r3=>(spec_l7Place.sem (r2.1,(-1:Int),r3.1,())).bind fun r4=>bif !r4.2.2.1 then ((spec_l7Bad.sem ((9:Int),())).bind fun r5=>some (r5.1,())) else (spec_l7Done.sem (r4.2.2.2.1,())).bind fun r6=>some (r6.1,())
theorem raw_eq (k:Nat) (a1:Arg):@Eq (Option Out) (D.W k a1) (p a1):=by kernel_rfl
theorem ok:Ok prog 96 D.sig:=fd_ok func96 tlOk (by kernel_rfl) (fc spec_l7Bad.ok (fc spec_l7Start.ok (fc spec_l7Place.ok (fc spec_l1Cell.ok (fc spec_l7Done.ok (fn_nil _))))))
end spec_l7Insert
namespace spec_l7Set
abbrev Arg:Type:=L7Work×Int×Int×(List UInt8)×Unit
abbrev Out:Type:=Bool×L7Work×Unit
abbrev ps:PQ:=[(.mutp (ownMd tL7Work),tL7Work),(.ro,i64),(.ro,i64),(.ro,(.slc u8))]
noncomputable def D:FD:={ fn:=f209,tl:=TL0,ps:=ps,rs:=[(.bool,(roMd .bool))],gl:=[(301,spec_l7Turn.D.sig),(306,spec_l2Set.D.sig),(307,spec_l2Compact.D.sig)],es:=[0] }
noncomputable def sem (a:Arg):Option Out:=@lift Out fun k=>D.W k a
noncomputable def p (a1:Arg):Option Out:=if 0<=a1.2.1/\a1.2.1 < (a1.1.1.length:Int) then ((a1.1.1[a1.2.1.toNat]?).bind fun x2=>(a1.1.1[a1.2.1.toNat]?).bind fun x3=>(spec_l2Set.sem (x3,a1.2.2.1,a1.2.2.2.1,())).bind fun r4=>bif decide (r4.2.1=(8:Int)) then (if 0<=a1.2.1/\a1.2.1 < (a1.1.1.length:Int) then ((a1.1.1[a1.2.1.toNat]?).bind fun x5=>(a1.1.1[a1.2.1.toNat]?).bind fun x6=>(spec_l2Compact.sem (x6,())).bind fun r7=>(spec_l7Turn.sem (a1.1,a1.2.1,r7.1,())).bind fun r8=>if 0<=a1.2.1/\a1.2.1 < (r8.1.1.length:Int) then ((r8.1.1[a1.2.1.toNat]?).bind fun x9=>(r8.1.1[a1.2.1.toNat]?).bind fun x10=>(spec_l2Set.sem (x10,a1.2.2.1,a1.2.2.2.1,())).bind fun r11=>bif !decide (r11.2.1=(0:Int)) then (some (false,r8.1,())) else (spec_l7Turn.sem (r8.1,a1.2.1,r11.1,())).bind fun r13=>some (true,r13.1,())) else none) else none) else bif !decide (r4.2.1=(0:Int)) then (some (false,a1.1,())) else (spec_l7Turn.sem (a1.1,a1.2.1,r4.1,())).bind fun r14=>some (true,r14.1,())) else none
theorem raw_eq (k:Nat) (a1:Arg):@Eq (Option Out) (D.W k a1) (p a1):=by kernel_rfl
theorem ok:Ok prog 209 D.sig:=fd_ok func209 tlOk (by kernel_rfl) (fc spec_l7Turn.ok (fc spec_l2Set.ok (fc spec_l2Compact.ok (fn_nil _))))
end spec_l7Set
namespace spec_l7Drop
abbrev Arg:Type:=L7Work×Int×Int×Unit
abbrev Out:Type:=L7Work×Unit
abbrev ps:PQ:=[(.mutp (ownMd tL7Work),tL7Work),(.ro,i64),(.ro,i64)]
noncomputable def D:FD:={ fn:=f305,tl:=TL0,ps:=ps,rs:=[],gl:=[(301,spec_l7Turn.D.sig),(368,spec_l2Drop.D.sig)],es:=[0] }
noncomputable def sem (a:Arg):Option Out:=@lift Out fun k=>D.W k a
noncomputable def p (a1:Arg):Option Out:=if 0<=a1.2.1/\a1.2.1 < (a1.1.1.length:Int) then ((a1.1.1[a1.2.1.toNat]?).bind fun x2=>(a1.1.1[a1.2.1.toNat]?).bind fun x3=>(spec_l2Drop.sem (x3,a1.2.2.1,())).bind fun r4=>(spec_l7Turn.sem (a1.1,a1.2.1,r4.1,())).bind fun r5=>some (r5.1,())) else none
theorem raw_eq (k:Nat) (a1:Arg):@Eq (Option Out) (D.W k a1) (p a1):=by kernel_rfl
theorem ok:Ok prog 305 D.sig:=fd_ok func305 tlOk (by kernel_rfl) (fc spec_l7Turn.ok (fc spec_l2Drop.ok (fn_nil _)))
end spec_l7Drop
namespace spec_l7Move
abbrev Arg:Type:=L7Work×L6Spot×Row×Unit
abbrev Out:Type:=Bool×L7Work×Unit
abbrev ps:PQ:=[(.mutp (ownMd tL7Work),tL7Work),(.ro,(.ptr tL6Spot)),(.ro,(.ptr tRow))]
noncomputable def D:FD:={ fn:=f208,tl:=TL0,ps:=ps,rs:=[(.bool,(roMd .bool))],gl:=[(201,spec_l7Place.D.sig),(202,spec_l1Cell.D.sig),(209,spec_l7Set.D.sig),(210,spec_l1Stub.D.sig),(305,spec_l7Drop.D.sig)],es:=[0],od:=[(9,[0,1,2,3,4,5,6,7,8,9,10,11,12])] }
noncomputable def sem (a:Arg):Option Out:=@lift Out fun k=>D.W k a
noncomputable def p (a1:Arg):Option Out:=(spec_l1Cell.sem ((2:Int),a1.2.2.1,())).bind fun r2=>(spec_l7Set.sem (a1.1,a1.2.1.2.2.1.2.2.1,a1.2.1.2.2.1.2.2.2.1,r2.1,())).bind fun r3=>bif r3.1 then (some (true,r3.2.1,())) else (spec_l7Place.sem (r3.2.1,a1.2.1.2.2.1.2.2.1,r2.1,())).bind fun r4=>bif !r4.2.2.1 then (some (false,r4.2.2.2.1,())) else (spec_l1Stub.sem (r4.1,r4.2.1,())).bind fun r5=>(spec_l7Set.sem (r4.2.2.2.1,a1.2.1.1,a1.2.1.2.1,r5.1,())).bind fun r6=>(spec_l7Drop.sem (r6.2.1,a1.2.1.2.2.1.2.2.1,a1.2.1.2.2.1.2.2.2.1,())).bind fun r7=>some (true,r7.1,())
theorem raw_eq (k:Nat) (a1:Arg):@Eq (Option Out) (D.W k a1) (p a1):=by kernel_rfl
theorem ok:Ok prog 208 D.sig:=fd_ok func208 tlOk (by kernel_rfl) (fc spec_l7Place.ok (fc spec_l1Cell.ok (fc spec_l7Set.ok (fc spec_l1Stub.ok (fc spec_l7Drop.ok (fn_nil _))))))
end spec_l7Move
namespace spec_l7Update
abbrev Arg:Type:=(List (List UInt8))×L6Spot×Row×Unit
abbrev Out:Type:=EditsResult×Unit
abbrev ps:PQ:=[(.ro,(.slc (.slc u8))),(.ro,(.ptr tL6Spot)),(.ro,(.ptr tRow))]
noncomputable def D:FD:={ fn:=f103,tl:=TL0,ps:=ps,rs:=[(tEditsResult,(ownMd tEditsResult))],gl:=[(93,spec_l7Bad.D.sig),(200,spec_l7Start.D.sig),(201,spec_l7Place.D.sig),(202,spec_l1Cell.D.sig),(203,spec_l7Done.D.sig),(208,spec_l7Move.D.sig),(209,spec_l7Set.D.sig),(210,spec_l1Stub.D.sig)],od:=[(2,[0,1,2,3,4,5,6,7,8]),(8,[0,1,2,3,4,5,6,7,8,9,10,11]),(10,[0,1,2,3,4,5,6,7,8,9,10,11,12,13,14]),(13,[0,1,2,3,4,5,6,7,8,9,10,11,12])] }
noncomputable def sem (a:Arg):Option Out:=@lift Out fun k=>D.W k a
noncomputable def p (a1:Arg):Option Out:=(spec_l7Start.sem (a1.1,())).bind fun r2=>bif (Ty.eq tRow a1.2.1.2.2.1.2.2.2.2.1 a1.2.2.1) then ((spec_l7Done.sem (r2.1,())).bind fun r3=>some (r3.1,())) else bif decide (a1.2.1.2.2.1.2.1=(1:Int)) then ((spec_l7Move.sem (r2.1,a1.2.1,a1.2.2.1,())).bind fun r4=>bif !r4.1 then ((spec_l7Bad.sem ((9:Int),())).bind fun r5=>some (r5.1,())) else (spec_l7Done.sem (r4.2.1,())).bind fun r6=>some (r6.1,())) else (spec_l1Cell.sem ((0:Int),a1.2.2.1,())).bind fun r7=>(spec_l7Set.sem (r2.1,a1.2.1.1,a1.2.1.2.1,r7.1,())).bind fun r8=>bif r8.1 then ((spec_l7Done.sem (r8.2.1,())).bind fun r9=>some (r9.1,())) else (spec_l1Cell.sem ((2:Int),a1.2.2.1,())).bind fun r10=>(spec_l7Place.sem (r8.2.1,a1.2.1.1,r10.1,())).bind fun r11=>bif !r11.2.2.1 then ((spec_l7Bad.sem ((9:Int),())).bind fun r12=>some (r12.1,())) else (spec_l1Stub.sem (r11.1,r11.2.1,())).bind fun r13=>(spec_l7Set.sem (r11.2.2.2.1,a1.2.1.1,a1.2.1.2.1,r13.1,())).bind fun r14=>(spec_l7Done.sem (r14.2.1,())).bind fun r15=>some (r15.1,())
theorem raw_eq (k:Nat) (a1:Arg):@Eq (Option Out) (D.W k a1) (p a1):=by kernel_rfl
theorem ok:Ok prog 103 D.sig:=fd_ok func103 tlOk (by kernel_rfl) (fc spec_l7Bad.ok (fc spec_l7Start.ok (fc spec_l7Place.ok (fc spec_l1Cell.ok (fc spec_l7Done.ok (fc spec_l7Move.ok (fc spec_l7Set.ok (fc spec_l1Stub.ok (fn_nil _)))))))))
end spec_l7Update
namespace spec_l7Delete
abbrev Arg:Type:=(List (List UInt8))×L6Spot×Unit
abbrev Out:Type:=EditsResult×Unit
abbrev ps:PQ:=[(.ro,(.slc (.slc u8))),(.ro,(.ptr tL6Spot))]
noncomputable def D:FD:={ fn:=f215,tl:=TL0,ps:=ps,rs:=[(tEditsResult,(ownMd tEditsResult))],gl:=[(200,spec_l7Start.D.sig),(203,spec_l7Done.D.sig),(305,spec_l7Drop.D.sig)],od:=[(2,[0,1,2,3,4,5,6,7,8,9]),(4,[0,1,2,3,4,5,6,7,8,9,10,11])] }
noncomputable def sem (a:Arg):Option Out:=@lift Out fun k=>D.W k a
noncomputable def p (a1:Arg):Option Out:=(spec_l7Start.sem (a1.1,())).bind fun r2=>(spec_l7Drop.sem (r2.1,a1.2.1.1,a1.2.1.2.1,())).bind fun r3=>bif decide (a1.2.1.2.2.1.2.1=(1:Int)) then ((spec_l7Drop.sem (r3.1,a1.2.1.2.2.1.2.2.1,a1.2.1.2.2.1.2.2.2.1,())).bind fun r4=>(spec_l7Done.sem (r4.1,())).bind fun r6=>some (r6.1,())) else (spec_l7Done.sem (r3.1,())).bind fun r7=>some (r7.1,())
theorem raw_eq (k:Nat) (a1:Arg):@Eq (Option Out) (D.W k a1) (p a1):=by kernel_rfl
theorem ok:Ok prog 215 D.sig:=fd_ok func215 tlOk (by kernel_rfl) (fc spec_l7Start.ok (fc spec_l7Done.ok (fc spec_l7Drop.ok (fn_nil _))))
end spec_l7Delete
namespace spec_l7Pages
abbrev Arg:Type:=L1Src×Unit
abbrev Out:Type:=(List (List UInt8))×L1Src×Unit
abbrev ps:PQ:=[(.mutp (roMd tL1Src),tL1Src)]
noncomputable def D:FD:={ fn:=f185,tl:=TL0,ps:=ps,rs:=[((.slc (.slc u8)),(ownMd (.slc (.slc u8))))],gl:=[(95,spec_l6Find.D.sig),(96,spec_l7Insert.D.sig),(99,spec_l1Chance.D.sig),(101,spec_l1Next.D.sig),(103,spec_l7Update.D.sig),(186,spec_l1Draw.D.sig),(215,spec_l7Delete.D.sig)],es:=[0],lv:=[(3,[0,3,4])],lx:=[(0,[0,3])] }
noncomputable def sem (a:Arg):Option Out:=@lift Out fun k=>D.W k a
noncomputable def T0 (a1:Arg) (v403:L1Src×(List (List UInt8))×Int):St:={ n:=46,sl:=[(0,.box tL1Src (roMd tL1Src) [] v403.1),(3,.own (.slc (.slc u8)) (ownMd (.slc (.slc u8))) [] v403.2.1),(4,.val i64 v403.2.2)],vr:=[],lent:=[(0,0,false)] }
noncomputable def b0 (self:(L1Src×(List (List UInt8))×Int)->Option Out) (e0:(L1Src×(List (List UInt8)))->Option Out) (a1:Arg) (v403:L1Src×(List (List UInt8))×Int):Option Out:=bif decide ((0:Int) < v403.2.2) then ((spec_l1Draw.sem (v403.1,())).bind fun r604=>(spec_l6Find.sem (v403.2.1,r604.1.1,r604.1.2.1,())).bind fun r605=>bif !r605.2.1 then ((spec_l7Insert.sem (v403.2.1,r604.1,())).bind fun r606=>bif decide (r606.1.1=(0:Int)) then (self (r604.2.1,r606.1.2.2.1,w64 (v403.2.2 - (1:Int)))) else self (r604.2.1,v403.2.1,w64 (v403.2.2 - (1:Int)))) else (spec_l1Chance.sem (r604.2.1,(4:Int),())).bind fun r607=>bif r607.1 then ((spec_l7Delete.sem (v403.2.1,r605.1,())).bind fun r608=>bif decide (r608.1.1=(0:Int)) then (self (r607.2.1,r608.1.2.2.1,w64 (v403.2.2 - (1:Int)))) else self (r607.2.1,v403.2.1,w64 (v403.2.2 - (1:Int)))) else (spec_l7Update.sem (v403.2.1,r605.1,r604.1,())).bind fun r609=>bif decide (r609.1.1=(0:Int)) then (self (r607.2.1,r609.1.2.2.1,w64 (v403.2.2 - (1:Int)))) else self (r607.2.1,v403.2.1,w64 (v403.2.2 - (1:Int)))) else e0 (v403.1,v403.2.1)
noncomputable abbrev B0 (_:Nat):=b0
noncomputable def q0 (a1:Arg) (z610:(L1Src×(List (List UInt8)))):Option Out:=some (z610.2,z610.1,())
noncomputable abbrev Q0 (_:Nat):=q0
noncomputable def s0 (k:Nat) (a1:Arg):(L1Src×(List (List UInt8))×Int)->Option Out:=fun v403=>D.L k [1,1,0,1,0,0] [0,3,4] [] (blockC 0 (seqC (D.N k [1,1,1]) D.K0)) (T0 a1 v403)
noncomputable def r0 (k:Nat) (a1:Arg):(L1Src×(List (List UInt8))×Int)->Option Out:=rawIter (fun w v=>B0 k w (Q0 k a1) a1 v) k
theorem s0_eq (k:Nat) (a1:Arg):s0 k a1=r0 k a1:=
 funext fun v403=>iter_raw _ _ _ (T0 a1) _ (fun rec v=>by kernel_rfl) k v403
noncomputable def p (l0:(L1Src×(List (List UInt8))×Int)->Option Out) (a1:Arg):Option Out:=(spec_l1Next.sem (a1.1,(16:Int),())).bind fun r2=>l0 (r2.2.1,([]:List (List UInt8)),r2.1)
theorem raw_eq (k:Nat) (a1:Arg):@Eq (Option Out) (D.W k a1) (p (r0 k a1) a1):=
 Eq.trans (b:=p (s0 k a1) a1) (by kernel_rfl) (by rw[s0_eq])
theorem ok:Ok prog 185 D.sig:=fd_ok func185 tlOk (by kernel_rfl) (fc spec_l6Find.ok (fc spec_l7Insert.ok (fc spec_l1Chance.ok (fc spec_l1Next.ok (fc spec_l7Update.ok (fc spec_l1Draw.ok (fc spec_l7Delete.ok (fn_nil _))))))))
end spec_l7Pages
namespace spec_l7Bent
abbrev Arg:Type:=L1Src×Unit
abbrev Out:Type:=(List (List UInt8))×L1Src×Unit
abbrev ps:PQ:=[(.mutp (roMd tL1Src),tL1Src)]
noncomputable def D:FD:={ fn:=f84,tl:=TL0,ps:=ps,rs:=[((.slc (.slc u8)),(.slc true (roMd (.slc u8))))],gl:=[(99,spec_l1Chance.D.sig),(184,spec_l6Bent.D.sig),(185,spec_l7Pages.D.sig)],es:=[0] }
noncomputable def sem (a:Arg):Option Out:=@lift Out fun k=>D.W k a
noncomputable def p (a1:Arg):Option Out:=(spec_l1Chance.sem (a1.1,(6:Int),())).bind fun r2=>bif r2.1 then ((spec_l6Bent.sem (r2.2.1,())).bind fun r3=>some (r3.1,r3.2.1,())) else (spec_l7Pages.sem (r2.2.1,())).bind fun r4=>some (r4.1,r4.2.1,())
theorem raw_eq (k:Nat) (a1:Arg):@Eq (Option Out) (D.W k a1) (p a1):=by kernel_rfl
theorem ok:Ok prog 84 D.sig:=fd_ok func84 tlOk (by kernel_rfl) (fc spec_l1Chance.ok (fc spec_l6Bent.ok (fc spec_l7Pages.ok (fn_nil _))))
end spec_l7Bent
namespace spec_l1Bent
abbrev Arg:Type:=L1Src×Unit
abbrev Out:Type:=Row×L1Src×Unit
abbrev ps:PQ:=[(.mutp (roMd tL1Src),tL1Src)]
noncomputable def D:FD:={ fn:=f85,tl:=TL0,ps:=ps,rs:=[(tRow,(roMd tRow))],gl:=[(101,spec_l1Next.D.sig),(117,spec_l1Pick.D.sig),(186,spec_l1Draw.D.sig)],es:=[0] }
noncomputable def sem (a:Arg):Option Out:=@lift Out fun k=>D.W k a
noncomputable def p (a1:Arg):Option Out:=(spec_l1Draw.sem (a1.1,())).bind fun r2=>(spec_l1Next.sem (r2.2.1,(12:Int),())).bind fun r3=>bif decide (r3.1=(0:Int)) then ((spec_l1Pick.sem (r3.2.1,[(-1:Int),(3:Int),(4:Int)],())).bind fun r4=>some ((r4.1,r2.1.2),r4.2.1,())) else bif decide (r3.1=(1:Int)) then ((spec_l1Pick.sem (r3.2.1,[(0:Int),(99:Int),(100:Int)],())).bind fun r5=>some ((r2.1.1,r5.1,r2.1.2.2),r5.2.1,())) else bif decide (r3.1=(2:Int)) then ((spec_l1Pick.sem (r3.2.1,[(-1:Int),(1000:Int)],())).bind fun r6=>some ((r2.1.1,r2.1.2.1,r6.1,r2.1.2.2.2),r6.2.1,())) else bif decide (r3.1=(3:Int)) then ((spec_l1Next.sem (r3.2.1,(3:Int),())).bind fun r7=>if 0<=r7.1/\r7.1 < ([([65]:List UInt8),([97,98,99,100,101,102,103,104,105]:List UInt8),([97,32,98]:List UInt8)].length:Int) then (([([65]:List UInt8),([97,98,99,100,101,102,103,104,105]:List UInt8),([97,32,98]:List UInt8)][r7.1.toNat]?).bind fun x8=>some ((r2.1.1,r2.1.2.1,r2.1.2.2.1,x8,r2.1.2.2.2.2),r7.2.1,())) else none) else some (r2.1,r3.2.1,())
theorem raw_eq (k:Nat) (a1:Arg):@Eq (Option Out) (D.W k a1) (p a1):=by kernel_rfl
theorem ok:Ok prog 85 D.sig:=fd_ok func85 tlOk (by kernel_rfl) (fc spec_l1Next.ok (fc spec_l1Pick.ok (fc spec_l1Draw.ok (fn_nil _))))
end spec_l1Bent
namespace impl_slots
abbrev Arg:Type:=(List UInt8)×Unit
abbrev Out:Type:=Int×Unit
abbrev ps:PQ:=[(.ro,(.slc u8))]
noncomputable def D:FD:={ fn:=f188,tl:=TL0,ps:=ps,rs:=[(i64,(roMd i64))] }
noncomputable def sem (a:Arg):Option Out:=@lift Out fun k=>D.W k a
noncomputable def p (a1:Arg):Option Out:=(a1.1[0]?).bind fun x2=>some (w64 (x2.toNat:Int),())
theorem raw_eq (k:Nat) (a1:Arg):@Eq (Option Out) (D.W k a1) (p a1):=by kernel_rfl
theorem ok:Ok prog 188 D.sig:=fd_ok func188 tlOk (by kernel_rfl) (fn_nil _)
end impl_slots
namespace impl_spot
abbrev Arg:Type:=(List UInt8)×Int×Unit
abbrev Out:Type:=Int×Int×Unit
abbrev ps:PQ:=[(.ro,(.slc u8)),(.ro,i64)]
noncomputable def D:FD:={ fn:=f286,tl:=TL0,ps:=ps,rs:=[(i64,(roMd i64)),(i64,(roMd i64))],od:=[(1,[0,1,2,3,4,5,6,7,8,9,10,11,12,13,14,15])] }
noncomputable def sem (a:Arg):Option Out:=@lift Out fun k=>D.W k a
noncomputable def p (a1:Arg):Option Out:=if 0<=w64 ((2:Int)+(w64 ((2:Int)*a1.2.1))) then ((a1.1[(w64 ((2:Int)+(w64 ((2:Int)*a1.2.1)))).toNat]?).bind fun x2=>if 0<=w64 ((3:Int)+(w64 ((2:Int)*a1.2.1))) then ((a1.1[(w64 ((3:Int)+(w64 ((2:Int)*a1.2.1)))).toNat]?).bind fun x3=>some (w64 (x2.toNat:Int),w64 (x3.toNat:Int),())) else none) else none
theorem raw_eq (k:Nat) (a1:Arg):@Eq (Option Out) (D.W k a1) (p a1):=by kernel_rfl
theorem ok:Ok prog 286 D.sig:=fd_ok func286 tlOk (by kernel_rfl) (fn_nil _)
end impl_spot
namespace impl_PageFault
abbrev Arg:Type:=(List UInt8)×Unit
abbrev Out:Type:=Int×Unit
abbrev ps:PQ:=[(.ro,(.slc u8))]
noncomputable def D:FD:={ fn:=f187,tl:=TL0,ps:=ps,rs:=[(i64,(roMd i64))],gl:=[(188,impl_slots.D.sig),(286,impl_spot.D.sig)],lv:=[(7,[0,3,4,35,36]),(15,[0,3,8,66,67]),(19,[0,3,8,10,11,12,66,67])],lx:=[(0,[0,3]),(2,[0,3]),(4,[0,3,8,66,67])],od:=[(3,[0,2,3,4,5,1,6,7])] }
noncomputable def sem (a:Arg):Option Out:=@lift Out fun k=>D.W k a
noncomputable def T0 (a1:Arg) (c405:Int) (c406:Int) (v404:Int):St:={ n:=101,sl:=[(0,.val (.slc u8) a1.1),(3,.val i64 c405),(4,.val i64 c406),(35,.val i64 c405),(36,.val i64 v404)],vr:=[],lent:=[] }
noncomputable def S0 (rec:RT Out) (a1:Arg) (c405:Int) (c406:Int):(Int)->Option Out:=fun v404=>rec (T0 a1 c405 c406 v404)
noncomputable def X0_0 (K:KT Out) (a1:Arg) (c405:Int) (c406:Int):(Unit)->Option Out:=fun z=>K (.exit 0) ({ n:=101,sl:=[(0,.val (.slc u8) a1.1),(3,.val i64 c405)],vr:=[],lent:=[] })
noncomputable def b0 (self:Int->Option Out) (e0:(Unit)->Option Out) (a1:Arg) (c405:Int) (c406:Int) (v404:Int):Option Out:=bif decide (v404 < c405) then ((impl_spot.sem (a1.1,v404,())).bind fun r607=>bif !((decide (r607.1=(0:Int))) == (decide (r607.2.1=(0:Int)))) then (some ((3:Int),())) else bif !decide (r607.1=(0:Int)) then (bif decide (r607.1 < c406) then (some ((3:Int),())) else bif decide ((64:Int) < w64 (r607.1+r607.2.1)) then (some ((3:Int),())) else self (w64 (v404+(1:Int)))) else bif decide ((64:Int) < w64 (r607.1+r607.2.1)) then (some ((3:Int),())) else self (w64 (v404+(1:Int)))) else e0 ()
noncomputable abbrev B0 (_:Nat):=b0
theorem B0_eq (k:Nat) (rec:RT Out) (K:KT Out) (a1:Arg) (c405:Int) (c406:Int) (v404:Int):D.N k [1,1,1,1,0,1,0,0] (T0 a1 c405 c406 v404) (loopC rec (keepF [0,3,4,35,36] []) K)=b0 (S0 rec a1 c405 c406) (X0_0 K a1 c405 c406) a1 c405 c406 v404:=by kernel_rfl
noncomputable def T1 (a1:Arg) (v1009:(List UInt8)×Int×(List Bool)×Int×Int):St:={ n:=101,sl:=[(0,.val (.slc u8) v1009.1),(3,.val i64 v1009.2.1),(8,.box (.arr 64 .bool) (roMd (.arr 64 .bool)) [] v1009.2.2.1),(66,.val i64 v1009.2.2.2.1),(67,.val i64 v1009.2.2.2.2)],vr:=[],lent:=[] }
noncomputable def S1 (rec:RT Out) (a1:Arg):((List UInt8)×Int×(List Bool)×Int×Int)->Option Out:=fun v1009=>rec (T1 a1 v1009)
noncomputable def X1_2 (K:KT Out) (a1:Arg):((List UInt8)×Int)->Option Out:=fun z=>K (.exit 2) ({ n:=101,sl:=[(0,.val (.slc u8) z.1),(3,.val i64 z.2)],vr:=[],lent:=[] })
noncomputable def T2 (a1:Arg) (c1612:List UInt8) (c1613:Int) (c1614:Int) (c1615:Int) (c1616:Int) (c1617:Int) (v1611:(List Bool)×Int):St:={ n:=101,sl:=[(0,.val (.slc u8) c1612),(3,.val i64 c1613),(8,.box (.arr 64 .bool) (roMd (.arr 64 .bool)) [] v1611.1),(10,.val i64 c1614),(11,.val i64 c1615),(12,.val i64 v1611.2),(66,.val i64 c1616),(67,.val i64 c1617)],vr:=[],lent:=[] }
noncomputable def b2 (self:((List Bool)×Int)->Option Out) (e4:(List Bool)->Option Out) (a1:Arg) (c1612:List UInt8) (c1613:Int) (c1614:Int) (c1615:Int) (c1616:Int) (c1617:Int) (v1611:(List Bool)×Int):Option Out:=bif decide (v1611.2 < w64 (c1614+c1615)) then (if 0<=v1611.2/\v1611.2 < (v1611.1.length:Int) then ((v1611.1[v1611.2.toNat]?).bind fun x1818=>bif x1818 then (some ((8:Int),())) else if 0<=v1611.2/\v1611.2 < (v1611.1.length:Int) then ((v1611.1[v1611.2.toNat]?).bind fun x1819=>self (v1611.1.set v1611.2.toNat true,w64 (v1611.2+(1:Int)))) else none) else none) else e4 v1611.1
noncomputable abbrev B2 (_:Nat):=b2
noncomputable def q1 (self:((List UInt8)×Int×(List Bool)×Int×Int)->Option Out) (e2:((List UInt8)×Int)->Option Out) (a1:Arg) (c1612:List UInt8) (c1613:Int) (c1614:Int) (c1615:Int) (c1616:Int) (c1617:Int) (z1820:(List Bool)):Option Out:=self (c1612,c1613,z1820,c1616,w64 (c1617+(1:Int)))
noncomputable abbrev Q1 (_:Nat):=q1
noncomputable def s2 (k:Nat) (rec:RT Out) (K:KT Out) (a1:Arg):(List UInt8)->Int->Int->Int->Int->Int->((List Bool)×Int)->Option Out:=fun c1612 c1613 c1614 c1615 c1616 c1617=>fun v1611=>D.L k [1,1,1,1,1,1,0,1,0,0,1,1,0,0,1,1,1,0,0] [0,3,8,10,11,12,66,67] [] (blockC 4 (blockC 3 (seqC (D.N k [1,1,1,1,1,1,0,1,0,0,1,1,1]) (loopC rec (keepF [0,3,8,66,67] []) K)))) (T2 a1 c1612 c1613 c1614 c1615 c1616 c1617 v1611)
noncomputable def r2 (k:Nat) (self:((List UInt8)×Int×(List Bool)×Int×Int)->Option Out) (e2:((List UInt8)×Int)->Option Out) (a1:Arg):(List UInt8)->Int->Int->Int->Int->Int->((List Bool)×Int)->Option Out:=fun c1612 c1613 c1614 c1615 c1616 c1617=>rawIter (fun w v=>B2 k w (Q1 k self e2 a1 c1612 c1613 c1614 c1615 c1616 c1617) a1 c1612 c1613 c1614 c1615 c1616 c1617 v) k
theorem s2_eq (k:Nat) (rec:RT Out) (K:KT Out) (a1:Arg):s2 k rec K a1=r2 k (S1 rec a1) (X1_2 K a1) a1:=
 funext fun c1612=>funext fun c1613=>funext fun c1614=>funext fun c1615=>funext fun c1616=>funext fun c1617=>funext fun v1611=>iter_raw _ _ _ (T2 a1 c1612 c1613 c1614 c1615 c1616 c1617) _ (fun rec v=>by kernel_rfl) k v1611
noncomputable def b1 (self:((List UInt8)×Int×(List Bool)×Int×Int)->Option Out) (e2:((List UInt8)×Int)->Option Out) (l2:(List UInt8)->Int->Int->Int->Int->Int->((List Bool)×Int)->Option Out) (a1:Arg) (v1009:(List UInt8)×Int×(List Bool)×Int×Int):Option Out:=bif decide (v1009.2.2.2.2 < v1009.2.2.2.1) then ((impl_spot.sem (v1009.1,v1009.2.2.2.2,())).bind fun r1210=>l2 v1009.1 v1009.2.1 r1210.1 r1210.2.1 v1009.2.2.2.1 v1009.2.2.2.2 (v1009.2.2.1,r1210.1)) else e2 (v1009.1,v1009.2.1)
noncomputable def B1 (k:Nat) (self:((List UInt8)×Int×(List Bool)×Int×Int)->Option Out) (e2:((List UInt8)×Int)->Option Out) (a1:Arg) (v1009:(List UInt8)×Int×(List Bool)×Int×Int):Option Out:=b1 self e2 (r2 k self e2 a1) a1 v1009
theorem B1_eq (k:Nat) (rec:RT Out) (K:KT Out) (a1:Arg) (v1009:(List UInt8)×Int×(List Bool)×Int×Int):D.N k [1,1,1,1,1,1,0,1,0,0] (T1 a1 v1009) (loopC rec (keepF [0,3,8,66,67] []) K)=B1 k (S1 rec a1) (X1_2 K a1) a1 v1009:=
 Eq.trans (b:=b1 (S1 rec a1) (X1_2 K a1) (s2 k rec K a1) a1 v1009) (by kernel_rfl) (by rw[s2_eq];rfl)
noncomputable def q2 (a1:Arg) (z1821:((List UInt8)×Int)):Option Out:=bif decide ((0:Int) < z1821.2) then (if 0<=w64 ((w64 ((2:Int)*z1821.2))+(1:Int)) then ((z1821.1[(w64 ((w64 ((2:Int)*z1821.2))+(1:Int))).toNat]?).bind fun x1822=>bif decide ((x1822.toNat:Int)=(0:Int)) then (some ((8:Int),())) else some ((0:Int),())) else none) else some ((0:Int),())
noncomputable abbrev Q2 (_:Nat):=q2
theorem Q2_eq (k:Nat) (a1:Arg) (z1821:((List UInt8)×Int)):X1_2 (blockC 2 (seqC (D.N k [1,1,1,1,1,1,1]) D.K0)) a1 z1821=q2 a1 z1821:=by kernel_rfl
noncomputable def s1 (k:Nat) (a1:Arg) (c405:Int) (c406:Int):((List UInt8)×Int×(List Bool)×Int×Int)->Option Out:=fun v1009=>D.L k [1,1,1,1,1,1,0,1,0,0] [0,3,8,66,67] [] (blockC 2 (seqC (D.N k [1,1,1,1,1,1,1]) D.K0)) (T1 a1 v1009)
noncomputable def r1 (k:Nat) (a1:Arg) (c405:Int) (c406:Int):((List UInt8)×Int×(List Bool)×Int×Int)->Option Out:=rawIter (fun w v=>B1 k w (Q2 k a1) a1 v) k
theorem s1_eq (k:Nat) (a1:Arg) (c405:Int) (c406:Int):s1 k a1 c405 c406=r1 k a1 c405 c406:=by
 funext v1009;
 have h2:X1_2 (blockC 2 (seqC (D.N k [1,1,1,1,1,1,1]) D.K0)) a1=Q2 k a1:=funext fun z=>Q2_eq k a1 z
 refine (iter_raw _ _ _ (T1 a1) (fun self v=>B1 k self (X1_2 (blockC 2 (seqC (D.N k [1,1,1,1,1,1,1]) D.K0)) a1) a1 v) (fun rec v=>B1_eq k rec (blockC 2 (seqC (D.N k [1,1,1,1,1,1,1]) D.K0)) a1 v) k v1009).trans ?_
 rw[h2]
 rfl
noncomputable def q0 (l1:((List UInt8)×Int×(List Bool)×Int×Int)->Option Out) (a1:Arg) (c405:Int) (c406:Int) (z608:(Unit)):Option Out:=l1 (a1.1,c405,List.replicate 64 false,c405,(0:Int))
noncomputable def Q0 (k:Nat) (a1:Arg) (c405:Int) (c406:Int) (z608:(Unit)):Option Out:=q0 (r1 k a1 c405 c406) a1 c405 c406 z608
theorem Q0_eq (k:Nat) (a1:Arg) (c405:Int) (c406:Int) (z608:(Unit)):X0_0 (blockC 0 (seqC (D.N k [1,1,1,1,1]) D.K0)) a1 c405 c406 z608=Q0 k a1 c405 c406 z608:=
 Eq.trans (b:=q0 (s1 k a1 c405 c406) a1 c405 c406 z608) (by kernel_rfl) (by rw[s1_eq];rfl)
noncomputable def s0 (k:Nat) (a1:Arg):Int->Int->(Int)->Option Out:=fun c405 c406=>fun v404=>D.L k [1,1,1,1,0,1,0,0] [0,3,4,35,36] [] (blockC 0 (seqC (D.N k [1,1,1,1,1]) D.K0)) (T0 a1 c405 c406 v404)
noncomputable def r0 (k:Nat) (a1:Arg):Int->Int->(Int)->Option Out:=fun c405 c406=>rawIter (fun w v=>B0 k w (Q0 k a1 c405 c406) a1 c405 c406 v) k
theorem s0_eq (k:Nat) (a1:Arg):s0 k a1=r0 k a1:=by
 funext c405;funext c406;funext v404;
 have h0:X0_0 (blockC 0 (seqC (D.N k [1,1,1,1,1]) D.K0)) a1 c405 c406=Q0 k a1 c405 c406:=funext fun z=>Q0_eq k a1 c405 c406 z
 refine (iter_raw _ _ _ (T0 a1 c405 c406) (fun self v=>B0 k self (X0_0 (blockC 0 (seqC (D.N k [1,1,1,1,1]) D.K0)) a1 c405 c406) a1 c405 c406 v) (fun rec v=>B0_eq k rec (blockC 0 (seqC (D.N k [1,1,1,1,1]) D.K0)) a1 c405 c406 v) k v404).trans ?_
 rw[h0]
 rfl
noncomputable def p (l0:Int->Int->(Int)->Option Out) (a1:Arg):Option Out:=bif !decide ((a1.1.length:Int)=(64:Int)) then (some ((1:Int),())) else (a1.1[1]?).bind fun x2=>(impl_slots.sem (a1.1,())).bind fun r3=>bif decide ((16:Int) < r3.1) then (some ((3:Int),())) else bif decide (w64 (x2.toNat:Int) < w64 ((2:Int)+(w64 ((2:Int)*r3.1)))) then (some ((3:Int),())) else bif decide ((64:Int) < w64 (x2.toNat:Int)) then (some ((3:Int),())) else l0 r3.1 (w64 (x2.toNat:Int)) (0:Int)
theorem raw_eq (k:Nat) (a1:Arg):@Eq (Option Out) (D.W k a1) (p (r0 k a1) a1):=
 Eq.trans (b:=p (s0 k a1) a1) (by kernel_rfl) (by rw[s0_eq])
theorem ok:Ok prog 187 D.sig:=fd_ok func187 tlOk (by kernel_rfl) (fc impl_slots.ok (fc impl_spot.ok (fn_nil _)))
end impl_PageFault
namespace impl_hasSlot
abbrev Arg:Type:=(List UInt8)×Int×Unit
abbrev Out:Type:=Bool×Unit
abbrev ps:PQ:=[(.ro,(.slc u8)),(.ro,i64)]
noncomputable def D:FD:={ fn:=f189,tl:=TL0,ps:=ps,rs:=[(.bool,(roMd .bool))],gl:=[(188,impl_slots.D.sig)] }
noncomputable def sem (a:Arg):Option Out:=@lift Out fun k=>D.W k a
noncomputable def p (a1:Arg):Option Out:=bif decide ((0:Int)<=a1.2.1) then ((impl_slots.sem (a1.1,())).bind fun r2=>bif decide (a1.2.1 < r2.1) then (if 0<=w64 ((3:Int)+(w64 ((2:Int)*a1.2.1))) then ((a1.1[(w64 ((3:Int)+(w64 ((2:Int)*a1.2.1)))).toNat]?).bind fun x3=>some (!decide ((x3.toNat:Int)=(0:Int)),())) else none) else some (false,())) else some (false,())
theorem raw_eq (k:Nat) (a1:Arg):@Eq (Option Out) (D.W k a1) (p a1):=by kernel_rfl
theorem ok:Ok prog 189 D.sig:=fd_ok func189 tlOk (by kernel_rfl) (fc impl_slots.ok (fn_nil _))
end impl_hasSlot
namespace impl_in
abbrev Arg:Type:=Int×Int×Int×Unit
abbrev Out:Type:=Bool×Unit
abbrev ps:PQ:=[(.ro,i64),(.ro,i64),(.ro,i64)]
noncomputable def D:FD:={ fn:=f119,tl:=TL0,ps:=ps,rs:=[(.bool,(roMd .bool))] }
noncomputable def sem (a:Arg):Option Out:=@lift Out fun k=>D.W k a
noncomputable def p (a1:Arg):Option Out:=bif decide (a1.2.1<=a1.1) then (some (decide (a1.1<=a1.2.2.1),())) else some (false,())
theorem raw_eq (k:Nat) (a1:Arg):@Eq (Option Out) (D.W k a1) (p a1):=by kernel_rfl
theorem ok:Ok prog 119 D.sig:=fd_ok func119 tlOk (by kernel_rfl) (fn_nil _)
end impl_in
namespace impl_RowFault
abbrev Arg:Type:=Row×Unit
abbrev Out:Type:=Int×Unit
abbrev ps:PQ:=[(.ro,tRow)]
noncomputable def D:FD:={ fn:=f87,tl:=TL0,ps:=ps,rs:=[(i64,(roMd i64))],gl:=[(119,impl_in.D.sig)],lv:=[(6,[1,26,27])],lx:=[(0,[])] }
noncomputable def sem (a:Arg):Option Out:=@lift Out fun k=>D.W k a
noncomputable def T0 (a1:Arg) (v405:Int):St:={ n:=43,sl:=[(1,.box tRow (roMd tRow) [] a1.1),(26,.val i64 (a1.1.2.2.2.1.length:Int)),(27,.val i64 v405)],vr:=[],lent:=[] }
noncomputable def b0 (self:Int->Option Out) (e0:(Unit)->Option Out) (a1:Arg) (v405:Int):Option Out:=bif decide (v405 < (a1.1.2.2.2.1.length:Int)) then (if 0<=v405 then ((a1.1.2.2.2.1[v405.toNat]?).bind fun x606=>bif decide ((x606.toNat:Int) < (97:Int)) then (some ((5:Int),())) else if 0<=v405 then ((a1.1.2.2.2.1[v405.toNat]?).bind fun x607=>bif decide ((122:Int) < (x607.toNat:Int)) then (some ((5:Int),())) else self (w64 (v405+(1:Int)))) else none) else none) else e0 ()
noncomputable abbrev B0 (_:Nat):=b0
noncomputable def q0 (a1:Arg) (z608:(Unit)):Option Out:=some ((0:Int),())
noncomputable abbrev Q0 (_:Nat):=q0
noncomputable def s0 (k:Nat) (a1:Arg):(Int)->Option Out:=fun v405=>D.L k [1,1,1,0,1,0,0] [1,26,27] [] (blockC 0 (seqC (D.N k [1,1,1,1]) D.K0)) (T0 a1 v405)
noncomputable def r0 (k:Nat) (a1:Arg):(Int)->Option Out:=rawIter (fun w v=>B0 k w (Q0 k a1) a1 v) k
theorem s0_eq (k:Nat) (a1:Arg):s0 k a1=r0 k a1:=
 funext fun v405=>iter_raw _ _ _ (T0 a1) _ (fun rec v=>by kernel_rfl) k v405
noncomputable def p (l0:(Int)->Option Out) (a1:Arg):Option Out:=(impl_in.sem (a1.1.1,(0:Int),(3:Int),())).bind fun r2=>bif !r2.1 then (some ((3:Int),())) else (impl_in.sem (a1.1.2.1,(1:Int),(99:Int),())).bind fun r3=>bif !r3.1 then (some ((3:Int),())) else (impl_in.sem (a1.1.2.2.1,(0:Int),(999:Int),())).bind fun r4=>bif !r4.1 then (some ((3:Int),())) else bif decide ((8:Int) < (a1.1.2.2.2.1.length:Int)) then (some ((5:Int),())) else l0 (0:Int)
theorem raw_eq (k:Nat) (a1:Arg):@Eq (Option Out) (D.W k a1) (p (r0 k a1) a1):=
 Eq.trans (b:=p (s0 k a1) a1) (by kernel_rfl) (by rw[s0_eq])
theorem ok:Ok prog 87 D.sig:=fd_ok func87 tlOk (by kernel_rfl) (fc impl_in.ok (fn_nil _))
end impl_RowFault
namespace impl_UnpackCell
abbrev Arg:Type:=(List UInt8)×Unit
abbrev Out:Type:=CellResult×Unit
abbrev ps:PQ:=[(.ro,(.slc u8))]
noncomputable def D:FD:={ fn:=f190,tl:=TL0,ps:=ps,rs:=[(tCellResult,(roMd tCellResult))],gl:=[(87,impl_RowFault.D.sig)],od:=[(2,[0,1,2,3,4,5,6,7,8,9]),(5,[0,1,2,3,4,5,6,7,8,9,10,11,12,13,14,15,16,17,18,19,20,21,22,23]),(8,[0,1,2,3,4,5,6])] }
noncomputable def sem (a:Arg):Option Out:=@lift Out fun k=>D.W k a
noncomputable def p (a1:Arg):Option Out:=let j25:Option Out:=let j37:Option Out:=(a1.1[1]?).bind fun x38=>(a1.1[2]?).bind fun x39=>(a1.1[3]?).bind fun x40=>(a1.1[4]?).bind fun x41=>if 0<=(6:Int)/\(6:Int)<=(a1.1.length:Int) then (let y42:=w64 ((BitVec.ofInt 64 (w64 ((w64 (x40.toNat:Int))*2 ^ 8)) ||| BitVec.ofInt 64 (w64 (x41.toNat:Int))).toNat:Int);(impl_RowFault.sem ((w64 (x38.toNat:Int),w64 (x39.toNat:Int),y42,(a1.1.take a1.1.length).drop 6,()),())).bind fun r43=>bif !decide (r43.1=(0:Int)) then (some (((5:Int),(0:Int),(0:Int),(0:Int),((0:Int),(0:Int),(0:Int),([]:List UInt8),()),()),())) else (a1.1[0]?).bind fun x44=>some (((0:Int),w64 (x44.toNat:Int),(0:Int),(0:Int),(w64 (x38.toNat:Int),w64 (x39.toNat:Int),y42,(a1.1.take a1.1.length).drop 6,()),()),())) else none;bif decide ((a1.1.length:Int) < (6:Int)) then (some (((5:Int),(0:Int),(0:Int),(0:Int),((0:Int),(0:Int),(0:Int),([]:List UInt8),()),()),())) else (a1.1[0]?).bind fun x26=>bif !decide ((x26.toNat:Int)=(0:Int)) then ((a1.1[0]?).bind fun x27=>bif !decide ((x27.toNat:Int)=(2:Int)) then (some (((5:Int),(0:Int),(0:Int),(0:Int),((0:Int),(0:Int),(0:Int),([]:List UInt8),()),()),())) else (a1.1[5]?).bind fun x28=>bif !decide ((a1.1.length:Int)=w64 ((6:Int)+(w64 (x28.toNat:Int)))) then (some (((5:Int),(0:Int),(0:Int),(0:Int),((0:Int),(0:Int),(0:Int),([]:List UInt8),()),()),())) else j37) else (a1.1[5]?).bind fun x29=>bif !decide ((a1.1.length:Int)=w64 ((6:Int)+(w64 (x29.toNat:Int)))) then (some (((5:Int),(0:Int),(0:Int),(0:Int),((0:Int),(0:Int),(0:Int),([]:List UInt8),()),()),())) else j37;bif decide ((a1.1.length:Int)=(3:Int)) then ((a1.1[0]?).bind fun x2=>bif decide ((x2.toNat:Int)=(1:Int)) then ((a1.1[1]?).bind fun x3=>bif decide ((x3.toNat:Int) < (12:Int)) then ((a1.1[2]?).bind fun x4=>bif decide ((x4.toNat:Int) < (16:Int)) then ((a1.1[1]?).bind fun x5=>(a1.1[2]?).bind fun x6=>some (((0:Int),(1:Int),w64 (x5.toNat:Int),w64 (x6.toNat:Int),((0:Int),(0:Int),(0:Int),([]:List UInt8),()),()),())) else j25) else j25) else j25) else j25
theorem raw_eq (k:Nat) (a1:Arg):@Eq (Option Out) (D.W k a1) (p a1):=by kernel_rfl
theorem ok:Ok prog 190 D.sig:=fd_ok func190 tlOk (by kernel_rfl) (fc impl_RowFault.ok (fn_nil _))
end impl_UnpackCell
namespace impl_cellAt
abbrev Arg:Type:=(List UInt8)×Int×Unit
abbrev Out:Type:=(List UInt8)×Unit
abbrev ps:PQ:=[(.ro,(.slc u8)),(.ro,i64)]
noncomputable def D:FD:={ fn:=f191,tl:=TL0,ps:=ps,rs:=[((.slc u8),(roMd (.slc u8)))],gl:=[(286,impl_spot.D.sig)] }
noncomputable def sem (a:Arg):Option Out:=@lift Out fun k=>D.W k a
noncomputable def p (a1:Arg):Option Out:=(impl_spot.sem (a1.1,a1.2.1,())).bind fun r2=>if 0<=r2.1/\r2.1<=w64 (r2.1+r2.2.1)/\w64 (r2.1+r2.2.1)<=(a1.1.length:Int) then (some ((a1.1.take (w64 (r2.1+r2.2.1)).toNat).drop r2.1.toNat,())) else none
theorem raw_eq (k:Nat) (a1:Arg):@Eq (Option Out) (D.W k a1) (p a1):=by kernel_rfl
theorem ok:Ok prog 191 D.sig:=fd_ok func191 tlOk (by kernel_rfl) (fc impl_spot.ok (fn_nil _))
end impl_cellAt
namespace impl_IsBefore
abbrev Arg:Type:=Row×Row×Unit
abbrev Out:Type:=Bool×Unit
abbrev ps:PQ:=[(.ro,tRow),(.ro,tRow)]
noncomputable def D:FD:={ fn:=f216,tl:=TL0,ps:=ps,rs:=[(.bool,(roMd .bool))] }
noncomputable def sem (a:Arg):Option Out:=@lift Out fun k=>D.W k a
noncomputable def p (a1:Arg):Option Out:=bif decide (a1.1.1 < a1.2.1.1) then (some (true,())) else bif decide (a1.1.1=a1.2.1.1) then (some (decide (a1.1.2.1 < a1.2.1.2.1),())) else some (false,())
theorem raw_eq (k:Nat) (a1:Arg):@Eq (Option Out) (D.W k a1) (p a1):=by kernel_rfl
theorem ok:Ok prog 216 D.sig:=fd_ok func216 tlOk (by kernel_rfl) (fn_nil _)
end impl_IsBefore
namespace impl_order
abbrev Arg:Type:=Row×Row×Unit
abbrev Out:Type:=Int×Unit
abbrev ps:PQ:=[(.ro,tRow),(.ro,tRow)]
noncomputable def D:FD:={ fn:=f212,tl:=TL0,ps:=ps,rs:=[(i64,(roMd i64))],gl:=[(216,impl_IsBefore.D.sig)] }
noncomputable def sem (a:Arg):Option Out:=@lift Out fun k=>D.W k a
noncomputable def p (a1:Arg):Option Out:=(impl_IsBefore.sem (a1.1,a1.2.1,())).bind fun r2=>bif r2.1 then (some ((-1:Int),())) else (impl_IsBefore.sem (a1.2.1,a1.1,())).bind fun r3=>bif r3.1 then (some ((1:Int),())) else some ((0:Int),())
theorem raw_eq (k:Nat) (a1:Arg):@Eq (Option Out) (D.W k a1) (p a1):=by kernel_rfl
theorem ok:Ok prog 212 D.sig:=fd_ok func212 tlOk (by kernel_rfl) (fc impl_IsBefore.ok (fn_nil _))
end impl_order
namespace impl_look_1
abbrev Arg:Type:=Seen×Seen×Unit
abbrev Out:Type:=Int×Unit
abbrev ps:PQ:=[(.ro,tSeen),(.ro,tSeen)]
noncomputable def D:FD:={ fn:=f288,tl:=TL0,ps:=ps,rs:=[(i64,(roMd i64))],gl:=[(212,impl_order.D.sig)] }
noncomputable def sem (a:Arg):Option Out:=@lift Out fun k=>D.W k a
noncomputable def p (a1:Arg):Option Out:=(impl_order.sem (a1.1.1,a1.2.1.1,())).bind fun r2=>some (r2.1,())
theorem raw_eq (k:Nat) (a1:Arg):@Eq (Option Out) (D.W k a1) (p a1):=by kernel_rfl
theorem ok:Ok prog 288 D.sig:=fd_ok func288 tlOk (by kernel_rfl) (fc impl_order.ok (fn_nil _))
end impl_look_1
namespace slices_SortFunc_seen
open Go.Proofs
abbrev Arg:Type:=(List Seen)×(Nat×Int)×Unit
abbrev Out:Type:=(List Seen)×Unit
noncomputable def sem (a:Arg):Option Out:=(sortF tSeen impl_look_1.sem a.1).map fun r=>(r,())
noncomputable def sig:Sig:={ ps:=[(.muts (ownMd (.slc tSeen)),.slc tSeen),(.fix 288,.fn)],rs:=[],F:=sem }
def sortlay_ren:Go.Shelf.Ren:=⟨fun | 6=>287 | 15=>358 | 14=>357 | 28=>396 | 29=>397 | 20=>388 | 21=>389 | 22=>390 | 23=>391 | 24=>392 | 25=>393 | 26=>394 | 27=>395 | 46=>401 | 47=>402 | 48=>403 | 49=>404 | 50=>405 | 57=>407 | n=>n,fun | 22=>142 | 24=>147 | 25=>370 | 3=>3 | 39=>364 | 0=>0 | 53=>454 | 55=>456 | 4=>4 | 46=>448 | 45=>447 | 50=>289 | 5=>5 | 9=>9 | 66=>458 | 70=>462 | 76=>465 | 77=>361 | n=>n,fun | n=>n⟩
theorem sortlay:Go.Proofs.SlLaysF0.n6 Tryz.prog sortlay_ren:={
 mixed:=by kernel_rfl
 f6:=⟨Tryz.f287.name,by decide,Tryz.func287.trans (congrArg some (by kernel_rfl))⟩
 f14:=⟨Tryz.f357.name,by decide,Tryz.func357.trans (congrArg some (by kernel_rfl))⟩
 f15:=Tryz.func358.trans (congrArg some (by kernel_rfl))
 f20:=⟨Tryz.f388.name,by decide,Tryz.func388.trans (congrArg some (by kernel_rfl))⟩
 f21:=⟨Tryz.f389.name,by decide,Tryz.func389.trans (congrArg some (by kernel_rfl))⟩
 f22:=⟨Tryz.f390.name,by decide,Tryz.func390.trans (congrArg some (by kernel_rfl))⟩
 f23:=⟨Tryz.f391.name,by decide,Tryz.func391.trans (congrArg some (by kernel_rfl))⟩
 f24:=⟨Tryz.f392.name,by decide,Tryz.func392.trans (congrArg some (by kernel_rfl))⟩
 f25:=⟨Tryz.f393.name,by decide,Tryz.func393.trans (congrArg some (by kernel_rfl))⟩
 f26:=⟨Tryz.f394.name,by decide,Tryz.func394.trans (congrArg some (by kernel_rfl))⟩
 f27:=⟨Tryz.f395.name,by decide,Tryz.func395.trans (congrArg some (by kernel_rfl))⟩
 f28:=Tryz.func396.trans (congrArg some (by kernel_rfl))
 f29:=Tryz.func397.trans (congrArg some (by kernel_rfl))
 f46:=⟨Tryz.f401.name,by decide,Tryz.func401.trans (congrArg some (by kernel_rfl))⟩
 f47:=Tryz.func402.trans (congrArg some (by kernel_rfl))
 f48:=Tryz.func403.trans (congrArg some (by kernel_rfl))
 f49:=⟨Tryz.f404.name,by decide,Tryz.func404.trans (congrArg some (by kernel_rfl))⟩
 f50:=⟨Tryz.f405.name,by decide,Tryz.func405.trans (congrArg some (by kernel_rfl))⟩
 f57:=⟨Tryz.f407.name,by decide,Tryz.func407.trans (congrArg some (by kernel_rfl))⟩
 t0:=Tryz.underlying0
 a0:=Tryz.isAgg0
 z0:=Tryz.sizeOf0
 v0:=Tryz.zeroValue0
 t3:=Tryz.underlying3
 a3:=Tryz.isAgg3
 z3:=Tryz.sizeOf3
 v3:=Tryz.zeroValue3
 t4:=Tryz.underlying4
 a4:=Tryz.isAgg4
 z4:=Tryz.sizeOf4
 v4:=Tryz.zeroValue4
 t5:=Tryz.underlying5
 a5:=Tryz.isAgg5
 z5:=Tryz.sizeOf5
 v5:=Tryz.zeroValue5
 t9:=Tryz.underlying9
 a9:=Tryz.isAgg9
 z9:=Tryz.sizeOf9
 v9:=Tryz.zeroValue9
 t22:=Tryz.underlying142
 a22:=Tryz.isAgg142
 z22:=Tryz.sizeOf142
 v22:=Tryz.zeroValue142
 t25:=Tryz.underlying370
 a25:=Tryz.isAgg370
 z25:=Tryz.sizeOf370
 v25:=Tryz.zeroValue370
 t39:=Tryz.underlying364
 a39:=Tryz.isAgg364
 z39:=Tryz.sizeOf364
 v39:=Tryz.zeroValue364
 t45:=Tryz.underlying447
 a45:=Tryz.isAgg447
 z45:=Tryz.sizeOf447
 v45:=Tryz.zeroValue447
 t46:=Tryz.underlying448
 a46:=Tryz.isAgg448
 z46:=Tryz.sizeOf448
 v46:=Tryz.zeroValue448
 t50:=Tryz.underlying289
 a50:=Tryz.isAgg289
 z50:=Tryz.sizeOf289
 v50:=Tryz.zeroValue289
 t53:=Tryz.underlying454
 a53:=Tryz.isAgg454
 z53:=Tryz.sizeOf454
 v53:=Tryz.zeroValue454
 t55:=Tryz.underlying456
 a55:=Tryz.isAgg456
 z55:=Tryz.sizeOf456
 v55:=Tryz.zeroValue456
 t66:=Tryz.underlying458
 a66:=Tryz.isAgg458
 z66:=Tryz.sizeOf458
 v66:=Tryz.zeroValue458
 t70:=Tryz.underlying462
 a70:=Tryz.isAgg462
 z70:=Tryz.sizeOf462
 v70:=Tryz.zeroValue462
 t76:=Tryz.underlying465
 a76:=Tryz.isAgg465
 z76:=Tryz.sizeOf465
 v76:=Tryz.zeroValue465
 t77:=Tryz.underlying361
 a77:=Tryz.isAgg361
 z77:=Tryz.sizeOf361
 v77:=Tryz.zeroValue361 }
theorem ok:Ok prog 287 sig:=sort_ok (e:=tSeen) sortlay rfl rfl (by kernel_rfl) (by decide) (g:=288) (cF:=impl_look_1.sem) impl_look_1.ok ⟨f287,func287,by kernel_rfl,by kernel_rfl,by kernel_rfl⟩
end slices_SortFunc_seen
end OT
