/- The proof's parts, merged: Functions  a body that is run on data gives the contract.. No conditions but those that each states. -/
import Derived.Test.YtledflocbohofaaGreatSc
import Derived.ProofKit
import Derived.Deep.Slices
import Derived.Laws.BitsLemmas
import Derived.Shelf.SlSortCmp.NoneTotal
import Derived.Test.YtledflocbohofaaGreatProg
import Derived.KernelRfl
set_option linter.unusedVariables false
set_option linter.unusedSimpArgs false
namespace OT
open Go
section
variable {P:Program} {w:World} {A:Cells} {R:Type} {x:R} {E:Env}
theorem init_len:∀ (ps:List (PM×Ty)) (v:(tupT (ps.map (·.2))).den),(initSlots ps v).length=ps.length
 | [],_=>rfl
 | (.ro,t)::ps,v=>by cases t <;> simp[initSlots,init_len ps v.2]
 | (.fix f,t)::ps,v=>by cases t <;> simp[initSlots,init_len ps v.2]
 | (.mutp m,t)::ps,v=>by simp[initSlots,init_len ps v.2]
 | (.muts m,t)::ps,v=>by simp[initSlots,init_len ps v.2]
 | (.eat m,t)::ps,v=>by simp[initSlots,init_len ps v.2]
 | (.eatv m,t)::ps,v=>by simp[initSlots,init_len ps v.2]
theorem args_len:∀ (ps:List (PM×Ty)) {v:(tupT (ps.map (·.2))).den} {xs:List Value} {G:FP},ArgsRel P w A ps v xs G->xs.length=ps.length
 | [],_,_,_,h=>by have h:_=[]:=h;rw[h];rfl
 | (pm,t)::ps,_,_,_,h=>by
  obtain ⟨y,ys,F1,F2,rfl,_,_,h2⟩:=h
  simp[args_len ps h2]
theorem init_ok:∀ (ps:List (PM×Ty)) {v:(tupT (ps.map (·.2))).den} {xs:List Value} {G:FP},ArgsRel P w A ps v xs G->psOk ps=true ->
  ∃ Fi:Nat->FP,(∀ b k,sumF ps.length Fi b k<=G b k)/\∀ i s,(initSlots ps v)[i]?=some s->∃ y,xs[i]?=some y/\(∀ σ a,SlotRel P A σ a w y s (Fi i))/\(∀ t m H v,s=.box t m H v->(i,i,false) ∈ lentOf 0 ps) /\
   ((i,i,true) ∈ lentOf 0 ps->∃ t m H v,s=.own t m H v):=by
 have main:∀ (ps:List (PM×Ty)) (n:Nat) {v:(tupT (ps.map (·.2))).den} {xs:List Value} {G:FP},ArgsRel P w A ps v xs G->psOk ps=true ->
   ∃ Fi:Nat->FP,(∀ b k,sumF ps.length Fi b k<=G b k)/\∀ i s,(initSlots ps v)[i]?=some s->∃ y,xs[i]?=some y/\(∀ σ a,SlotRel P A σ a w y s (Fi i))/\(∀ t m H v,s=.box t m H v->(n+i,n+i,false) ∈ lentOf n ps) /\
    ((n+i,n+i,true) ∈ lentOf n ps->∃ t m H v,s=.own t m H v):=by
  have hlt:∀ (ps:List (PM×Ty)) (n j k:Nat) (c:Bool),(j,k,c) ∈ lentOf n ps->n<=j/\j=k:=by
   intro ps
   induction ps with
   | nil=>intro n j k c h;cases h
   | cons p ps ih=>
    intro n j k c h
    obtain ⟨pm,t⟩:=p
    cases pm with
    | ro=>have:=ih (n+1) j k c h;omega
    | fix f=>have:=ih (n+1) j k c h;omega
    | eatv m=>have:=ih (n+1) j k c h;omega
    | mutp m=>
     rcases List.mem_cons.1 h with e | h
     ·injection e with e1 e2;injection e2 with e2 e3;omega
     ·have:=ih (n+1) j k c h;omega
    | eat m=>
     rcases List.mem_cons.1 h with e | h
     ·injection e with e1 e2;injection e2 with e2 e3;omega
     ·have:=ih (n+1) j k c h;omega
    | muts m=>
     rcases List.mem_cons.1 h with e | h
     ·injection e with e1 e2;injection e2 with e2 e3;omega
     ·have:=ih (n+1) j k c h;omega
  intro ps
  induction ps with
  | nil=>intro n v xs G h _;exact ⟨fun _ _ _=>0,fun b k=>Nat.zero_le _,fun i s hs=>by cases hs⟩
  | cons p ps ih=>
   intro n v xs G h hp
   obtain ⟨pm,t⟩:=p
   obtain ⟨y,ys,F1,F2,rfl,hs,ha,hr⟩:=h
   have hp':psOk ps=true:=hp
   obtain ⟨Fi,g1,g2⟩:=ih (n+1) hr hp'
   obtain ⟨s0,hs0,hrel,hbox,hown⟩:∃ s0,initSlots ((pm,t)::ps) v=s0::initSlots ps v.2/\(∀ σ a,SlotRel P A σ a w y s0 F1)/\(∀ t' m' H' v',s0=.box t' m' H' v'->∃ m,pm=.mutp m\/pm=.eat m)/\((∃ m,pm=.muts m)->∃ t' m H v,s0=.own t' m H v):=by
    cases pm with
    | ro=>
     obtain ⟨cs,h1,h2⟩:=ha
     cases t with
     | ptr e=>
      refine ⟨.cp e v.1,rfl,fun σ a=>?_,(fun _ _ _ _ e=>by cases e),fun ⟨m,e⟩=>by cases e⟩
      have hl:=Ro.length _ h2
      match cs,hl with
      | [u],_=>
       rw[mkV_one _ _ rfl] at h1
       subst h1
       exact h2
     | _=>exact ⟨.val _ v.1,rfl,fun σ a=>⟨cs,h1,h2⟩,(fun _ _ _ _ e=>by cases e),fun ⟨m,e⟩=>by cases e⟩
    | fix f=>
     obtain ⟨⟨cs,h1,h2⟩,h3⟩:=ha
     cases t with
     | fn=>
      refine ⟨.val .fn (f,v.1.2),rfl,fun σ a=>⟨cs,h1,?_⟩,(fun _ _ _ _ e=>by cases e),fun ⟨m,e⟩=>by cases e⟩
      have e:v.1=(f,v.1.2):=by have:=h3 rfl;rw[<-this]
      rw[<-e];exact h2
     | _=>exact ⟨.dead,rfl,fun σ a=>trivial,(fun _ _ _ _ e=>by cases e),fun ⟨m,e⟩=>by cases e⟩
    | mutp m=>
     obtain ⟨b,o,L,F3,h1,h2,h3,h4,h5,h6⟩:=ha
     exact ⟨.box t m [] v.1,rfl,fun σ a=>⟨b,o,L,F3,h1,h2,h3,h4,h5,h6⟩,fun _ _ _ _ _=>⟨m,.inl rfl⟩,fun ⟨m,e⟩=>by cases e⟩
    | eat m=>
     obtain ⟨b,o,L,F3,h1,h2,h3,h4,h5,h6⟩:=ha
     exact ⟨.box t m [] v.1,rfl,fun σ a=>⟨b,o,L,F3,h1,h2,h3,h4,h5,h6⟩,fun _ _ _ _ _=>⟨m,.inr rfl⟩,fun ⟨m,e⟩=>by cases e⟩
    | muts m=>
     obtain ⟨cs,h1,h2⟩:=ha
     exact ⟨.own t m [] v.1,rfl,fun σ a=>⟨cs,h1,h2⟩,(fun _ _ _ _ e=>by cases e),fun _=>⟨_,_,_,_,rfl⟩⟩
    | eatv m=>
     obtain ⟨cs,h1,h2⟩:=ha
     exact ⟨.own t m [] v.1,rfl,fun σ a=>⟨cs,h1,h2⟩,(fun _ _ _ _ e=>by cases e),fun _=>⟨_,_,_,_,rfl⟩⟩
   refine ⟨fun k=>match k with | 0=>F1 | k+1=>Fi k,fun b k=>?_,fun i s hi=>?_⟩
   ·have:sumF (ps.length+1) (fun k=>match k with | 0=>F1 | k+1=>Fi k) b k=F1 b k+sumF ps.length Fi b k:=by
     rw[Nat.add_comm,sumF_add]
     congr 1
     ·simp[sumF]
     ·refine congrFun (congrFun (sumF_congr fun j hj=>?_) b) k
      rw[Nat.add_comm]
    show sumF (ps.length+1) _ b k<=G b k
    rw[this]
    have:=hs b k;have:=g1 b k;omega
   ·rw[hs0] at hi
    cases i with
    | zero=>
     injection hi with hi
     subst hi
     refine ⟨y,rfl,hrel,fun t' m' H' v' e=>?_,fun hm=>?_⟩
     ·obtain ⟨m,rfl | rfl⟩:=hbox t' m' H' v' e
      ·exact List.mem_cons_self
      ·exact List.mem_cons_self
     ·refine hown ?_
      cases pm with
      | muts m=>exact ⟨m,rfl⟩
      | ro=>have:=hlt ps (n+1) _ _ _ hm;omega
      | fix f=>have:=hlt ps (n+1) _ _ _ hm;omega
      | eatv m=>have:=hlt ps (n+1) _ _ _ hm;omega
      | mutp m=>
       rcases List.mem_cons.1 hm with e | hm
       ·injection e with e1 e2;injection e2 with e2 e3;cases e3
       ·have:=hlt ps (n+1) _ _ _ hm;omega
      | eat m=>
       rcases List.mem_cons.1 hm with e | hm
       ·injection e with e1 e2;injection e2 with e2 e3;cases e3
       ·have:=hlt ps (n+1) _ _ _ hm;omega
    | succ i=>
     obtain ⟨y',q1,q2,q3,q4⟩:=g2 i s hi
     have hidx:n+1+i=n+(i+1):=by omega
     rw[hidx] at q3 q4
     refine ⟨y',q1,q2,fun t' m' H' v' e=>?_,fun hm=>q4 ?_⟩
     ·have:=q3 t' m' H' v' e
      cases pm with
      | ro=>exact this
      | fix f=>exact this
      | eatv m=>exact this
      | mutp m=>exact List.mem_cons_of_mem _ this
      | eat m=>exact List.mem_cons_of_mem _ this
      | muts m=>exact List.mem_cons_of_mem _ this
     ·cases pm with
      | ro=>exact hm
      | fix f=>exact hm
      | eatv m=>exact hm
      | mutp m=>
       rcases List.mem_cons.1 hm with e | hm
       ·injection e with e1 e2;omega
       ·exact hm
      | eat m=>
       rcases List.mem_cons.1 hm with e | hm
       ·injection e with e1 e2;omega
       ·exact hm
      | muts m=>
       rcases List.mem_cons.1 hm with e | hm
       ·injection e with e1 e2;omega
       ·exact hm
 intro ps v xs G h hp
 obtain ⟨Fi,g1,g2⟩:=main ps 0 h hp
 exact ⟨Fi,g1,fun i s hi=>by simpa using g2 i s hi⟩
theorem lent_idx:∀ (ps:List (PM×Ty)) (n j k:Nat) (c:Bool),(j,k,c) ∈ lentOf n ps->n<=j/\j=k/\j < n+ps.length:=by
 intro ps
 induction ps with
 | nil=>intro n j k c h;cases h
 | cons p ps ih=>
  intro n j k c h
  obtain ⟨pm,t⟩:=p
  simp only[List.length_cons]
  cases pm with
  | ro=>have:=ih (n+1) j k c h;omega
  | fix f=>have:=ih (n+1) j k c h;omega
  | eatv m=>have:=ih (n+1) j k c h;omega
  | mutp m=>
   rcases List.mem_cons.1 h with e | h
   ·injection e with e1 e2;injection e2 with e2 e3;omega
   ·have:=ih (n+1) j k c h;omega
  | eat m=>
   rcases List.mem_cons.1 h with e | h
   ·injection e with e1 e2;injection e2 with e2 e3;omega
   ·have:=ih (n+1) j k c h;omega
  | muts m=>
   rcases List.mem_cons.1 h with e | h
   ·injection e with e1 e2;injection e2 with e2 e3;omega
   ·have:=ih (n+1) j k c h;omega
theorem look_num:∀ (ss:List Slot) (n i:Nat),lookN (numbered n ss) i=if n<=i then ss[i - n]? else none
 | [],n,i=>by simp[numbered,lookN]
 | s::ss,n,i=>by
  simp only[numbered,lookN,look_num ss (n+1) i]
  by_cases hi:n=i
  ·subst hi;simp
  ·have:Nat.beq n i=false:=by
    cases hb:Nat.beq n i with
    | false=>rfl
    | true=>exact absurd (Nat.eq_of_beq_eq_true hb) hi
   simp only[this,Bool.false_eq_true,if_false]
   by_cases hle:n<=i
   ·rw[if_pos (by omega),if_pos hle]
    have e:i - n=(i - (n+1))+1:=by omega
    rw[e,List.getElem?_cons_succ]
   ·rw[if_neg (by omega),if_neg hle]
theorem begin_ok {g:Sig} {v:(tupT (g.ps.map (·.2))).den} {xs:List Value} {F0:FP} {n:Nat} (h:ArgsRel P w A g.ps v xs F0) (hp:psOk g.ps=true) (hn:g.ps.length<=n) (h1:∀ b i,F0 b i<=1) (h2:∀ b i,1<=F0 b i->¬ A b i) (h3:∀ b i,1<=F0 b i\/A b i->b < w.heap.size) :
  ∃ F,Rel0 P { w0:=w,A0:=A,F0:=F0,args:=xs.toArray } A (initSt g.ps v n) { tmps:=xs.toArray++Array.replicate (n - xs.toArray.size) undef,defers:=[] } w F:=by
 obtain ⟨Fi,g1,g2⟩:=init_ok g.ps h hp
 have hlen:=args_len g.ps h
 have hil:=init_len g.ps v
 have hget:∀ i,(initSt g.ps v n).get i=if i < n then (match (initSlots g.ps v)[i]? with | some s=>s | none=>.dead) else .dead:=fun i=>by
  unfold St.get initSt
  simp only[look_num,Nat.zero_le,if_true,Nat.sub_zero]
  by_cases hi:i < n
  ·rw[if_pos (by simpa [Nat.blt_eq] using hi),if_pos hi]
   rfl
  ·rw[if_neg (by simpa [Nat.blt_eq] using hi),if_neg hi]
 have htmp:∀ i (y:Value),xs[i]?=some y->tmp { tmps:=xs.toArray++Array.replicate (n - xs.toArray.size) undef,defers:=[] } i=y:=fun i y hy=>by
  have hi:=(List.getElem?_eq_some_iff.1 hy).1
  unfold tmp
  rw[Array.getD_eq_getD_getElem?,Array.getElem?_append_left (by simpa using hi)]
  simp[hy]
 have hsum:∀ b k,sumF n (fun i=>if i < g.ps.length then Fi i else fun _ _=>0) b k<=F0 b k:=fun b k=>by
  have e:n=g.ps.length+(n - g.ps.length):=by omega
  rw[e,sumF_add]
  have e1:=congrFun (congrFun (sumF_congr (n:=g.ps.length) (f:=fun i=>if i < g.ps.length then Fi i else fun _ _=>0) (g:=Fi) (fun j hj=>by simp only[if_pos hj])) b) k
  have e2:=congrFun (congrFun (sumF_congr (n:=n - g.ps.length) (f:=fun j=>(fun i=>if i < g.ps.length then Fi i else fun _ _=>0) (g.ps.length+j)) (g:=fun _ _ _=>0) (fun j hj=>by simp only;rw[if_neg (by omega)])) b) k
  rw[e1,e2,sumF_zero]
  exact g1 b k
 refine ⟨fun i=>if i < g.ps.length then Fi i else fun _ _=>0,?_,rfl,fun i hi=>?_,(fun d r p snap hm=>by cases hm),fun b k=>?_,fun b k hp=>?_,fun b k hp=>?_,fun i=>rfl,Ext.refl _ _,fun b k hp=>?_,fun _ _ h=>h,fun _ _ h=>.inl h,fun j k hm=>?_,fun r t m H v' hg hl=>?_,fun j k hm R hR=>?_⟩
 ·simp only[Array.size_append,List.size_toArray,Array.size_replicate,hlen,initSt];omega
 ·rw[hget]
  have hi:i < n:=hi
  rw[if_pos hi]
  cases hs:(initSlots g.ps v)[i]? with
  | none=>trivial
  | some s=>
   obtain ⟨y,q1,q2,_⟩:=g2 i s hs
   have hlt:i < g.ps.length:=by rw[<-hil];exact (List.getElem?_eq_some_iff.1 hs).1
   rw[htmp i y q1]
   simp only[if_pos hlt]
   exact q2 _ _
 ·have:=hsum b k;have:=h1 b k;show 0+sumF n _ b k<=1;omega
 ·have hp:1<=0+sumF n (fun i=>if i < g.ps.length then Fi i else fun _ _=>0) b k:=hp
  have:=hsum b k
  exact h2 b k (by omega)
 ·refine h3 b k (hp.imp (fun hp=>?_) id)
  have hp:1<=0+sumF n (fun i=>if i < g.ps.length then Fi i else fun _ _=>0) b k:=hp
  have:=hsum b k
  omega
 ·have hp:1<=0+sumF n (fun i=>if i < g.ps.length then Fi i else fun _ _=>0) b k:=hp
  have:=hsum b k
  left;show 1<=F0 b k;omega
 ·obtain ⟨_,rfl,hj⟩:=lent_idx g.ps 0 j k false hm
  have hj:j < xs.length:=by omega
  rw[htmp j xs[j] (List.getElem?_eq_getElem hj)]
  simp[hj]
 ·exfalso
  rw[hget] at hg
  split at hg
  ·cases hs:(initSlots g.ps v)[r]? with
   | none=>rw[hs] at hg;cases hg
   | some s=>
    rw[hs] at hg
    obtain ⟨y,_,_,q3,_⟩:=g2 r s hs
    exact hl r (q3 t m H v' hg)
  ·cases hg
 ·obtain ⟨_,rfl,hj⟩:=lent_idx g.ps 0 j k true hm
  have hj':j < (initSlots g.ps v).length:=by omega
  have hs:=List.getElem?_eq_getElem hj'
  obtain ⟨y,q1,q2,_,q4⟩:=g2 j _ hs
  obtain ⟨t,m,H,v',e⟩:=q4 hm
  have hjn:j < n:=by omega
  rw[hget,if_pos hjn,hs] at hR
  simp only[e,rootPl,Option.some.injEq] at hR
  subst hR
  rw[htmp j y q1]
  have h2:=q2 (initSt g.ps v n) { tmps:=#[],defers:=[] }
  rw[e] at h2
  obtain ⟨cs,c1,c2⟩:=h2
  have:=mkV_cells (Rep.length _ c2) (Rep.one _ c2)
  show mkV t y.cells.toList=_
  rw[c1,this,<- c1]
  have hjx:=(List.getElem?_eq_some_iff.1 q1)
  obtain ⟨hjx,e2⟩:=hjx
  simp[hjx,e2]
noncomputable def funOk (P:Program) (E:Env) (fn:Func) (ps:List (PM×Ty)) (rs:List (Ty×Md)) (es:List Nat):Bool:=
 codeOk P E (bodyOf fn)&&rvOk E rs fn.results.toList&&psOk ps&&Nat.ble ps.length fn.ntmps&&decide es.Nodup
theorem sound_of_body (hE:EnvOk P E) {f:FuncId} {fn:Func} (hf:P.funcs[f]?=some fn) (hb:fn.body.isSome=true) {g:Sig} {es fr:List Nat} (hok:funOk P E fn g.ps g.rs es=true) (hF:∀ v out,g.F v=some out->∃ k,bodyK E k fn g.ps g.rs es fr v=some out):Sound P f g:=by
 intro w A F0 v xs hargs h1 h2 h3 out hout
 obtain ⟨k,hk⟩:=hF v out hout
 simp only[funOk,Bool.and_eq_true,Nat.ble_eq,decide_eq_true_eq] at hok
 obtain ⟨⟨⟨⟨hcode,hrv⟩,hps⟩,hnt⟩,hnd⟩:=hok
 obtain ⟨c,hc⟩:=Option.isSome_iff_exists.1 hb
 have hbo:bodyOf fn=c:=by simp[bodyOf,hc]
 rw[hbo] at hcode
 obtain ⟨F,hrel⟩:=begin_ok hargs hps hnt h1 h2 h3
 unfold bodyK at hk
 rw[hbo] at hk
 have hxl:=args_len g.ps hargs
 have hend:∀ (a':Act) (w':World) (σ':St),outK g.ps g.rs es fn.results.toList (mvs fr) σ'=some out->RelE P { w0:=w,A0:=A,F0:=F0,args:=xs.toArray } σ' a' w' ->
   a'.defers=[]/\∃ rv,(results fn a'.tmps).run P w'=.ok rv w'/\(∃ rv',Ending.returned rv=.returned rv'/\Ext w w' F0/\∃ (A':Cells) (G GR GM:FP),(∀ b i,A b i->A' b i)/\(∀ b i,A' b i->A b i\/1<=F0 b i\/w.heap.size<=b) /\
    (∀ b i,1<=G b i->1<=F0 b i\/w.heap.size<=b)/\(∀ b i,G b i<=1)/\(∀ b i,1<=G b i->¬ A' b i)/\(∀ b i,1<=G b i\/A' b i->b < w'.heap.size)/\(∀ b i,GR b i+GM b i<=G b i) /\
    RetRel P w' A' (splitR g.rs out).1 rv' GR/\MutsRel P w' A' g.ps (splitR g.rs out).2 xs GM):=by
  intro a' w' σ' ho hr
  obtain ⟨A1,F1,hr⟩:=hr
  unfold outK at ho
  obtain ⟨A2,σ2,X2,F2,vals,L,Fi,pre,r1,r2,r3,r4,r5,r6,r7,r8,r9⟩:=res_ok hE g.rs fn.results.toList 0 hrv hr ho
  obtain ⟨vs,us,Gi,m1,m2,m3,m4,m5,m6⟩:=muts_ok r2 0 g.ps es hps hnd (by simp[hxl]) r3
  have hpre:pre vs=out:=Option.some.inj m1
  have hsp:splitR g.rs out=(L,vs):=by rw[<-hpre,r4]
  have hGR:∀ b i,sumF L.length Fi b i<=X2 b i:=fun b i=>by have:=r8 b i;omega
  have hGM0:∀ b i,sumL Gi us b i<=sumL F2 us b i:=fun b i=>by
   have:∀ l:List Nat,(∀ j ∈ l,j ∈ us)->sumL Gi l b i<=sumL F2 l b i:=by
    intro l
    induction l with
    | nil=>intro _;exact Nat.le_refl _
    | cons j l ih=>
     intro hl
     have:=m5 j b i (hl j List.mem_cons_self)
     have:=ih fun j' hj'=>hl j' (List.mem_cons_of_mem _ hj')
     simp only[sumL];omega
   exact this us fun _ h=>h
  have hGM:∀ b i,sumL Gi us b i<=sumF σ2.n F2 b i:=fun b i=>Nat.le_trans (hGM0 b i) (sumL_le us F2 m3 m4 b i)
  refine ⟨r2.defers,_,results_run (by rw[r6]) r7,_,rfl,r2.ext,?_⟩
  obtain ⟨A3,hA3⟩:∃ A3:Cells,∀ b i,A3 b i↔(A2 b i\/(1<=X2 b i+sumF σ2.n F2 b i/\sumF L.length Fi b i+sumL Gi us b i=0)):=⟨fun b i=>A2 b i\/(1<=X2 b i+sumF σ2.n F2 b i/\sumF L.length Fi b i+sumL Gi us b i=0),fun _ _=>Iff.rfl⟩
  have hA23:∀ b i,A2 b i->A3 b i:=fun b i h=>(hA3 b i).2 (.inl h)
  have htot:∀ b i,X2 b i+sumF σ2.n F2 b i<=1:=fun b i=>r2.tot b i
  refine ⟨A3,fun b i=>sumF L.length Fi b i+sumL Gi us b i,sumF L.length Fi,sumL Gi us,fun b i ha=>hA23 b i (r2.a0 b i ha),fun b i ha=>?_,fun b i hp=>?_,fun b i=>?_,fun b i hp ha=>?_,fun b i hp=>?_,fun _ _=>Nat.le_refl _,?_,?_⟩
  ·rcases (hA3 b i).1 ha with ha | ⟨hp,_⟩
   ·exact r2.a1 b i ha
   ·exact .inr (r2.own b i hp)
  ·have hp:1<=sumF L.length Fi b i+sumL Gi us b i:=hp
   exact r2.own b i (by have:=hGR b i;have:=hGM b i;omega)
  ·show sumF L.length Fi b i+sumL Gi us b i<=1
   have:=hGR b i;have:=hGM b i;have:=htot b i;omega
  ·have hp:1<=sumF L.length Fi b i+sumL Gi us b i:=hp
   rcases (hA3 b i).1 ha with ha | ⟨_,hz⟩
   ·exact r2.dis b i (by have:=hGR b i;have:=hGM b i;omega) ha
   ·omega
  ·rcases hp with hp | ha
   ·have hp:1<=sumF L.length Fi b i+sumL Gi us b i:=hp
    exact r2.bnd b i (.inl (by have:=hGR b i;have:=hGM b i;omega))
   ·rcases (hA3 b i).1 ha with ha | ⟨hp,_⟩
    ·exact r2.bnd b i (.inr ha)
    ·exact r2.bnd b i (.inl hp)
  ·rw[hsp]
   have hres:=r9 A3 hA23 (fun b i hx _ hz=>(hA3 b i).2 (.inr ⟨by omega,by
    have:=hGM b i;have:=htot b i;omega⟩))
   show RetRel P w' A3 L _ _
   match L,r5,hres with
   | [],_,_=>trivial
   | [y],hl,hres=>
    match vals,hl with
    | [u],_=>
     obtain ⟨u',cs,e1,e2,e3⟩:=hres 0 y rfl
     injection e1 with e1
     subst e1
     refine ⟨cs,by simpa using e2,e3.le fun b i=>by simp[sumF]⟩
   | y::z::L,hl,hres=>
    refine ⟨vals.toArray,Fi,?_,fun _ _=>Nat.le_refl _,fun j q hq=>?_⟩
    ·rw[dif_neg]
     simp only[List.size_toArray,hl,List.length_cons];omega
    ·obtain ⟨u,cs,e1,e2,e3⟩:=hres j q hq
     exact ⟨u,cs,by simpa using e1,e2,e3⟩
  ·rw[hsp]
   refine m6 A3 hA23 fun i b k' hi hp hz=>(hA3 b k').2 (.inr ⟨by have:=le_sumF F2 (m4 i hi) b k';omega,?_⟩)
   have h4:=le_sumF F2 (m4 i hi) b k'
   have h5:=htot b k'
   have h6:=hGR b k'
   have h7:sumL Gi us b k'=0:=by
    rcases Nat.eq_zero_or_pos (sumL Gi us b k') with h0 | h0
    ·exact h0
    ·obtain ⟨j,hj,hpj⟩:=sumL_pos h0
     by_cases hij:j=i
     ·subst hij;omega
     ·have:=m5 j b k' hj
      have:=le_sumF2 F2 (m4 j hj) (m4 i hi) hij b k'
      omega
   omega
 refine calls_of_wp hf hc (wp_mono (code_ok hE c hcode hrel hk) fun e a' w' hq=>?_)
 cases e with
 | normal=>obtain ⟨σ',h4,h5⟩:=hq;exact hend a' w' σ' h4 h5
 | ret=>obtain ⟨σ',h4,h5⟩:=hq;exact hend a' w' σ' h4 h5
 | exit j=>obtain ⟨σ',h4,h5⟩:=hq;cases h4
 | _=>exact hq.elim
end
end OT
set_option linter.unusedVariables false
set_option linter.unusedSimpArgs false
namespace OT
open Go
def OLD (w:World):Cells:=fun b _=>b < w.heap.size
def argT:Ty->Bool
 | .int _ | .bool | .str | .unit=>true
 | .pair a b=>argT a&&argT b
 | .slc e=>argT e
 | _=>false
def okD:(T:Ty)->T.den->Prop
 | .int k,n=>k.min<=toI k n/\toI k n<=k.max
 | .str,s=>List.length s<=maxLen
 | .pair a b,v=>okD a v.1/\okD b v.2
 | .slc e,v=>List.length v<=maxLen/\∀ x ∈ (v:List e.den),okD e x
 | _,_=>True
def okA:(ps:List (PM×Ty))->(tupT (ps.map (·.2))).den->Prop
 | [],_=>True
 | (_,T)::ps,v=>okD T v.1/\okA ps v.2
section
variable {P:Program} {w:World} {H:Type} {enc:TypeId×Value->H}
theorem cells_sz {T:Ty} {i:TypeId} (h:layB P T (.inl i)=true):P.cellsOf i=T.sz:=by
 obtain ⟨inf,h1,h2,_⟩:=infoOk_some (layB_info h)
 simp[Program.cellsOf,h1,h2]
theorem add_none {a:Addr} {k:Nat} {u:Value} (h:w.cell? (a.add k)=some u) (hk:k=0\/a.spot=none):a.spot=none:=by
 rcases hk with rfl | hk
 ·unfold Addr.add at h
  rw[if_pos rfl] at h
  unfold World.cell? at h
  split at h
  ·split at h
   ·cases h
   ·rename_i hs
    cases hsp:a.spot with
    | none=>rfl
    | some s=>rw[hsp] at hs;simp at hs
  ·cases h
 ·exact hk
theorem trod_ro:∀ (T:Ty),argT T=true ->
  (∀ i,layB P T (.inl i)=true->∀ fuel cs x,DataW.trod enc P w 0 (fun _=>true) true fuel i cs=some x->∃ v:T.den,okD T v/\Ro P w (OLD w) T v cs) /\
  (∀ fs off,layB P T (.inr (fs,off))=true->∀ n (cs:List Value),cs.length=off+T.sz->(∀ f ∈ fs,∃ x,DataW.trod enc P w 0 (fun _=>true) true n f.type ((cs.drop f.offset).take (P.cellsOf f.type))=some x)->∃ v:T.den,okD T v/\Ro P w (OLD w) T v (cs.drop off)):=by
 intro T
 induction T with
 | int k=>
  intro _
  refine ⟨fun i hl fuel cs x h=>?_,fun fs off hl=>by simp[layB] at hl⟩
  obtain ⟨n,rfl,_,hwf⟩:=DataW.trod_int (lay_int hl) h
  simp only[Lit.wf,Bool.and_eq_true,decide_eq_true_eq] at hwf
  cases k with
  | u8=>
   have h1:toI .u8 (UInt8.ofInt n)=n:=by
    have:=toI_inI .u8 n (fun _=>by
     have h1:(0:Int)<=n:=hwf.1
     have h2:n<=(255:Int):=hwf.2
     omega)
    exact this
   refine ⟨(UInt8.ofInt n:UInt8),?_,?_⟩
   ·show IntKind.u8.min<=toI .u8 (UInt8.ofInt n)/\toI .u8 (UInt8.ofInt n)<=IntKind.u8.max
    rw[h1];exact hwf
   ·show [Value.int .u8 n]=[Value.int .u8 (toI .u8 (UInt8.ofInt n))]
    rw[h1]
  | _=>exact ⟨n,hwf,rfl⟩
 | bool=>
  intro _
  refine ⟨fun i hl fuel cs x h=>?_,fun fs off hl=>by simp[layB] at hl⟩
  have hu:P.underlying i=some .bool:=by
   simp only[layB,Bool.and_eq_true] at hl
   have h2:=hl.2
   split at h2
   ·assumption
   ·cases h2
  obtain ⟨b,rfl,_⟩:=DataW.trod_bool hu h
  exact ⟨b,trivial,rfl⟩
 | str=>
  intro _
  refine ⟨fun i hl fuel cs x h=>?_,fun fs off hl=>by simp[layB] at hl⟩
  obtain ⟨s,rfl,_,hsm⟩:=DataW.trod_string (lay_str hl) h
  exact ⟨s.data.toList,(by show s.data.toList.length<=maxLen;rw[Array.length_toList];exact hsm),by simp only[Ro]⟩
 | unit=>
  intro _
  refine ⟨fun i hl fuel cs x h=>?_,fun fs off hl n cs hlen _=>⟨(),trivial,?_⟩⟩
  ·simp only[layB,Bool.and_eq_true] at hl
   have h2:=hl.2
   split at h2
   ·rename_i fs hu
    obtain ⟨xs,n,_,_,hlen,_⟩:=DataW.trod_struct hu h
    have hsz:P.cellsOf i=0:=by
     obtain ⟨inf,h1,h3,_⟩:=infoOk_some hl.1
     simp[Program.cellsOf,h1,h3,Ty.sz]
    rw[hsz] at hlen
    exact ⟨(),trivial,by simp only[Ro];exact List.eq_nil_of_length_eq_zero hlen⟩
   ·cases h2
  ·simp only[Ro]
   exact List.drop_of_length_le (by simp only[Ty.sz] at hlen;omega)
 | pair a b iha ihb=>
  intro ha
  simp only[argT,Bool.and_eq_true] at ha
  have hinr:∀ fs off,layB P (.pair a b) (.inr (fs,off))=true->∀ n (cs:List Value),cs.length=off+(Ty.pair a b).sz->(∀ f ∈ fs,∃ x,DataW.trod enc P w 0 (fun _=>true) true n f.type ((cs.drop f.offset).take (P.cellsOf f.type))=some x)->∃ v:(Ty.pair a b).den,okD (.pair a b) v/\Ro P w (OLD w) (.pair a b) v (cs.drop off):=by
   intro fs off hl n cs hlen hf
   cases fs with
   | nil=>simp[layB] at hl
   | cons f r=>
    simp only[layB,Bool.and_eq_true,Nat.beq_eq,Nat.ble_eq] at hl
    obtain ⟨⟨⟨ho,_⟩,h1⟩,h2⟩:=hl
    simp only[Ty.sz] at hlen
    obtain ⟨x,hx⟩:=hf f List.mem_cons_self
    rw[ho,cells_sz h1] at hx
    obtain ⟨v1,o1,r1⟩:=(iha ha.1).1 _ h1 _ _ _ hx
    obtain ⟨v2,o2,r2⟩:=(ihb ha.2).2 r (off+a.sz) h2 n cs (by omega) (fun f' hf'=>hf f' (List.mem_cons_of_mem _ hf'))
    exact ⟨(v1,v2),⟨o1,o2⟩,r1,by rw[List.drop_drop];exact r2⟩
  refine ⟨fun i hl fuel cs x h=>?_,hinr⟩
  have hl0:=hl
  simp only[layB,Bool.and_eq_true] at hl
  have h2:=hl.2
  split at h2
  ·rename_i fs hu
   split at h2
   ·rename_i f r hfs
    have h3:layB P (.pair a b) (.inr (f::r,0))=true:=by
     simp only[layB,Nat.zero_add];exact h2
    obtain ⟨xs,n,_,_,hlen,hxl,hfields⟩:=DataW.trod_struct hu h
    rw[cells_sz hl0] at hlen
    have:=hinr (f::r) 0 h3 n cs (by omega) (fun f' hf'=>by
     rw[<-hfs] at hf'
     obtain ⟨j,hj,e⟩:=List.mem_iff_getElem.1 hf'
     have hj':j < fs.size:=by simpa using hj
     have:=hfields j f' (by rw[Array.getElem?_eq_getElem hj'];simpa using e)
     rw[this,List.getElem?_eq_getElem (by omega)]
     exact ⟨_,rfl⟩)
    simpa using this
   ·cases h2
  ·cases h2
 | slc e ih=>
  intro ha
  simp only[argT] at ha
  refine ⟨fun i hl fuel cs x h=>?_,fun fs off hl=>by simp[layB] at hl⟩
  obtain ⟨el,hu,hsz,hle⟩:=lay_slc hl
  rcases DataW.trod_slice hu h with ⟨rfl,_⟩ | ⟨a,len,cap,elems,rest,n,_,rfl,_,_,hlc,hcm,hel,hels,hrest,_⟩
  ·exact ⟨[],⟨Nat.zero_le _,fun x hx=>by cases hx⟩,none,0,rfl,Nat.le_refl _,fun _=>rfl,fun ad e=>by cases e⟩
  ·rw[cells_sz hle] at hels hrest
   have hcell:∀ k y,(w.cells? 0 (a.add (k*e.sz)) e.sz).bind (DataW.trod enc P w 0 (fun _=>true) true n el)=some y->∃ cs',w.cells? 0 (a.add (k*e.sz)) e.sz=some cs'/\DataW.trod enc P w 0 (fun _=>true) true n el cs'=some y:=fun k y hk=>by
    cases hc:w.cells? 0 (a.add (k*e.sz)) e.sz with
    | none=>rw[hc] at hk;cases hk
    | some cs'=>rw[hc] at hk;exact ⟨cs',rfl,hk⟩
   have hspot:0 < cap->a.spot=none:=fun hpos=>by
    have hfirst:∃ cs',w.cells? 0 (a.add (0*e.sz)) e.sz=some cs':=by
     by_cases hlen:0 < len
     ·have h0:=hels 0 hlen
      rw[List.getElem?_eq_getElem (by omega)] at h0
      obtain ⟨cs',h1,_⟩:=hcell 0 _ h0
      exact ⟨cs',h1⟩
     ·obtain rfl:len=0:=by omega
      obtain ⟨hr1,hr2⟩:=hrest rfl
      have h0:=hr2 0 (by omega)
      rw[List.getElem?_eq_getElem (by omega)] at h0
      obtain ⟨cs',h1,_⟩:=hcell (0+0) _ h0
      exact ⟨cs',by simpa using h1⟩
    obtain ⟨cs',h1⟩:=hfirst
    obtain ⟨_,hl1,h2⟩:=World.cells?_some h1
    have h3:=h2 0 (by omega)
    rw[List.getElem?_eq_getElem (by omega),Nat.zero_mul] at h3
    have h4:(a.add 0).add 0=a.add 0:=by unfold Addr.add;simp
    rw[h4] at h3
    exact add_none h3 (.inl rfl)
   have each:∀ k:Fin len,∃ v:e.den,okD e v/\∃ L:List Value,L.length=e.sz/\(∀ j u,L[j]?=some u->ce w a.block (a.off+k.val*e.sz+j)=some u/\OLD w a.block (a.off+k.val*e.sz+j))/\Ro P w (OLD w) e v L:=fun k=>by
    have h0:=hels k.val k.isLt
    rw[List.getElem?_eq_getElem (by have:=k.isLt;omega)] at h0
    obtain ⟨cs',h1,h2⟩:=hcell k.val _ h0
    obtain ⟨v,ho,hv⟩:=(ih ha).1 _ hle _ _ _ h2
    obtain ⟨_,hl1,h3⟩:=World.cells?_some h1
    refine ⟨v,ho,cs',hl1,fun j u hu=>?_,hv⟩
    have hj:=(List.getElem?_eq_some_iff.1 hu).1
    have h4:=h3 j (by omega)
    rw[hu] at h4
    have hsp:=hspot (by have:=k.isLt;omega)
    obtain ⟨b,off,sp⟩:=a
    simp only at hsp
    subst hsp
    rw[addr_add,addr_add] at h4
    have h5:ce w b (off+k.val*e.sz+j)=some u:=cell_ce h4 (Ro.one e hv u (List.mem_of_getElem? hu))
    exact ⟨h5,ce_lt h5⟩
   obtain ⟨f,hf⟩:=Classical.axiomOfChoice each
   refine ⟨List.ofFn f,⟨by simp;omega,fun x hx=>?_⟩,some a,cap,by simp,by simpa using hlc,(fun e=>by cases e),fun ad e=>?_⟩
   ·obtain ⟨j,rfl⟩:=List.mem_ofFn.1 hx
    exact (hf j).1
   injection e with e
   subst e
   refine ⟨hspot,fun k y hk=>?_⟩
   rw[List.getElem?_ofFn] at hk
   split at hk
   ·rename_i hlt
    injection hk with hk
    subst hk
    exact (hf ⟨k,hlt⟩).2
   ·cases hk
 | _=>intro ha;simp[argT] at ha
theorem arg_val {T:Ty} (ha:argT T=true) {i:TypeId} (hl:layB P T (.inl i)=true) {r:Reach} {b0:Nat} {v:Value} (h:Value.okWide P w r b0 i v):v=mkV T v.cells.toList:=by
 cases T with
 | int k=>
  have hu:=lay_int hl
  cases v <;> simp[Value.okWide,Cell.okWide,Cell.ok,hu] at h <;> simp[mkV,isAgg,Value.cells]
 | bool=>
  have hu:P.underlying i=some .bool:=by
   simp only[layB,Bool.and_eq_true] at hl
   have h2:=hl.2
   split at h2
   ·assumption
   ·cases h2
  cases v <;> simp[Value.okWide,Cell.okWide,Cell.ok,hu] at h <;> simp[mkV,isAgg,Value.cells]
 | str=>
  have hu:=lay_str hl
  cases v <;> simp[Value.okWide,Cell.okWide,Cell.ok,hu] at h <;> simp[mkV,isAgg,Value.cells]
 | slc e=>
  obtain ⟨el,hu,_⟩:=lay_slc hl
  cases v <;> simp[Value.okWide,Cell.okWide,Cell.ok,hu] at h <;> simp[mkV,isAgg,Value.cells]
 | unit=>
  simp only[layB,Bool.and_eq_true] at hl
  have h2:=hl.2
  split at h2
  ·rename_i fs hu
   simp only[Value.okWide,hu] at h
   obtain ⟨cs,rfl,_⟩:=h
   simp[mkV,isAgg,Value.cells]
  ·cases h2
 | pair a b=>
  simp only[layB,Bool.and_eq_true] at hl
  have h2:=hl.2
  split at h2
  ·rename_i fs hu
   simp only[Value.okWide,hu] at h
   obtain ⟨cs,rfl,_⟩:=h
   simp[mkV,isAgg,Value.cells]
  ·cases h2
 | _=>simp[argT] at ha
def roLay (P:Program):List (PM×Ty)->List TypeId->Bool
 | [],[]=>true
 | (.ro,T)::ps,t::ts=>argT T&&layB P T (.inl t)&&P.readableRec t&&Nat.blt t P.types.size&&roLay P ps ts
 | _,_=>false
theorem args_ro:∀ (ps:List (PM×Ty)) (ts:List TypeId) (args:List Value) (ds:List (DataW H)) (p:List MemPlace) {b0:Nat},roLay P ps ts=true->DataW.TrodAll enc P w 0 (fun _=>true) true ts args ds p ->
  (∀ (j:Nat) t v,ts[j]?=some t->args[j]?=some v->Value.okWide P w .any b0 t v)->∃ v,okA ps v/\ArgsRel P w (OLD w) ps v args (fun _ _=>0)
 | [],[],args,ds,p,b0,_,h,_=>by
  cases args with
  | nil=>exact ⟨(),trivial,rfl⟩
  | cons _ _=>simp[DataW.TrodAll] at h
 | (.ro,T)::ps,t::ts,args,ds,p,b0,hl,h,hok=>by
  simp only[roLay,Bool.and_eq_true] at hl
  cases args with
  | nil=>simp[DataW.TrodAll] at h
  | cons v args=>
   cases ds with
   | nil=>simp[DataW.TrodAll] at h
   | cons d ds=>
    obtain ⟨p1,q1,⟨fuel,h1⟩,h2,_⟩:=h
    obtain ⟨x,hox,hx⟩:=(trod_ro T hl.1.1.1.1).1 t hl.1.1.1.2 _ _ _ h1
    obtain ⟨xs,hoxs,hxs⟩:=args_ro ps ts args ds q1 (b0:=b0) hl.2 h2 (fun j t' v' ht hv=>hok (j+1) t' v' ht hv)
    exact ⟨(x,xs),⟨hox,hoxs⟩,v,args,fun _ _=>0,fun _ _=>0,rfl,fun _ _=>Nat.le_refl _,⟨_,arg_val hl.1.1.1.1 hl.1.1.1.2 (hok 0 t v rfl rfl),hx⟩,hxs⟩
theorem args_stay (hlo:laidOutB P=true) {W W':World} (hb:RowKit.Below W.heap.size W W') {sp:Nat->Bool}:∀ (ps:List (PM×Ty)) (ts:List TypeId) (args:List Value) (ds:List (DataW H)) (p:List MemPlace),roLay P ps ts=true->DataW.TrodAll enc P W 0 (fun _=>true) true ts args ds p ->
  (∀ x ∈ p,x.block < W.heap.size)->(∀ x ∈ p,sp x.block=true)->DataW.TrodAll enc P W' 0 sp true ts args ds p
 | [],[],args,ds,p,_,h,_,_=>by
  cases args with
  | nil=>
   cases ds with
   | nil=>exact h
   | cons _ _=>simp[DataW.TrodAll] at h
  | cons _ _=>simp[DataW.TrodAll] at h
 | (.ro,T)::ps,t::ts,args,ds,p,hl,h,hlt,hsp=>by
  simp only[roLay,Bool.and_eq_true] at hl
  cases args with
  | nil=>simp[DataW.TrodAll] at h
  | cons v args=>
   cases ds with
   | nil=>simp[DataW.TrodAll] at h
   | cons d ds=>
    obtain ⟨p1,q1,h1,h2,rfl⟩:=h
    have ht:t < P.types.size:=by have:=hl.1.2;rwa [Nat.blt_eq] at this
    exact ⟨p1,q1,WideElems.Trod_stays hlo hl.1.1.2 ht h1 (fun x hx=>hb.same (hlt x (List.mem_append_left _ hx))) (fun x hx=>hsp x (List.mem_append_left _ hx)),
     args_stay hlo hb ps ts args ds q1 hl.2 h2 (fun x hx=>hlt x (List.mem_append_right _ hx)) (fun x hx=>hsp x (List.mem_append_right _ hx)),rfl⟩
theorem law_calls {f:FuncId} {cap:Bool} {ps:List (PM×Ty)} {Fn:(tupT (ps.map (·.2))).den->Option (tupT ([((Ty.bool,roMd .bool):Ty×Md)].map (·.1)++mutTys ps)).den} (hs:Sound P f { cap:=cap,ps:=ps,rs:=[(.bool,roMd .bool)],F:=Fn }) (htrue:∀ v,okA ps v->∃ u,Fn v=some (true,u))
  {ts:List TypeId} (hl:roLay P ps ts=true) {args:List Value} {ds:List (DataW H)} {p:List MemPlace} (hA:DataW.TrodAll enc P w 0 (fun _=>true) true ts args ds p) {b0:Nat} (hok:∀ (j:Nat) t v,ts[j]?=some t->args[j]?=some v->Value.okWide P w .any b0 t v) :
  Calls P f args.toArray w fun e W'=>e=.returned (.bool true)/\RowKit.Below w.heap.size w W':=by
 obtain ⟨v,hov,hv⟩:=args_ro ps ts args ds p hl hA hok
 obtain ⟨u,hu⟩:=htrue v hov
 refine (hs w (OLD w) (fun _ _=>0) v args hv (fun _ _=>Nat.zero_le _) (fun b i h=>by omega) (fun b i h=>?_) _ hu).mono fun e W' h=>?_
 ·rcases h with h | h
  ·omega
  ·exact h
 ·obtain ⟨rv,rfl,hext,A',G,GR,GM,_,_,_,_,_,_,_,hret,_⟩:=h
  obtain ⟨cs,h1,h2⟩:=hret
  simp only[splitR] at h1 h2
  have h2:cs=[.bool true]:=h2
  subst h2
  exact ⟨by rw[h1];rfl,hext.os,hext.tape,hext.output,hext.size,fun b hb=>hext.obj b hb fun _=>rfl⟩
theorem law_post {C:Checked} {f:Func} {s:ChangeSpec} {W W':World} {args:Array Value} {ds:List (DataW H)} {p:List MemPlace} {apart fresh handsOn:Bool} (hlo:laidOutB P=true) {ps:List (PM×Ty)} {ts:List TypeId} (hts:f.params.toList=ts) (hl:roLay P ps ts=true) {tb:TypeId} (hr:f.resultTypes=#[tb]) (hu:P.underlying tb=some .bool)
  (hvars:s.vars=[]) (hW:DataW.Whole enc P f.params.toList s.vars apart W args.toList ds [] p) (hA:DataW.TrodAll enc P W 0 (fun _=>true) true ts args.toList ds p) (hfn:s.fn H (ds++[])={ results:=[.lit (.bool true)],args:=ds }) (hb:RowKit.Below W.heap.size W W') :
  s.post enc P f apart fresh handsOn false W args (.bool true) W':=by
 have hlt:∀ x ∈ p,x.block < W.heap.size:=fun x hx=>by simpa using hW.lt x hx
 refine ⟨ds,[],p,[],p,[],hW,?_,?_,?_,World.keptBut_mono (fun x hx=>⟨hx,.inr (.inl hx)⟩) (hb.frame (· ∈ p)),fun e=>by cases e⟩
 ·rw[hfn,hr]
  exact ⟨[],[],RowKit.shut_bool hu true,rfl,rfl⟩
 ·rw[hfn,hts]
  exact args_stay hlo hb ps ts args.toList ds p hl hA hlt (fun x hx=>by simpa using hlt x hx)
 ·rw[hfn,hvars]
  rfl
end
end OT
namespace OT
open Go
def tiOk (P:Program) (l:List (Nat×Ty)):Bool:=l.all fun p=>layB P p.2 (.inl p.1)
def eqOkL (P:Program) (l:List (Nat×Ty)):Bool:=l.all fun p=>!(p.2.eqOk&&isAgg p.2)||(eqB P p.2 (.inl p.1)&&(P.eqGuardType P.depth p.1 == false)&&Nat.ble (dep p.2) 10000)
theorem look_mem {α:Type}:∀ {l:List (Nat×α)} {i:Nat} {x:α},lookN l i=some x->(i,x) ∈ l
 | (k,y)::l,i,x,h=>by
  simp only[lookN] at h
  split at h
  ·rename_i hk
   injection h with h
   rw[Nat.eq_of_beq_eq_true hk,h];exact List.mem_cons_self
  ·exact List.mem_cons_of_mem _ (look_mem h)
def FnOk (P:Program) (l:List (Nat×Sig)):Prop:=∀ f g,lookN l f=some g->Sound P f g/\EnterOk P f g.cap
theorem fn_nil (P:Program):FnOk P []:=fun f g h=>by cases h
theorem fn_cons {P:Program} {f:Nat} {g:Sig} {l:List (Nat×Sig)} (h1:Sound P f g) (h2:EnterOk P f g.cap) (h3:FnOk P l):FnOk P ((f,g)::l):=fun f' g' h=>by
 simp only[lookN] at h
 split at h
 ·rename_i hk
  injection h with h
  subst h
  rw[<-Nat.eq_of_beq_eq_true hk]
  exact ⟨h1,h2⟩
 ·exact h3 f' g' h
theorem env_ok {P:Program} {E:Env} {tl:List (Nat×Ty)} {gl:List (Nat×Sig)} (h1:E.TI=lookN tl) (h2:E.G=lookN gl) (h3:tiOk P tl=true) (h4:eqOkL P tl=true) (h5:FnOk P gl):EnvOk P E where
 ti i T h:=by rw[h1] at h;exact List.all_eq_true.1 h3 _ (look_mem h)
 eq i T h hq ha:=by
  rw[h1] at h
  have:=List.all_eq_true.1 h4 _ (look_mem h)
  simp only[hq,ha,Bool.and_self,Bool.not_true,Bool.false_or,Bool.and_eq_true,beq_iff_eq,Nat.ble_eq] at this
  exact ⟨this.1.1,this.1.2,this.2⟩
 fn f g h:=by rw[h2] at h;exact h5 f g h
def Ok (P:Program) (f:FuncId) (g:Sig):Prop:=Sound P f g/\EnterOk P f g.cap
theorem fc {P:Program} {f:Nat} {g:Sig} {l:List (Nat×Sig)} (h:Ok P f g) (h3:FnOk P l):FnOk P ((f,g)::l):=fn_cons h.1 h.2 h3
def enterB (fn:Func) (cap:Bool):Bool:=!(fn.name == "runtime.NumGoroutine")&&!fn.body.isNone&&Nat.beq fn.nfree (match cap with | true=>1 | false=>0)
noncomputable def okB (P:Program) (E:Env) (fn:Func) (ps:PQ) (rs:RQ) (es:List Nat) (cap:Bool) (tl:TL):Bool:=(tiOk P tl&&eqOkL P tl)&&(enterB fn cap&&funOk P E fn ps rs es)
theorem fn_ok {P:Program} {E:Env} {f:FuncId} {fn:Func} (hf:P.funcs[f]?=some fn) {g:Sig} {es fr:List Nat} {tl:TL} {gl:GL} (h1:E.TI=lookN tl) (h2:E.G=lookN gl) (hok:okB P E fn g.ps g.rs es g.cap tl=true) (hg:FnOk P gl) (hF:∀ v,g.F v=lift fun k=>bodyK E k fn g.ps g.rs es fr v):Ok P f g:=by
 simp only[okB,enterB,Bool.and_eq_true,Bool.not_eq_true',Nat.beq_eq] at hok
 obtain ⟨⟨a1,a2⟩,⟨⟨b1,b2⟩,b3⟩,c⟩:=hok
 have hb:fn.body.isSome=true:=by
  cases h:fn.body with
  | none=>rw[h] at b2;cases b2
  | some _=>rfl
 exact ⟨sound_of_body (env_ok h1 h2 a1 a2 hg) hf hb c fun v out h=>lift_some (by rw[<-hF];exact h),fn,hf,b1,b2,b3⟩
structure FD where
 fn:Func
 tl:TL
 ps:PQ
 rs:RQ
 gl:GL:=[]
 es:List Nat:=[]
 fr:List Nat:=[]
 cap:Bool:=false
 fz:List (Nat×Nat×Nat):=[]
 lv:List (Nat×List Nat):=[]
 lx:List (Nat×List Nat):=[]
 lf:List (Nat×List (Nat×Md)):=[]
 od:List (Nat×List Nat):=[]
 ar:List (Nat×List Nat):=[]
 bx:List (Nat×List Nat):=[]
 pd:List (Nat×List Nat):=[]
 er:List (Nat×List (Nat×Nat)):=[]
noncomputable def FD.E (D:FD):Env:={ TI:=lookN D.tl,G:=lookN D.gl,fz:=D.fz,lv:=D.lv,lx:=D.lx,lf:=D.lf,od:=D.od,ar:=D.ar,bx:=D.bx,pd:=D.pd,er:=D.er }
noncomputable def FD.W (D:FD) (k:Nat) (a:(tupT (D.ps.map (·.2))).den):Option (tupT (D.rs.map (·.1)++mutTys D.ps)).den:=bodyK D.E k D.fn D.ps D.rs D.es D.fr a
noncomputable def FD.F (D:FD) (a:(tupT (D.ps.map (·.2))).den):Option (tupT (D.rs.map (·.1)++mutTys D.ps)).den:=lift fun k=>D.W k a
noncomputable def FD.sig (D:FD):Sig:={ cap:=D.cap,ps:=D.ps,rs:=D.rs,F:=D.F }
noncomputable def FD.fin (D:FD):St->Option (tupT (D.rs.map (·.1)++mutTys D.ps)).den:=outK D.ps D.rs D.es D.fn.results.toList (mvs D.fr)
noncomputable def FD.K0 (D:FD):KT (tupT (D.rs.map (·.1)++mutTys D.ps)).den:=endK D.fin
noncomputable def FD.N (D:FD) (k:Nat) (p:List Nat):St->KT (tupT (D.rs.map (·.1)++mutTys D.ps)).den->Option (tupT (D.rs.map (·.1)++mutTys D.ps)).den:=codeK D.E k D.fin (sub p (bodyOf D.fn))
noncomputable def FD.L (D:FD) (k:Nat) (p live:List Nat) (fro:List (Nat×Md)) (K:KT (tupT (D.rs.map (·.1)++mutTys D.ps)).den) (σ:St):Option (tupT (D.rs.map (·.1)++mutTys D.ps)).den:=iterK (D.N k p) (keepF live fro) K k σ
theorem fd_ok {P:Program} {D:FD} {f:FuncId} (hf:P.funcs[f]?=some D.fn) (ht:(tiOk P D.tl&&eqOkL P D.tl)=true) (hok:(enterB D.fn D.cap&&funOk P D.E D.fn D.ps D.rs D.es)=true) (hg:FnOk P D.gl):Ok P f D.sig:=
 fn_ok (es:=D.es) (fr:=D.fr) (tl:=D.tl) (gl:=D.gl) (E:=D.E) hf rfl rfl (by rw[okB,ht,Bool.true_and];exact hok) hg fun _=>rfl
end OT
namespace OT
open Go
theorem w64_in {n:Int} (h:-9223372036854775808<=n/\n<=9223372036854775807):w64 n=n:=by
 unfold w64
 rw[IntKind.wrap_i64]
 omega
theorem maxLen_val:maxLen=9223372036854775807:=by simp[maxLen]
theorem rawIter_eq {V R:Type} {B:(V->Option R)->V->Option R} (f:V->R) (I:V->Prop) (μ:V->Nat)
  (h:∀ v,I v->∀ self,B self v=some (f v)\/∃ v',B self v=self v'/\f v'=f v/\I v'/\μ v' < μ v):∀ (k:Nat) (v:V),I v->μ v < k->rawIter B k v=some (f v)
 | 0,v,_,hk=>by omega
 | k+1,v,hI,hk=>by
  show B (rawIter B k) v=some (f v)
  rcases h v hI (rawIter B k) with h1 | ⟨v',h1,h2,h3,h4⟩
  ·exact h1
  ·rw[h1,rawIter_eq f I μ h k v' h3 (by omega),h2]
def allB {α:Type} (e:α->α->Bool) (xs ys:List α):Bool:=(xs.zip ys).all fun p=>e p.1 p.2
theorem allB_drop {α:Type} (e:α->α->Bool) (xs ys:List α) (i:Nat) (hx:i < xs.length) (hy:i < ys.length):allB e (xs.drop i) (ys.drop i)=(e xs[i] ys[i]&&allB e (xs.drop (i+1)) (ys.drop (i+1))):=by
 unfold allB
 rw[List.drop_eq_getElem_cons hx,List.drop_eq_getElem_cons hy]
 simp only[List.zip_cons_cons,List.all_cons]
theorem all_loop {α:Type} {B:(Int->Option (Bool×Unit))->Int->Option (Bool×Unit)} {xs ys:List α} (e:α->α->Bool) (hlen:xs.length=ys.length) (hmax:xs.length<=maxLen)
  (hin:∀ (i:Nat) (hx:i < xs.length) (hy:i < ys.length) self,B self (i:Int)=if e xs[i] ys[i]=true then self (w64 ((i:Int)+1)) else some (false,()))
  (hout:∀ self,B self (xs.length:Int)=some (true,())):∀ k,xs.length < k->rawIter B k 0=some (allB e xs ys,()):=by
 intro k hk
 have h:=rawIter_eq (B:=B) (fun v=>(allB e (xs.drop v.toNat) (ys.drop v.toNat),())) (fun v=>0<=v/\v<=(xs.length:Int)) (fun v=>xs.length - v.toNat) (fun v hv self=>by
  obtain ⟨h0,h1⟩:=hv
  obtain ⟨i,rfl⟩:=Int.eq_ofNat_of_zero_le h0
  simp only[Int.toNat_natCast]
  by_cases hi:i < xs.length
  ·have hy:i < ys.length:=by omega
   rw[allB_drop e xs ys i hi hy,hin i hi hy]
   cases he:e xs[i] ys[i] with
   | true=>
    right
    have hw:w64 ((i:Int)+1)=((i+1:Nat):Int):=by rw[w64_in (by rw[maxLen_val] at hmax;omega)];omega
    refine ⟨_,by rw[hw];rfl,by simp,by omega,?_⟩
    simp only[Int.toNat_natCast];omega
   | false=>left;simp
  ·have hi':i=xs.length:=by omega
   subst hi'
   left
   rw[hout]
   simp[allB]) k 0 ⟨by omega,by omega⟩ (by simpa using hk)
 simpa using h
theorem copy_loop {α:Type} {B:((List α×Int)->Option (List α×Unit))->(List α×Int)->Option (List α×Unit)} {xs:List α} (hmax:xs.length<=maxLen)
  (hin:∀ (i:Nat) (hx:i < xs.length) (acc:List α) self,acc.length=xs.length->B self (acc,(i:Int))=self (acc.set i xs[i],w64 ((i:Int)+1)))
  (hout:∀ acc self,B self (acc,(xs.length:Int))=some (acc,())) (z:α):∀ k,xs.length < k->rawIter B k (List.replicate xs.length z,0)=some (xs,()):=by
 intro k hk
 refine rawIter_eq (B:=B) (fun _=>(xs,())) (fun v=>0<=v.2/\v.2<=(xs.length:Int)/\v.1.length=xs.length/\∀ j,j < v.2.toNat->v.1[j]?=xs[j]?) (fun v=>xs.length - v.2.toNat) (fun v hv self=>?_) k _ ⟨by simp,by simp,by simp,by simp⟩ (by simpa using hk)
 obtain ⟨acc,i⟩:=v
 obtain ⟨h0,h1,h2,h3⟩:=hv
 simp only at h0 h1 h2 h3
 obtain ⟨i,rfl⟩:=Int.eq_ofNat_of_zero_le h0
 simp only[Int.toNat_natCast] at h3 ⊢
 by_cases hi:i < xs.length
 ·right
  have hw:w64 ((i:Int)+1)=((i+1:Nat):Int):=by rw[w64_in (by rw[maxLen_val] at hmax;omega)];omega
  refine ⟨(acc.set i xs[i],((i+1:Nat):Int)),by rw[hin i hi acc self h2,hw],trivial,⟨by omega,by simp only;omega,by simpa using h2,fun j hj=>?_⟩,?_⟩
  ·simp only[Int.toNat_natCast] at hj
   by_cases hji:j=i
   ·subst hji;simp[h2,hi]
   ·simp only[List.getElem?_set]
    rw[if_neg (fun e=>hji e.symm)]
    exact h3 j (by omega)
  ·simp only[Int.toNat_natCast];omega
 ·have hi':i=xs.length:=by omega
  subst hi'
  left
  rw[hout]
  have:acc=xs:=List.ext_getElem? fun j=>by
   by_cases hj:j < xs.length
   ·exact h3 j hj
   ·rw[List.getElem?_eq_none (by omega),List.getElem?_eq_none (by omega)]
  rw[this]
end OT
set_option linter.unusedVariables false
set_option linter.unusedSimpArgs false
namespace OT
open Go
def sumW {α:Type} (f:α->Nat):List α->Nat
 | []=>0
 | x::xs=>f x+sumW f xs
theorem sumW_mem {α:Type} (f:α->Nat):∀ (xs:List α) (x:α),x ∈ xs->f x<=sumW f xs
 | y::xs,x,h=>by
  simp only[sumW]
  rcases List.mem_cons.1 h with rfl | h
  ·omega
  ·have:=sumW_mem f xs x h;omega
 | [],_,h=>by cases h
theorem sumW_zero {α:Type} (f:α->Nat) (h:∀ x,f x=0):∀ (xs:List α),sumW f xs=0
 | []=>rfl
 | x::xs=>by simp[sumW,h x,sumW_zero f h xs]
def zz:(t:Ty)->t.den->Nat
 | .str,v=>List.length v
 | .pair a b,v=>zz a v.1+zz b v.2
 | .slc e,v=>List.length v+sumW (zz e) v
 | _,_=>0
theorem zz_mem {e:Ty} {xs:List e.den} {x:e.den} (h:x ∈ xs):zz e x+1<=zz (.slc e) xs:=by
 have:=sumW_mem (zz e) xs x h
 have:1<=xs.length:=List.length_pos_of_mem h
 show _<=List.length xs+_
 omega
theorem zz_len {e:Ty} (xs:List e.den):xs.length<=zz (.slc e) xs:=Nat.le_add_right _ _
def lft (n:Int) (z:Nat):Int:=if (z:Int)<=n then n - z else -1
theorem sz_loop {α:Type} {B:((Int×Int)->Option (Int×Unit))->(Int×Int)->Option (Int×Unit)} {xs:List α} (hmax:xs.length<=maxLen) (z:α->Nat)
  (hin:∀ (i:Nat) (hx:i < xs.length) (n:Int) self,0<=n->n<=1048576->B self (n,(i:Int))=if lft n (z xs[i]) < 0 then some (-1,()) else self (lft n (z xs[i]),w64 ((i:Int)+1)))
  (hout:∀ n self,B self (n,(xs.length:Int))=some (n,())) (n:Int) (h0:0<=n) (h1:n<=1048576) :
  ∀ k,xs.length < k->rawIter B k (n,0)=some (lft n (sumW z xs),()):=by
 have main:∀ (m i:Nat) (n:Int),xs.length - i=m->i<=xs.length->0<=n->n<=1048576->∀ k,m < k->rawIter B k (n,(i:Int))=some (lft n (sumW z (xs.drop i)),()):=by
  intro m
  induction m with
  | zero=>
   intro i n hm hi h0 h1 k hk
   have hi':i=xs.length:=by omega
   subst hi'
   cases k with
   | zero=>omega
   | succ k=>
    have:rawIter B (k+1) (n,(xs.length:Int))=some (n,()):=hout n _
    rw[this]
    simp[lft,sumW,h0]
  | succ m ih=>
   intro i n hm hi h0 h1 k hk
   have hlt:i < xs.length:=by omega
   rw[List.drop_eq_getElem_cons hlt]
   simp only[sumW]
   cases k with
   | zero=>omega
   | succ k=>
    show B (rawIter B k) _=_
    rw[hin i hlt n _ h0 h1]
    by_cases hz:(z xs[i]:Int)<=n
    ·have e:lft n (z xs[i])=n - (z xs[i]:Int):=if_pos hz
     have hneg:¬ (n - (z xs[i]:Int) < 0):=by omega
     have hw:w64 ((i:Int)+1)=((i+1:Nat):Int):=by rw[w64_in (by rw[maxLen_val] at hmax;omega)];omega
     rw[e,if_neg hneg,hw,ih (i+1) _ (by omega) (by omega) (by omega) (by omega) k (by omega)]
     unfold lft
     by_cases hc:((sumW z (xs.drop (i+1)):Nat):Int)<=n - (z xs[i]:Int)
     ·rw[if_pos hc,if_pos (by omega)]
      have:n - (z xs[i]:Int) - (sumW z (xs.drop (i+1)):Nat)=n - ((z xs[i]+sumW z (xs.drop (i+1)):Nat):Int):=by omega
      rw[this]
     ·rw[if_neg hc,if_neg (by omega)]
    ·have e:lft n (z xs[i])=-1:=if_neg hz
     rw[e,if_pos (by omega)]
     unfold lft
     rw[if_neg (by omega)]
 intro k hk
 simpa using main xs.length 0 n (by omega) (by omega) h0 h1 k hk
theorem lft_add {n:Int} {a b:Nat} (h:(a:Int)<=n):lft (n - a) b=lft n (a+b):=by
 unfold lft
 by_cases hc:(b:Int)<=n - a
 ·rw[if_pos hc,if_pos (by omega)];omega
 ·rw[if_neg hc,if_neg (by omega)]
end OT
set_option linter.unusedVariables false
set_option linter.unusedSimpArgs false
namespace OT
open Go
def forI {S O α:Type} (f:Nat->S->α->Sum O S) (fin:S->O):Nat->List α->S->O
 | _,[],s=>fin s
 | i,x::xs,s=>match f i s x with
  | .inl o=>o
  | .inr s'=>forI f fin (i+1) xs s'
theorem for_loop {V S O α:Type} {B:(V->Option O)->V->Option O} (xs:List α) (enc:S->Int->V) (f:Nat->S->α->Sum O S) (fin:S->O) (I:Nat->S->Prop) (hmax:xs.length<=maxLen)
  (hin:∀ (i:Nat) (hi:i < xs.length) (s:S) self,I i s->B self (enc s (i:Int))=match f i s xs[i] with | .inl o=>some o | .inr s'=>self (enc s' (w64 ((i:Int)+1))))
  (hI:∀ (i:Nat) (hi:i < xs.length) (s s':S),I i s->f i s xs[i]=.inr s'->I (i+1) s')
  (hout:∀ (s:S) self,I xs.length s->B self (enc s (xs.length:Int))=some (fin s)) (s:S) (h0:I 0 s):∀ k,xs.length < k->rawIter B k (enc s 0)=some (forI f fin 0 xs s):=by
 have main:∀ (m i:Nat) (s:S),xs.length - i=m->i<=xs.length->I i s->∀ k,m < k->rawIter B k (enc s (i:Int))=some (forI f fin i (xs.drop i) s):=by
  intro m
  induction m with
  | zero=>
   intro i s hm hi hs k hk
   have hi':i=xs.length:=by omega
   subst hi'
   cases k with
   | zero=>omega
   | succ k=>
    show B (rawIter B k) _=_
    rw[hout s _ hs]
    simp[forI]
  | succ m ih=>
   intro i s hm hi hs k hk
   have hlt:i < xs.length:=by omega
   cases k with
   | zero=>omega
   | succ k=>
    show B (rawIter B k) _=_
    rw[hin i hlt s _ hs,List.drop_eq_getElem_cons hlt]
    simp only[forI]
    cases hf:f i s xs[i] with
    | inl o=>rfl
    | inr s'=>
     have hw:w64 ((i:Int)+1)=((i+1:Nat):Int):=by rw[w64_in (by rw[maxLen_val] at hmax;omega)];omega
     simp only[hw]
     exact ih (i+1) s' (by omega) (by omega) (hI i hlt s s' hs hf) k (by omega)
 intro k hk
 simpa using main xs.length 0 s (by omega) (by omega) h0 k hk
theorem forI_check {O α:Type} (p:α->Bool) (bad:O) (fin:Unit->O):∀ (xs:List α) (i:Nat),forI (fun _ _ x=>if p x then .inr () else .inl bad) fin i xs ()=if xs.all p then fin () else bad
 | [],_=>rfl
 | x::xs,i=>by
  simp only[forI,List.all_cons]
  by_cases h:p x=true
  ·simp[h,forI_check p bad fin xs (i+1)]
  ·simp[h]
def firstF {α:Type} (c:α->Int):List α->Int
 | []=>0
 | x::xs=>if c x=0 then firstF c xs else c x
theorem forI_first {O α:Type} (c:α->Int) (bad:Int->O) (fin:Unit->O):∀ (xs:List α) (i:Nat),forI (fun _ _ x=>if c x=0 then .inr () else .inl (bad (c x))) fin i xs ()=if firstF c xs=0 then fin () else bad (firstF c xs)
 | [],_=>rfl
 | x::xs,i=>by
  simp only[forI,firstF]
  by_cases h:c x=0
  ·simp[h,forI_first c bad fin xs (i+1)]
  ·simp[h]
theorem both_self {R:Type} (a:Option R):both a a=a:=by simp[both]
theorem nilB_eq {R α:Type} {v:List α} {a b r:Option R} (h1:v=[]->a=r) (h2:b=r):nilB v a b=r:=by
 cases v with
 | nil=>rw[nilB,h1 rfl,h2,both_self]
 | cons _ _=>exact h2
theorem cap_ok {n:Nat} (h:n<=200000000000):n<=CAP:=by simp only[CAP];omega
end OT
set_option linter.unusedVariables false
set_option linter.unusedSimpArgs false
namespace OT
open Go
def simpT:Ty->Bool
 | .int _ | .bool | .str | .unit=>true
 | .pair a b=>simpT a&&simpT b
 | _=>false
def encT:(t:Ty)->t.den->List Value
 | .int k,v=>[.int k (toI k v)]
 | .bool,v=>[.bool v]
 | .str,v=>[.string ⟨List.toArray v⟩]
 | .unit,_=>[]
 | .pair a b,v=>encT a v.1++encT b v.2
 | _,_=>[]
section
variable {P:Program} {w:World} {A:Cells}
theorem ro_enc:∀ (t:Ty),simpT t=true->∀ (v:t.den),Ro P w A t v (encT t v):=by
 intro t
 induction t with
 | pair a b iha ihb=>
  intro h v
  simp only[simpT,Bool.and_eq_true] at h
  have h1:=iha h.1 v.1
  have hl:=Ro.length a h1
  show Ro P w A a v.1 ((encT a v.1++encT b v.2).take a.sz)/\Ro P w A b v.2 ((encT a v.1++encT b v.2).drop a.sz)
  rw[List.take_append_of_le_length (by omega),List.take_of_length_le (by omega),List.drop_append_of_le_length (by omega),List.drop_of_length_le (by omega),List.nil_append]
  exact ⟨h1,ihb h.2 v.2⟩
 | int k=>intro _ v;rfl
 | bool=>intro _ v;rfl
 | str=>intro _ v;rfl
 | unit=>intro _ v;rfl
 | _=>intro h;simp[simpT] at h
theorem enc_ro:∀ (t:Ty),simpT t=true->∀ {v:t.den} {cs:List Value},Ro P w A t v cs->cs=encT t v:=by
 intro t
 induction t with
 | pair a b iha ihb=>
  intro h v cs hr
  simp only[simpT,Bool.and_eq_true] at h
  have h1:=iha h.1 hr.1
  have h2:=ihb h.2 hr.2
  rw[<-List.take_append_drop a.sz cs,h1,h2]
  rfl
 | int k=>intro _ v cs h;exact h
 | bool=>intro _ v cs h;exact h
 | str=>intro _ v cs h;exact h
 | unit=>intro _ v cs h;exact h
 | _=>intro h;simp[simpT] at h
theorem simp_flat:∀ (t:Ty),simpT t=true->t.flat=true:=by
 intro t
 induction t with
 | pair a b iha ihb=>intro h;simp only[simpT,Bool.and_eq_true] at h;simp only[Ty.flat,iha h.1,ihb h.2,Bool.and_self]
 | int k=>intro _;rfl
 | bool=>intro _;rfl
 | str=>intro _;rfl
 | unit=>intro _;rfl
 | _=>intro h;simp[simpT] at h
end
theorem ce_cells {w:World} {b i:Nat} {u:Value} {c:Array Value} {e:TypeId} {fr:Nat×Nat} (h:w.heap[b]?=some (.cells c e fr)) (hu:ce w b i=some u):c[i]?=some u:=by
 unfold ce at hu
 simp only[h,World.cell?] at hu
 cases hc:c[i]? with
 | none=>simp[hc] at hu
 | some v=>
  simp only[hc,Option.isSome_none,Bool.false_eq_true,if_false,Option.bind_some] at hu
  rw[(oneV_some hu).1]
theorem ce_of_cells {w:World} {b i:Nat} {u:Value} {c:Array Value} {e:TypeId} {fr:Nat×Nat} (h:w.heap[b]?=some (.cells c e fr)) (hg:c[i]?=some u) (hu:u.oneCell'=true):ce w b i=some u:=by
 refine cell_ce ?_ hu
 simp only[World.cell?,h,Option.isSome_none,Bool.false_eq_true,if_false,hg]
end OT
set_option linter.unusedVariables false
set_option linter.unusedSimpArgs false
namespace OT
open Go Go.Sort
instance inhDen (e:Ty):Inhabited e.den:=⟨e.zero⟩
noncomputable def sortF (e:Ty) (cs:e.den×e.den×Unit->Option (Int×Unit)) (v:List e.den):Option (List e.den):=open Classical in
 if List.length v<=CAP then (if h:∃ cf:e.den->e.den->Int,(∀ x y,cs (x,y,())=some (cf x y,()))/\SWO (Go.Proofs.ltOf cf) then some (pdq (Go.Proofs.ltOf h.choose) v.toArray 0 v.toArray.size (Lib.bitLen v.toArray.size) true true).toList else none) else none
theorem sortF_eq {e:Ty} {cs:e.den×e.den×Unit->Option (Int×Unit)} {cf:e.den->e.den->Int} (h1:∀ x y,cs (x,y,())=some (cf x y,())) (h2:SWO (Go.Proofs.ltOf cf)) (v:List e.den) (hl:List.length v<=CAP):sortF e cs v=some (pdq (Go.Proofs.ltOf cf) v.toArray 0 v.toArray.size (Lib.bitLen v.toArray.size) true true).toList:=by
 have hex:∃ cf:e.den->e.den->Int,(∀ x y,cs (x,y,())=some (cf x y,()))/\SWO (Go.Proofs.ltOf cf):=⟨cf,h1,h2⟩
 have he:hex.choose=cf:=by
  funext x y
  have:=(hex.choose_spec.1 x y).symm.trans (h1 x y)
  injection this with this
  exact congrArg Prod.fst this
 unfold sortF
 rw[if_pos hl,dif_pos hex,he]
theorem sortF_some {e:Ty} {cs:e.den×e.den×Unit->Option (Int×Unit)} {v r:List e.den} (h:sortF e cs v=some r):∃ cf:e.den->e.den->Int,(∀ x y,cs (x,y,())=some (cf x y,()))/\SWO (Go.Proofs.ltOf cf)/\List.length v<=CAP/\r=(pdq (Go.Proofs.ltOf cf) v.toArray 0 v.toArray.size (Lib.bitLen v.toArray.size) true true).toList:=by
 by_cases hl:List.length v<=CAP
 ·by_cases hex:∃ cf:e.den->e.den->Int,(∀ x y,cs (x,y,())=some (cf x y,()))/\SWO (Go.Proofs.ltOf cf)
  ·obtain ⟨cf,h1,h2⟩:=hex
   rw[sortF_eq h1 h2 v hl] at h
   injection h with h
   exact ⟨cf,h1,h2,hl,h.symm⟩
  ·unfold sortF at h
   rw[if_pos hl,dif_neg hex] at h
   cases h
 ·unfold sortF at h
  rw[if_neg hl] at h
  cases h
theorem pdq_spec {α:Type} [Inhabited α] {lt:α->α->Bool} (h:SWO lt) (v:List α):(pdq lt v.toArray 0 v.toArray.size (Lib.bitLen v.toArray.size) true true).toList.Perm v/\(pdq lt v.toArray 0 v.toArray.size (Lib.bitLen v.toArray.size) true true).toList.Pairwise fun x y=>lt y x=false:=by
 have hs:=pdq_sorts lt h v.toArray 0 v.toArray.size (Lib.bitLen v.toArray.size) true true (Nat.zero_le _) (Nat.le_refl _) (Or.inl rfl)
 generalize pdq lt v.toArray 0 v.toArray.size (Lib.bitLen v.toArray.size) true true=p at hs ⊢
 obtain ⟨⟨h1,h2,h3⟩,h4⟩:=hs
 refine ⟨?_,?_⟩
 ·have e1:p.extract 0 v.toArray.size=p:=by rw[<-h1];exact Array.extract_size ..
  have e2:v.toArray.extract 0 v.toArray.size=v.toArray:=Array.extract_size ..
  rw[e1,e2] at h3
  exact h3
 ·rw[List.pairwise_iff_getElem]
  intro i j hi hj hij
  have hj':j < p.size:=by simpa using hj
  have:=h4 i j (Nat.zero_le _) hij (by omega)
  rw[getElem!_pos _ i (by omega),getElem!_pos _ j hj'] at this
  simpa using this
section
variable {P:Program}
theorem ext_grow {w w':World} (h:Ext w w' (fun _ _=>0)):∃ q os,w'=grow (w.drewN q) os:=by
 refine ⟨w'.drawn - w.drawn,w'.heap.extract w.heap.size w'.heap.size,?_⟩
 have hh:w'.heap=w.heap++w'.heap.extract w.heap.size w'.heap.size:=by
  apply Array.ext_getElem?
  intro i
  by_cases hi:i < w.heap.size
  ·rw[h.obj i hi fun _=>rfl,Array.getElem?_append_left hi]
  ·rw[Array.getElem?_append_right (by omega),Array.getElem?_extract]
   by_cases hi':i < w'.heap.size
   ·rw[if_pos (by omega)]
    congr 1
    omega
   ·rw[if_neg (by omega),Array.getElem?_eq_none (by omega)]
 have h1:=h.os
 have h2:=h.tape
 have h3:=h.output
 have h4:=h.drawn
 cases w with
 | mk heap tape drawn os output=>
  cases w' with
  | mk heap' tape' drawn' os' output'=>
   simp only at h1 h2 h3 h4 hh
   subst h1;subst h2;subst h3
   simp only[grow,World.drewN,World.mk.injEq,true_and,and_true]
   exact ⟨hh,by omega⟩
theorem cmp_lays {e:Ty} (hs:simpT e=true) (ha:isAgg e=true) {g:Nat} {cF:e.den×e.den×Unit->Option (Int×Unit)} (hg:Sound P g { ps:=[(.ro,e),(.ro,e)],rs:=[(.int .i64,roMd (.int .i64))],F:=cF }) {cf:e.den->e.den->Int} (hc:∀ x y,cF (x,y,())=some (cf x y,())) (b size:Nat) (w:World):Go.Proofs.CmpLays P g #[] (encT e) e.sz cf b 0 size w:=by
 intro m os dk _ x y
 have hargs:ArgsRel P (Go.Proofs.sortWorldK (encT e) e.sz w b 0 m dk os) (fun _ _=>False) [(.ro,e),(.ro,e)] (x,y,()) [.agg (encT e x).toArray,.agg (encT e y).toArray] (fun _ _=>0):=
  ⟨_,_,fun _ _=>0,fun _ _=>0,rfl,fun _ _=>Nat.le_refl _,⟨encT e x,by simp[mkV,ha],ro_enc e hs x⟩,_,_,fun _ _=>0,fun _ _=>0,rfl,fun _ _=>Nat.le_refl _,⟨encT e y,by simp[mkV,ha],ro_enc e hs y⟩,rfl⟩
 refine (hg _ (fun _ _=>False) (fun _ _=>0) (x,y,()) _ hargs (fun _ _=>Nat.zero_le _) (fun _ _ h=>by omega) (fun _ _ h=>by rcases h with h | h;omega;exact h.elim) (cf x y,()) (hc x y)).mono ?_
 rintro ex w' ⟨rv,rfl,hext,A',G,GR,GM,_,_,_,_,_,_,_,hret,_⟩
 obtain ⟨cs,h1,h2⟩:=hret
 refine ⟨?_,ext_grow hext⟩
 have h2:cs=[.int .i64 (cf x y)]:=h2
 rw[h1,h2]
 rfl
theorem sort_ok {ρ:Go.Shelf.Ren} (L:Go.Proofs.SlLaysF0.n6 P ρ) {e:Ty} (hs:simpT e=true) (ha:isAgg e=true) (hl:layB P e (.inl (ρ.t 24))=true) (h1:1<=e.sz) {g:Nat} {cF:e.den×e.den×Unit->Option (Int×Unit)}
  (hg:Ok P g { ps:=[(.ro,e),(.ro,e)],rs:=[(.int .i64,roMd (.int .i64))],F:=cF }) (he:EnterOk P (ρ.f 6) false) :
  Ok P (ρ.f 6) { ps:=[(.muts (ownMd (.slc e)),.slc e),(.fix g,.fn)],rs:=[],F:=fun v=>(sortF e cF v.1).map fun r=>(r,()) }:=by
 refine ⟨?_,he⟩
 intro w A F0 v xs hargs hle hdis hbnd out hout
 obtain ⟨vs,⟨fg,fv⟩,⟨⟩⟩:=v
 obtain ⟨x,xs',F1,F2,rfl,hF,⟨cs,rfl,hrep⟩,x2,xs'',F3,F4,rfl,hF2,⟨⟨cs2,rfl,hfn⟩,hfix⟩,hnil⟩:=hargs
 have hnil:xs''=[]:=hnil
 subst hnil
 have hfg:fg=g:=hfix rfl
 subst hfg
 obtain ⟨caps,rfl,fn,hfn1,hfn2⟩:=hfn
 have hcaps:caps=#[]:=by
  obtain ⟨fn',k1,_,_,k4⟩:=hg.2
  have hfn1:P.funcs[fg]?=some fn:=hfn1
  rw[hfn1] at k1
  injection k1 with k1
  subst k1
  have k4:fn.nfree=0:=k4
  rcases hfn2 with ⟨_,q⟩ | ⟨q,_⟩
  ·exact q
  ·omega
 subst hcaps
 have hx2:mkV .fn [.func (.func fg) #[] #[]]=.func (.func fg) #[] #[]:=rfl
 have hout:(sortF e cF vs).map (fun r=>(r,()))=some out:=hout
 cases hsort:sortF e cF vs with
 | none=>rw[hsort] at hout;cases hout
 | some r=>
 rw[hsort] at hout
 injection hout with hout
 subst hout
 obtain ⟨cf,hc,hO,hcap,hr⟩:=sortF_some hsort
 have hspec:=pdq_spec hO vs
 rw[<-hr] at hspec
 have hrep':=hrep
 simp only[Rep,hole,List.any_nil,Bool.false_eq_true,if_false,ownMd,mdOf,Md.own,if_true] at hrep
 obtain ⟨xa,cap,rfl,g2,g3,g4,g5⟩:=hrep
 have hv1:mkV (.slc e) [.slice xa (List.length vs) cap]=.slice xa (List.length vs) cap:=rfl
 rw[hx2,hv1]
 have hfin:∀ (w':World) (F1':FP),Ext w w' F0->(∀ b i,F1' b i<=F1 b i)->Rep P w' A (.slc e) (ownMd (.slc e)) [] r [.slice xa (List.length vs) cap] F1' ->
   ∃ rv,Ending.returned (.tuple #[])=.returned rv/\Ext w w' F0/\∃ (A':Cells) (G GR GM:FP),(∀ b i,A b i->A' b i)/\(∀ b i,A' b i->A b i\/1<=F0 b i\/w.heap.size<=b)/\(∀ b i,1<=G b i->1<=F0 b i\/w.heap.size<=b)/\(∀ b i,G b i<=1)/\(∀ b i,1<=G b i->¬ A' b i)/\(∀ b i,1<=G b i\/A' b i->b < w'.heap.size)/\(∀ b i,GR b i+GM b i<=G b i) /\
   RetRel P w' A' [] rv GR/\MutsRel P w' A' [(.muts (ownMd (.slc e)),.slc e),(.fix fg,.fn)] (r,()) [.slice xa (List.length vs) cap,.func (.func fg) #[] #[]] GM:=fun w' F1' hext hF1 hrp=>
  ⟨_,rfl,hext,A,F0,fun _ _=>0,F0,fun _ _ h=>h,fun _ _ h=>.inl h,fun _ _ h=>.inl h,hle,hdis,fun b i h=>Nat.lt_of_lt_of_le (hbnd b i h) hext.size,fun b i=>by show 0+F0 b i<=F0 b i;omega,trivial,F1',F2,fun b i=>by have:=hF b i;have:=hF1 b i;omega,⟨_,rfl,hrp⟩,trivial⟩
 by_cases h0:List.length vs=0
 ·have hvs:vs=[]:=List.eq_nil_of_length_eq_zero h0
  have hrn:r=[]:=by
   have:=hspec.1.length_eq
   exact List.eq_nil_of_length_eq_zero (by omega)
  rw[h0]
  refine (Go.Proofs.AnyF.slices_SortFunc_none L xa cap (.func (.func fg) #[] #[]) w).mono ?_
  rintro ex w' ⟨rfl,hw⟩
  rw[hw]
  rw[h0] at hfin
  refine hfin w F1 (Ext.refl _ _) (fun _ _=>Nat.le_refl _) ?_
  rw[hrn,<- hvs]
  have:List.length vs=0:=h0
  rw[this] at hrep'
  exact hrep'
 ·cases xa with
  | none=>have:=g4 rfl;omega
  | some ad=>
   obtain ⟨q1,q2,q3,Fi,q4,q5⟩:=g5 ad rfl
   obtain ⟨b,off,sp⟩:=ad
   simp only at q1 q2 q3 q4 q5
   subst q1;subst q2
   obtain ⟨c,el,fr,c1,c2,c3,c4⟩:=q3
   have hb:=(Array.getElem?_eq_some_iff.1 c1).1
   have hsz:vs.toArray.size=List.length vs:=by simp
   have hbl:List.length vs*e.sz<=cap*e.sz:=Nat.mul_le_mul_right _ g2
   have hpos:1<=List.length vs*e.sz:=Nat.mul_le_mul (show 1<=List.length vs by omega) h1
   have hcell:∀ (i:Nat) (y:e.den),vs[i]?=some y->Has w b (i*e.sz) (encT e y):=fun i y hy=>by
    obtain ⟨L0,l1,l2,l3⟩:=q5 i y hy
    have:=enc_ro e hs (Rep.flat e (simp_flat e hs) l3)
    rw[<-this]
    exact l2
   have hH:Go.Sort.HoldsK (encT e) e.sz w b 0 vs.toArray:=by
    intro j hj
    rw[Go.Sort.size_flatK,hsz] at hj
    rw[Nat.zero_add,Go.Sort.get_flatK _ _ _ _ (by rw[hsz];exact hj)]
    have hi:j / e.sz < List.length vs:=by rw[Nat.div_lt_iff_lt_mul h1];exact hj
    have hy:=List.getElem?_eq_getElem hi
    have hm:=Nat.mod_lt j h1
    have hel:(encT e (vs[j / e.sz]))[j % e.sz]?=some ((encT e (vs[j / e.sz]))[j % e.sz]!):=by
     have hlen:=Ro.length e (ro_enc (P:=P) (w:=w) (A:=A) e hs (vs[j / e.sz]))
     rw[List.getElem?_eq_getElem (by omega),getElem!_pos _ _ (by omega)]
    have hce:=hcell _ _ hy _ _ hel
    have hdm:j / e.sz*e.sz+j % e.sz=j:=by rw[Nat.mul_comm];exact Nat.div_add_mod j e.sz
    rw[hdm] at hce
    have hone:=Ro.one e (ro_enc (P:=P) (w:=w) (A:=A) e hs (vs[j / e.sz])) _ (List.mem_of_getElem? hel)
    have hcc:=ce_cell hce hone
    refine ⟨?_,?_⟩
    ·show _=some (id _)
     rw[hcc]
     have:vs.toArray[j / e.sz]! = vs[j / e.sz]:=by rw[getElem!_pos _ _ (by rw[hsz];exact hi)];simp
     rw[this]
     rfl
    ·simp only[World.frozen?,c1]
     have:=c3 j (by omega)
     simp only[Bool.and_eq_false_imp,decide_eq_true_eq,decide_eq_false_iff_not,not_and] at this ⊢
     intro h
     first | exact this h | (have:=this (by simpa using h);simpa using this)
   have hkit:=Go.Proofs.AnyQ.slices_SortFunc_eq L e.sz (fun w=>by rw[run_isAgg hl,ha]) (fun w=>run_sizeOf hl) (encT e) (fun y=>Ro.length e (ro_enc (P:=P) (w:=w) (A:=A) e hs y)) (fun y u hu=>Ro.one e (ro_enc (P:=P) (w:=w) (A:=A) e hs y) u hu) cf hO fg #[] b 0 cap vs.toArray w
    (fun args w=>enter_run hg.2 args) (cmp_lays hs ha hg.1 hc b _ w) hH hb (by rw[hsz];unfold CAP at hcap;omega)
   rw[hsz] at hkit
   refine hkit.mono ?_
   rintro ex w' ⟨rfl,n,os,rfl⟩
   rw[hsz] at hr
   have hrd:(pdq (Go.Proofs.ltOf cf) vs.toArray 0 (List.length vs) (Lib.bitLen (List.length vs)) true true)=r.toArray:=by rw[hr]
   rw[hrd]
   have hrl:r.length=List.length vs:=hspec.1.length_eq
   have hold:∀ b',b' < w.heap.size->b'≠b->(Go.Proofs.sortWorldK (encT e) e.sz w b 0 n r.toArray os).heap[b']?=w.heap[b']?:=fun b' hb' hne=>by
    simp only[Go.Proofs.sortWorldK,grow,Go.Sort.putRowK,Go.Sort.putRow,Go.Sort.mapBlock,Go.Sort.ahead]
    rw[Array.getElem?_append_left (by simpa using hb'),Array.getElem?_modify,if_neg (fun e=>hne e.symm)]
   have hnew:(Go.Proofs.sortWorldK (encT e) e.sz w b 0 n r.toArray os).heap[b]?=some (.cells (Go.Sort.putCells id 0 (Go.Sort.flatK (encT e) e.sz r.toArray) c) el fr):=by
    simp only[Go.Proofs.sortWorldK,grow,Go.Sort.putRowK,Go.Sort.putRow,Go.Sort.mapBlock,Go.Sort.ahead]
    rw[Array.getElem?_append_left (by simpa using hb),Array.getElem?_modify,if_pos rfl,c1]
    rfl
   have hcs:(Go.Sort.putCells id 0 (Go.Sort.flatK (encT e) e.sz r.toArray) c).size=c.size:=by simp[Go.Sort.putCells]
   have hext:Ext w (Go.Proofs.sortWorldK (encT e) e.sz w b 0 n r.toArray os) F0:=by
    have hown:∀ i,i < cap*e.sz->1<=F0 b i:=fun i hi=>by
     have h3:=hF b i
     have h4:=q4 b i
     have h5:rng b 0 (cap*e.sz) b i=1:=by simp only[rng];rw[if_pos ⟨trivial,by omega,by omega⟩]
     omega
    refine ⟨?_,fun b' i hb' hz u hu=>?_,fun b' m hm=>?_,fun b' i hb'=>?_,rfl,rfl,rfl,fun b' hb' hz=>?_,Nat.le_add_right _ _⟩
    ·simp only[Go.Proofs.sortWorldK,grow,Go.Sort.putRowK,Go.Sort.putRow,Go.Sort.mapBlock,Go.Sort.ahead,Array.size_append,Array.size_modify]
     omega
    ·by_cases hbb:b'=b
     ·subst hbb
      have hi:¬ i < cap*e.sz:=fun hi=>by have:=hown i hi;omega
      exfalso
      have:=ce_cells c1 hu
      rw[Array.getElem?_eq_none (by omega)] at this
      cases this
     ·rw[ce_block (hold b' hb' hbb)];exact hu
    ·by_cases hbb:b'=b
     ·subst hbb
      obtain ⟨c',e',f',m1,m2,m3⟩:=hm
      rw[c1] at m1
      injection m1 with m1
      injection m1 with m1 m4 m5
      subst m1;subst m4;subst m5
      exact ⟨_,_,_,hnew,by rw[hcs];exact m2,m3⟩
     ·have hb':b' < w.heap.size:=hm.lt
      exact (own_of_block (hold b' hb' hbb) m).1 hm
    ·by_cases hbb:b'=b
     ·subst hbb
      simp only[World.frozen?,hnew,c1]
     ·exact fr_of_block (hold b' hb' hbb) i
    ·by_cases hbb:b'=b
     ·subst hbb
      have:=hown 0 (by omega)
      have:=hz 0
      omega
     ·exact hold b' hb' hbb
   refine hfin _ F1 hext (fun _ _=>Nat.le_refl _) ?_
   simp only[Rep,hole,List.any_nil,Bool.false_eq_true,if_false,ownMd,mdOf,Md.own,if_true]
   refine ⟨some ⟨b,0,none⟩,cap,by rw[hrl],by rw[hrl];exact g2,g3,(fun e=>by cases e),fun ad e2=>?_⟩
   injection e2 with e2
   subst e2
   refine ⟨rfl,rfl,⟨_,_,_,hnew,by rw[hcs];exact c2,c3,c4⟩,fun _ _ _=>0,fun b' i=>?_,fun i y hy=>?_⟩
   ·have h3:=q4 b' i
    have h4:sumF (List.length r) (fun _ _ _=>0) b' i=0:=by
     generalize List.length r=nn
     induction nn with
     | zero=>rfl
     | succ nn ih=>simp only[sumF,ih]
    show rng b 0 (cap*e.sz) b' i+sumF (List.length r) (fun _ _ _=>0) b' i<=F1 b' i
    rw[h4]
    omega
   ·refine ⟨encT e y,Ro.length e (ro_enc (P:=P) (w:=w) (A:=A) e hs y),fun j u hu=>?_,?_⟩
    ·have hj:=(List.getElem?_eq_some_iff.1 hu).1
     have hlen:=Ro.length e (ro_enc (P:=P) (w:=w) (A:=A) e hs y)
     have hi:=(List.getElem?_eq_some_iff.1 hy).1
     have hij:i*e.sz+j < r.length*e.sz:=by
      have:=Nat.mul_le_mul_right e.sz (show i+1<=r.length from hi)
      rw[Nat.add_mul,Nat.one_mul] at this
      omega
     have hdiv:(i*e.sz+j) / e.sz=i:=(Go.Sort.blk_iff e.sz i _ h1).1 ⟨by omega,by omega⟩
     have hmod:(i*e.sz+j) % e.sz=j:=by rw[Nat.mod_eq_sub_div_mul,hdiv];omega
     have hget:(Go.Sort.putCells id 0 (Go.Sort.flatK (encT e) e.sz r.toArray) c)[i*e.sz+j]?=some u:=by
      have hlt:i*e.sz+j < c.size:=by rw[hrl] at hij;omega
      simp only[Go.Sort.putCells,Array.getElem?_mapIdx,Array.getElem?_eq_getElem hlt,Option.map_some,Nat.zero_le,true_and,Nat.zero_add,Nat.sub_zero,Go.Sort.size_flatK,List.size_toArray,hij,if_true,id]
      rw[Go.Sort.get_flatK _ _ _ _ (by simpa using hij),hdiv,hmod]
      have hy2:r.toArray[i]! = y:=by
       rw[getElem!_pos _ _ (by simpa using hi)]
       have:=(List.getElem?_eq_some_iff.1 hy).2
       simpa using this
      rw[hy2,getElem!_pos (encT e y) j hj]
      exact congrArg some (List.getElem?_eq_some_iff.1 hu).2
     have hone:=Ro.one e (ro_enc (P:=P) (w:=w) (A:=A) e hs y) _ (List.mem_of_getElem? hu)
     exact ce_of_cells hnew hget hone
    ·exact Ro.flat e _ (simp_flat e hs) (ro_enc e hs y)
end
end OT
set_option maxRecDepth 100000
set_option linter.unusedVariables false
namespace OT
open Go Go.Proofs.Tryz
abbrev Log:Type:=((List UInt8)×(List UInt8)×Unit)
abbrev tLog:Ty:=(tupT [(.slc u8),(.slc u8)])
abbrev Row:Type:=(Int×Int×Int×(List UInt8)×Unit)
abbrev tRow:Ty:=(tupT [i64,i64,i64,.str])
abbrev Change:Type:=(Bool×Row×Bool×Row×Unit)
abbrev tChange:Ty:=(tupT [.bool,tRow,.bool,tRow])
abbrev Key:Type:=(Int×Int×Unit)
abbrev tKey:Ty:=(tupT [i64,i64])
abbrev Tx:Type:=(Int×(List Change)×(List Int)×(List Key)×Unit)
abbrev tTx:Ty:=(tupT [i64,(.slc tChange),(.slc i64),(.slc tKey)])
abbrev Store:Type:=(Bool×(List (List UInt8))×Log×(List Tx)×Int×Unit)
abbrev tStore:Ty:=(tupT [.bool,(.slc (.slc u8)),tLog,(.slc tTx),i64])
abbrev Plain:Type:=((List Row)×(List Tx)×Int×Unit)
abbrev tPlain:Ty:=(tupT [(.slc tRow),(.slc tTx),i64])
abbrev CellResult:Type:=(Int×Int×Int×Int×Row×Unit)
abbrev tCellResult:Ty:=(tupT [i64,i64,i64,i64,tRow])
abbrev L6Spot:Type:=(Int×Int×CellResult×Unit)
abbrev tL6Spot:Ty:=(tupT [i64,i64,tCellResult])
abbrev Run:Type:=(Int×(List UInt8)×Unit)
abbrev tRun:Ty:=(tupT [i64,(.slc u8)])
abbrev Record:Type:=(Int×Int×Int×(List Run)×Unit)
abbrev tRecord:Ty:=(tupT [i64,i64,i64,(.slc tRun)])
abbrev RecordResult:Type:=(Int×Int×Record×Unit)
abbrev tRecordResult:Ty:=(tupT [i64,i64,tRecord])
abbrev EditsResult:Type:=(Int×(List Run)×(List (List UInt8))×Unit)
abbrev tEditsResult:Ty:=(tupT [i64,(.slc tRun),(.slc (.slc u8))])
abbrev Seen:Type:=(Row×Int×Int×Bool×Int×Int×Unit)
abbrev tSeen:Ty:=(tupT [tRow,i64,i64,.bool,i64,i64])
abbrev RowsResult:Type:=(Int×(List Row)×Unit)
abbrev tRowsResult:Ty:=(tupT [i64,(.slc tRow)])
abbrev StoreResult:Type:=(Int×Int×Store×Unit)
abbrev tStoreResult:Ty:=(tupT [i64,i64,tStore])
abbrev LogResult:Type:=(Int×Log×Unit)
abbrev tLogResult:Ty:=(tupT [i64,tLog])
abbrev Buffer:Type:=(Int×(List Change)×Unit)
abbrev tBuffer:Ty:=(tupT [i64,(.slc tChange)])
abbrev Miner:Type:=((List (List UInt8))×(List Buffer)×Unit)
abbrev tMiner:Ty:=(tupT [(.slc (.slc u8)),(.slc tBuffer)])
abbrev Connector:Type:=(Miner×Int×Miner×Int×Unit)
abbrev tConnector:Ty:=(tupT [tMiner,i64,tMiner,i64])
abbrev Sent:Type:=(Int×Int×(List Change)×Unit)
abbrev tSent:Ty:=(tupT [i64,i64,(.slc tChange)])
abbrev ConnectorResult:Type:=(Int×Bool×Sent×Connector×Unit)
abbrev tConnectorResult:Ty:=(tupT [i64,.bool,tSent,tConnector])
abbrev MinerResult:Type:=(Int×Bool×Bool×Int×(List Change)×Miner×Unit)
abbrev tMinerResult:Ty:=(tupT [i64,.bool,.bool,i64,(.slc tChange),tMiner])
abbrev SentResult:Type:=(Int×(List Sent)×Connector×Unit)
abbrev tSentResult:Ty:=(tupT [i64,(.slc tSent),tConnector])
noncomputable def TL0:TL:=[(23,(.slc u8)),(2,i64),(129,tRow),(22,(.slc (.slc u8))),(5,u8),(124,tTx),(43,(.slc tRow)),(4,.bool),(32,(.slc tTx)),(199,tKey),(209,tChange),(3,i64),(67,(.slc tChange)),(190,tRecord),(122,(.slc tKey)),(188,(.slc tRun)),(31,tLog),(179,tCellResult),(9,.str),(272,tRun),(121,(.slc i64)),(34,tStore),(111,(.slc tRecord)),(201,(.slc tL6Spot)),(205,tL6Spot),(25,tLog),(26,(.slc tTx)),(45,tPlain),(163,(.slc tChange)),(164,(.slc tKey)),(166,tTx),(196,tRow),(313,tChange),(28,tStore),(104,(.slc tSeen)),(184,(.map tKey .bool)),(187,tSeen),(250,tEditsResult),(50,tRowsResult),(222,tRecordResult),(319,tKey),(257,(.arr 64 .bool)),(258,(.int .u64)),(260,(.map (.arr 2 i64) tRow)),(261,(.arr 2 i64)),(263,(.map (.arr 2 i64) .bool))]
theorem tlOk:(tiOk prog TL0&&eqOkL prog TL0)=true:=by kernel_rfl
namespace laws_szByteS
abbrev Arg:Type:=(List UInt8)×Int×Unit
abbrev Out:Type:=Int×Unit
abbrev ps:PQ:=[(.ro,(.slc u8)),(.ro,i64)]
noncomputable def D:FD:={ fn:=f115,tl:=TL0,ps:=ps,rs:=[(i64,(roMd i64))] }
noncomputable def sem (a:Arg):Option Out:=@lift Out fun k=>D.W k a
noncomputable def p (a1:Arg):Option Out:=bif decide (w64 (a1.2.1 - (a1.1.length:Int)) < (0:Int)) then (some ((-1:Int),())) else some (w64 (a1.2.1 - (a1.1.length:Int)),())
theorem raw_eq (k:Nat) (a1:Arg):@Eq (Option Out) (D.W k a1) (p a1):=by kernel_rfl
theorem ok:Ok prog 115 D.sig:=fd_ok func115 tlOk (by kernel_rfl) (fn_nil _)
end laws_szByteS
namespace laws_szByteSS
abbrev Arg:Type:=(List (List UInt8))×Int×Unit
abbrev Out:Type:=Int×Unit
abbrev ps:PQ:=[(.ro,(.slc (.slc u8))),(.ro,i64)]
noncomputable def D:FD:={ fn:=f53,tl:=TL0,ps:=ps,rs:=[(i64,(roMd i64))],gl:=[(115,laws_szByteS.D.sig)],lv:=[(5,[0,1,5])],lx:=[(0,[1])] }
noncomputable def sem (a:Arg):Option Out:=@lift Out fun k=>D.W k a
noncomputable def T0 (a1:Arg) (v402:Int×Int):St:={ n:=27,sl:=[(0,.val (.slc (.slc u8)) a1.1),(1,.val i64 v402.1),(5,.val i64 v402.2)],vr:=[],lent:=[] }
noncomputable def b0 (self:(Int×Int)->Option Out) (e0:Int->Option Out) (a1:Arg) (v402:Int×Int):Option Out:=bif decide (v402.2 < (a1.1.length:Int)) then (if 0<=v402.2 then ((a1.1[v402.2.toNat]?).bind fun x603=>(laws_szByteS.sem (x603,v402.1,())).bind fun r604=>bif decide (r604.1 < (0:Int)) then (some ((-1:Int),())) else self (r604.1,w64 (v402.2+(1:Int)))) else none) else e0 v402.1
noncomputable abbrev B0 (_:Nat):=b0
noncomputable def q0 (a1:Arg) (z605:Int):Option Out:=some (z605,())
noncomputable abbrev Q0 (_:Nat):=q0
noncomputable def s0 (k:Nat) (a1:Arg):(Int×Int)->Option Out:=fun v402=>D.L k [1,1,1,0,1,0,0] [0,1,5] [] (blockC 0 (seqC (D.N k [1,1,1,1]) D.K0)) (T0 a1 v402)
noncomputable def r0 (k:Nat) (a1:Arg):(Int×Int)->Option Out:=rawIter (fun w v=>B0 k w (Q0 k a1) a1 v) k
theorem s0_eq (k:Nat) (a1:Arg):s0 k a1=r0 k a1:=
 funext fun v402=>iter_raw _ _ _ (T0 a1) _ (fun rec v=>by kernel_rfl) k v402
noncomputable def p (l0:(Int×Int)->Option Out) (a1:Arg):Option Out:=bif decide (w64 (a1.2.1 - (a1.1.length:Int)) < (0:Int)) then (some ((-1:Int),())) else l0 (w64 (a1.2.1 - (a1.1.length:Int)),(0:Int))
theorem raw_eq (k:Nat) (a1:Arg):@Eq (Option Out) (D.W k a1) (p (r0 k a1) a1):=
 Eq.trans (b:=p (s0 k a1) a1) (by kernel_rfl) (by rw[s0_eq])
theorem ok:Ok prog 53 D.sig:=fd_ok func53 tlOk (by kernel_rfl) (fc laws_szByteS.ok (fn_nil _))
end laws_szByteSS
namespace laws_szLog
abbrev Arg:Type:=Log×Int×Unit
abbrev Out:Type:=Int×Unit
abbrev ps:PQ:=[(.ro,tLog),(.ro,i64)]
noncomputable def D:FD:={ fn:=f54,tl:=TL0,ps:=ps,rs:=[(i64,(roMd i64))],gl:=[(115,laws_szByteS.D.sig)] }
noncomputable def sem (a:Arg):Option Out:=@lift Out fun k=>D.W k a
noncomputable def p (a1:Arg):Option Out:=(laws_szByteS.sem (a1.1.1,a1.2.1,())).bind fun r2=>bif decide (r2.1 < (0:Int)) then (some ((-1:Int),())) else (laws_szByteS.sem (a1.1.2.1,r2.1,())).bind fun r3=>bif decide (r3.1 < (0:Int)) then (some ((-1:Int),())) else some (r3.1,())
theorem raw_eq (k:Nat) (a1:Arg):@Eq (Option Out) (D.W k a1) (p a1):=by kernel_rfl
theorem ok:Ok prog 54 D.sig:=fd_ok func54 tlOk (by kernel_rfl) (fc laws_szByteS.ok (fn_nil _))
end laws_szLog
namespace laws_szRow
abbrev Arg:Type:=Row×Int×Unit
abbrev Out:Type:=Int×Unit
abbrev ps:PQ:=[(.ro,tRow),(.ro,i64)]
noncomputable def D:FD:={ fn:=f140,tl:=TL0,ps:=ps,rs:=[(i64,(roMd i64))] }
noncomputable def sem (a:Arg):Option Out:=@lift Out fun k=>D.W k a
noncomputable def p (a1:Arg):Option Out:=bif decide (w64 (a1.2.1 - (a1.1.2.2.2.1.length:Int)) < (0:Int)) then (some ((-1:Int),())) else some (w64 (a1.2.1 - (a1.1.2.2.2.1.length:Int)),())
theorem raw_eq (k:Nat) (a1:Arg):@Eq (Option Out) (D.W k a1) (p a1):=by kernel_rfl
theorem ok:Ok prog 140 D.sig:=fd_ok func140 tlOk (by kernel_rfl) (fn_nil _)
end laws_szRow
namespace laws_szChange
abbrev Arg:Type:=Change×Int×Unit
abbrev Out:Type:=Int×Unit
abbrev ps:PQ:=[(.ro,tChange),(.ro,i64)]
noncomputable def D:FD:={ fn:=f253,tl:=TL0,ps:=ps,rs:=[(i64,(roMd i64))],gl:=[(140,laws_szRow.D.sig)] }
noncomputable def sem (a:Arg):Option Out:=@lift Out fun k=>D.W k a
noncomputable def p (a1:Arg):Option Out:=(laws_szRow.sem (a1.1.2.1,a1.2.1,())).bind fun r2=>bif decide (r2.1 < (0:Int)) then (some ((-1:Int),())) else (laws_szRow.sem (a1.1.2.2.2.1,r2.1,())).bind fun r3=>bif decide (r3.1 < (0:Int)) then (some ((-1:Int),())) else some (r3.1,())
theorem raw_eq (k:Nat) (a1:Arg):@Eq (Option Out) (D.W k a1) (p a1):=by kernel_rfl
theorem ok:Ok prog 253 D.sig:=fd_ok func253 tlOk (by kernel_rfl) (fc laws_szRow.ok (fn_nil _))
end laws_szChange
namespace laws_szChangeS
abbrev Arg:Type:=(List Change)×Int×Unit
abbrev Out:Type:=Int×Unit
abbrev ps:PQ:=[(.ro,(.slc tChange)),(.ro,i64)]
noncomputable def D:FD:={ fn:=f186,tl:=TL0,ps:=ps,rs:=[(i64,(roMd i64))],gl:=[(253,laws_szChange.D.sig)],lv:=[(5,[0,1,5])],lx:=[(0,[1])] }
noncomputable def sem (a:Arg):Option Out:=@lift Out fun k=>D.W k a
noncomputable def T0 (a1:Arg) (v402:Int×Int):St:={ n:=27,sl:=[(0,.val (.slc tChange) a1.1),(1,.val i64 v402.1),(5,.val i64 v402.2)],vr:=[],lent:=[] }
noncomputable def b0 (self:(Int×Int)->Option Out) (e0:Int->Option Out) (a1:Arg) (v402:Int×Int):Option Out:=bif decide (v402.2 < (a1.1.length:Int)) then (if 0<=v402.2 then ((a1.1[v402.2.toNat]?).bind fun x603=>(laws_szChange.sem (x603,v402.1,())).bind fun r604=>bif decide (r604.1 < (0:Int)) then (some ((-1:Int),())) else self (r604.1,w64 (v402.2+(1:Int)))) else none) else e0 v402.1
noncomputable abbrev B0 (_:Nat):=b0
noncomputable def q0 (a1:Arg) (z605:Int):Option Out:=some (z605,())
noncomputable abbrev Q0 (_:Nat):=q0
noncomputable def s0 (k:Nat) (a1:Arg):(Int×Int)->Option Out:=fun v402=>D.L k [1,1,1,0,1,0,0] [0,1,5] [] (blockC 0 (seqC (D.N k [1,1,1,1]) D.K0)) (T0 a1 v402)
noncomputable def r0 (k:Nat) (a1:Arg):(Int×Int)->Option Out:=rawIter (fun w v=>B0 k w (Q0 k a1) a1 v) k
theorem s0_eq (k:Nat) (a1:Arg):s0 k a1=r0 k a1:=
 funext fun v402=>iter_raw _ _ _ (T0 a1) _ (fun rec v=>by kernel_rfl) k v402
noncomputable def p (l0:(Int×Int)->Option Out) (a1:Arg):Option Out:=bif decide (w64 (a1.2.1 - (a1.1.length:Int)) < (0:Int)) then (some ((-1:Int),())) else l0 (w64 (a1.2.1 - (a1.1.length:Int)),(0:Int))
theorem raw_eq (k:Nat) (a1:Arg):@Eq (Option Out) (D.W k a1) (p (r0 k a1) a1):=
 Eq.trans (b:=p (s0 k a1) a1) (by kernel_rfl) (by rw[s0_eq])
theorem ok:Ok prog 186 D.sig:=fd_ok func186 tlOk (by kernel_rfl) (fc laws_szChange.ok (fn_nil _))
end laws_szChangeS
namespace laws_szInt64S
abbrev Arg:Type:=(List Int)×Int×Unit
abbrev Out:Type:=Int×Unit
abbrev ps:PQ:=[(.ro,(.slc i64)),(.ro,i64)]
noncomputable def D:FD:={ fn:=f187,tl:=TL0,ps:=ps,rs:=[(i64,(roMd i64))] }
noncomputable def sem (a:Arg):Option Out:=@lift Out fun k=>D.W k a
noncomputable def p (a1:Arg):Option Out:=bif decide (w64 (a1.2.1 - (a1.1.length:Int)) < (0:Int)) then (some ((-1:Int),())) else some (w64 (a1.2.1 - (a1.1.length:Int)),())
theorem raw_eq (k:Nat) (a1:Arg):@Eq (Option Out) (D.W k a1) (p a1):=by kernel_rfl
theorem ok:Ok prog 187 D.sig:=fd_ok func187 tlOk (by kernel_rfl) (fn_nil _)
end laws_szInt64S
namespace laws_szKeyS
abbrev Arg:Type:=(List Key)×Int×Unit
abbrev Out:Type:=Int×Unit
abbrev ps:PQ:=[(.ro,(.slc tKey)),(.ro,i64)]
noncomputable def D:FD:={ fn:=f188,tl:=TL0,ps:=ps,rs:=[(i64,(roMd i64))] }
noncomputable def sem (a:Arg):Option Out:=@lift Out fun k=>D.W k a
noncomputable def p (a1:Arg):Option Out:=bif decide (w64 (a1.2.1 - (a1.1.length:Int)) < (0:Int)) then (some ((-1:Int),())) else some (w64 (a1.2.1 - (a1.1.length:Int)),())
theorem raw_eq (k:Nat) (a1:Arg):@Eq (Option Out) (D.W k a1) (p a1):=by kernel_rfl
theorem ok:Ok prog 188 D.sig:=fd_ok func188 tlOk (by kernel_rfl) (fn_nil _)
end laws_szKeyS
namespace laws_szTx
abbrev Arg:Type:=Tx×Int×Unit
abbrev Out:Type:=Int×Unit
abbrev ps:PQ:=[(.ro,tTx),(.ro,i64)]
noncomputable def D:FD:={ fn:=f116,tl:=TL0,ps:=ps,rs:=[(i64,(roMd i64))],gl:=[(186,laws_szChangeS.D.sig),(187,laws_szInt64S.D.sig),(188,laws_szKeyS.D.sig)] }
noncomputable def sem (a:Arg):Option Out:=@lift Out fun k=>D.W k a
noncomputable def p (a1:Arg):Option Out:=(laws_szChangeS.sem (a1.1.2.1,a1.2.1,())).bind fun r2=>bif decide (r2.1 < (0:Int)) then (some ((-1:Int),())) else (laws_szInt64S.sem (a1.1.2.2.1,r2.1,())).bind fun r3=>bif decide (r3.1 < (0:Int)) then (some ((-1:Int),())) else (laws_szKeyS.sem (a1.1.2.2.2.1,r3.1,())).bind fun r4=>bif decide (r4.1 < (0:Int)) then (some ((-1:Int),())) else some (r4.1,())
theorem raw_eq (k:Nat) (a1:Arg):@Eq (Option Out) (D.W k a1) (p a1):=by kernel_rfl
theorem ok:Ok prog 116 D.sig:=fd_ok func116 tlOk (by kernel_rfl) (fc laws_szChangeS.ok (fc laws_szInt64S.ok (fc laws_szKeyS.ok (fn_nil _))))
end laws_szTx
namespace laws_szTxS
abbrev Arg:Type:=(List Tx)×Int×Unit
abbrev Out:Type:=Int×Unit
abbrev ps:PQ:=[(.ro,(.slc tTx)),(.ro,i64)]
noncomputable def D:FD:={ fn:=f55,tl:=TL0,ps:=ps,rs:=[(i64,(roMd i64))],gl:=[(116,laws_szTx.D.sig)],lv:=[(5,[0,1,5])],lx:=[(0,[1])] }
noncomputable def sem (a:Arg):Option Out:=@lift Out fun k=>D.W k a
noncomputable def T0 (a1:Arg) (v402:Int×Int):St:={ n:=27,sl:=[(0,.val (.slc tTx) a1.1),(1,.val i64 v402.1),(5,.val i64 v402.2)],vr:=[],lent:=[] }
noncomputable def b0 (self:(Int×Int)->Option Out) (e0:Int->Option Out) (a1:Arg) (v402:Int×Int):Option Out:=bif decide (v402.2 < (a1.1.length:Int)) then (if 0<=v402.2 then ((a1.1[v402.2.toNat]?).bind fun x603=>(laws_szTx.sem (x603,v402.1,())).bind fun r604=>bif decide (r604.1 < (0:Int)) then (some ((-1:Int),())) else self (r604.1,w64 (v402.2+(1:Int)))) else none) else e0 v402.1
noncomputable abbrev B0 (_:Nat):=b0
noncomputable def q0 (a1:Arg) (z605:Int):Option Out:=some (z605,())
noncomputable abbrev Q0 (_:Nat):=q0
noncomputable def s0 (k:Nat) (a1:Arg):(Int×Int)->Option Out:=fun v402=>D.L k [1,1,1,0,1,0,0] [0,1,5] [] (blockC 0 (seqC (D.N k [1,1,1,1]) D.K0)) (T0 a1 v402)
noncomputable def r0 (k:Nat) (a1:Arg):(Int×Int)->Option Out:=rawIter (fun w v=>B0 k w (Q0 k a1) a1 v) k
theorem s0_eq (k:Nat) (a1:Arg):s0 k a1=r0 k a1:=
 funext fun v402=>iter_raw _ _ _ (T0 a1) _ (fun rec v=>by kernel_rfl) k v402
noncomputable def p (l0:(Int×Int)->Option Out) (a1:Arg):Option Out:=bif decide (w64 (a1.2.1 - (a1.1.length:Int)) < (0:Int)) then (some ((-1:Int),())) else l0 (w64 (a1.2.1 - (a1.1.length:Int)),(0:Int))
theorem raw_eq (k:Nat) (a1:Arg):@Eq (Option Out) (D.W k a1) (p (r0 k a1) a1):=
 Eq.trans (b:=p (s0 k a1) a1) (by kernel_rfl) (by rw[s0_eq])
theorem ok:Ok prog 55 D.sig:=fd_ok func55 tlOk (by kernel_rfl) (fc laws_szTx.ok (fn_nil _))
end laws_szTxS
namespace laws_szStore
abbrev Arg:Type:=Store×Int×Unit
abbrev Out:Type:=Int×Unit
abbrev ps:PQ:=[(.ro,tStore),(.ro,i64)]
noncomputable def D:FD:={ fn:=f11,tl:=TL0,ps:=ps,rs:=[(i64,(roMd i64))],gl:=[(53,laws_szByteSS.D.sig),(54,laws_szLog.D.sig),(55,laws_szTxS.D.sig)] }
noncomputable def sem (a:Arg):Option Out:=@lift Out fun k=>D.W k a
noncomputable def p (a1:Arg):Option Out:=(laws_szByteSS.sem (a1.1.2.1,a1.2.1,())).bind fun r2=>bif decide (r2.1 < (0:Int)) then (some ((-1:Int),())) else (laws_szLog.sem (a1.1.2.2.1,r2.1,())).bind fun r3=>bif decide (r3.1 < (0:Int)) then (some ((-1:Int),())) else (laws_szTxS.sem (a1.1.2.2.2.1,r3.1,())).bind fun r4=>bif decide (r4.1 < (0:Int)) then (some ((-1:Int),())) else some (r4.1,())
theorem raw_eq (k:Nat) (a1:Arg):@Eq (Option Out) (D.W k a1) (p a1):=by kernel_rfl
theorem ok:Ok prog 11 D.sig:=fd_ok func11 tlOk (by kernel_rfl) (fc laws_szByteSS.ok (fc laws_szLog.ok (fc laws_szTxS.ok (fn_nil _))))
end laws_szStore
namespace spec_l1Before
abbrev Arg:Type:=Row×Row×Unit
abbrev Out:Type:=Bool×Unit
abbrev ps:PQ:=[(.ro,(.ptr tRow)),(.ro,(.ptr tRow))]
noncomputable def D:FD:={ fn:=f214,tl:=TL0,ps:=ps,rs:=[(.bool,(roMd .bool))],od:=[(1,[0,1,2,3,4,5,6,7,8,9,10,11,12,13,14,15,16,17,18,19,20,21,22,23,24,25,26,27,28,29,30,31])] }
noncomputable def sem (a:Arg):Option Out:=@lift Out fun k=>D.W k a
noncomputable def p (a1:Arg):Option Out:=bif decide (a1.1.1 < a1.2.1.1) then (some (true,())) else bif decide (a1.1.1=a1.2.1.1) then (some (decide (a1.1.2.1 < a1.2.1.2.1),())) else some (false,())
theorem raw_eq (k:Nat) (a1:Arg):@Eq (Option Out) (D.W k a1) (p a1):=by kernel_rfl
theorem ok:Ok prog 214 D.sig:=fd_ok func214 tlOk (by kernel_rfl) (fn_nil _)
end spec_l1Before
namespace spec_l6Put
abbrev Arg:Type:=(List Row)×Row×Unit
abbrev Out:Type:=(List Row)×Unit
abbrev ps:PQ:=[(.ro,(.slc tRow)),(.ro,tRow)]
noncomputable def D:FD:={ fn:=f146,tl:=TL0,ps:=ps,rs:=[((.slc tRow),(ownMd (.slc tRow)))],gl:=[(214,spec_l1Before.D.sig)],lv:=[(2,[0,3,5])],lx:=[(0,[0,3,5])],od:=[(5,[0,1,4,5,6,2,3,7,8])] }
noncomputable def sem (a:Arg):Option Out:=@lift Out fun k=>D.W k a
noncomputable def T0 (a1:Arg) (v402:Int):St:={ n:=32,sl:=[(0,.val (.slc tRow) a1.1),(3,.box tRow (roMd tRow) [] a1.2.1),(5,.val i64 v402)],vr:=[],lent:=[] }
noncomputable def b0 (self:Int->Option Out) (e0:Int->Option Out) (a1:Arg) (v402:Int):Option Out:=bif decide (v402 < (a1.1.length:Int)) then (if 0<=v402 then ((a1.1[v402.toNat]?).bind fun x603=>(spec_l1Before.sem (x603,a1.2.1,())).bind fun r604=>bif r604.1 then (self (w64 (v402+(1:Int)))) else e0 v402) else none) else e0 v402
noncomputable abbrev B0 (_:Nat):=b0
noncomputable def q0 (a1:Arg) (z605:Int):Option Out:=if 0<=z605/\z605<=(a1.1.length:Int) then (if ([]:List Row).length+((a1.1.take z605.toNat).drop 0).length<=CAP then (let y606:=([]:List Row)++((a1.1.take z605.toNat).drop 0);if 0<=z605/\z605<=(a1.1.length:Int) then (if y606.length+[a1.2.1].length<=CAP then (if (y606++[a1.2.1]).length+((a1.1.take a1.1.length).drop z605.toNat).length<=CAP then (let y607:=(y606++[a1.2.1])++((a1.1.take a1.1.length).drop z605.toNat);some (y607,())) else none) else none) else none) else none) else none
noncomputable abbrev Q0 (_:Nat):=q0
noncomputable def s0 (k:Nat) (a1:Arg):(Int)->Option Out:=fun v402=>D.L k [1,1,0,0,0] [0,3,5] [] (blockC 0 (seqC (D.N k [1,1,1]) D.K0)) (T0 a1 v402)
noncomputable def r0 (k:Nat) (a1:Arg):(Int)->Option Out:=rawIter (fun w v=>B0 k w (Q0 k a1) a1 v) k
theorem s0_eq (k:Nat) (a1:Arg):s0 k a1=r0 k a1:=
 funext fun v402=>iter_raw _ _ _ (T0 a1) _ (fun rec v=>by kernel_rfl) k v402
noncomputable def p (l0:(Int)->Option Out) (a1:Arg):Option Out:=l0 (0:Int)
theorem raw_eq (k:Nat) (a1:Arg):@Eq (Option Out) (D.W k a1) (p (r0 k a1) a1):=
 Eq.trans (b:=p (s0 k a1) a1) (by kernel_rfl) (by rw[s0_eq])
theorem ok:Ok prog 146 D.sig:=fd_ok func146 tlOk (by kernel_rfl) (fc spec_l1Before.ok (fn_nil _))
end spec_l6Put
namespace spec_l6Key
abbrev Arg:Type:=Change×Unit
abbrev Out:Type:=Int×Int×Unit
abbrev ps:PQ:=[(.ro,(.ptr tChange))]
noncomputable def D:FD:={ fn:=f292,tl:=TL0,ps:=ps,rs:=[(i64,(roMd i64)),(i64,(roMd i64))],od:=[(2,[0,1,2,3,4,5,6,7,8,9,10,11]),(3,[0,1,2,3,4,5,6,7,8,9,10,11])] }
noncomputable def sem (a:Arg):Option Out:=@lift Out fun k=>D.W k a
noncomputable def p (a1:Arg):Option Out:=bif a1.1.2.2.1 then (some (a1.1.2.2.2.1.1,a1.1.2.2.2.1.2.1,())) else some (a1.1.2.1.1,a1.1.2.1.2.1,())
theorem raw_eq (k:Nat) (a1:Arg):@Eq (Option Out) (D.W k a1) (p a1):=by kernel_rfl
theorem ok:Ok prog 292 D.sig:=fd_ok func292 tlOk (by kernel_rfl) (fn_nil _)
end spec_l6Key
namespace spec_l6At
abbrev Arg:Type:=(List Row)×Int×Int×Unit
abbrev Out:Type:=Int×Unit
abbrev ps:PQ:=[(.ro,(.slc tRow)),(.ro,i64),(.ro,i64)]
noncomputable def D:FD:={ fn:=f293,tl:=TL0,ps:=ps,rs:=[(i64,(roMd i64))],lv:=[(2,[0,1,2,7])],lx:=[(0,[])] }
noncomputable def sem (a:Arg):Option Out:=@lift Out fun k=>D.W k a
noncomputable def T0 (a1:Arg) (v402:Int):St:={ n:=31,sl:=[(0,.val (.slc tRow) a1.1),(1,.val i64 a1.2.1),(2,.val i64 a1.2.2.1),(7,.val i64 v402)],vr:=[],lent:=[] }
noncomputable def b0 (self:Int->Option Out) (e0:(Unit)->Option Out) (a1:Arg) (v402:Int):Option Out:=bif decide (v402 < (a1.1.length:Int)) then (if 0<=v402 then ((a1.1[v402.toNat]?).bind fun x603=>bif decide (x603.1=a1.2.1) then (if 0<=v402 then ((a1.1[v402.toNat]?).bind fun x604=>bif decide (x604.2.1=a1.2.2.1) then (some (v402,())) else self (w64 (v402+(1:Int)))) else none) else self (w64 (v402+(1:Int)))) else none) else e0 ()
noncomputable abbrev B0 (_:Nat):=b0
noncomputable def q0 (a1:Arg) (z605:(Unit)):Option Out:=some ((-1:Int),())
noncomputable abbrev Q0 (_:Nat):=q0
noncomputable def s0 (k:Nat) (a1:Arg):(Int)->Option Out:=fun v402=>D.L k [1,0,1,0,0] [0,1,2,7] [] (blockC 0 (seqC (D.N k [1,1]) D.K0)) (T0 a1 v402)
noncomputable def r0 (k:Nat) (a1:Arg):(Int)->Option Out:=rawIter (fun w v=>B0 k w (Q0 k a1) a1 v) k
theorem s0_eq (k:Nat) (a1:Arg):s0 k a1=r0 k a1:=
 funext fun v402=>iter_raw _ _ _ (T0 a1) _ (fun rec v=>by kernel_rfl) k v402
noncomputable def p (l0:(Int)->Option Out) (a1:Arg):Option Out:=l0 (0:Int)
theorem raw_eq (k:Nat) (a1:Arg):@Eq (Option Out) (D.W k a1) (p (r0 k a1) a1):=
 Eq.trans (b:=p (s0 k a1) a1) (by kernel_rfl) (by rw[s0_eq])
theorem ok:Ok prog 293 D.sig:=fd_ok func293 tlOk (by kernel_rfl) (fn_nil _)
end spec_l6At
namespace spec_l6Do
abbrev Arg:Type:=(List Row)×Change×Unit
abbrev Out:Type:=(List Row)×Bool×Unit
abbrev ps:PQ:=[(.ro,(.slc tRow)),(.ro,(.ptr tChange))]
noncomputable def D:FD:={ fn:=f248,tl:=TL0,ps:=ps,rs:=[((.slc tRow),(ownMd (.slc tRow))),(.bool,(roMd .bool))],gl:=[(146,spec_l6Put.D.sig),(292,spec_l6Key.D.sig),(293,spec_l6At.D.sig)],lv:=[(7,[0,1,8,9,10])],lx:=[(0,[1,9])],od:=[(3,[0,1,2,3,4,5,6,7,8,9,10,11,12,13,14,15,16,17,18,19,20,21])] }
noncomputable def sem (a:Arg):Option Out:=@lift Out fun k=>D.W k a
noncomputable def T0 (a1:Arg) (c1011:Int) (v1010:(List Row)×Int):St:={ n:=70,sl:=[(0,.val (.slc tRow) a1.1),(1,.cp tChange a1.2.1),(8,.val i64 c1011),(9,.own (.slc tRow) (ownMd (.slc tRow)) [] v1010.1),(10,.val i64 v1010.2)],vr:=[],lent:=[] }
noncomputable def b0 (self:((List Row)×Int)->Option Out) (e0:(List Row)->Option Out) (a1:Arg) (c1011:Int) (v1010:(List Row)×Int):Option Out:=bif decide (v1010.2 < (a1.1.length:Int)) then (bif !decide (v1010.2=c1011) then (if 0<=v1010.2 then ((a1.1[v1010.2.toNat]?).bind fun x1212=>if v1010.1.length+[x1212].length<=CAP then (self (v1010.1++[x1212],w64 (v1010.2+(1:Int)))) else none) else none) else self (v1010.1,w64 (v1010.2+(1:Int)))) else e0 v1010.1
noncomputable abbrev B0 (_:Nat):=b0
noncomputable def q0 (a1:Arg) (c1011:Int) (z1213:(List Row)):Option Out:=bif a1.2.1.2.2.1 then ((spec_l6Put.sem (z1213,a1.2.1.2.2.2.1,())).bind fun r1214=>some (r1214.1,true,())) else some (z1213,true,())
noncomputable abbrev Q0 (_:Nat):=q0
noncomputable def s0 (k:Nat) (a1:Arg):Int->((List Row)×Int)->Option Out:=fun c1011=>fun v1010=>D.L k [1,1,1,1,1,0,1,0,0] [0,1,8,9,10] [] (blockC 0 (seqC (D.N k [1,1,1,1,1,1]) D.K0)) (T0 a1 c1011 v1010)
noncomputable def r0 (k:Nat) (a1:Arg):Int->((List Row)×Int)->Option Out:=fun c1011=>rawIter (fun w v=>B0 k w (Q0 k a1 c1011) a1 c1011 v) k
theorem s0_eq (k:Nat) (a1:Arg):s0 k a1=r0 k a1:=
 funext fun c1011=>funext fun v1010=>iter_raw _ _ _ (T0 a1 c1011) _ (fun rec v=>by kernel_rfl) k v1010
noncomputable def p (l0:Int->((List Row)×Int)->Option Out) (a1:Arg):Option Out:=(spec_l6Key.sem (a1.2.1,())).bind fun r2=>(spec_l6At.sem (a1.1,r2.1,r2.2.1,())).bind fun r3=>let j609:Option Out:=l0 r3.1 (([]:List Row),(0:Int));bif !(a1.2.1.1 == (decide ((0:Int)<=r3.1))) then (some (([]:List Row),false,())) else bif decide ((0:Int)<=r3.1) then (if 0<=r3.1 then ((a1.1[r3.1.toNat]?).bind fun x4=>bif !(Ty.eq tRow x4 a1.2.1.2.1) then (some (([]:List Row),false,())) else j609) else none) else j609
theorem raw_eq (k:Nat) (a1:Arg):@Eq (Option Out) (D.W k a1) (p (r0 k a1) a1):=
 Eq.trans (b:=p (s0 k a1) a1) (by kernel_rfl) (by rw[s0_eq])
theorem ok:Ok prog 248 D.sig:=fd_ok func248 tlOk (by kernel_rfl) (fc spec_l6Put.ok (fc spec_l6Key.ok (fc spec_l6At.ok (fn_nil _))))
end spec_l6Do
namespace spec_l10Inverse
abbrev Arg:Type:=(List Change)×Unit
abbrev Out:Type:=(List Change)×Unit
abbrev ps:PQ:=[(.ro,(.slc tChange))]
noncomputable def D:FD:={ fn:=f249,tl:=TL0,ps:=ps,rs:=[((.slc tChange),(ownMd (.slc tChange)))],lv:=[(3,[0,3,4])],lx:=[(0,[3])] }
noncomputable def sem (a:Arg):Option Out:=@lift Out fun k=>D.W k a
noncomputable def T0 (a1:Arg) (v402:(List Change)×Int):St:={ n:=31,sl:=[(0,.val (.slc tChange) a1.1),(3,.own (.slc tChange) (ownMd (.slc tChange)) [] v402.1),(4,.val i64 v402.2)],vr:=[],lent:=[] }
noncomputable def b0 (self:((List Change)×Int)->Option Out) (e0:(List Change)->Option Out) (a1:Arg) (v402:(List Change)×Int):Option Out:=bif decide ((0:Int)<=v402.2) then (if 0<=v402.2 then ((a1.1[v402.2.toNat]?).bind fun x603=>if v402.1.length+[(x603.2.2.1,x603.2.2.2.1,x603.1,x603.2.1,())].length<=CAP then (let y604:=v402.1++[(x603.2.2.1,x603.2.2.2.1,x603.1,x603.2.1,())];self (y604,w64 (v402.2 - (1:Int)))) else none) else none) else e0 v402.1
noncomputable abbrev B0 (_:Nat):=b0
noncomputable def q0 (a1:Arg) (z605:(List Change)):Option Out:=some (z605,())
noncomputable abbrev Q0 (_:Nat):=q0
noncomputable def s0 (k:Nat) (a1:Arg):((List Change)×Int)->Option Out:=fun v402=>D.L k [1,1,0,1,0,0] [0,3,4] [] (blockC 0 (seqC (D.N k [1,1,1]) D.K0)) (T0 a1 v402)
noncomputable def r0 (k:Nat) (a1:Arg):((List Change)×Int)->Option Out:=rawIter (fun w v=>B0 k w (Q0 k a1) a1 v) k
theorem s0_eq (k:Nat) (a1:Arg):s0 k a1=r0 k a1:=
 funext fun v402=>iter_raw _ _ _ (T0 a1) _ (fun rec v=>by kernel_rfl) k v402
noncomputable def p (l0:((List Change)×Int)->Option Out) (a1:Arg):Option Out:=l0 (([]:List Change),w64 ((a1.1.length:Int) - (1:Int)))
theorem raw_eq (k:Nat) (a1:Arg):@Eq (Option Out) (D.W k a1) (p (r0 k a1) a1):=
 Eq.trans (b:=p (s0 k a1) a1) (by kernel_rfl) (by rw[s0_eq])
theorem ok:Ok prog 249 D.sig:=fd_ok func249 tlOk (by kernel_rfl) (fn_nil _)
end spec_l10Inverse
namespace spec_l11Undo
abbrev Arg:Type:=(List Row)×(List Change)×Unit
abbrev Out:Type:=(List Row)×Bool×Unit
abbrev ps:PQ:=[(.ro,(.slc tRow)),(.ro,(.slc tChange))]
noncomputable def D:FD:={ fn:=f181,tl:=TL0,ps:=ps,rs:=[((.slc tRow),(roMd (.slc tRow))),(.bool,(roMd .bool))],gl:=[(248,spec_l6Do.D.sig),(249,spec_l10Inverse.D.sig)],lv:=[(3,[0,6,7])],lx:=[(0,[0])],lf:=[(3,[(0,(.slc false (.pair .leaf (.pair .leaf (.pair .leaf (.pair .leaf .leaf))))))])] }
noncomputable def sem (a:Arg):Option Out:=@lift Out fun k=>D.W k a
noncomputable def T0 (a1:Arg) (c404:List Change) (v403:(List Row)×Int):St:={ n:=30,sl:=[(0,.val (.slc tRow) v403.1),(6,.own (.slc tChange) (ownMd (.slc tChange)) [] c404),(7,.val i64 v403.2)],vr:=[],lent:=[] }
noncomputable def b0 (self:((List Row)×Int)->Option Out) (e0:(List Row)->Option Out) (a1:Arg) (c404:List Change) (v403:(List Row)×Int):Option Out:=bif decide (v403.2 < (c404.length:Int)) then (if 0<=v403.2/\v403.2 < (c404.length:Int) then ((c404[v403.2.toNat]?).bind fun x605=>(spec_l6Do.sem (v403.1,x605,())).bind fun r606=>bif !r606.2.1 then (some (([]:List Row),false,())) else self (r606.1,w64 (v403.2+(1:Int)))) else none) else e0 v403.1
noncomputable abbrev B0 (_:Nat):=b0
noncomputable def q0 (a1:Arg) (c404:List Change) (z607:(List Row)):Option Out:=some (z607,true,())
noncomputable abbrev Q0 (_:Nat):=q0
noncomputable def s0 (k:Nat) (a1:Arg):(List Change)->((List Row)×Int)->Option Out:=fun c404=>fun v403=>D.L k [1,1,0,1,0,0] [0,6,7] [(0,(.slc false (.pair .leaf (.pair .leaf (.pair .leaf (.pair .leaf .leaf))))))] (blockC 0 (seqC (D.N k [1,1,1]) D.K0)) (T0 a1 c404 v403)
noncomputable def r0 (k:Nat) (a1:Arg):(List Change)->((List Row)×Int)->Option Out:=fun c404=>rawIter (fun w v=>B0 k w (Q0 k a1 c404) a1 c404 v) k
theorem s0_eq (k:Nat) (a1:Arg):s0 k a1=r0 k a1:=
 funext fun c404=>funext fun v403=>iter_raw _ _ _ (T0 a1 c404) _ (fun rec v=>by kernel_rfl) k v403
noncomputable def p (l0:(List Change)->((List Row)×Int)->Option Out) (a1:Arg):Option Out:=(spec_l10Inverse.sem (a1.2.1,())).bind fun r2=>l0 r2.1 (a1.1,(0:Int))
theorem raw_eq (k:Nat) (a1:Arg):@Eq (Option Out) (D.W k a1) (p (r0 k a1) a1):=
 Eq.trans (b:=p (s0 k a1) a1) (by kernel_rfl) (by rw[s0_eq])
theorem ok:Ok prog 181 D.sig:=fd_ok func181 tlOk (by kernel_rfl) (fc spec_l6Do.ok (fc spec_l10Inverse.ok (fn_nil _)))
end spec_l11Undo
namespace spec_l11Back
abbrev Arg:Type:=(List Row)×(List Tx)×Unit
abbrev Out:Type:=(List Row)×Bool×Unit
abbrev ps:PQ:=[(.ro,(.slc tRow)),(.ro,(.slc tTx))]
noncomputable def D:FD:={ fn:=f112,tl:=TL0,ps:=ps,rs:=[((.slc tRow),(roMd (.slc tRow))),(.bool,(roMd .bool))],gl:=[(181,spec_l11Undo.D.sig)],lv:=[(3,[1,6,7])],lx:=[(0,[6])],lf:=[(3,[(6,(.slc false (.pair .leaf (.pair .leaf (.pair .leaf (.pair .leaf .leaf))))))])] }
noncomputable def sem (a:Arg):Option Out:=@lift Out fun k=>D.W k a
noncomputable def T0 (a1:Arg) (v402:(List Row)×Int):St:={ n:=33,sl:=[(1,.val (.slc tTx) a1.2.1),(6,.val (.slc tRow) v402.1),(7,.val i64 v402.2)],vr:=[],lent:=[] }
noncomputable def b0 (self:((List Row)×Int)->Option Out) (e0:(List Row)->Option Out) (a1:Arg) (v402:(List Row)×Int):Option Out:=bif decide (v402.2 < (a1.2.1.length:Int)) then (if 0<=v402.2 then ((a1.2.1[v402.2.toNat]?).bind fun x603=>(spec_l11Undo.sem (v402.1,x603.2.1,())).bind fun r604=>bif !r604.2.1 then (some (([]:List Row),false,())) else self (r604.1,w64 (v402.2+(1:Int)))) else none) else e0 v402.1
noncomputable abbrev B0 (_:Nat):=b0
noncomputable def q0 (a1:Arg) (z605:(List Row)):Option Out:=some (z605,true,())
noncomputable abbrev Q0 (_:Nat):=q0
noncomputable def s0 (k:Nat) (a1:Arg):((List Row)×Int)->Option Out:=fun v402=>D.L k [1,1,0,1,0,0] [1,6,7] [(6,(.slc false (.pair .leaf (.pair .leaf (.pair .leaf (.pair .leaf .leaf))))))] (blockC 0 (seqC (D.N k [1,1,1]) D.K0)) (T0 a1 v402)
noncomputable def r0 (k:Nat) (a1:Arg):((List Row)×Int)->Option Out:=rawIter (fun w v=>B0 k w (Q0 k a1) a1 v) k
theorem s0_eq (k:Nat) (a1:Arg):s0 k a1=r0 k a1:=
 funext fun v402=>iter_raw _ _ _ (T0 a1) _ (fun rec v=>by kernel_rfl) k v402
noncomputable def p (l0:((List Row)×Int)->Option Out) (a1:Arg):Option Out:=if ([]:List Row).length+a1.1.length<=CAP then (l0 (([]:List Row)++a1.1,(0:Int))) else none
theorem raw_eq (k:Nat) (a1:Arg):@Eq (Option Out) (D.W k a1) (p (r0 k a1) a1):=
 Eq.trans (b:=p (s0 k a1) a1) (by kernel_rfl) (by rw[s0_eq])
theorem ok:Ok prog 112 D.sig:=fd_ok func112 tlOk (by kernel_rfl) (fc spec_l11Undo.ok (fn_nil _))
end spec_l11Back
namespace spec_l1In
abbrev Arg:Type:=Int×Int×Int×Unit
abbrev Out:Type:=Bool×Unit
abbrev ps:PQ:=[(.ro,i64),(.ro,i64),(.ro,i64)]
noncomputable def D:FD:={ fn:=f118,tl:=TL0,ps:=ps,rs:=[(.bool,(roMd .bool))] }
noncomputable def sem (a:Arg):Option Out:=@lift Out fun k=>D.W k a
noncomputable def p (a1:Arg):Option Out:=bif decide (a1.2.1<=a1.1) then (some (decide (a1.1<=a1.2.2.1),())) else some (false,())
theorem raw_eq (k:Nat) (a1:Arg):@Eq (Option Out) (D.W k a1) (p a1):=by kernel_rfl
theorem ok:Ok prog 118 D.sig:=fd_ok func118 tlOk (by kernel_rfl) (fn_nil _)
end spec_l1In
namespace spec_l1Text
abbrev Arg:Type:=(List UInt8)×Unit
abbrev Out:Type:=Bool×Unit
abbrev ps:PQ:=[(.ro,.str)]
noncomputable def D:FD:={ fn:=f272,tl:=TL0,ps:=ps,rs:=[(.bool,(roMd .bool))],lv:=[(2,[0,3])],lx:=[(0,[0])] }
noncomputable def sem (a:Arg):Option Out:=@lift Out fun k=>D.W k a
noncomputable def T0 (a1:Arg) (v402:Int):St:={ n:=23,sl:=[(0,.val .str a1.1),(3,.val i64 v402)],vr:=[],lent:=[] }
noncomputable def b0 (self:Int->Option Out) (e0:(Unit)->Option Out) (a1:Arg) (v402:Int):Option Out:=bif decide (v402 < (a1.1.length:Int)) then (if 0<=v402 then ((a1.1[v402.toNat]?).bind fun x603=>bif decide ((x603.toNat:Int) < (97:Int)) then (some (false,())) else if 0<=v402 then ((a1.1[v402.toNat]?).bind fun x604=>bif decide ((122:Int) < (x604.toNat:Int)) then (some (false,())) else self (w64 (v402+(1:Int)))) else none) else none) else e0 ()
noncomputable abbrev B0 (_:Nat):=b0
noncomputable def q0 (a1:Arg) (z605:(Unit)):Option Out:=some (decide ((a1.1.length:Int)<=(8:Int)),())
noncomputable abbrev Q0 (_:Nat):=q0
noncomputable def s0 (k:Nat) (a1:Arg):(Int)->Option Out:=fun v402=>D.L k [1,0,1,0,0] [0,3] [] (blockC 0 (seqC (D.N k [1,1]) D.K0)) (T0 a1 v402)
noncomputable def r0 (k:Nat) (a1:Arg):(Int)->Option Out:=rawIter (fun w v=>B0 k w (Q0 k a1) a1 v) k
theorem s0_eq (k:Nat) (a1:Arg):s0 k a1=r0 k a1:=
 funext fun v402=>iter_raw _ _ _ (T0 a1) _ (fun rec v=>by kernel_rfl) k v402
noncomputable def p (l0:(Int)->Option Out) (a1:Arg):Option Out:=l0 (0:Int)
theorem raw_eq (k:Nat) (a1:Arg):@Eq (Option Out) (D.W k a1) (p (r0 k a1) a1):=
 Eq.trans (b:=p (s0 k a1) a1) (by kernel_rfl) (by rw[s0_eq])
theorem ok:Ok prog 272 D.sig:=fd_ok func272 tlOk (by kernel_rfl) (fn_nil _)
end spec_l1Text
namespace spec_l1Fault
abbrev Arg:Type:=Row×Unit
abbrev Out:Type:=Int×Unit
abbrev ps:PQ:=[(.ro,(.ptr tRow))]
noncomputable def D:FD:={ fn:=f213,tl:=TL0,ps:=ps,rs:=[(i64,(roMd i64))],gl:=[(118,spec_l1In.D.sig),(272,spec_l1Text.D.sig)] }
noncomputable def sem (a:Arg):Option Out:=@lift Out fun k=>D.W k a
noncomputable def p (a1:Arg):Option Out:=(spec_l1In.sem (a1.1.1,(0:Int),(3:Int),())).bind fun r2=>bif !r2.1 then (some ((3:Int),())) else (spec_l1In.sem (a1.1.2.1,(1:Int),(99:Int),())).bind fun r3=>bif !r3.1 then (some ((3:Int),())) else (spec_l1In.sem (a1.1.2.2.1,(0:Int),(999:Int),())).bind fun r4=>bif !r4.1 then (some ((3:Int),())) else (spec_l1Text.sem (a1.1.2.2.2.1,())).bind fun r5=>bif !r5.1 then (some ((5:Int),())) else some ((0:Int),())
theorem raw_eq (k:Nat) (a1:Arg):@Eq (Option Out) (D.W k a1) (p a1):=by kernel_rfl
theorem ok:Ok prog 213 D.sig:=fd_ok func213 tlOk (by kernel_rfl) (fc spec_l1In.ok (fc spec_l1Text.ok (fn_nil _)))
end spec_l1Fault
namespace spec_l6Rows
abbrev Arg:Type:=(List Row)×Unit
abbrev Out:Type:=Int×Unit
abbrev ps:PQ:=[(.ro,(.slc tRow))]
noncomputable def D:FD:={ fn:=f141,tl:=TL0,ps:=ps,rs:=[(i64,(roMd i64))],gl:=[(213,spec_l1Fault.D.sig),(214,spec_l1Before.D.sig)],lv:=[(4,[0,3])],lx:=[(0,[])],od:=[(9,[0,1,2,3,4,5,6,7,8,9,10,11,12])] }
noncomputable def sem (a:Arg):Option Out:=@lift Out fun k=>D.W k a
noncomputable def T0 (a1:Arg) (v402:Int):St:={ n:=34,sl:=[(0,.val (.slc tRow) a1.1),(3,.val i64 v402)],vr:=[],lent:=[] }
noncomputable def b0 (self:Int->Option Out) (e0:(Unit)->Option Out) (a1:Arg) (v402:Int):Option Out:=bif decide (v402 < (a1.1.length:Int)) then (if 0<=v402 then ((a1.1[v402.toNat]?).bind fun x603=>(spec_l1Fault.sem (x603,())).bind fun r604=>bif !decide (r604.1=(0:Int)) then (some (r604.1,())) else bif decide ((0:Int) < v402) then (if 0<=w64 (v402 - (1:Int)) then ((a1.1[(w64 (v402 - (1:Int))).toNat]?).bind fun x605=>if 0<=v402 then ((a1.1[v402.toNat]?).bind fun x606=>(spec_l1Before.sem (x605,x606,())).bind fun r607=>bif !r607.1 then (some ((1:Int),())) else self (w64 (v402+(1:Int)))) else none) else none) else self (w64 (v402+(1:Int)))) else none) else e0 ()
noncomputable abbrev B0 (_:Nat):=b0
noncomputable def q0 (a1:Arg) (z608:(Unit)):Option Out:=some ((0:Int),())
noncomputable abbrev Q0 (_:Nat):=q0
noncomputable def s0 (k:Nat) (a1:Arg):(Int)->Option Out:=fun v402=>D.L k [1,1,0,1,0,0] [0,3] [] (blockC 0 (seqC (D.N k [1,1,1]) D.K0)) (T0 a1 v402)
noncomputable def r0 (k:Nat) (a1:Arg):(Int)->Option Out:=rawIter (fun w v=>B0 k w (Q0 k a1) a1 v) k
theorem s0_eq (k:Nat) (a1:Arg):s0 k a1=r0 k a1:=
 funext fun v402=>iter_raw _ _ _ (T0 a1) _ (fun rec v=>by kernel_rfl) k v402
noncomputable def p (l0:(Int)->Option Out) (a1:Arg):Option Out:=bif decide ((60:Int) < (a1.1.length:Int)) then (some ((2:Int),())) else l0 (0:Int)
theorem raw_eq (k:Nat) (a1:Arg):@Eq (Option Out) (D.W k a1) (p (r0 k a1) a1):=
 Eq.trans (b:=p (s0 k a1) a1) (by kernel_rfl) (by rw[s0_eq])
theorem ok:Ok prog 141 D.sig:=fd_ok func141 tlOk (by kernel_rfl) (fc spec_l1Fault.ok (fc spec_l1Before.ok (fn_nil _)))
end spec_l6Rows
namespace spec_l6Change
abbrev Arg:Type:=Change×Unit
abbrev Out:Type:=Int×Unit
abbrev ps:PQ:=[(.ro,(.ptr tChange))]
noncomputable def D:FD:={ fn:=f247,tl:=TL0,ps:=ps,rs:=[(i64,(roMd i64))],gl:=[(213,spec_l1Fault.D.sig)],od:=[(1,[0,1,2,3,4,5,6,7,8,9,10,11,12,13,14,15,16,17,18,19,20,21,22,23,24,25,26,27,28,29,30,31,32,33,34,35,36,37,38,39,40,41,42,43,44,45,46,47,48,49])] }
noncomputable def sem (a:Arg):Option Out:=@lift Out fun k=>D.W k a
noncomputable def p (a1:Arg):Option Out:=let j5:Option Out:=bif a1.1.1 then ((spec_l1Fault.sem (a1.1.2.1,())).bind fun r6=>bif !decide (r6.1=(0:Int)) then (some (r6.1,())) else bif a1.1.2.2.1 then ((spec_l1Fault.sem (a1.1.2.2.2.1,())).bind fun r8=>some (r8.1,())) else some ((0:Int),())) else bif a1.1.2.2.1 then ((spec_l1Fault.sem (a1.1.2.2.2.1,())).bind fun r9=>some (r9.1,())) else some ((0:Int),());bif !a1.1.1 then (bif !a1.1.2.2.1 then (some ((1:Int),())) else bif a1.1.1 then (bif a1.1.2.2.1 then (bif !decide (a1.1.2.1.1=a1.1.2.2.2.1.1) then (some ((1:Int),())) else bif !decide (a1.1.2.1.2.1=a1.1.2.2.2.1.2.1) then (some ((1:Int),())) else j5) else j5) else j5) else bif a1.1.1 then (bif a1.1.2.2.1 then (bif !decide (a1.1.2.1.1=a1.1.2.2.2.1.1) then (some ((1:Int),())) else bif !decide (a1.1.2.1.2.1=a1.1.2.2.2.1.2.1) then (some ((1:Int),())) else j5) else j5) else j5
theorem raw_eq (k:Nat) (a1:Arg):@Eq (Option Out) (D.W k a1) (p a1):=by kernel_rfl
theorem ok:Ok prog 247 D.sig:=fd_ok func247 tlOk (by kernel_rfl) (fc spec_l1Fault.ok (fn_nil _))
end spec_l6Change
namespace spec_l9Change
abbrev Arg:Type:=Change×Unit
abbrev Out:Type:=Int×Unit
abbrev ps:PQ:=[(.ro,(.ptr tChange))]
noncomputable def D:FD:={ fn:=f273,tl:=TL0,ps:=ps,rs:=[(i64,(roMd i64))],gl:=[(247,spec_l6Change.D.sig)],od:=[(4,[0,1,2,3,4,5,6,7,8,9,10,11,12,13,14,15,16,17,18,19,20])] }
noncomputable def sem (a:Arg):Option Out:=@lift Out fun k=>D.W k a
noncomputable def p (a1:Arg):Option Out:=(spec_l6Change.sem (a1.1,())).bind fun r2=>bif !decide (r2.1=(0:Int)) then (some (r2.1,())) else bif a1.1.1 then (bif a1.1.2.2.1 then (bif (Ty.eq tRow a1.1.2.1 a1.1.2.2.2.1) then (some ((1:Int),())) else some ((0:Int),())) else some ((0:Int),())) else some ((0:Int),())
theorem raw_eq (k:Nat) (a1:Arg):@Eq (Option Out) (D.W k a1) (p a1):=by kernel_rfl
theorem ok:Ok prog 273 D.sig:=fd_ok func273 tlOk (by kernel_rfl) (fc spec_l6Change.ok (fn_nil _))
end spec_l9Change
namespace spec_l10Locks
abbrev Arg:Type:=Tx×Key×Unit
abbrev Out:Type:=Bool×Unit
abbrev ps:PQ:=[(.ro,(.ptr tTx)),(.ro,tKey)]
noncomputable def D:FD:={ fn:=f274,tl:=TL0,ps:=ps,rs:=[(.bool,(roMd .bool))],lv:=[(2,[0,3,5])],lx:=[(0,[])],od:=[(4,[0,1,2,3,4,5,6,7,8])] }
noncomputable def sem (a:Arg):Option Out:=@lift Out fun k=>D.W k a
noncomputable def T0 (a1:Arg) (v402:Int):St:={ n:=24,sl:=[(0,.cp tTx a1.1),(3,.box tKey (roMd tKey) [] a1.2.1),(5,.val i64 v402)],vr:=[],lent:=[] }
noncomputable def b0 (self:Int->Option Out) (e0:(Unit)->Option Out) (a1:Arg) (v402:Int):Option Out:=bif decide (v402 < (a1.1.2.2.2.1.length:Int)) then (if 0<=v402 then ((a1.1.2.2.2.1[v402.toNat]?).bind fun x603=>bif (Ty.eq tKey x603 a1.2.1) then (some (true,())) else self (w64 (v402+(1:Int)))) else none) else e0 ()
noncomputable abbrev B0 (_:Nat):=b0
noncomputable def q0 (a1:Arg) (z604:(Unit)):Option Out:=some (false,())
noncomputable abbrev Q0 (_:Nat):=q0
noncomputable def s0 (k:Nat) (a1:Arg):(Int)->Option Out:=fun v402=>D.L k [1,0,1,0,0] [0,3,5] [] (blockC 0 (seqC (D.N k [1,1]) D.K0)) (T0 a1 v402)
noncomputable def r0 (k:Nat) (a1:Arg):(Int)->Option Out:=rawIter (fun w v=>B0 k w (Q0 k a1) a1 v) k
theorem s0_eq (k:Nat) (a1:Arg):s0 k a1=r0 k a1:=
 funext fun v402=>iter_raw _ _ _ (T0 a1) _ (fun rec v=>by kernel_rfl) k v402
noncomputable def p (l0:(Int)->Option Out) (a1:Arg):Option Out:=l0 (0:Int)
theorem raw_eq (k:Nat) (a1:Arg):@Eq (Option Out) (D.W k a1) (p (r0 k a1) a1):=
 Eq.trans (b:=p (s0 k a1) a1) (by kernel_rfl) (by rw[s0_eq])
theorem ok:Ok prog 274 D.sig:=fd_ok func274 tlOk (by kernel_rfl) (fn_nil _)
end spec_l10Locks
namespace spec_l10KeyOf
abbrev Arg:Type:=Change×Unit
abbrev Out:Type:=Key×Unit
abbrev ps:PQ:=[(.ro,(.ptr tChange))]
noncomputable def D:FD:={ fn:=f275,tl:=TL0,ps:=ps,rs:=[(tKey,(roMd tKey))],gl:=[(292,spec_l6Key.D.sig)] }
noncomputable def sem (a:Arg):Option Out:=@lift Out fun k=>D.W k a
noncomputable def p (a1:Arg):Option Out:=(spec_l6Key.sem (a1.1,())).bind fun r2=>some ((r2.1,r2.2.1,()),())
theorem raw_eq (k:Nat) (a1:Arg):@Eq (Option Out) (D.W k a1) (p a1):=by kernel_rfl
theorem ok:Ok prog 275 D.sig:=fd_ok func275 tlOk (by kernel_rfl) (fc spec_l6Key.ok (fn_nil _))
end spec_l10KeyOf
namespace spec_l10Undo
abbrev Arg:Type:=Tx×Unit
abbrev Out:Type:=Int×Unit
abbrev ps:PQ:=[(.ro,(.ptr tTx))]
noncomputable def D:FD:={ fn:=f215,tl:=TL0,ps:=ps,rs:=[(i64,(roMd i64))],gl:=[(273,spec_l9Change.D.sig),(274,spec_l10Locks.D.sig),(275,spec_l10KeyOf.D.sig)],lv:=[(2,[0,3])],lx:=[(0,[])] }
noncomputable def sem (a:Arg):Option Out:=@lift Out fun k=>D.W k a
noncomputable def T0 (a1:Arg) (v402:Int):St:={ n:=34,sl:=[(0,.cp tTx a1.1),(3,.val i64 v402)],vr:=[],lent:=[] }
noncomputable def b0 (self:Int->Option Out) (e0:(Unit)->Option Out) (a1:Arg) (v402:Int):Option Out:=bif decide (v402 < (a1.1.2.1.length:Int)) then (if 0<=v402 then ((a1.1.2.1[v402.toNat]?).bind fun x603=>(spec_l9Change.sem (x603,())).bind fun r604=>bif !decide (r604.1=(0:Int)) then (some (r604.1,())) else if 0<=v402 then ((a1.1.2.1[v402.toNat]?).bind fun x605=>(spec_l10KeyOf.sem (x605,())).bind fun r606=>(spec_l10Locks.sem (a1.1,r606.1,())).bind fun r607=>bif !r607.1 then (some ((8:Int),())) else self (w64 (v402+(1:Int)))) else none) else none) else e0 ()
noncomputable abbrev B0 (_:Nat):=b0
noncomputable def q0 (a1:Arg) (z608:(Unit)):Option Out:=some ((0:Int),())
noncomputable abbrev Q0 (_:Nat):=q0
noncomputable def s0 (k:Nat) (a1:Arg):(Int)->Option Out:=fun v402=>D.L k [1,0,1,0,0] [0,3] [] (blockC 0 (seqC (D.N k [1,1]) D.K0)) (T0 a1 v402)
noncomputable def r0 (k:Nat) (a1:Arg):(Int)->Option Out:=rawIter (fun w v=>B0 k w (Q0 k a1) a1 v) k
theorem s0_eq (k:Nat) (a1:Arg):s0 k a1=r0 k a1:=
 funext fun v402=>iter_raw _ _ _ (T0 a1) _ (fun rec v=>by kernel_rfl) k v402
noncomputable def p (l0:(Int)->Option Out) (a1:Arg):Option Out:=l0 (0:Int)
theorem raw_eq (k:Nat) (a1:Arg):@Eq (Option Out) (D.W k a1) (p (r0 k a1) a1):=
 Eq.trans (b:=p (s0 k a1) a1) (by kernel_rfl) (by rw[s0_eq])
theorem ok:Ok prog 215 D.sig:=fd_ok func215 tlOk (by kernel_rfl) (fc spec_l9Change.ok (fc spec_l10Locks.ok (fc spec_l10KeyOf.ok (fn_nil _))))
end spec_l10Undo
namespace spec_l10Key
abbrev Arg:Type:=Key×Unit
abbrev Out:Type:=Bool×Unit
abbrev ps:PQ:=[(.ro,(.ptr tKey))]
noncomputable def D:FD:={ fn:=f276,tl:=TL0,ps:=ps,rs:=[(.bool,(roMd .bool))],gl:=[(118,spec_l1In.D.sig)] }
noncomputable def sem (a:Arg):Option Out:=@lift Out fun k=>D.W k a
noncomputable def p (a1:Arg):Option Out:=(spec_l1In.sem (a1.1.1,(0:Int),(3:Int),())).bind fun r2=>bif r2.1 then ((spec_l1In.sem (a1.1.2.1,(1:Int),(99:Int),())).bind fun r3=>some (r3.1,())) else some (false,())
theorem raw_eq (k:Nat) (a1:Arg):@Eq (Option Out) (D.W k a1) (p a1):=by kernel_rfl
theorem ok:Ok prog 276 D.sig:=fd_ok func276 tlOk (by kernel_rfl) (fc spec_l1In.ok (fn_nil _))
end spec_l10Key
namespace spec_l10Marks
abbrev Arg:Type:=Tx×Unit
abbrev Out:Type:=Int×Unit
abbrev ps:PQ:=[(.ro,(.ptr tTx))]
noncomputable def D:FD:={ fn:=f216,tl:=TL0,ps:=ps,rs:=[(i64,(roMd i64))],gl:=[(118,spec_l1In.D.sig),(276,spec_l10Key.D.sig)],lv:=[(4,[0,3]),(9,[0,4]),(14,[0,4,5])],lx:=[(0,[0]),(2,[]),(4,[0,4])],od:=[(6,[0,1,2,3,4,5,6,7,8,9,10,11,12,13,14,15,16,17,18,19,20,21,22,23,24,25,26,27,28,29,30,31,32,33,34,35]),(16,[0,1,2,3,4,5,6,7,8,9,10,11,12,13,14])],ar:=[(6,[3,6,10,21,24,28,32])] }
noncomputable def sem (a:Arg):Option Out:=@lift Out fun k=>D.W k a
noncomputable def T0 (a1:Arg) (v402:Int):St:={ n:=102,sl:=[(0,.cp tTx a1.1),(3,.val i64 v402)],vr:=[],lent:=[] }
noncomputable def S0 (rec:RT Out) (a1:Arg):(Int)->Option Out:=fun v402=>rec (T0 a1 v402)
noncomputable def X0_0 (K:KT Out) (a1:Arg):(Unit)->Option Out:=fun z=>K (.exit 0) ({ n:=102,sl:=[(0,.cp tTx a1.1)],vr:=[],lent:=[] })
noncomputable def b0 (self:Int->Option Out) (e0:(Unit)->Option Out) (a1:Arg) (v402:Int):Option Out:=bif decide (v402 < (a1.1.2.2.1.length:Int)) then (if 0<=v402 then ((a1.1.2.2.1[v402.toNat]?).bind fun x603=>(spec_l1In.sem (x603,(0:Int),(a1.1.2.1.length:Int),())).bind fun r604=>bif !r604.1 then (some ((3:Int),())) else bif decide ((0:Int) < v402) then (if 0<=v402 then ((a1.1.2.2.1[v402.toNat]?).bind fun x605=>if 0<=w64 (v402 - (1:Int)) then ((a1.1.2.2.1[(w64 (v402 - (1:Int))).toNat]?).bind fun x606=>bif decide (x605 < x606) then (some ((3:Int),())) else self (w64 (v402+(1:Int)))) else none) else none) else self (w64 (v402+(1:Int)))) else none) else e0 ()
noncomputable abbrev B0 (_:Nat):=b0
theorem B0_eq (k:Nat) (rec:RT Out) (K:KT Out) (a1:Arg) (v402:Int):D.N k [1,1,0,1,0,0] (T0 a1 v402) (loopC rec (keepF [0,3] []) K)=b0 (S0 rec a1) (X0_0 K a1) a1 v402:=by kernel_rfl
noncomputable def T1 (a1:Arg) (v1008:Tx×Int):St:={ n:=102,sl:=[(0,.cp tTx v1008.1),(4,.val i64 v1008.2)],vr:=[],lent:=[] }
noncomputable def S1 (rec:RT Out) (a1:Arg):(Tx×Int)->Option Out:=fun v1008=>rec (T1 a1 v1008)
noncomputable def X1_2 (K:KT Out) (a1:Arg):(Unit)->Option Out:=fun z=>K (.exit 2) ({ n:=102,sl:=[],vr:=[],lent:=[] })
noncomputable def T2 (a1:Arg) (c1612:Tx) (c1613:Int) (v1611:Int):St:={ n:=102,sl:=[(0,.cp tTx c1612),(4,.val i64 c1613),(5,.val i64 v1611)],vr:=[],lent:=[] }
noncomputable def b2 (self:Int->Option Out) (e4:(Unit)->Option Out) (a1:Arg) (c1612:Tx) (c1613:Int) (v1611:Int):Option Out:=bif decide (v1611 < c1613) then (if 0<=v1611 then ((c1612.2.2.2.1[v1611.toNat]?).bind fun x1814=>if 0<=c1613 then ((c1612.2.2.2.1[c1613.toNat]?).bind fun x1815=>bif (Ty.eq tKey x1814 x1815) then (some ((6:Int),())) else self (w64 (v1611+(1:Int)))) else none) else none) else e4 ()
noncomputable abbrev B2 (_:Nat):=b2
noncomputable def q1 (self:(Tx×Int)->Option Out) (e2:(Unit)->Option Out) (a1:Arg) (c1612:Tx) (c1613:Int) (z1816:(Unit)):Option Out:=self (c1612,w64 (c1613+(1:Int)))
noncomputable abbrev Q1 (_:Nat):=q1
noncomputable def s2 (k:Nat) (rec:RT Out) (K:KT Out) (a1:Arg):Tx->Int->(Int)->Option Out:=fun c1612 c1613=>fun v1611=>D.L k [1,1,1,0,1,0,0,1,0,0,1,1,0,0] [0,4,5] [] (blockC 4 (blockC 3 (seqC (D.N k [1,1,1,0,1,0,0,1,1]) (loopC rec (keepF [0,4] []) K)))) (T2 a1 c1612 c1613 v1611)
noncomputable def r2 (k:Nat) (self:(Tx×Int)->Option Out) (e2:(Unit)->Option Out) (a1:Arg):Tx->Int->(Int)->Option Out:=fun c1612 c1613=>rawIter (fun w v=>B2 k w (Q1 k self e2 a1 c1612 c1613) a1 c1612 c1613 v) k
theorem s2_eq (k:Nat) (rec:RT Out) (K:KT Out) (a1:Arg):s2 k rec K a1=r2 k (S1 rec a1) (X1_2 K a1) a1:=
 funext fun c1612=>funext fun c1613=>funext fun v1611=>iter_raw _ _ _ (T2 a1 c1612 c1613) _ (fun rec v=>by kernel_rfl) k v1611
noncomputable def b1 (self:(Tx×Int)->Option Out) (e2:(Unit)->Option Out) (l2:Tx->Int->(Int)->Option Out) (a1:Arg) (v1008:Tx×Int):Option Out:=bif decide (v1008.2 < (v1008.1.2.2.2.1.length:Int)) then (if 0<=v1008.2 then ((v1008.1.2.2.2.1[v1008.2.toNat]?).bind fun x1209=>(spec_l10Key.sem (x1209,())).bind fun r1210=>bif !r1210.1 then (some ((3:Int),())) else l2 v1008.1 v1008.2 (0:Int)) else none) else e2 ()
noncomputable def B1 (k:Nat) (self:(Tx×Int)->Option Out) (e2:(Unit)->Option Out) (a1:Arg) (v1008:Tx×Int):Option Out:=b1 self e2 (r2 k self e2 a1) a1 v1008
theorem B1_eq (k:Nat) (rec:RT Out) (K:KT Out) (a1:Arg) (v1008:Tx×Int):D.N k [1,1,1,0,1,0,0] (T1 a1 v1008) (loopC rec (keepF [0,4] []) K)=B1 k (S1 rec a1) (X1_2 K a1) a1 v1008:=
 Eq.trans (b:=b1 (S1 rec a1) (X1_2 K a1) (s2 k rec K a1) a1 v1008) (by kernel_rfl) (by rw[s2_eq];rfl)
noncomputable def q2 (a1:Arg) (z1817:(Unit)):Option Out:=some ((0:Int),())
noncomputable abbrev Q2 (_:Nat):=q2
theorem Q2_eq (k:Nat) (a1:Arg) (z1817:(Unit)):X1_2 (blockC 2 (seqC (D.N k [1,1,1,1]) D.K0)) a1 z1817=q2 a1 z1817:=by kernel_rfl
noncomputable def s1 (k:Nat) (a1:Arg):(Tx×Int)->Option Out:=fun v1008=>D.L k [1,1,1,0,1,0,0] [0,4] [] (blockC 2 (seqC (D.N k [1,1,1,1]) D.K0)) (T1 a1 v1008)
noncomputable def r1 (k:Nat) (a1:Arg):(Tx×Int)->Option Out:=rawIter (fun w v=>B1 k w (Q2 k a1) a1 v) k
theorem s1_eq (k:Nat) (a1:Arg):s1 k a1=r1 k a1:=by
 funext v1008;
 have h2:X1_2 (blockC 2 (seqC (D.N k [1,1,1,1]) D.K0)) a1=Q2 k a1:=funext fun z=>Q2_eq k a1 z
 refine (iter_raw _ _ _ (T1 a1) (fun self v=>B1 k self (X1_2 (blockC 2 (seqC (D.N k [1,1,1,1]) D.K0)) a1) a1 v) (fun rec v=>B1_eq k rec (blockC 2 (seqC (D.N k [1,1,1,1]) D.K0)) a1 v) k v1008).trans ?_
 rw[h2]
 rfl
noncomputable def q0 (l1:(Tx×Int)->Option Out) (a1:Arg) (z607:(Unit)):Option Out:=l1 (a1.1,(0:Int))
noncomputable def Q0 (k:Nat) (a1:Arg) (z607:(Unit)):Option Out:=q0 (r1 k a1) a1 z607
theorem Q0_eq (k:Nat) (a1:Arg) (z607:(Unit)):X0_0 (blockC 0 (seqC (D.N k [1,1,1]) D.K0)) a1 z607=Q0 k a1 z607:=
 Eq.trans (b:=q0 (s1 k a1) a1 z607) (by kernel_rfl) (by rw[s1_eq];rfl)
noncomputable def s0 (k:Nat) (a1:Arg):(Int)->Option Out:=fun v402=>D.L k [1,1,0,1,0,0] [0,3] [] (blockC 0 (seqC (D.N k [1,1,1]) D.K0)) (T0 a1 v402)
noncomputable def r0 (k:Nat) (a1:Arg):(Int)->Option Out:=rawIter (fun w v=>B0 k w (Q0 k a1) a1 v) k
theorem s0_eq (k:Nat) (a1:Arg):s0 k a1=r0 k a1:=by
 funext v402;
 have h0:X0_0 (blockC 0 (seqC (D.N k [1,1,1]) D.K0)) a1=Q0 k a1:=funext fun z=>Q0_eq k a1 z
 refine (iter_raw _ _ _ (T0 a1) (fun self v=>B0 k self (X0_0 (blockC 0 (seqC (D.N k [1,1,1]) D.K0)) a1) a1 v) (fun rec v=>B0_eq k rec (blockC 0 (seqC (D.N k [1,1,1]) D.K0)) a1 v) k v402).trans ?_
 rw[h0]
 rfl
noncomputable def p (l0:(Int)->Option Out) (a1:Arg):Option Out:=bif decide ((8:Int) < (a1.1.2.2.1.length:Int)) then (some ((2:Int),())) else bif decide ((12:Int) < (a1.1.2.2.2.1.length:Int)) then (some ((2:Int),())) else l0 (0:Int)
theorem raw_eq (k:Nat) (a1:Arg):@Eq (Option Out) (D.W k a1) (p (r0 k a1) a1):=
 Eq.trans (b:=p (s0 k a1) a1) (by kernel_rfl) (by rw[s0_eq])
theorem ok:Ok prog 216 D.sig:=fd_ok func216 tlOk (by kernel_rfl) (fc spec_l1In.ok (fc spec_l10Key.ok (fn_nil _)))
end spec_l10Marks
namespace spec_l10Lock
abbrev Arg:Type:=(List Tx)×Key×Unit
abbrev Out:Type:=Int×Unit
abbrev ps:PQ:=[(.ro,(.slc tTx)),(.ro,tKey)]
noncomputable def D:FD:={ fn:=f277,tl:=TL0,ps:=ps,rs:=[(i64,(roMd i64))],gl:=[(274,spec_l10Locks.D.sig)],lv:=[(2,[0,3,5])],lx:=[(0,[])],od:=[(4,[0,1,2,3,4])] }
noncomputable def sem (a:Arg):Option Out:=@lift Out fun k=>D.W k a
noncomputable def T0 (a1:Arg) (v402:Int):St:={ n:=22,sl:=[(0,.val (.slc tTx) a1.1),(3,.box tKey (roMd tKey) [] a1.2.1),(5,.val i64 v402)],vr:=[],lent:=[] }
noncomputable def b0 (self:Int->Option Out) (e0:(Unit)->Option Out) (a1:Arg) (v402:Int):Option Out:=bif decide (v402 < (a1.1.length:Int)) then (if 0<=v402 then ((a1.1[v402.toNat]?).bind fun x603=>(spec_l10Locks.sem (x603,a1.2.1,())).bind fun r604=>bif r604.1 then (if 0<=v402 then ((a1.1[v402.toNat]?).bind fun x605=>some (x605.1,())) else none) else self (w64 (v402+(1:Int)))) else none) else e0 ()
noncomputable abbrev B0 (_:Nat):=b0
noncomputable def q0 (a1:Arg) (z606:(Unit)):Option Out:=some ((0:Int),())
noncomputable abbrev Q0 (_:Nat):=q0
noncomputable def s0 (k:Nat) (a1:Arg):(Int)->Option Out:=fun v402=>D.L k [1,0,1,0,0] [0,3,5] [] (blockC 0 (seqC (D.N k [1,1]) D.K0)) (T0 a1 v402)
noncomputable def r0 (k:Nat) (a1:Arg):(Int)->Option Out:=rawIter (fun w v=>B0 k w (Q0 k a1) a1 v) k
theorem s0_eq (k:Nat) (a1:Arg):s0 k a1=r0 k a1:=
 funext fun v402=>iter_raw _ _ _ (T0 a1) _ (fun rec v=>by kernel_rfl) k v402
noncomputable def p (l0:(Int)->Option Out) (a1:Arg):Option Out:=l0 (0:Int)
theorem raw_eq (k:Nat) (a1:Arg):@Eq (Option Out) (D.W k a1) (p (r0 k a1) a1):=
 Eq.trans (b:=p (s0 k a1) a1) (by kernel_rfl) (by rw[s0_eq])
theorem ok:Ok prog 277 D.sig:=fd_ok func277 tlOk (by kernel_rfl) (fc spec_l10Locks.ok (fn_nil _))
end spec_l10Lock
namespace spec_l10Apart
abbrev Arg:Type:=(List Tx)×Unit
abbrev Out:Type:=Bool×Unit
abbrev ps:PQ:=[(.ro,(.slc tTx))]
noncomputable def D:FD:={ fn:=f217,tl:=TL0,ps:=ps,rs:=[(.bool,(roMd .bool))],gl:=[(277,spec_l10Lock.D.sig)],lv:=[(2,[0,3]),(5,[0,3,4])],lx:=[(0,[]),(2,[0,3])],od:=[(7,[0,1,2,3,4,5,6,7,8,10,11,12,13,14,9,15])] }
noncomputable def sem (a:Arg):Option Out:=@lift Out fun k=>D.W k a
noncomputable def T0 (a1:Arg) (v402:(List Tx)×Int):St:={ n:=37,sl:=[(0,.val (.slc tTx) v402.1),(3,.val i64 v402.2)],vr:=[],lent:=[] }
noncomputable def S0 (rec:RT Out) (a1:Arg):((List Tx)×Int)->Option Out:=fun v402=>rec (T0 a1 v402)
noncomputable def X0_0 (K:KT Out) (a1:Arg):(Unit)->Option Out:=fun z=>K (.exit 0) ({ n:=37,sl:=[],vr:=[],lent:=[] })
noncomputable def T1 (a1:Arg) (c1004:List Tx) (c1005:Int) (v1003:Int):St:={ n:=37,sl:=[(0,.val (.slc tTx) c1004),(3,.val i64 c1005),(4,.val i64 v1003)],vr:=[],lent:=[] }
noncomputable def b1 (self:Int->Option Out) (e2:(Unit)->Option Out) (a1:Arg) (c1004:List Tx) (c1005:Int) (v1003:Int):Option Out:=if 0<=c1005 then ((c1004[c1005.toNat]?).bind fun x1206=>bif decide (v1003 < (x1206.2.2.2.1.length:Int)) then (if 0<=c1005 then ((c1004[c1005.toNat]?).bind fun x1207=>if 0<=v1003 then ((x1207.2.2.2.1[v1003.toNat]?).bind fun x1208=>if 0<=c1005 then ((c1004[c1005.toNat]?).bind fun x1209=>(spec_l10Lock.sem (c1004,x1208,())).bind fun r1210=>bif !decide (r1210.1=x1209.1) then (some (false,())) else self (w64 (v1003+(1:Int)))) else none) else none) else none) else e2 ()) else none
noncomputable abbrev B1 (_:Nat):=b1
noncomputable def q0 (self:((List Tx)×Int)->Option Out) (e0:(Unit)->Option Out) (a1:Arg) (c1004:List Tx) (c1005:Int) (z1211:(Unit)):Option Out:=self (c1004,w64 (c1005+(1:Int)))
noncomputable abbrev Q0 (_:Nat):=q0
noncomputable def s1 (k:Nat) (rec:RT Out) (K:KT Out) (a1:Arg):(List Tx)->Int->(Int)->Option Out:=fun c1004 c1005=>fun v1003=>D.L k [1,0,1,0,0,1,0,0,1,0,0] [0,3,4] [] (blockC 2 (blockC 1 (seqC (D.N k [1,0,1,0,0,1,1]) (loopC rec (keepF [0,3] []) K)))) (T1 a1 c1004 c1005 v1003)
noncomputable def r1 (k:Nat) (self:((List Tx)×Int)->Option Out) (e0:(Unit)->Option Out) (a1:Arg):(List Tx)->Int->(Int)->Option Out:=fun c1004 c1005=>rawIter (fun w v=>B1 k w (Q0 k self e0 a1 c1004 c1005) a1 c1004 c1005 v) k
theorem s1_eq (k:Nat) (rec:RT Out) (K:KT Out) (a1:Arg):s1 k rec K a1=r1 k (S0 rec a1) (X0_0 K a1) a1:=
 funext fun c1004=>funext fun c1005=>funext fun v1003=>iter_raw _ _ _ (T1 a1 c1004 c1005) _ (fun rec v=>by kernel_rfl) k v1003
noncomputable def b0 (self:((List Tx)×Int)->Option Out) (e0:(Unit)->Option Out) (l1:(List Tx)->Int->(Int)->Option Out) (a1:Arg) (v402:(List Tx)×Int):Option Out:=bif decide (v402.2 < (v402.1.length:Int)) then (l1 v402.1 v402.2 (0:Int)) else e0 ()
noncomputable def B0 (k:Nat) (self:((List Tx)×Int)->Option Out) (e0:(Unit)->Option Out) (a1:Arg) (v402:(List Tx)×Int):Option Out:=b0 self e0 (r1 k self e0 a1) a1 v402
theorem B0_eq (k:Nat) (rec:RT Out) (K:KT Out) (a1:Arg) (v402:(List Tx)×Int):D.N k [1,0,1,0,0] (T0 a1 v402) (loopC rec (keepF [0,3] []) K)=B0 k (S0 rec a1) (X0_0 K a1) a1 v402:=
 Eq.trans (b:=b0 (S0 rec a1) (X0_0 K a1) (s1 k rec K a1) a1 v402) (by kernel_rfl) (by rw[s1_eq];rfl)
noncomputable def q1 (a1:Arg) (z1212:(Unit)):Option Out:=some (true,())
noncomputable abbrev Q1 (_:Nat):=q1
theorem Q1_eq (k:Nat) (a1:Arg) (z1212:(Unit)):X0_0 (blockC 0 (seqC (D.N k [1,1]) D.K0)) a1 z1212=q1 a1 z1212:=by kernel_rfl
noncomputable def s0 (k:Nat) (a1:Arg):((List Tx)×Int)->Option Out:=fun v402=>D.L k [1,0,1,0,0] [0,3] [] (blockC 0 (seqC (D.N k [1,1]) D.K0)) (T0 a1 v402)
noncomputable def r0 (k:Nat) (a1:Arg):((List Tx)×Int)->Option Out:=rawIter (fun w v=>B0 k w (Q1 k a1) a1 v) k
theorem s0_eq (k:Nat) (a1:Arg):s0 k a1=r0 k a1:=by
 funext v402;
 have h0:X0_0 (blockC 0 (seqC (D.N k [1,1]) D.K0)) a1=Q1 k a1:=funext fun z=>Q1_eq k a1 z
 refine (iter_raw _ _ _ (T0 a1) (fun self v=>B0 k self (X0_0 (blockC 0 (seqC (D.N k [1,1]) D.K0)) a1) a1 v) (fun rec v=>B0_eq k rec (blockC 0 (seqC (D.N k [1,1]) D.K0)) a1 v) k v402).trans ?_
 rw[h0]
 rfl
noncomputable def p (l0:((List Tx)×Int)->Option Out) (a1:Arg):Option Out:=l0 (a1.1,(0:Int))
theorem raw_eq (k:Nat) (a1:Arg):@Eq (Option Out) (D.W k a1) (p (r0 k a1) a1):=
 Eq.trans (b:=p (s0 k a1) a1) (by kernel_rfl) (by rw[s0_eq])
theorem ok:Ok prog 217 D.sig:=fd_ok func217 tlOk (by kernel_rfl) (fc spec_l10Lock.ok (fn_nil _))
end spec_l10Apart
namespace spec_l10Count
abbrev Arg:Type:=(List Tx)×Unit
abbrev Out:Type:=Int×Unit
abbrev ps:PQ:=[(.ro,(.slc tTx))]
noncomputable def D:FD:={ fn:=f218,tl:=TL0,ps:=ps,rs:=[(i64,(roMd i64))],lv:=[(3,[0,3,4])],lx:=[(0,[3])] }
noncomputable def sem (a:Arg):Option Out:=@lift Out fun k=>D.W k a
noncomputable def T0 (a1:Arg) (v402:Int×Int):St:={ n:=20,sl:=[(0,.val (.slc tTx) a1.1),(3,.val i64 v402.1),(4,.val i64 v402.2)],vr:=[],lent:=[] }
noncomputable def b0 (self:(Int×Int)->Option Out) (e0:Int->Option Out) (a1:Arg) (v402:Int×Int):Option Out:=bif decide (v402.2 < (a1.1.length:Int)) then (if 0<=v402.2 then ((a1.1[v402.2.toNat]?).bind fun x603=>self (w64 (v402.1+(x603.2.1.length:Int)),w64 (v402.2+(1:Int)))) else none) else e0 v402.1
noncomputable abbrev B0 (_:Nat):=b0
noncomputable def q0 (a1:Arg) (z604:Int):Option Out:=some (z604,())
noncomputable abbrev Q0 (_:Nat):=q0
noncomputable def s0 (k:Nat) (a1:Arg):(Int×Int)->Option Out:=fun v402=>D.L k [1,1,0,1,0,0] [0,3,4] [] (blockC 0 (seqC (D.N k [1,1,1]) D.K0)) (T0 a1 v402)
noncomputable def r0 (k:Nat) (a1:Arg):(Int×Int)->Option Out:=rawIter (fun w v=>B0 k w (Q0 k a1) a1 v) k
theorem s0_eq (k:Nat) (a1:Arg):s0 k a1=r0 k a1:=
 funext fun v402=>iter_raw _ _ _ (T0 a1) _ (fun rec v=>by kernel_rfl) k v402
noncomputable def p (l0:(Int×Int)->Option Out) (a1:Arg):Option Out:=l0 ((0:Int),(0:Int))
theorem raw_eq (k:Nat) (a1:Arg):@Eq (Option Out) (D.W k a1) (p (r0 k a1) a1):=
 Eq.trans (b:=p (s0 k a1) a1) (by kernel_rfl) (by rw[s0_eq])
theorem ok:Ok prog 218 D.sig:=fd_ok func218 tlOk (by kernel_rfl) (fn_nil _)
end spec_l10Count
namespace spec_l10Fault
abbrev Arg:Type:=(List Tx)×Unit
abbrev Out:Type:=Int×Unit
abbrev ps:PQ:=[(.ro,(.slc tTx))]
noncomputable def D:FD:={ fn:=f142,tl:=TL0,ps:=ps,rs:=[(i64,(roMd i64))],gl:=[(118,spec_l1In.D.sig),(215,spec_l10Undo.D.sig),(216,spec_l10Marks.D.sig),(217,spec_l10Apart.D.sig),(218,spec_l10Count.D.sig)],lv:=[(4,[0,3])],lx:=[(0,[0])],od:=[(9,[0,1,2,3,4,5,6,7,8,9,10,11,12,13,14])] }
noncomputable def sem (a:Arg):Option Out:=@lift Out fun k=>D.W k a
noncomputable def T0 (a1:Arg) (v402:Int):St:={ n:=56,sl:=[(0,.val (.slc tTx) a1.1),(3,.val i64 v402)],vr:=[],lent:=[] }
noncomputable def b0 (self:Int->Option Out) (e0:(Unit)->Option Out) (a1:Arg) (v402:Int):Option Out:=bif decide (v402 < (a1.1.length:Int)) then (if 0<=v402 then ((a1.1[v402.toNat]?).bind fun x603=>(spec_l1In.sem (x603.1,(1:Int),(99:Int),())).bind fun r604=>bif !r604.1 then (some ((3:Int),())) else let j608:Option Out:=(spec_l10Undo.sem (x603,())).bind fun r609=>bif !decide (r609.1=(0:Int)) then (some (r609.1,())) else (spec_l10Marks.sem (x603,())).bind fun r610=>bif !decide (r610.1=(0:Int)) then (some (r610.1,())) else self (w64 (v402+(1:Int)));bif decide ((0:Int) < v402) then (if 0<=w64 (v402 - (1:Int)) then ((a1.1[(w64 (v402 - (1:Int))).toNat]?).bind fun x605=>bif decide (x603.1<=x605.1) then (some ((1:Int),())) else j608) else none) else j608) else none) else e0 ()
noncomputable abbrev B0 (_:Nat):=b0
noncomputable def q0 (a1:Arg) (z611:(Unit)):Option Out:=(spec_l10Apart.sem (a1.1,())).bind fun r612=>bif !r612.1 then (some ((7:Int),())) else (spec_l10Count.sem (a1.1,())).bind fun r613=>bif decide ((12:Int) < r613.1) then (some ((2:Int),())) else some ((0:Int),())
noncomputable abbrev Q0 (_:Nat):=q0
noncomputable def s0 (k:Nat) (a1:Arg):(Int)->Option Out:=fun v402=>D.L k [1,1,0,1,0,0] [0,3] [] (blockC 0 (seqC (D.N k [1,1,1]) D.K0)) (T0 a1 v402)
noncomputable def r0 (k:Nat) (a1:Arg):(Int)->Option Out:=rawIter (fun w v=>B0 k w (Q0 k a1) a1 v) k
theorem s0_eq (k:Nat) (a1:Arg):s0 k a1=r0 k a1:=
 funext fun v402=>iter_raw _ _ _ (T0 a1) _ (fun rec v=>by kernel_rfl) k v402
noncomputable def p (l0:(Int)->Option Out) (a1:Arg):Option Out:=bif decide ((4:Int) < (a1.1.length:Int)) then (some ((2:Int),())) else l0 (0:Int)
theorem raw_eq (k:Nat) (a1:Arg):@Eq (Option Out) (D.W k a1) (p (r0 k a1) a1):=
 Eq.trans (b:=p (s0 k a1) a1) (by kernel_rfl) (by rw[s0_eq])
theorem ok:Ok prog 142 D.sig:=fd_ok func142 tlOk (by kernel_rfl) (fc spec_l1In.ok (fc spec_l10Undo.ok (fc spec_l10Marks.ok (fc spec_l10Apart.ok (fc spec_l10Count.ok (fn_nil _))))))
end spec_l10Fault
namespace spec_l10Room
abbrev Arg:Type:=(List Row)×(List Tx)×Key×Unit
abbrev Out:Type:=Int×Unit
abbrev ps:PQ:=[(.ro,(.slc tRow)),(.ro,(.slc tTx)),(.ro,tKey)]
noncomputable def D:FD:={ fn:=f143,tl:=TL0,ps:=ps,rs:=[(i64,(roMd i64))],lv:=[(3,[0,1,5,7,8]),(7,[1,5,7,9]),(14,[7,10,11]),(18,[7,10,11,12,13])],lx:=[(0,[1,5,7]),(2,[5,7]),(4,[10]),(6,[7,10,11,12])],od:=[(5,[0,1,2,3,4,5,6,7,8,9,10,11,12,13,14]),(20,[0,1,2,3,4,5,6,7,8,9])] }
noncomputable def sem (a:Arg):Option Out:=@lift Out fun k=>D.W k a
noncomputable def T0 (a1:Arg) (v402:(List Key)×Int):St:={ n:=82,sl:=[(0,.val (.slc tRow) a1.1),(1,.val (.slc tTx) a1.2.1),(5,.box tKey (roMd tKey) [] a1.2.2.1),(7,.own (.slc tKey) (ownMd (.slc tKey)) [] v402.1),(8,.val i64 v402.2)],vr:=[],lent:=[] }
noncomputable def S0 (rec:RT Out) (a1:Arg):((List Key)×Int)->Option Out:=fun v402=>rec (T0 a1 v402)
noncomputable def X0_0 (K:KT Out) (a1:Arg):(List Key)->Option Out:=fun z=>K (.exit 0) ({ n:=82,sl:=[(1,.val (.slc tTx) a1.2.1),(5,.box tKey (roMd tKey) [] a1.2.2.1),(7,.own (.slc tKey) (ownMd (.slc tKey)) [] z)],vr:=[],lent:=[] })
noncomputable def b0 (self:((List Key)×Int)->Option Out) (e0:(List Key)->Option Out) (a1:Arg) (v402:(List Key)×Int):Option Out:=bif decide (v402.2 < (a1.1.length:Int)) then (if 0<=v402.2 then ((a1.1[v402.2.toNat]?).bind fun x603=>if 0<=v402.2 then ((a1.1[v402.2.toNat]?).bind fun x604=>if v402.1.length+[(x603.1,x604.2.1,())].length<=CAP then (self (v402.1++[(x603.1,x604.2.1,())],w64 (v402.2+(1:Int)))) else none) else none) else none) else e0 v402.1
noncomputable abbrev B0 (_:Nat):=b0
theorem B0_eq (k:Nat) (rec:RT Out) (K:KT Out) (a1:Arg) (v402:(List Key)×Int):D.N k [1,1,0,1,0,0] (T0 a1 v402) (loopC rec (keepF [0,1,5,7,8] []) K)=b0 (S0 rec a1) (X0_0 K a1) a1 v402:=by kernel_rfl
noncomputable def T1 (a1:Arg) (v1006:(List Key)×Int):St:={ n:=82,sl:=[(1,.val (.slc tTx) a1.2.1),(5,.box tKey (roMd tKey) [] a1.2.2.1),(7,.own (.slc tKey) (ownMd (.slc tKey)) [] v1006.1),(9,.val i64 v1006.2)],vr:=[],lent:=[] }
noncomputable def S1 (rec:RT Out) (a1:Arg):((List Key)×Int)->Option Out:=fun v1006=>rec (T1 a1 v1006)
noncomputable def X1_2 (K:KT Out) (a1:Arg):(List Key)->Option Out:=fun z=>K (.exit 2) ({ n:=82,sl:=[(5,.box tKey (roMd tKey) [] a1.2.2.1),(7,.own (.slc tKey) (ownMd (.slc tKey)) [] z)],vr:=[],lent:=[] })
noncomputable def b1 (self:((List Key)×Int)->Option Out) (e2:(List Key)->Option Out) (a1:Arg) (v1006:(List Key)×Int):Option Out:=bif decide (v1006.2 < (a1.2.1.length:Int)) then (if 0<=v1006.2 then ((a1.2.1[v1006.2.toNat]?).bind fun x1207=>if v1006.1.length+x1207.2.2.2.1.length<=CAP then (self (v1006.1++x1207.2.2.2.1,w64 (v1006.2+(1:Int)))) else none) else none) else e2 v1006.1
noncomputable abbrev B1 (_:Nat):=b1
theorem B1_eq (k:Nat) (rec:RT Out) (K:KT Out) (a1:Arg) (v1006:(List Key)×Int):D.N k [1,1,1,0,1,0,0] (T1 a1 v1006) (loopC rec (keepF [1,5,7,9] []) K)=b1 (S1 rec a1) (X1_2 K a1) a1 v1006:=by kernel_rfl
noncomputable def T2 (a1:Arg) (v2213:(List Key)×Int×Int):St:={ n:=82,sl:=[(7,.own (.slc tKey) (ownMd (.slc tKey)) [] v2213.1),(10,.val i64 v2213.2.1),(11,.val i64 v2213.2.2)],vr:=[],lent:=[] }
noncomputable def S2 (rec:RT Out) (a1:Arg):((List Key)×Int×Int)->Option Out:=fun v2213=>rec (T2 a1 v2213)
noncomputable def X2_4 (K:KT Out) (a1:Arg):Int->Option Out:=fun z=>K (.exit 4) ({ n:=82,sl:=[(10,.val i64 z)],vr:=[],lent:=[] })
noncomputable def T3 (a1:Arg) (c2815:List Key) (c2816:Int) (c2817:Int) (v2814:Bool×Int):St:={ n:=82,sl:=[(7,.own (.slc tKey) (ownMd (.slc tKey)) [] c2815),(10,.val i64 c2816),(11,.val i64 c2817),(12,.val .bool v2814.1),(13,.val i64 v2814.2)],vr:=[],lent:=[] }
noncomputable def b3 (self:(Bool×Int)->Option Out) (e6:Bool->Option Out) (a1:Arg) (c2815:List Key) (c2816:Int) (c2817:Int) (v2814:Bool×Int):Option Out:=bif decide (v2814.2 < c2817) then (bif v2814.1 then (if 0<=v2814.2/\v2814.2 < (c2815.length:Int) then ((c2815[v2814.2.toNat]?).bind fun x3018=>if 0<=c2817/\c2817 < (c2815.length:Int) then ((c2815[c2817.toNat]?).bind fun x3019=>self (!(Ty.eq tKey x3018 x3019),w64 (v2814.2+(1:Int)))) else none) else none) else e6 v2814.1) else e6 v2814.1
noncomputable abbrev B3 (_:Nat):=b3
noncomputable def q2 (self:((List Key)×Int×Int)->Option Out) (e4:Int->Option Out) (a1:Arg) (c2815:List Key) (c2816:Int) (c2817:Int) (z3020:Bool):Option Out:=bif z3020 then (self (c2815,w64 (c2816+(1:Int)),w64 (c2817+(1:Int)))) else self (c2815,c2816,w64 (c2817+(1:Int)))
noncomputable abbrev Q2 (_:Nat):=q2
noncomputable def s3 (k:Nat) (rec:RT Out) (K:KT Out) (a1:Arg):(List Key)->Int->Int->(Bool×Int)->Option Out:=fun c2815 c2816 c2817=>fun v2814=>D.L k [1,1,1,1,1,1,0,1,0,0,1,0,0,1,0,1,0,0] [7,10,11,12,13] [] (blockC 6 (seqC (D.N k [1,1,1,1,1,1,0,1,0,0,1,0,0,1,1]) (blockC 5 (seqC (D.N k [1,1,1,1,1,1,0,1,0,0,1,1]) (loopC rec (keepF [7,10,11] []) K))))) (T3 a1 c2815 c2816 c2817 v2814)
noncomputable def r3 (k:Nat) (self:((List Key)×Int×Int)->Option Out) (e4:Int->Option Out) (a1:Arg):(List Key)->Int->Int->(Bool×Int)->Option Out:=fun c2815 c2816 c2817=>rawIter (fun w v=>B3 k w (Q2 k self e4 a1 c2815 c2816 c2817) a1 c2815 c2816 c2817 v) k
theorem s3_eq (k:Nat) (rec:RT Out) (K:KT Out) (a1:Arg):s3 k rec K a1=r3 k (S2 rec a1) (X2_4 K a1) a1:=
 funext fun c2815=>funext fun c2816=>funext fun c2817=>funext fun v2814=>iter_raw _ _ _ (T3 a1 c2815 c2816 c2817) _ (fun rec v=>by kernel_rfl) k v2814
noncomputable def b2 (self:((List Key)×Int×Int)->Option Out) (e4:Int->Option Out) (l3:(List Key)->Int->Int->(Bool×Int)->Option Out) (a1:Arg) (v2213:(List Key)×Int×Int):Option Out:=bif decide (v2213.2.2 < (v2213.1.length:Int)) then (l3 v2213.1 v2213.2.1 v2213.2.2 (true,(0:Int))) else e4 v2213.2.1
noncomputable def B2 (k:Nat) (self:((List Key)×Int×Int)->Option Out) (e4:Int->Option Out) (a1:Arg) (v2213:(List Key)×Int×Int):Option Out:=b2 self e4 (r3 k self e4 a1) a1 v2213
theorem B2_eq (k:Nat) (rec:RT Out) (K:KT Out) (a1:Arg) (v2213:(List Key)×Int×Int):D.N k [1,1,1,1,1,1,0,1,0,0] (T2 a1 v2213) (loopC rec (keepF [7,10,11] []) K)=B2 k (S2 rec a1) (X2_4 K a1) a1 v2213:=
 Eq.trans (b:=b2 (S2 rec a1) (X2_4 K a1) (s3 k rec K a1) a1 v2213) (by kernel_rfl) (by rw[s3_eq];rfl)
noncomputable def q3 (a1:Arg) (z3021:Int):Option Out:=some (z3021,())
noncomputable abbrev Q3 (_:Nat):=q3
theorem Q3_eq (k:Nat) (a1:Arg) (z3021:Int):X2_4 (blockC 4 (seqC (D.N k [1,1,1,1,1,1,1]) D.K0)) a1 z3021=q3 a1 z3021:=by kernel_rfl
noncomputable def s2 (k:Nat) (a1:Arg):((List Key)×Int×Int)->Option Out:=fun v2213=>D.L k [1,1,1,1,1,1,0,1,0,0] [7,10,11] [] (blockC 4 (seqC (D.N k [1,1,1,1,1,1,1]) D.K0)) (T2 a1 v2213)
noncomputable def r2 (k:Nat) (a1:Arg):((List Key)×Int×Int)->Option Out:=rawIter (fun w v=>B2 k w (Q3 k a1) a1 v) k
theorem s2_eq (k:Nat) (a1:Arg):s2 k a1=r2 k a1:=by
 funext v2213;
 have h4:X2_4 (blockC 4 (seqC (D.N k [1,1,1,1,1,1,1]) D.K0)) a1=Q3 k a1:=funext fun z=>Q3_eq k a1 z
 refine (iter_raw _ _ _ (T2 a1) (fun self v=>B2 k self (X2_4 (blockC 4 (seqC (D.N k [1,1,1,1,1,1,1]) D.K0)) a1) a1 v) (fun rec v=>B2_eq k rec (blockC 4 (seqC (D.N k [1,1,1,1,1,1,1]) D.K0)) a1 v) k v2213).trans ?_
 rw[h4]
 rfl
noncomputable def q1 (l2:((List Key)×Int×Int)->Option Out) (a1:Arg) (z1208:(List Key)):Option Out:=let j1812:=fun (p1811:List Key)=>(l2 (p1811,(0:Int),(0:Int)):Option Out);bif !decide (a1.2.2.1.2.1=(0:Int)) then (if z1208.length+[a1.2.2.1].length<=CAP then (j1812 (z1208++[a1.2.2.1])) else none) else j1812 z1208
noncomputable def Q1 (k:Nat) (a1:Arg) (z1208:(List Key)):Option Out:=q1 (r2 k a1) a1 z1208
theorem Q1_eq (k:Nat) (a1:Arg) (z1208:(List Key)):X1_2 (blockC 2 (seqC (D.N k [1,1,1,1]) D.K0)) a1 z1208=Q1 k a1 z1208:=
 Eq.trans (b:=q1 (s2 k a1) a1 z1208) (by kernel_rfl) (by rw[s2_eq];rfl)
noncomputable def s1 (k:Nat) (a1:Arg):((List Key)×Int)->Option Out:=fun v1006=>D.L k [1,1,1,0,1,0,0] [1,5,7,9] [] (blockC 2 (seqC (D.N k [1,1,1,1]) D.K0)) (T1 a1 v1006)
noncomputable def r1 (k:Nat) (a1:Arg):((List Key)×Int)->Option Out:=rawIter (fun w v=>B1 k w (Q1 k a1) a1 v) k
theorem s1_eq (k:Nat) (a1:Arg):s1 k a1=r1 k a1:=by
 funext v1006;
 have h2:X1_2 (blockC 2 (seqC (D.N k [1,1,1,1]) D.K0)) a1=Q1 k a1:=funext fun z=>Q1_eq k a1 z
 refine (iter_raw _ _ _ (T1 a1) (fun self v=>B1 k self (X1_2 (blockC 2 (seqC (D.N k [1,1,1,1]) D.K0)) a1) a1 v) (fun rec v=>B1_eq k rec (blockC 2 (seqC (D.N k [1,1,1,1]) D.K0)) a1 v) k v1006).trans ?_
 rw[h2]
 rfl
noncomputable def q0 (l1:((List Key)×Int)->Option Out) (a1:Arg) (z605:(List Key)):Option Out:=l1 (z605,(0:Int))
noncomputable def Q0 (k:Nat) (a1:Arg) (z605:(List Key)):Option Out:=q0 (r1 k a1) a1 z605
theorem Q0_eq (k:Nat) (a1:Arg) (z605:(List Key)):X0_0 (blockC 0 (seqC (D.N k [1,1,1]) D.K0)) a1 z605=Q0 k a1 z605:=
 Eq.trans (b:=q0 (s1 k a1) a1 z605) (by kernel_rfl) (by rw[s1_eq];rfl)
noncomputable def s0 (k:Nat) (a1:Arg):((List Key)×Int)->Option Out:=fun v402=>D.L k [1,1,0,1,0,0] [0,1,5,7,8] [] (blockC 0 (seqC (D.N k [1,1,1]) D.K0)) (T0 a1 v402)
noncomputable def r0 (k:Nat) (a1:Arg):((List Key)×Int)->Option Out:=rawIter (fun w v=>B0 k w (Q0 k a1) a1 v) k
theorem s0_eq (k:Nat) (a1:Arg):s0 k a1=r0 k a1:=by
 funext v402;
 have h0:X0_0 (blockC 0 (seqC (D.N k [1,1,1]) D.K0)) a1=Q0 k a1:=funext fun z=>Q0_eq k a1 z
 refine (iter_raw _ _ _ (T0 a1) (fun self v=>B0 k self (X0_0 (blockC 0 (seqC (D.N k [1,1,1]) D.K0)) a1) a1 v) (fun rec v=>B0_eq k rec (blockC 0 (seqC (D.N k [1,1,1]) D.K0)) a1 v) k v402).trans ?_
 rw[h0]
 rfl
noncomputable def p (l0:((List Key)×Int)->Option Out) (a1:Arg):Option Out:=l0 (([]:List Key),(0:Int))
theorem raw_eq (k:Nat) (a1:Arg):@Eq (Option Out) (D.W k a1) (p (r0 k a1) a1):=
 Eq.trans (b:=p (s0 k a1) a1) (by kernel_rfl) (by rw[s0_eq])
theorem ok:Ok prog 143 D.sig:=fd_ok func143 tlOk (by kernel_rfl) (fn_nil _)
end spec_l10Room
namespace spec_l11Fault
abbrev Arg:Type:=Plain×Unit
abbrev Out:Type:=Int×Unit
abbrev ps:PQ:=[(.ro,(.ptr tPlain))]
noncomputable def D:FD:={ fn:=f72,tl:=TL0,ps:=ps,rs:=[(i64,(roMd i64))],gl:=[(112,spec_l11Back.D.sig),(118,spec_l1In.D.sig),(141,spec_l6Rows.D.sig),(142,spec_l10Fault.D.sig),(143,spec_l10Room.D.sig)],od:=[(8,[0,1,2,3,4,5,6,7,8,9,10,11,12,13,14,15,16,17,18,19,20,21,22,23,24,25]),(10,[0,1,2,3,4,5,6,7,8,9,10]),(12,[0,1,2,3,4,5,6,7,8,9,10,11,12,13])],ar:=[(8,[3,13,18,22])] }
noncomputable def sem (a:Arg):Option Out:=@lift Out fun k=>D.W k a
noncomputable def p (a1:Arg):Option Out:=(spec_l6Rows.sem (a1.1.1,())).bind fun r2=>bif !decide (r2.1=(0:Int)) then (some (r2.1,())) else (spec_l10Fault.sem (a1.1.2.1,())).bind fun r3=>bif !decide (r3.1=(0:Int)) then (some (r3.1,())) else let j8:Option Out:=(spec_l10Room.sem (a1.1.1,a1.1.2.1,((0:Int),(0:Int),()),())).bind fun r9=>bif decide ((12:Int) < r9.1) then (some ((2:Int),())) else (spec_l11Back.sem (a1.1.1,a1.1.2.1,())).bind fun r10=>bif !r10.2.1 then (some ((8:Int),())) else some ((0:Int),());(spec_l1In.sem (a1.1.2.2.1,(1:Int),(100:Int),())).bind fun r4=>bif !r4.1 then (some ((3:Int),())) else bif decide ((0:Int) < (a1.1.2.1.length:Int)) then (if 0<=w64 ((a1.1.2.1.length:Int) - (1:Int)) then ((a1.1.2.1[(w64 ((a1.1.2.1.length:Int) - (1:Int))).toNat]?).bind fun x5=>bif decide (a1.1.2.2.1<=x5.1) then (some ((3:Int),())) else j8) else none) else j8
theorem raw_eq (k:Nat) (a1:Arg):@Eq (Option Out) (D.W k a1) (p a1):=by kernel_rfl
theorem ok:Ok prog 72 D.sig:=fd_ok func72 tlOk (by kernel_rfl) (fc spec_l11Back.ok (fc spec_l1In.ok (fc spec_l6Rows.ok (fc spec_l10Fault.ok (fc spec_l10Room.ok (fn_nil _))))))
end spec_l11Fault
namespace spec_l2Count
abbrev Arg:Type:=(List UInt8)×Unit
abbrev Out:Type:=Int×Unit
abbrev ps:PQ:=[(.ro,(.slc u8))]
noncomputable def D:FD:={ fn:=f255,tl:=TL0,ps:=ps,rs:=[(i64,(roMd i64))] }
noncomputable def sem (a:Arg):Option Out:=@lift Out fun k=>D.W k a
noncomputable def p (a1:Arg):Option Out:=(a1.1[0]?).bind fun x2=>some (w64 (x2.toNat:Int),())
theorem raw_eq (k:Nat) (a1:Arg):@Eq (Option Out) (D.W k a1) (p a1):=by kernel_rfl
theorem ok:Ok prog 255 D.sig:=fd_ok func255 tlOk (by kernel_rfl) (fn_nil _)
end spec_l2Count
namespace spec_l2Size
abbrev Arg:Type:=(List UInt8)×Int×Unit
abbrev Out:Type:=Int×Unit
abbrev ps:PQ:=[(.ro,(.slc u8)),(.ro,i64)]
noncomputable def D:FD:={ fn:=f256,tl:=TL0,ps:=ps,rs:=[(i64,(roMd i64))] }
noncomputable def sem (a:Arg):Option Out:=@lift Out fun k=>D.W k a
noncomputable def p (a1:Arg):Option Out:=if 0<=w64 ((3:Int)+(w64 ((2:Int)*a1.2.1))) then ((a1.1[(w64 ((3:Int)+(w64 ((2:Int)*a1.2.1)))).toNat]?).bind fun x2=>some (w64 (x2.toNat:Int),())) else none
theorem raw_eq (k:Nat) (a1:Arg):@Eq (Option Out) (D.W k a1) (p a1):=by kernel_rfl
theorem ok:Ok prog 256 D.sig:=fd_ok func256 tlOk (by kernel_rfl) (fn_nil _)
end spec_l2Size
namespace spec_l1Place
abbrev Arg:Type:=Int×Int×Unit
abbrev Out:Type:=Bool×Unit
abbrev ps:PQ:=[(.ro,i64),(.ro,i64)]
noncomputable def D:FD:={ fn:=f298,tl:=TL0,ps:=ps,rs:=[(.bool,(roMd .bool))],gl:=[(118,spec_l1In.D.sig)] }
noncomputable def sem (a:Arg):Option Out:=@lift Out fun k=>D.W k a
noncomputable def p (a1:Arg):Option Out:=(spec_l1In.sem (a1.1,(0:Int),(11:Int),())).bind fun r2=>bif r2.1 then ((spec_l1In.sem (a1.2.1,(0:Int),(15:Int),())).bind fun r3=>some (r3.1,())) else some (false,())
theorem raw_eq (k:Nat) (a1:Arg):@Eq (Option Out) (D.W k a1) (p a1):=by kernel_rfl
theorem ok:Ok prog 298 D.sig:=fd_ok func298 tlOk (by kernel_rfl) (fc spec_l1In.ok (fn_nil _))
end spec_l1Place
namespace spec_l1Read
abbrev Arg:Type:=(List UInt8)×Unit
abbrev Out:Type:=CellResult×Bool×Unit
abbrev ps:PQ:=[(.ro,(.slc u8))]
noncomputable def D:FD:={ fn:=f257,tl:=TL0,ps:=ps,rs:=[(tCellResult,(roMd tCellResult)),(.bool,(roMd .bool))],gl:=[(213,spec_l1Fault.D.sig),(298,spec_l1Place.D.sig)],od:=[(2,[0,1,2,3,4,5,6,7,8,9,10]),(3,[0,1,2,3,4,5,6,7]),(6,[0,1,2,3,4,5,6,7,8,9,10,11,12,13,14,15,16,17,18,19,20,21,22,23]),(7,[0,1,2,3,4,5,6,7,8,9])] }
noncomputable def sem (a:Arg):Option Out:=@lift Out fun k=>D.W k a
noncomputable def p (a1:Arg):Option Out:=let j16:Option Out:=bif decide ((a1.1.length:Int) < (6:Int)) then (some (((0:Int),(0:Int),(0:Int),(0:Int),((0:Int),(0:Int),(0:Int),([]:List UInt8),()),()),false,())) else (a1.1[0]?).bind fun x17=>bif decide ((x17.toNat:Int)=(1:Int)) then (some (((0:Int),(0:Int),(0:Int),(0:Int),((0:Int),(0:Int),(0:Int),([]:List UInt8),()),()),false,())) else (a1.1[0]?).bind fun x18=>bif decide ((2:Int) < (x18.toNat:Int)) then (some (((0:Int),(0:Int),(0:Int),(0:Int),((0:Int),(0:Int),(0:Int),([]:List UInt8),()),()),false,())) else (a1.1[5]?).bind fun x19=>bif !decide ((a1.1.length:Int)=w64 ((6:Int)+(w64 (x19.toNat:Int)))) then (some (((0:Int),(0:Int),(0:Int),(0:Int),((0:Int),(0:Int),(0:Int),([]:List UInt8),()),()),false,())) else (a1.1[1]?).bind fun x20=>(a1.1[2]?).bind fun x21=>(a1.1[3]?).bind fun x22=>(a1.1[4]?).bind fun x23=>if 0<=(6:Int)/\(6:Int)<=(a1.1.length:Int) then (let y24:=w64 ((w64 ((w64 (x22.toNat:Int))*(256:Int)))+(w64 (x23.toNat:Int)));(a1.1[0]?).bind fun x25=>(spec_l1Fault.sem ((w64 (x20.toNat:Int),w64 (x21.toNat:Int),y24,(a1.1.take a1.1.length).drop 6,()),())).bind fun r26=>some (((0:Int),w64 (x25.toNat:Int),(0:Int),(0:Int),(w64 (x20.toNat:Int),w64 (x21.toNat:Int),y24,(a1.1.take a1.1.length).drop 6,()),()),decide (r26.1=(0:Int)),())) else none;bif decide ((a1.1.length:Int)=(3:Int)) then ((a1.1[0]?).bind fun x2=>bif decide ((x2.toNat:Int)=(1:Int)) then ((a1.1[1]?).bind fun x3=>(a1.1[2]?).bind fun x4=>(spec_l1Place.sem (w64 (x3.toNat:Int),w64 (x4.toNat:Int),())).bind fun r5=>some (((0:Int),(1:Int),w64 (x3.toNat:Int),w64 (x4.toNat:Int),((0:Int),(0:Int),(0:Int),([]:List UInt8),()),()),r5.1,())) else j16) else j16
theorem raw_eq (k:Nat) (a1:Arg):@Eq (Option Out) (D.W k a1) (p a1):=by kernel_rfl
theorem ok:Ok prog 257 D.sig:=fd_ok func257 tlOk (by kernel_rfl) (fc spec_l1Fault.ok (fc spec_l1Place.ok (fn_nil _)))
end spec_l1Read
namespace spec_l2Place
abbrev Arg:Type:=(List UInt8)×Int×Unit
abbrev Out:Type:=Int×Unit
abbrev ps:PQ:=[(.ro,(.slc u8)),(.ro,i64)]
noncomputable def D:FD:={ fn:=f299,tl:=TL0,ps:=ps,rs:=[(i64,(roMd i64))] }
noncomputable def sem (a:Arg):Option Out:=@lift Out fun k=>D.W k a
noncomputable def p (a1:Arg):Option Out:=if 0<=w64 ((2:Int)+(w64 ((2:Int)*a1.2.1))) then ((a1.1[(w64 ((2:Int)+(w64 ((2:Int)*a1.2.1)))).toNat]?).bind fun x2=>some (w64 (x2.toNat:Int),())) else none
theorem raw_eq (k:Nat) (a1:Arg):@Eq (Option Out) (D.W k a1) (p a1):=by kernel_rfl
theorem ok:Ok prog 299 D.sig:=fd_ok func299 tlOk (by kernel_rfl) (fn_nil _)
end spec_l2Place
namespace spec_l2Cell
abbrev Arg:Type:=(List UInt8)×Int×Unit
abbrev Out:Type:=(List UInt8)×Unit
abbrev ps:PQ:=[(.ro,(.slc u8)),(.ro,i64)]
noncomputable def D:FD:={ fn:=f258,tl:=TL0,ps:=ps,rs:=[((.slc u8),(ownMd (.slc u8)))],gl:=[(256,spec_l2Size.D.sig),(299,spec_l2Place.D.sig)] }
noncomputable def sem (a:Arg):Option Out:=@lift Out fun k=>D.W k a
noncomputable def p (a1:Arg):Option Out:=(spec_l2Place.sem (a1.1,a1.2.1,())).bind fun r2=>(spec_l2Size.sem (a1.1,a1.2.1,())).bind fun r3=>if 0<=r2.1/\r2.1<=w64 (r2.1+r3.1)/\w64 (r2.1+r3.1)<=(a1.1.length:Int) then (if ([]:List UInt8).length+((a1.1.take (w64 (r2.1+r3.1)).toNat).drop r2.1.toNat).length<=CAP then (let y4:=([]:List UInt8)++((a1.1.take (w64 (r2.1+r3.1)).toNat).drop r2.1.toNat);some (y4,())) else none) else none
theorem raw_eq (k:Nat) (a1:Arg):@Eq (Option Out) (D.W k a1) (p a1):=by kernel_rfl
theorem ok:Ok prog 258 D.sig:=fd_ok func258 tlOk (by kernel_rfl) (fc spec_l2Size.ok (fc spec_l2Place.ok (fn_nil _)))
end spec_l2Cell
namespace spec_l6Spots
abbrev Arg:Type:=(List (List UInt8))×Unit
abbrev Out:Type:=(List L6Spot)×Unit
abbrev ps:PQ:=[(.ro,(.slc (.slc u8)))]
noncomputable def D:FD:={ fn:=f192,tl:=TL0,ps:=ps,rs:=[((.slc tL6Spot),(ownMd (.slc tL6Spot)))],gl:=[(255,spec_l2Count.D.sig),(256,spec_l2Size.D.sig),(257,spec_l1Read.D.sig),(258,spec_l2Cell.D.sig)],lv:=[(3,[0,3,4]),(6,[0,3,4,5])],lx:=[(0,[3]),(2,[0,3,4])] }
noncomputable def sem (a:Arg):Option Out:=@lift Out fun k=>D.W k a
noncomputable def T0 (a1:Arg) (v402:(List (List UInt8))×(List L6Spot)×Int):St:={ n:=49,sl:=[(0,.val (.slc (.slc u8)) v402.1),(3,.own (.slc tL6Spot) (ownMd (.slc tL6Spot)) [] v402.2.1),(4,.val i64 v402.2.2)],vr:=[],lent:=[] }
noncomputable def S0 (rec:RT Out) (a1:Arg):((List (List UInt8))×(List L6Spot)×Int)->Option Out:=fun v402=>rec (T0 a1 v402)
noncomputable def X0_0 (K:KT Out) (a1:Arg):(List L6Spot)->Option Out:=fun z=>K (.exit 0) ({ n:=49,sl:=[(3,.own (.slc tL6Spot) (ownMd (.slc tL6Spot)) [] z)],vr:=[],lent:=[] })
noncomputable def T1 (a1:Arg) (c1004:List (List UInt8)) (c1005:Int) (v1003:(List L6Spot)×Int):St:={ n:=49,sl:=[(0,.val (.slc (.slc u8)) c1004),(3,.own (.slc tL6Spot) (ownMd (.slc tL6Spot)) [] v1003.1),(4,.val i64 c1005),(5,.val i64 v1003.2)],vr:=[],lent:=[] }
noncomputable def b1 (self:((List L6Spot)×Int)->Option Out) (e2:(List L6Spot)->Option Out) (a1:Arg) (c1004:List (List UInt8)) (c1005:Int) (v1003:(List L6Spot)×Int):Option Out:=if 0<=c1005 then ((c1004[c1005.toNat]?).bind fun x1206=>(spec_l2Count.sem (x1206,())).bind fun r1207=>bif decide (v1003.2 < r1207.1) then (if 0<=c1005 then ((c1004[c1005.toNat]?).bind fun x1208=>(spec_l2Size.sem (x1208,v1003.2,())).bind fun r1209=>bif decide ((0:Int) < r1209.1) then (if 0<=c1005 then ((c1004[c1005.toNat]?).bind fun x1210=>(spec_l2Cell.sem (x1210,v1003.2,())).bind fun r1211=>(spec_l1Read.sem (r1211.1,())).bind fun r1212=>if v1003.1.length+[(c1005,v1003.2,r1212.1,())].length<=CAP then (let y1213:=v1003.1++[(c1005,v1003.2,r1212.1,())];self (y1213,w64 (v1003.2+(1:Int)))) else none) else none) else self (v1003.1,w64 (v1003.2+(1:Int)))) else none) else e2 v1003.1) else none
noncomputable abbrev B1 (_:Nat):=b1
noncomputable def q0 (self:((List (List UInt8))×(List L6Spot)×Int)->Option Out) (e0:(List L6Spot)->Option Out) (a1:Arg) (c1004:List (List UInt8)) (c1005:Int) (z1214:(List L6Spot)):Option Out:=self (c1004,z1214,w64 (c1005+(1:Int)))
noncomputable abbrev Q0 (_:Nat):=q0
noncomputable def s1 (k:Nat) (rec:RT Out) (K:KT Out) (a1:Arg):(List (List UInt8))->Int->((List L6Spot)×Int)->Option Out:=fun c1004 c1005=>fun v1003=>D.L k [1,1,0,1,0,0,1,0,0,1,0,0] [0,3,4,5] [] (blockC 2 (blockC 1 (seqC (D.N k [1,1,0,1,0,0,1,1]) (loopC rec (keepF [0,3,4] []) K)))) (T1 a1 c1004 c1005 v1003)
noncomputable def r1 (k:Nat) (self:((List (List UInt8))×(List L6Spot)×Int)->Option Out) (e0:(List L6Spot)->Option Out) (a1:Arg):(List (List UInt8))->Int->((List L6Spot)×Int)->Option Out:=fun c1004 c1005=>rawIter (fun w v=>B1 k w (Q0 k self e0 a1 c1004 c1005) a1 c1004 c1005 v) k
theorem s1_eq (k:Nat) (rec:RT Out) (K:KT Out) (a1:Arg):s1 k rec K a1=r1 k (S0 rec a1) (X0_0 K a1) a1:=
 funext fun c1004=>funext fun c1005=>funext fun v1003=>iter_raw _ _ _ (T1 a1 c1004 c1005) _ (fun rec v=>by kernel_rfl) k v1003
noncomputable def b0 (self:((List (List UInt8))×(List L6Spot)×Int)->Option Out) (e0:(List L6Spot)->Option Out) (l1:(List (List UInt8))->Int->((List L6Spot)×Int)->Option Out) (a1:Arg) (v402:(List (List UInt8))×(List L6Spot)×Int):Option Out:=bif decide (v402.2.2 < (v402.1.length:Int)) then (l1 v402.1 v402.2.2 (v402.2.1,(0:Int))) else e0 v402.2.1
noncomputable def B0 (k:Nat) (self:((List (List UInt8))×(List L6Spot)×Int)->Option Out) (e0:(List L6Spot)->Option Out) (a1:Arg) (v402:(List (List UInt8))×(List L6Spot)×Int):Option Out:=b0 self e0 (r1 k self e0 a1) a1 v402
theorem B0_eq (k:Nat) (rec:RT Out) (K:KT Out) (a1:Arg) (v402:(List (List UInt8))×(List L6Spot)×Int):D.N k [1,1,0,1,0,0] (T0 a1 v402) (loopC rec (keepF [0,3,4] []) K)=B0 k (S0 rec a1) (X0_0 K a1) a1 v402:=
 Eq.trans (b:=b0 (S0 rec a1) (X0_0 K a1) (s1 k rec K a1) a1 v402) (by kernel_rfl) (by rw[s1_eq];rfl)
noncomputable def q1 (a1:Arg) (z1215:(List L6Spot)):Option Out:=some (z1215,())
noncomputable abbrev Q1 (_:Nat):=q1
theorem Q1_eq (k:Nat) (a1:Arg) (z1215:(List L6Spot)):X0_0 (blockC 0 (seqC (D.N k [1,1,1]) D.K0)) a1 z1215=q1 a1 z1215:=by kernel_rfl
noncomputable def s0 (k:Nat) (a1:Arg):((List (List UInt8))×(List L6Spot)×Int)->Option Out:=fun v402=>D.L k [1,1,0,1,0,0] [0,3,4] [] (blockC 0 (seqC (D.N k [1,1,1]) D.K0)) (T0 a1 v402)
noncomputable def r0 (k:Nat) (a1:Arg):((List (List UInt8))×(List L6Spot)×Int)->Option Out:=rawIter (fun w v=>B0 k w (Q1 k a1) a1 v) k
theorem s0_eq (k:Nat) (a1:Arg):s0 k a1=r0 k a1:=by
 funext v402;
 have h0:X0_0 (blockC 0 (seqC (D.N k [1,1,1]) D.K0)) a1=Q1 k a1:=funext fun z=>Q1_eq k a1 z
 refine (iter_raw _ _ _ (T0 a1) (fun self v=>B0 k self (X0_0 (blockC 0 (seqC (D.N k [1,1,1]) D.K0)) a1) a1 v) (fun rec v=>B0_eq k rec (blockC 0 (seqC (D.N k [1,1,1]) D.K0)) a1 v) k v402).trans ?_
 rw[h0]
 rfl
noncomputable def p (l0:((List (List UInt8))×(List L6Spot)×Int)->Option Out) (a1:Arg):Option Out:=l0 (a1.1,([]:List L6Spot),(0:Int))
theorem raw_eq (k:Nat) (a1:Arg):@Eq (Option Out) (D.W k a1) (p (r0 k a1) a1):=
 Eq.trans (b:=p (s0 k a1) a1) (by kernel_rfl) (by rw[s0_eq])
theorem ok:Ok prog 192 D.sig:=fd_ok func192 tlOk (by kernel_rfl) (fc spec_l2Count.ok (fc spec_l2Size.ok (fc spec_l1Read.ok (fc spec_l2Cell.ok (fn_nil _)))))
end spec_l6Spots
namespace spec_l2Has
abbrev Arg:Type:=(List UInt8)×Int×Unit
abbrev Out:Type:=Bool×Unit
abbrev ps:PQ:=[(.ro,(.slc u8)),(.ro,i64)]
noncomputable def D:FD:={ fn:=f278,tl:=TL0,ps:=ps,rs:=[(.bool,(roMd .bool))],gl:=[(118,spec_l1In.D.sig),(255,spec_l2Count.D.sig),(256,spec_l2Size.D.sig)] }
noncomputable def sem (a:Arg):Option Out:=@lift Out fun k=>D.W k a
noncomputable def p (a1:Arg):Option Out:=(spec_l2Count.sem (a1.1,())).bind fun r2=>(spec_l1In.sem (a1.2.1,(0:Int),w64 (r2.1 - (1:Int)),())).bind fun r3=>bif r3.1 then ((spec_l2Size.sem (a1.1,a1.2.1,())).bind fun r4=>some (decide ((0:Int) < r4.1),())) else some (false,())
theorem raw_eq (k:Nat) (a1:Arg):@Eq (Option Out) (D.W k a1) (p a1):=by kernel_rfl
theorem ok:Ok prog 278 D.sig:=fd_ok func278 tlOk (by kernel_rfl) (fc spec_l1In.ok (fc spec_l2Count.ok (fc spec_l2Size.ok (fn_nil _))))
end spec_l2Has
namespace spec_l6Cell
abbrev Arg:Type:=(List (List UInt8))×Int×Int×Unit
abbrev Out:Type:=CellResult×Bool×Unit
abbrev ps:PQ:=[(.ro,(.slc (.slc u8))),(.ro,i64),(.ro,i64)]
noncomputable def D:FD:={ fn:=f219,tl:=TL0,ps:=ps,rs:=[(tCellResult,(roMd tCellResult)),(.bool,(roMd .bool))],gl:=[(118,spec_l1In.D.sig),(257,spec_l1Read.D.sig),(258,spec_l2Cell.D.sig),(278,spec_l2Has.D.sig)] }
noncomputable def sem (a:Arg):Option Out:=@lift Out fun k=>D.W k a
noncomputable def p (a1:Arg):Option Out:=(spec_l1In.sem (a1.2.1,(0:Int),w64 ((a1.1.length:Int) - (1:Int)),())).bind fun r2=>bif !r2.1 then (some (((0:Int),(0:Int),(0:Int),(0:Int),((0:Int),(0:Int),(0:Int),([]:List UInt8),()),()),false,())) else if 0<=a1.2.1 then ((a1.1[a1.2.1.toNat]?).bind fun x3=>(spec_l2Has.sem (x3,a1.2.2.1,())).bind fun r4=>bif !r4.1 then (some (((0:Int),(0:Int),(0:Int),(0:Int),((0:Int),(0:Int),(0:Int),([]:List UInt8),()),()),false,())) else if 0<=a1.2.1 then ((a1.1[a1.2.1.toNat]?).bind fun x5=>(spec_l2Cell.sem (x5,a1.2.2.1,())).bind fun r6=>(spec_l1Read.sem (r6.1,())).bind fun r7=>some (r7.1,r7.2.1,())) else none) else none
theorem raw_eq (k:Nat) (a1:Arg):@Eq (Option Out) (D.W k a1) (p a1):=by kernel_rfl
theorem ok:Ok prog 219 D.sig:=fd_ok func219 tlOk (by kernel_rfl) (fc spec_l1In.ok (fc spec_l1Read.ok (fc spec_l2Cell.ok (fc spec_l2Has.ok (fn_nil _)))))
end spec_l6Cell
namespace spec_l6Seen
abbrev Arg:Type:=(List (List UInt8))×Unit
abbrev Out:Type:=(List L6Spot)×Unit
abbrev ps:PQ:=[(.ro,(.slc (.slc u8)))]
noncomputable def D:FD:={ fn:=f145,tl:=TL0,ps:=ps,rs:=[((.slc tL6Spot),(ownMd (.slc tL6Spot)))],gl:=[(192,spec_l6Spots.D.sig),(219,spec_l6Cell.D.sig)],lv:=[(4,[0,3,4,5])],lx:=[(0,[3]),(1,[0,3,4,5])] }
noncomputable def sem (a:Arg):Option Out:=@lift Out fun k=>D.W k a
noncomputable def T0 (a1:Arg) (c404:List L6Spot) (v403:(List L6Spot)×Int):St:={ n:=50,sl:=[(0,.val (.slc (.slc u8)) a1.1),(3,.own (.slc tL6Spot) (ownMd (.slc tL6Spot)) [] v403.1),(4,.own (.slc tL6Spot) (ownMd (.slc tL6Spot)) [] c404),(5,.val i64 v403.2)],vr:=[],lent:=[] }
noncomputable def b0 (self:((List L6Spot)×Int)->Option Out) (e0:(List L6Spot)->Option Out) (a1:Arg) (c404:List L6Spot) (v403:(List L6Spot)×Int):Option Out:=bif decide (v403.2 < (c404.length:Int)) then (if 0<=v403.2/\v403.2 < (c404.length:Int) then ((c404[v403.2.toNat]?).bind fun x605=>bif decide (x605.2.2.1.2.1=(2:Int)) then (self (v403.1,w64 (v403.2+(1:Int)))) else let j609:=fun (p608:L6Spot)=>(if v403.1.length+[p608].length<=CAP then (self (v403.1++[p608],w64 (v403.2+(1:Int)))) else none:Option Out);bif decide (x605.2.2.1.2.1=(1:Int)) then ((spec_l6Cell.sem (a1.1,x605.2.2.1.2.2.1,x605.2.2.1.2.2.2.1,())).bind fun r606=>j609 (x605.1,x605.2.1,(x605.2.2.1.1,x605.2.2.1.2.1,x605.2.2.1.2.2.1,x605.2.2.1.2.2.2.1,r606.1.2.2.2.2.1,x605.2.2.1.2.2.2.2.2),x605.2.2.2)) else j609 x605) else none) else e0 v403.1
noncomputable abbrev B0 (_:Nat):=b0
noncomputable def q0 (a1:Arg) (c404:List L6Spot) (z610:(List L6Spot)):Option Out:=some (z610,())
noncomputable abbrev Q0 (_:Nat):=q0
noncomputable def s0 (k:Nat) (a1:Arg):(List L6Spot)->((List L6Spot)×Int)->Option Out:=fun c404=>fun v403=>D.L k [1,1,1,0,1,0,0] [0,3,4,5] [] (blockC 0 (seqC (D.N k [1,1,1,1]) D.K0)) (T0 a1 c404 v403)
noncomputable def r0 (k:Nat) (a1:Arg):(List L6Spot)->((List L6Spot)×Int)->Option Out:=fun c404=>rawIter (fun w v=>B0 k w (Q0 k a1 c404) a1 c404 v) k
theorem s0_eq (k:Nat) (a1:Arg):s0 k a1=r0 k a1:=
 funext fun c404=>funext fun v403=>iter_raw _ _ _ (T0 a1 c404) _ (fun rec v=>by kernel_rfl) k v403
noncomputable def p (l0:(List L6Spot)->((List L6Spot)×Int)->Option Out) (a1:Arg):Option Out:=(spec_l6Spots.sem (a1.1,())).bind fun r2=>l0 r2.1 (([]:List L6Spot),(0:Int))
theorem raw_eq (k:Nat) (a1:Arg):@Eq (Option Out) (D.W k a1) (p (r0 k a1) a1):=
 Eq.trans (b:=p (s0 k a1) a1) (by kernel_rfl) (by rw[s0_eq])
theorem ok:Ok prog 145 D.sig:=fd_ok func145 tlOk (by kernel_rfl) (fc spec_l6Spots.ok (fc spec_l6Cell.ok (fn_nil _)))
end spec_l6Seen
namespace spec_l6RowsIn
abbrev Arg:Type:=(List (List UInt8))×Unit
abbrev Out:Type:=(List Row)×Unit
abbrev ps:PQ:=[(.ro,(.slc (.slc u8)))]
noncomputable def D:FD:={ fn:=f75,tl:=TL0,ps:=ps,rs:=[((.slc tRow),(ownMd (.slc tRow)))],gl:=[(145,spec_l6Seen.D.sig),(146,spec_l6Put.D.sig)],lv:=[(4,[3,4,5])],lx:=[(0,[3])] }
noncomputable def sem (a:Arg):Option Out:=@lift Out fun k=>D.W k a
noncomputable def T0 (a1:Arg) (c404:List L6Spot) (v403:(List Row)×Int):St:={ n:=24,sl:=[(3,.own (.slc tRow) (ownMd (.slc tRow)) [] v403.1),(4,.own (.slc tL6Spot) (ownMd (.slc tL6Spot)) [] c404),(5,.val i64 v403.2)],vr:=[],lent:=[] }
noncomputable def b0 (self:((List Row)×Int)->Option Out) (e0:(List Row)->Option Out) (a1:Arg) (c404:List L6Spot) (v403:(List Row)×Int):Option Out:=bif decide (v403.2 < (c404.length:Int)) then (if 0<=v403.2/\v403.2 < (c404.length:Int) then ((c404[v403.2.toNat]?).bind fun x605=>(spec_l6Put.sem (v403.1,x605.2.2.1.2.2.2.2.1,())).bind fun r606=>self (r606.1,w64 (v403.2+(1:Int)))) else none) else e0 v403.1
noncomputable abbrev B0 (_:Nat):=b0
noncomputable def q0 (a1:Arg) (c404:List L6Spot) (z607:(List Row)):Option Out:=some (z607,())
noncomputable abbrev Q0 (_:Nat):=q0
noncomputable def s0 (k:Nat) (a1:Arg):(List L6Spot)->((List Row)×Int)->Option Out:=fun c404=>fun v403=>D.L k [1,1,1,0,1,0,0] [3,4,5] [] (blockC 0 (seqC (D.N k [1,1,1,1]) D.K0)) (T0 a1 c404 v403)
noncomputable def r0 (k:Nat) (a1:Arg):(List L6Spot)->((List Row)×Int)->Option Out:=fun c404=>rawIter (fun w v=>B0 k w (Q0 k a1 c404) a1 c404 v) k
theorem s0_eq (k:Nat) (a1:Arg):s0 k a1=r0 k a1:=
 funext fun c404=>funext fun v403=>iter_raw _ _ _ (T0 a1 c404) _ (fun rec v=>by kernel_rfl) k v403
noncomputable def p (l0:(List L6Spot)->((List Row)×Int)->Option Out) (a1:Arg):Option Out:=(spec_l6Seen.sem (a1.1,())).bind fun r2=>l0 r2.1 (([]:List Row),(0:Int))
theorem raw_eq (k:Nat) (a1:Arg):@Eq (Option Out) (D.W k a1) (p (r0 k a1) a1):=
 Eq.trans (b:=p (s0 k a1) a1) (by kernel_rfl) (by rw[s0_eq])
theorem ok:Ok prog 75 D.sig:=fd_ok func75 tlOk (by kernel_rfl) (fc spec_l6Seen.ok (fc spec_l6Put.ok (fn_nil _)))
end spec_l6RowsIn
namespace spec_l2Copy
abbrev Arg:Type:=(List UInt8)×Unit
abbrev Out:Type:=(List UInt8)×Unit
abbrev ps:PQ:=[(.ro,(.slc u8))]
noncomputable def D:FD:={ fn:=f109,tl:=TL0,ps:=ps,rs:=[((.slc u8),(ownMd (.slc u8)))] }
noncomputable def sem (a:Arg):Option Out:=@lift Out fun k=>D.W k a
noncomputable def p (a1:Arg):Option Out:=if ([]:List UInt8).length+a1.1.length<=CAP then (some (([]:List UInt8)++a1.1,())) else none
theorem raw_eq (k:Nat) (a1:Arg):@Eq (Option Out) (D.W k a1) (p a1):=by kernel_rfl
theorem ok:Ok prog 109 D.sig:=fd_ok func109 tlOk (by kernel_rfl) (fn_nil _)
end spec_l2Copy
namespace spec_l4Read
abbrev Arg:Type:=(List UInt8)×Unit
abbrev Out:Type:=Record×Unit
abbrev ps:PQ:=[(.ro,(.slc u8))]
noncomputable def D:FD:={ fn:=f226,tl:=TL0,ps:=ps,rs:=[(tRecord,(ownMd tRecord))],gl:=[(109,spec_l2Copy.D.sig)],lv:=[(4,[0,2,3,4,5])],lx:=[(0,[2,3])],od:=[(1,[0,1,2,3,4,5,6,7,8,9,10,11,12,13,14]),(8,[0,1,2,3,4,5,6,7,8,9,10,11,12,13,14,15,16,17,18,19,20])] }
noncomputable def sem (a:Arg):Option Out:=@lift Out fun k=>D.W k a
noncomputable def T0 (a1:Arg) (v405:Record×Int×Int):St:={ n:=73,sl:=[(0,.val (.slc u8) a1.1),(2,.box tRecord (ownMd tRecord) [] ((0:Int),(0:Int),(0:Int),([]:List Run),())),(3,.box tRecord (ownMd tRecord) [] v405.1),(4,.val i64 v405.2.1),(5,.val i64 v405.2.2)],vr:=[],lent:=[] }
noncomputable def b0 (self:(Record×Int×Int)->Option Out) (e0:Record->Option Out) (a1:Arg) (v405:Record×Int×Int):Option Out:=(a1.1[4]?).bind fun x606=>bif decide (v405.2.2 < w64 (x606.toNat:Int)) then (bif decide (w64 (v405.2.1+(2:Int))<=(a1.1.length:Int)) then (if 0<=w64 (v405.2.1+(1:Int)) then ((a1.1[(w64 (v405.2.1+(1:Int))).toNat]?).bind fun x607=>bif decide ((a1.1.length:Int) < w64 ((w64 (v405.2.1+(2:Int)))+(w64 (x607.toNat:Int)))) then (e0 v405.1) else if 0<=v405.2.1 then ((a1.1[v405.2.1.toNat]?).bind fun x608=>if 0<=w64 (v405.2.1+(2:Int))/\w64 (v405.2.1+(2:Int))<=w64 ((w64 (v405.2.1+(2:Int)))+(w64 (x607.toNat:Int)))/\w64 ((w64 (v405.2.1+(2:Int)))+(w64 (x607.toNat:Int)))<=(a1.1.length:Int) then ((spec_l2Copy.sem ((a1.1.take (w64 ((w64 (v405.2.1+(2:Int)))+(w64 (x607.toNat:Int)))).toNat).drop (w64 (v405.2.1+(2:Int))).toNat,())).bind fun r609=>if v405.1.2.2.2.1.length+[(w64 (x608.toNat:Int),r609.1,())].length<=CAP then (let y610:=v405.1.2.2.2.1++[(w64 (x608.toNat:Int),r609.1,())];self ((v405.1.1,v405.1.2.1,v405.1.2.2.1,y610,v405.1.2.2.2.2),w64 ((w64 (v405.2.1+(2:Int)))+(w64 (x607.toNat:Int))),w64 (v405.2.2+(1:Int)))) else none) else none) else none) else none) else e0 v405.1) else e0 v405.1
noncomputable abbrev B0 (_:Nat):=b0
noncomputable def q0 (a1:Arg) (z611:Record):Option Out:=some (z611,())
noncomputable abbrev Q0 (_:Nat):=q0
noncomputable def s0 (k:Nat) (a1:Arg):(Record×Int×Int)->Option Out:=fun v405=>D.L k [1,1,1,0,1,0,0] [0,2,3,4,5] [] (blockC 0 (seqC (D.N k [1,1,1,1]) D.K0)) (T0 a1 v405)
noncomputable def r0 (k:Nat) (a1:Arg):(Record×Int×Int)->Option Out:=rawIter (fun w v=>B0 k w (Q0 k a1) a1 v) k
theorem s0_eq (k:Nat) (a1:Arg):s0 k a1=r0 k a1:=
 funext fun v405=>iter_raw _ _ _ (T0 a1) _ (fun rec v=>by kernel_rfl) k v405
noncomputable def p (l0:(Record×Int×Int)->Option Out) (a1:Arg):Option Out:=(a1.1[1]?).bind fun x2=>(a1.1[2]?).bind fun x3=>(a1.1[3]?).bind fun x4=>l0 ((w64 (x2.toNat:Int),w64 (x3.toNat:Int),w64 (x4.toNat:Int),([]:List Run),()),(5:Int),(0:Int))
theorem raw_eq (k:Nat) (a1:Arg):@Eq (Option Out) (D.W k a1) (p (r0 k a1) a1):=
 Eq.trans (b:=p (s0 k a1) a1) (by kernel_rfl) (by rw[s0_eq])
theorem ok:Ok prog 226 D.sig:=fd_ok func226 tlOk (by kernel_rfl) (fc spec_l2Copy.ok (fn_nil _))
end spec_l4Read
namespace spec_l4Runs
abbrev Arg:Type:=Int×Unit
abbrev Out:Type:=Bool×Unit
abbrev ps:PQ:=[(.ro,i64)]
noncomputable def D:FD:={ fn:=f260,tl:=TL0,ps:=ps,rs:=[(.bool,(roMd .bool))],gl:=[(118,spec_l1In.D.sig)] }
noncomputable def sem (a:Arg):Option Out:=@lift Out fun k=>D.W k a
noncomputable def p (a1:Arg):Option Out:=(spec_l1In.sem (a1.1,(2:Int),(4:Int),())).bind fun r2=>some (r2.1,())
theorem raw_eq (k:Nat) (a1:Arg):@Eq (Option Out) (D.W k a1) (p a1):=by kernel_rfl
theorem ok:Ok prog 260 D.sig:=fd_ok func260 tlOk (by kernel_rfl) (fc spec_l1In.ok (fn_nil _))
end spec_l4Runs
namespace spec_l3Fault
abbrev Arg:Type:=(List Run)×Unit
abbrev Out:Type:=Int×Unit
abbrev ps:PQ:=[(.ro,(.slc tRun))]
noncomputable def D:FD:={ fn:=f280,tl:=TL0,ps:=ps,rs:=[(i64,(roMd i64))],gl:=[(118,spec_l1In.D.sig)],lv:=[(4,[0,3])],lx:=[(0,[])],od:=[(9,[0,1,2,3,4,5,6,7,8,9,10,11,12,13,14,15,16,17,18,19,20,21,22,23])] }
noncomputable def sem (a:Arg):Option Out:=@lift Out fun k=>D.W k a
noncomputable def T0 (a1:Arg) (v402:Int):St:={ n:=66,sl:=[(0,.val (.slc tRun) a1.1),(3,.val i64 v402)],vr:=[],lent:=[] }
noncomputable def b0 (self:Int->Option Out) (e0:(Unit)->Option Out) (a1:Arg) (v402:Int):Option Out:=bif decide (v402 < (a1.1.length:Int)) then (if 0<=v402 then ((a1.1[v402.toNat]?).bind fun x603=>if 0<=v402 then ((a1.1[v402.toNat]?).bind fun x604=>(spec_l1In.sem (x604.1,(0:Int),(63:Int),())).bind fun r605=>bif !r605.1 then (some ((3:Int),())) else (spec_l1In.sem ((x603.2.1.length:Int),(1:Int),(64:Int),())).bind fun r606=>bif !r606.1 then (some ((3:Int),())) else if 0<=v402 then ((a1.1[v402.toNat]?).bind fun x607=>bif decide ((64:Int) < w64 (x607.1+(x603.2.1.length:Int))) then (some ((3:Int),())) else bif decide ((0:Int) < v402) then (if 0<=v402 then ((a1.1[v402.toNat]?).bind fun x608=>if 0<=w64 (v402 - (1:Int)) then ((a1.1[(w64 (v402 - (1:Int))).toNat]?).bind fun x609=>if 0<=w64 (v402 - (1:Int)) then ((a1.1[(w64 (v402 - (1:Int))).toNat]?).bind fun x610=>bif decide (x608.1<=w64 (x609.1+(x610.2.1.length:Int))) then (some ((1:Int),())) else self (w64 (v402+(1:Int)))) else none) else none) else none) else self (w64 (v402+(1:Int)))) else none) else none) else none) else e0 ()
noncomputable abbrev B0 (_:Nat):=b0
noncomputable def q0 (a1:Arg) (z611:(Unit)):Option Out:=some ((0:Int),())
noncomputable abbrev Q0 (_:Nat):=q0
noncomputable def s0 (k:Nat) (a1:Arg):(Int)->Option Out:=fun v402=>D.L k [1,1,0,1,0,0] [0,3] [] (blockC 0 (seqC (D.N k [1,1,1]) D.K0)) (T0 a1 v402)
noncomputable def r0 (k:Nat) (a1:Arg):(Int)->Option Out:=rawIter (fun w v=>B0 k w (Q0 k a1) a1 v) k
theorem s0_eq (k:Nat) (a1:Arg):s0 k a1=r0 k a1:=
 funext fun v402=>iter_raw _ _ _ (T0 a1) _ (fun rec v=>by kernel_rfl) k v402
noncomputable def p (l0:(Int)->Option Out) (a1:Arg):Option Out:=bif decide ((64:Int) < (a1.1.length:Int)) then (some ((2:Int),())) else l0 (0:Int)
theorem raw_eq (k:Nat) (a1:Arg):@Eq (Option Out) (D.W k a1) (p (r0 k a1) a1):=
 Eq.trans (b:=p (s0 k a1) a1) (by kernel_rfl) (by rw[s0_eq])
theorem ok:Ok prog 280 D.sig:=fd_ok func280 tlOk (by kernel_rfl) (fc spec_l1In.ok (fn_nil _))
end spec_l3Fault
namespace spec_l4Fault
abbrev Arg:Type:=Record×Unit
abbrev Out:Type:=Int×Unit
abbrev ps:PQ:=[(.ro,(.ptr tRecord))]
noncomputable def D:FD:={ fn:=f227,tl:=TL0,ps:=ps,rs:=[(i64,(roMd i64))],gl:=[(118,spec_l1In.D.sig),(260,spec_l4Runs.D.sig),(280,spec_l3Fault.D.sig)] }
noncomputable def sem (a:Arg):Option Out:=@lift Out fun k=>D.W k a
noncomputable def p (a1:Arg):Option Out:=let j13:Option Out:=let j20:Option Out:=(spec_l4Runs.sem (a1.1.1,())).bind fun r21=>bif !r21.1 then (some ((0:Int),())) else (spec_l3Fault.sem (a1.1.2.2.2.1,())).bind fun r22=>bif !decide (r22.1=(0:Int)) then (some (r22.1,())) else bif decide ((a1.1.2.2.2.1.length:Int)=(0:Int)) then (some ((1:Int),())) else bif decide (a1.1.1=(4:Int)) then ((a1.1.2.2.2.1[0]?).bind fun x23=>bif !decide ((x23.2.1.length:Int)=(64:Int)) then (some ((1:Int),())) else some ((0:Int),())) else some ((0:Int),());bif !decide (a1.1.1=(4:Int)) then ((spec_l1In.sem (a1.1.2.1,(1:Int),(99:Int),())).bind fun r14=>bif !r14.1 then (some ((3:Int),())) else (spec_l1In.sem (a1.1.2.2.1,(0:Int),(11:Int),())).bind fun r15=>bif !r15.1 then (some ((3:Int),())) else j20) else (spec_l1In.sem (a1.1.2.2.1,(0:Int),(11:Int),())).bind fun r16=>bif !r16.1 then (some ((3:Int),())) else j20;(spec_l1In.sem (a1.1.1,(1:Int),(6:Int),())).bind fun r2=>bif !r2.1 then (some ((1:Int),())) else (spec_l4Runs.sem (a1.1.1,())).bind fun r3=>bif !r3.1 then (bif !decide (a1.1.2.2.1=(0:Int)) then (some ((1:Int),())) else bif decide ((0:Int) < (a1.1.2.2.2.1.length:Int)) then (some ((1:Int),())) else bif decide (a1.1.1=(4:Int)) then (bif !decide (a1.1.2.1=(0:Int)) then (some ((1:Int),())) else j13) else j13) else bif decide (a1.1.1=(4:Int)) then (bif !decide (a1.1.2.1=(0:Int)) then (some ((1:Int),())) else j13) else j13
theorem raw_eq (k:Nat) (a1:Arg):@Eq (Option Out) (D.W k a1) (p a1):=by kernel_rfl
theorem ok:Ok prog 227 D.sig:=fd_ok func227 tlOk (by kernel_rfl) (fc spec_l1In.ok (fc spec_l4Runs.ok (fc spec_l3Fault.ok (fn_nil _))))
end spec_l4Fault
namespace spec_l4Sum
abbrev Arg:Type:=(List UInt8)×Unit
abbrev Out:Type:=Int×Unit
abbrev ps:PQ:=[(.ro,(.slc u8))]
noncomputable def D:FD:={ fn:=f281,tl:=TL0,ps:=ps,rs:=[(i64,(roMd i64))],lv:=[(3,[0,3,4])],lx:=[(0,[3])] }
noncomputable def sem (a:Arg):Option Out:=@lift Out fun k=>D.W k a
noncomputable def T0 (a1:Arg) (v402:Int×Int):St:={ n:=21,sl:=[(0,.val (.slc u8) a1.1),(3,.val i64 v402.1),(4,.val i64 v402.2)],vr:=[],lent:=[] }
noncomputable def b0 (self:(Int×Int)->Option Out) (e0:Int->Option Out) (a1:Arg) (v402:Int×Int):Option Out:=bif decide (v402.2 < (a1.1.length:Int)) then (if 0<=v402.2 then ((a1.1[v402.2.toNat]?).bind fun x603=>self ((w64 ((w64 (v402.1*(31:Int)))+(w64 (x603.toNat:Int)))).tmod (65521:Int),w64 (v402.2+(1:Int)))) else none) else e0 v402.1
noncomputable abbrev B0 (_:Nat):=b0
noncomputable def q0 (a1:Arg) (z604:Int):Option Out:=some (z604,())
noncomputable abbrev Q0 (_:Nat):=q0
noncomputable def s0 (k:Nat) (a1:Arg):(Int×Int)->Option Out:=fun v402=>D.L k [1,1,0,1,0,0] [0,3,4] [] (blockC 0 (seqC (D.N k [1,1,1]) D.K0)) (T0 a1 v402)
noncomputable def r0 (k:Nat) (a1:Arg):(Int×Int)->Option Out:=rawIter (fun w v=>B0 k w (Q0 k a1) a1 v) k
theorem s0_eq (k:Nat) (a1:Arg):s0 k a1=r0 k a1:=
 funext fun v402=>iter_raw _ _ _ (T0 a1) _ (fun rec v=>by kernel_rfl) k v402
noncomputable def p (l0:(Int×Int)->Option Out) (a1:Arg):Option Out:=l0 ((1:Int),(0:Int))
theorem raw_eq (k:Nat) (a1:Arg):@Eq (Option Out) (D.W k a1) (p (r0 k a1) a1):=
 Eq.trans (b:=p (s0 k a1) a1) (by kernel_rfl) (by rw[s0_eq])
theorem ok:Ok prog 281 D.sig:=fd_ok func281 tlOk (by kernel_rfl) (fn_nil _)
end spec_l4Sum
namespace spec_l4Pack
abbrev Arg:Type:=Record×Unit
abbrev Out:Type:=(List UInt8)×Unit
abbrev ps:PQ:=[(.ro,(.ptr tRecord))]
noncomputable def D:FD:={ fn:=f228,tl:=TL0,ps:=ps,rs:=[((.slc u8),(ownMd (.slc u8)))],gl:=[(281,spec_l4Sum.D.sig)],lv:=[(3,[0,3,4])],lx:=[(0,[3])],od:=[(1,[0,1,2,3,4,5,6,7,8,9,10,11,12,13,14,15,16,17,18,19,20,21,22]),(5,[0,1,2,3,4,5,6,7,8,9,10,11,12,13,14,15,16,17,18,19,22,23,24,25,26,27,28,29,20,21,30,31])],ar:=[(5,[4,8,9,13,17,19,25,29])] }
noncomputable def sem (a:Arg):Option Out:=@lift Out fun k=>D.W k a
noncomputable def T0 (a1:Arg) (v402:(List UInt8)×Int):St:={ n:=85,sl:=[(0,.cp tRecord a1.1),(3,.own (.slc u8) (ownMd (.slc u8)) [] v402.1),(4,.val i64 v402.2)],vr:=[],lent:=[] }
noncomputable def b0 (self:((List UInt8)×Int)->Option Out) (e0:(List UInt8)->Option Out) (a1:Arg) (v402:(List UInt8)×Int):Option Out:=bif decide (v402.2 < (a1.1.2.2.2.1.length:Int)) then (if 0<=v402.2 then ((a1.1.2.2.2.1[v402.2.toNat]?).bind fun x603=>if 0<=v402.2 then ((a1.1.2.2.2.1[v402.2.toNat]?).bind fun x604=>if 0<=v402.2 then ((a1.1.2.2.2.1[v402.2.toNat]?).bind fun x605=>if v402.1.length+[UInt8.ofInt x603.1,UInt8.ofInt (x604.2.1.length:Int)].length<=CAP then (let y606:=v402.1++[UInt8.ofInt x603.1,UInt8.ofInt (x604.2.1.length:Int)];if y606.length+x605.2.1.length<=CAP then (self (y606++x605.2.1,w64 (v402.2+(1:Int)))) else none) else none) else none) else none) else none) else e0 v402.1
noncomputable abbrev B0 (_:Nat):=b0
noncomputable def q0 (a1:Arg) (z607:(List UInt8)):Option Out:=if 0<=(0:Int)/\(0:Int) < (z607.length:Int) then ((z607[0]?).bind fun x608=>let y609:=z607.set 0 (UInt8.ofInt (w64 ((z607.length:Int)+(2:Int))));(spec_l4Sum.sem (y609,())).bind fun r610=>if y609.length+[UInt8.ofInt (w64 (r610.1.tdiv (256:Int))),UInt8.ofInt (r610.1.tmod (256:Int))].length<=CAP then (let y611:=y609++[UInt8.ofInt (w64 (r610.1.tdiv (256:Int))),UInt8.ofInt (r610.1.tmod (256:Int))];some (y611,())) else none) else none
noncomputable abbrev Q0 (_:Nat):=q0
noncomputable def s0 (k:Nat) (a1:Arg):((List UInt8)×Int)->Option Out:=fun v402=>D.L k [1,1,0,1,0,0] [0,3,4] [] (blockC 0 (seqC (D.N k [1,1,1]) D.K0)) (T0 a1 v402)
noncomputable def r0 (k:Nat) (a1:Arg):((List UInt8)×Int)->Option Out:=rawIter (fun w v=>B0 k w (Q0 k a1) a1 v) k
theorem s0_eq (k:Nat) (a1:Arg):s0 k a1=r0 k a1:=
 funext fun v402=>iter_raw _ _ _ (T0 a1) _ (fun rec v=>by kernel_rfl) k v402
noncomputable def p (l0:((List UInt8)×Int)->Option Out) (a1:Arg):Option Out:=l0 ([(0:UInt8),UInt8.ofInt a1.1.1,UInt8.ofInt a1.1.2.1,UInt8.ofInt a1.1.2.2.1,UInt8.ofInt (a1.1.2.2.2.1.length:Int)],(0:Int))
theorem raw_eq (k:Nat) (a1:Arg):@Eq (Option Out) (D.W k a1) (p (r0 k a1) a1):=
 Eq.trans (b:=p (s0 k a1) a1) (by kernel_rfl) (by rw[s0_eq])
theorem ok:Ok prog 228 D.sig:=fd_ok func228 tlOk (by kernel_rfl) (fc spec_l4Sum.ok (fn_nil _))
end spec_l4Pack
namespace spec_ReadRecord
abbrev Arg:Type:=(List UInt8)×Unit
abbrev Out:Type:=RecordResult×Unit
abbrev ps:PQ:=[(.ro,(.slc u8))]
noncomputable def D:FD:={ fn:=f165,tl:=TL0,ps:=ps,rs:=[(tRecordResult,(ownMd tRecordResult))],gl:=[(226,spec_l4Read.D.sig),(227,spec_l4Fault.D.sig),(228,spec_l4Pack.D.sig)],od:=[(5,[0,1,2,5,6,7,8,3,4,9,10])],ar:=[(5,[8])] }
noncomputable def sem (a:Arg):Option Out:=@lift Out fun k=>D.W k a
noncomputable def p (a1:Arg):Option Out:=bif decide ((a1.1.length:Int) < (7:Int)) then (some (((5:Int),(0:Int),((0:Int),(0:Int),(0:Int),([]:List Run),()),()),())) else (a1.1[0]?).bind fun x2=>bif decide (w64 (x2.toNat:Int) < (7:Int)) then (some (((5:Int),(0:Int),((0:Int),(0:Int),(0:Int),([]:List Run),()),()),())) else (a1.1[0]?).bind fun x3=>bif decide ((a1.1.length:Int) < w64 (x3.toNat:Int)) then (some (((5:Int),(0:Int),((0:Int),(0:Int),(0:Int),([]:List Run),()),()),())) else (a1.1[0]?).bind fun x4=>if 0<=w64 (x4.toNat:Int)/\w64 (x4.toNat:Int)<=(a1.1.length:Int) then ((spec_l4Read.sem ((a1.1.take (w64 (x4.toNat:Int)).toNat).drop 0,())).bind fun r5=>(spec_l4Fault.sem (r5.1,())).bind fun r6=>bif !decide (r6.1=(0:Int)) then (some (((5:Int),(0:Int),((0:Int),(0:Int),(0:Int),([]:List Run),()),()),())) else if 0<=w64 (x4.toNat:Int)/\w64 (x4.toNat:Int)<=(a1.1.length:Int) then ((spec_l4Pack.sem (r5.1,())).bind fun r7=>bif !decide (r7.1=(a1.1.take (w64 (x4.toNat:Int)).toNat).drop 0) then (some (((5:Int),(0:Int),((0:Int),(0:Int),(0:Int),([]:List Run),()),()),())) else some (((0:Int),w64 (x4.toNat:Int),r5.1,()),())) else none) else none
theorem raw_eq (k:Nat) (a1:Arg):@Eq (Option Out) (D.W k a1) (p a1):=by kernel_rfl
theorem ok:Ok prog 165 D.sig:=fd_ok func165 tlOk (by kernel_rfl) (fc spec_l4Read.ok (fc spec_l4Fault.ok (fc spec_l4Pack.ok (fn_nil _))))
end spec_ReadRecord
namespace spec_l5Read
abbrev Arg:Type:=(List UInt8)×Unit
abbrev Out:Type:=(List Record)×Int×Unit
abbrev ps:PQ:=[(.ro,(.slc u8))]
noncomputable def D:FD:={ fn:=f189,tl:=TL0,ps:=ps,rs:=[((.slc tRecord),(ownMd (.slc tRecord))),(i64,(roMd i64))],gl:=[(165,spec_ReadRecord.D.sig)],lv:=[(3,[0,4,5])],lx:=[(0,[4,5])] }
noncomputable def sem (a:Arg):Option Out:=@lift Out fun k=>D.W k a
noncomputable def T0 (a1:Arg) (v402:(List Record)×Int):St:={ n:=30,sl:=[(0,.val (.slc u8) a1.1),(4,.own (.slc tRecord) (ownMd (.slc tRecord)) [] v402.1),(5,.val i64 v402.2)],vr:=[],lent:=[] }
noncomputable def b0 (self:((List Record)×Int)->Option Out) (e0:((List Record)×Int)->Option Out) (a1:Arg) (v402:(List Record)×Int):Option Out:=bif decide (v402.2 < (a1.1.length:Int)) then (if 0<=v402.2/\v402.2<=(a1.1.length:Int) then ((spec_ReadRecord.sem ((a1.1.take a1.1.length).drop v402.2.toNat,())).bind fun r603=>bif !decide (r603.1.1=(0:Int)) then (e0 (v402.1,v402.2)) else if v402.1.length+[r603.1.2.2.1].length<=CAP then (self (v402.1++[r603.1.2.2.1],w64 (v402.2+r603.1.2.1))) else none) else none) else e0 (v402.1,v402.2)
noncomputable abbrev B0 (_:Nat):=b0
noncomputable def q0 (a1:Arg) (z604:((List Record)×Int)):Option Out:=some (z604.1,z604.2,())
noncomputable abbrev Q0 (_:Nat):=q0
noncomputable def s0 (k:Nat) (a1:Arg):((List Record)×Int)->Option Out:=fun v402=>D.L k [1,1,1,0,0,0] [0,4,5] [] (blockC 0 (seqC (D.N k [1,1,1,1]) D.K0)) (T0 a1 v402)
noncomputable def r0 (k:Nat) (a1:Arg):((List Record)×Int)->Option Out:=rawIter (fun w v=>B0 k w (Q0 k a1) a1 v) k
theorem s0_eq (k:Nat) (a1:Arg):s0 k a1=r0 k a1:=
 funext fun v402=>iter_raw _ _ _ (T0 a1) _ (fun rec v=>by kernel_rfl) k v402
noncomputable def p (l0:((List Record)×Int)->Option Out) (a1:Arg):Option Out:=l0 (([]:List Record),(0:Int))
theorem raw_eq (k:Nat) (a1:Arg):@Eq (Option Out) (D.W k a1) (p (r0 k a1) a1):=
 Eq.trans (b:=p (s0 k a1) a1) (by kernel_rfl) (by rw[s0_eq])
theorem ok:Ok prog 189 D.sig:=fd_ok func189 tlOk (by kernel_rfl) (fc spec_ReadRecord.ok (fn_nil _))
end spec_l5Read
namespace spec_l5Fault
abbrev Arg:Type:=Log×Unit
abbrev Out:Type:=Int×Unit
abbrev ps:PQ:=[(.ro,(.ptr tLog))]
noncomputable def D:FD:={ fn:=f117,tl:=TL0,ps:=ps,rs:=[(i64,(roMd i64))],gl:=[(189,spec_l5Read.D.sig)],od:=[(1,[0,1,2,3,4,5,6,7,8,9,10,11])] }
noncomputable def sem (a:Arg):Option Out:=@lift Out fun k=>D.W k a
noncomputable def p (a1:Arg):Option Out:=bif decide ((16000:Int) < w64 ((a1.1.1.length:Int)+(a1.1.2.1.length:Int))) then (some ((2:Int),())) else (spec_l5Read.sem (a1.1.1,())).bind fun r2=>bif !decide (r2.2.1=(a1.1.1.length:Int)) then (some ((5:Int),())) else (spec_l5Read.sem (a1.1.2.1,())).bind fun r3=>bif !decide (r3.2.1=(a1.1.2.1.length:Int)) then (some ((5:Int),())) else some ((0:Int),())
theorem raw_eq (k:Nat) (a1:Arg):@Eq (Option Out) (D.W k a1) (p a1):=by kernel_rfl
theorem ok:Ok prog 117 D.sig:=fd_ok func117 tlOk (by kernel_rfl) (fc spec_l5Read.ok (fn_nil _))
end spec_l5Fault
namespace spec_l2Low
abbrev Arg:Type:=(List UInt8)×Unit
abbrev Out:Type:=Int×Unit
abbrev ps:PQ:=[(.ro,(.slc u8))]
noncomputable def D:FD:={ fn:=f295,tl:=TL0,ps:=ps,rs:=[(i64,(roMd i64))] }
noncomputable def sem (a:Arg):Option Out:=@lift Out fun k=>D.W k a
noncomputable def p (a1:Arg):Option Out:=(a1.1[1]?).bind fun x2=>some (w64 (x2.toNat:Int),())
theorem raw_eq (k:Nat) (a1:Arg):@Eq (Option Out) (D.W k a1) (p a1):=by kernel_rfl
theorem ok:Ok prog 295 D.sig:=fd_ok func295 tlOk (by kernel_rfl) (fn_nil _)
end spec_l2Low
namespace spec_l2Slot
abbrev Arg:Type:=(List UInt8)×Int×Unit
abbrev Out:Type:=Bool×Unit
abbrev ps:PQ:=[(.ro,(.slc u8)),(.ro,i64)]
noncomputable def D:FD:={ fn:=f296,tl:=TL0,ps:=ps,rs:=[(.bool,(roMd .bool))],gl:=[(256,spec_l2Size.D.sig),(295,spec_l2Low.D.sig),(299,spec_l2Place.D.sig)] }
noncomputable def sem (a:Arg):Option Out:=@lift Out fun k=>D.W k a
noncomputable def p (a1:Arg):Option Out:=(spec_l2Place.sem (a1.1,a1.2.1,())).bind fun r2=>(spec_l2Size.sem (a1.1,a1.2.1,())).bind fun r3=>bif decide (r2.1=(0:Int)) then (some (decide (r2.1=r3.1),())) else bif decide (r3.1=(0:Int)) then (some (decide (r2.1=r3.1),())) else (spec_l2Low.sem (a1.1,())).bind fun r4=>bif decide (r4.1<=r2.1) then (some (decide (w64 (r2.1+r3.1)<=(64:Int)),())) else some (false,())
theorem raw_eq (k:Nat) (a1:Arg):@Eq (Option Out) (D.W k a1) (p a1):=by kernel_rfl
theorem ok:Ok prog 296 D.sig:=fd_ok func296 tlOk (by kernel_rfl) (fc spec_l2Size.ok (fc spec_l2Low.ok (fc spec_l2Place.ok (fn_nil _))))
end spec_l2Slot
namespace spec_l2Apart
abbrev Arg:Type:=(List UInt8)×Int×Int×Unit
abbrev Out:Type:=Bool×Unit
abbrev ps:PQ:=[(.ro,(.slc u8)),(.ro,i64),(.ro,i64)]
noncomputable def D:FD:={ fn:=f297,tl:=TL0,ps:=ps,rs:=[(.bool,(roMd .bool))],gl:=[(256,spec_l2Size.D.sig),(299,spec_l2Place.D.sig)] }
noncomputable def sem (a:Arg):Option Out:=@lift Out fun k=>D.W k a
noncomputable def p (a1:Arg):Option Out:=(spec_l2Size.sem (a1.1,a1.2.1,())).bind fun r2=>bif decide (r2.1=(0:Int)) then (some (true,())) else (spec_l2Size.sem (a1.1,a1.2.2.1,())).bind fun r3=>bif decide (r3.1=(0:Int)) then (some (true,())) else (spec_l2Place.sem (a1.1,a1.2.1,())).bind fun r4=>(spec_l2Size.sem (a1.1,a1.2.1,())).bind fun r5=>(spec_l2Place.sem (a1.1,a1.2.2.1,())).bind fun r6=>bif decide (w64 (r4.1+r5.1)<=r6.1) then (some (true,())) else (spec_l2Place.sem (a1.1,a1.2.2.1,())).bind fun r7=>(spec_l2Size.sem (a1.1,a1.2.2.1,())).bind fun r8=>(spec_l2Place.sem (a1.1,a1.2.1,())).bind fun r9=>some (decide (w64 (r7.1+r8.1)<=r9.1),())
theorem raw_eq (k:Nat) (a1:Arg):@Eq (Option Out) (D.W k a1) (p a1):=by kernel_rfl
theorem ok:Ok prog 297 D.sig:=fd_ok func297 tlOk (by kernel_rfl) (fc spec_l2Size.ok (fc spec_l2Place.ok (fn_nil _)))
end spec_l2Apart
namespace spec_l2Fault
abbrev Arg:Type:=(List UInt8)×Unit
abbrev Out:Type:=Int×Unit
abbrev ps:PQ:=[(.ro,(.slc u8))]
noncomputable def D:FD:={ fn:=f254,tl:=TL0,ps:=ps,rs:=[(i64,(roMd i64))],gl:=[(255,spec_l2Count.D.sig),(256,spec_l2Size.D.sig),(295,spec_l2Low.D.sig),(296,spec_l2Slot.D.sig),(297,spec_l2Apart.D.sig)],lv:=[(7,[0,3,4]),(12,[0,3,5]),(15,[0,3,5,6])],lx:=[(0,[0,3]),(2,[0,3]),(4,[0,3,5])] }
noncomputable def sem (a:Arg):Option Out:=@lift Out fun k=>D.W k a
noncomputable def T0 (a1:Arg) (c406:Int) (v405:Int):St:={ n:=60,sl:=[(0,.val (.slc u8) a1.1),(3,.val i64 c406),(4,.val i64 v405)],vr:=[],lent:=[] }
noncomputable def S0 (rec:RT Out) (a1:Arg) (c406:Int):(Int)->Option Out:=fun v405=>rec (T0 a1 c406 v405)
noncomputable def X0_0 (K:KT Out) (a1:Arg) (c406:Int):(Unit)->Option Out:=fun z=>K (.exit 0) ({ n:=60,sl:=[(0,.val (.slc u8) a1.1),(3,.val i64 c406)],vr:=[],lent:=[] })
noncomputable def b0 (self:Int->Option Out) (e0:(Unit)->Option Out) (a1:Arg) (c406:Int) (v405:Int):Option Out:=bif decide (v405 < c406) then ((spec_l2Slot.sem (a1.1,v405,())).bind fun r607=>bif !r607.1 then (some ((3:Int),())) else self (w64 (v405+(1:Int)))) else e0 ()
noncomputable abbrev B0 (_:Nat):=b0
theorem B0_eq (k:Nat) (rec:RT Out) (K:KT Out) (a1:Arg) (c406:Int) (v405:Int):D.N k [1,1,1,1,0,1,0,0] (T0 a1 c406 v405) (loopC rec (keepF [0,3,4] []) K)=b0 (S0 rec a1 c406) (X0_0 K a1 c406) a1 c406 v405:=by kernel_rfl
noncomputable def T1 (a1:Arg) (v1009:(List UInt8)×Int×Int):St:={ n:=60,sl:=[(0,.val (.slc u8) v1009.1),(3,.val i64 v1009.2.1),(5,.val i64 v1009.2.2)],vr:=[],lent:=[] }
noncomputable def S1 (rec:RT Out) (a1:Arg):((List UInt8)×Int×Int)->Option Out:=fun v1009=>rec (T1 a1 v1009)
noncomputable def X1_2 (K:KT Out) (a1:Arg):((List UInt8)×Int)->Option Out:=fun z=>K (.exit 2) ({ n:=60,sl:=[(0,.val (.slc u8) z.1),(3,.val i64 z.2)],vr:=[],lent:=[] })
noncomputable def T2 (a1:Arg) (c1611:List UInt8) (c1612:Int) (c1613:Int) (v1610:Int):St:={ n:=60,sl:=[(0,.val (.slc u8) c1611),(3,.val i64 c1612),(5,.val i64 c1613),(6,.val i64 v1610)],vr:=[],lent:=[] }
noncomputable def b2 (self:Int->Option Out) (e4:(Unit)->Option Out) (a1:Arg) (c1611:List UInt8) (c1612:Int) (c1613:Int) (v1610:Int):Option Out:=bif decide (v1610 < c1613) then ((spec_l2Apart.sem (c1611,c1613,v1610,())).bind fun r1814=>bif !r1814.1 then (some ((8:Int),())) else self (w64 (v1610+(1:Int)))) else e4 ()
noncomputable abbrev B2 (_:Nat):=b2
noncomputable def q1 (self:((List UInt8)×Int×Int)->Option Out) (e2:((List UInt8)×Int)->Option Out) (a1:Arg) (c1611:List UInt8) (c1612:Int) (c1613:Int) (z1815:(Unit)):Option Out:=self (c1611,c1612,w64 (c1613+(1:Int)))
noncomputable abbrev Q1 (_:Nat):=q1
noncomputable def s2 (k:Nat) (rec:RT Out) (K:KT Out) (a1:Arg):(List UInt8)->Int->Int->(Int)->Option Out:=fun c1611 c1612 c1613=>fun v1610=>D.L k [1,1,1,1,1,0,1,0,0,1,0,0,1,0,0] [0,3,5,6] [] (blockC 4 (blockC 3 (seqC (D.N k [1,1,1,1,1,0,1,0,0,1,1]) (loopC rec (keepF [0,3,5] []) K)))) (T2 a1 c1611 c1612 c1613 v1610)
noncomputable def r2 (k:Nat) (self:((List UInt8)×Int×Int)->Option Out) (e2:((List UInt8)×Int)->Option Out) (a1:Arg):(List UInt8)->Int->Int->(Int)->Option Out:=fun c1611 c1612 c1613=>rawIter (fun w v=>B2 k w (Q1 k self e2 a1 c1611 c1612 c1613) a1 c1611 c1612 c1613 v) k
theorem s2_eq (k:Nat) (rec:RT Out) (K:KT Out) (a1:Arg):s2 k rec K a1=r2 k (S1 rec a1) (X1_2 K a1) a1:=
 funext fun c1611=>funext fun c1612=>funext fun c1613=>funext fun v1610=>iter_raw _ _ _ (T2 a1 c1611 c1612 c1613) _ (fun rec v=>by kernel_rfl) k v1610
noncomputable def b1 (self:((List UInt8)×Int×Int)->Option Out) (e2:((List UInt8)×Int)->Option Out) (l2:(List UInt8)->Int->Int->(Int)->Option Out) (a1:Arg) (v1009:(List UInt8)×Int×Int):Option Out:=bif decide (v1009.2.2 < v1009.2.1) then (l2 v1009.1 v1009.2.1 v1009.2.2 (0:Int)) else e2 (v1009.1,v1009.2.1)
noncomputable def B1 (k:Nat) (self:((List UInt8)×Int×Int)->Option Out) (e2:((List UInt8)×Int)->Option Out) (a1:Arg) (v1009:(List UInt8)×Int×Int):Option Out:=b1 self e2 (r2 k self e2 a1) a1 v1009
theorem B1_eq (k:Nat) (rec:RT Out) (K:KT Out) (a1:Arg) (v1009:(List UInt8)×Int×Int):D.N k [1,1,1,1,1,0,1,0,0] (T1 a1 v1009) (loopC rec (keepF [0,3,5] []) K)=B1 k (S1 rec a1) (X1_2 K a1) a1 v1009:=
 Eq.trans (b:=b1 (S1 rec a1) (X1_2 K a1) (s2 k rec K a1) a1 v1009) (by kernel_rfl) (by rw[s2_eq];rfl)
noncomputable def q2 (a1:Arg) (z1816:((List UInt8)×Int)):Option Out:=bif decide ((0:Int) < z1816.2) then ((spec_l2Size.sem (z1816.1,w64 (z1816.2 - (1:Int)),())).bind fun r1817=>bif decide (r1817.1=(0:Int)) then (some ((8:Int),())) else some ((0:Int),())) else some ((0:Int),())
noncomputable abbrev Q2 (_:Nat):=q2
theorem Q2_eq (k:Nat) (a1:Arg) (z1816:((List UInt8)×Int)):X1_2 (blockC 2 (seqC (D.N k [1,1,1,1,1,1]) D.K0)) a1 z1816=q2 a1 z1816:=by kernel_rfl
noncomputable def s1 (k:Nat) (a1:Arg) (c406:Int):((List UInt8)×Int×Int)->Option Out:=fun v1009=>D.L k [1,1,1,1,1,0,1,0,0] [0,3,5] [] (blockC 2 (seqC (D.N k [1,1,1,1,1,1]) D.K0)) (T1 a1 v1009)
noncomputable def r1 (k:Nat) (a1:Arg) (c406:Int):((List UInt8)×Int×Int)->Option Out:=rawIter (fun w v=>B1 k w (Q2 k a1) a1 v) k
theorem s1_eq (k:Nat) (a1:Arg) (c406:Int):s1 k a1 c406=r1 k a1 c406:=by
 funext v1009;
 have h2:X1_2 (blockC 2 (seqC (D.N k [1,1,1,1,1,1]) D.K0)) a1=Q2 k a1:=funext fun z=>Q2_eq k a1 z
 refine (iter_raw _ _ _ (T1 a1) (fun self v=>B1 k self (X1_2 (blockC 2 (seqC (D.N k [1,1,1,1,1,1]) D.K0)) a1) a1 v) (fun rec v=>B1_eq k rec (blockC 2 (seqC (D.N k [1,1,1,1,1,1]) D.K0)) a1 v) k v1009).trans ?_
 rw[h2]
 rfl
noncomputable def q0 (l1:((List UInt8)×Int×Int)->Option Out) (a1:Arg) (c406:Int) (z608:(Unit)):Option Out:=l1 (a1.1,c406,(0:Int))
noncomputable def Q0 (k:Nat) (a1:Arg) (c406:Int) (z608:(Unit)):Option Out:=q0 (r1 k a1 c406) a1 c406 z608
theorem Q0_eq (k:Nat) (a1:Arg) (c406:Int) (z608:(Unit)):X0_0 (blockC 0 (seqC (D.N k [1,1,1,1,1]) D.K0)) a1 c406 z608=Q0 k a1 c406 z608:=
 Eq.trans (b:=q0 (s1 k a1 c406) a1 c406 z608) (by kernel_rfl) (by rw[s1_eq];rfl)
noncomputable def s0 (k:Nat) (a1:Arg):Int->(Int)->Option Out:=fun c406=>fun v405=>D.L k [1,1,1,1,0,1,0,0] [0,3,4] [] (blockC 0 (seqC (D.N k [1,1,1,1,1]) D.K0)) (T0 a1 c406 v405)
noncomputable def r0 (k:Nat) (a1:Arg):Int->(Int)->Option Out:=fun c406=>rawIter (fun w v=>B0 k w (Q0 k a1 c406) a1 c406 v) k
theorem s0_eq (k:Nat) (a1:Arg):s0 k a1=r0 k a1:=by
 funext c406;funext v405;
 have h0:X0_0 (blockC 0 (seqC (D.N k [1,1,1,1,1]) D.K0)) a1 c406=Q0 k a1 c406:=funext fun z=>Q0_eq k a1 c406 z
 refine (iter_raw _ _ _ (T0 a1 c406) (fun self v=>B0 k self (X0_0 (blockC 0 (seqC (D.N k [1,1,1,1,1]) D.K0)) a1 c406) a1 c406 v) (fun rec v=>B0_eq k rec (blockC 0 (seqC (D.N k [1,1,1,1,1]) D.K0)) a1 c406 v) k v405).trans ?_
 rw[h0]
 rfl
noncomputable def p (l0:Int->(Int)->Option Out) (a1:Arg):Option Out:=bif !decide ((a1.1.length:Int)=(64:Int)) then (some ((1:Int),())) else (spec_l2Count.sem (a1.1,())).bind fun r2=>bif decide ((16:Int) < r2.1) then (some ((3:Int),())) else (spec_l2Low.sem (a1.1,())).bind fun r3=>bif decide (r3.1 < w64 ((2:Int)+(w64 ((2:Int)*r2.1)))) then (some ((3:Int),())) else (spec_l2Low.sem (a1.1,())).bind fun r4=>bif decide ((64:Int) < r4.1) then (some ((3:Int),())) else l0 r2.1 (0:Int)
theorem raw_eq (k:Nat) (a1:Arg):@Eq (Option Out) (D.W k a1) (p (r0 k a1) a1):=
 Eq.trans (b:=p (s0 k a1) a1) (by kernel_rfl) (by rw[s0_eq])
theorem ok:Ok prog 254 D.sig:=fd_ok func254 tlOk (by kernel_rfl) (fc spec_l2Count.ok (fc spec_l2Size.ok (fc spec_l2Low.ok (fc spec_l2Slot.ok (fc spec_l2Apart.ok (fn_nil _))))))
end spec_l2Fault
namespace spec_l6Cells
abbrev Arg:Type:=(List (List UInt8))×Unit
abbrev Out:Type:=Int×Unit
abbrev ps:PQ:=[(.ro,(.slc (.slc u8)))]
noncomputable def D:FD:={ fn:=f190,tl:=TL0,ps:=ps,rs:=[(i64,(roMd i64))],gl:=[(254,spec_l2Fault.D.sig),(255,spec_l2Count.D.sig),(256,spec_l2Size.D.sig),(257,spec_l1Read.D.sig),(258,spec_l2Cell.D.sig)],lv:=[(2,[0,3]),(8,[0,3,5])],lx:=[(0,[]),(2,[0,3])] }
noncomputable def sem (a:Arg):Option Out:=@lift Out fun k=>D.W k a
noncomputable def T0 (a1:Arg) (v402:(List (List UInt8))×Int):St:={ n:=50,sl:=[(0,.val (.slc (.slc u8)) v402.1),(3,.val i64 v402.2)],vr:=[],lent:=[] }
noncomputable def S0 (rec:RT Out) (a1:Arg):((List (List UInt8))×Int)->Option Out:=fun v402=>rec (T0 a1 v402)
noncomputable def X0_0 (K:KT Out) (a1:Arg):(Unit)->Option Out:=fun z=>K (.exit 0) ({ n:=50,sl:=[],vr:=[],lent:=[] })
noncomputable def T1 (a1:Arg) (c1006:List (List UInt8)) (c1007:Int) (v1005:Int):St:={ n:=50,sl:=[(0,.val (.slc (.slc u8)) c1006),(3,.val i64 c1007),(5,.val i64 v1005)],vr:=[],lent:=[] }
noncomputable def b1 (self:Int->Option Out) (e2:(Unit)->Option Out) (a1:Arg) (c1006:List (List UInt8)) (c1007:Int) (v1005:Int):Option Out:=if 0<=c1007 then ((c1006[c1007.toNat]?).bind fun x1208=>(spec_l2Count.sem (x1208,())).bind fun r1209=>bif decide (v1005 < r1209.1) then (if 0<=c1007 then ((c1006[c1007.toNat]?).bind fun x1210=>(spec_l2Size.sem (x1210,v1005,())).bind fun r1211=>bif decide ((0:Int) < r1211.1) then (if 0<=c1007 then ((c1006[c1007.toNat]?).bind fun x1212=>(spec_l2Cell.sem (x1212,v1005,())).bind fun r1213=>(spec_l1Read.sem (r1213.1,())).bind fun r1214=>bif !r1214.2.1 then (some ((5:Int),())) else self (w64 (v1005+(1:Int)))) else none) else self (w64 (v1005+(1:Int)))) else none) else e2 ()) else none
noncomputable abbrev B1 (_:Nat):=b1
noncomputable def q0 (self:((List (List UInt8))×Int)->Option Out) (e0:(Unit)->Option Out) (a1:Arg) (c1006:List (List UInt8)) (c1007:Int) (z1215:(Unit)):Option Out:=self (c1006,w64 (c1007+(1:Int)))
noncomputable abbrev Q0 (_:Nat):=q0
noncomputable def s1 (k:Nat) (rec:RT Out) (K:KT Out) (a1:Arg):(List (List UInt8))->Int->(Int)->Option Out:=fun c1006 c1007=>fun v1005=>D.L k [1,0,1,0,0,1,0,0,1,1,0,0] [0,3,5] [] (blockC 2 (blockC 1 (seqC (D.N k [1,0,1,0,0,1,1]) (loopC rec (keepF [0,3] []) K)))) (T1 a1 c1006 c1007 v1005)
noncomputable def r1 (k:Nat) (self:((List (List UInt8))×Int)->Option Out) (e0:(Unit)->Option Out) (a1:Arg):(List (List UInt8))->Int->(Int)->Option Out:=fun c1006 c1007=>rawIter (fun w v=>B1 k w (Q0 k self e0 a1 c1006 c1007) a1 c1006 c1007 v) k
theorem s1_eq (k:Nat) (rec:RT Out) (K:KT Out) (a1:Arg):s1 k rec K a1=r1 k (S0 rec a1) (X0_0 K a1) a1:=
 funext fun c1006=>funext fun c1007=>funext fun v1005=>iter_raw _ _ _ (T1 a1 c1006 c1007) _ (fun rec v=>by kernel_rfl) k v1005
noncomputable def b0 (self:((List (List UInt8))×Int)->Option Out) (e0:(Unit)->Option Out) (l1:(List (List UInt8))->Int->(Int)->Option Out) (a1:Arg) (v402:(List (List UInt8))×Int):Option Out:=bif decide (v402.2 < (v402.1.length:Int)) then (if 0<=v402.2 then ((v402.1[v402.2.toNat]?).bind fun x603=>(spec_l2Fault.sem (x603,())).bind fun r604=>bif !decide (r604.1=(0:Int)) then (some (r604.1,())) else l1 v402.1 v402.2 (0:Int)) else none) else e0 ()
noncomputable def B0 (k:Nat) (self:((List (List UInt8))×Int)->Option Out) (e0:(Unit)->Option Out) (a1:Arg) (v402:(List (List UInt8))×Int):Option Out:=b0 self e0 (r1 k self e0 a1) a1 v402
theorem B0_eq (k:Nat) (rec:RT Out) (K:KT Out) (a1:Arg) (v402:(List (List UInt8))×Int):D.N k [1,0,1,0,0] (T0 a1 v402) (loopC rec (keepF [0,3] []) K)=B0 k (S0 rec a1) (X0_0 K a1) a1 v402:=
 Eq.trans (b:=b0 (S0 rec a1) (X0_0 K a1) (s1 k rec K a1) a1 v402) (by kernel_rfl) (by rw[s1_eq];rfl)
noncomputable def q1 (a1:Arg) (z1216:(Unit)):Option Out:=some ((0:Int),())
noncomputable abbrev Q1 (_:Nat):=q1
theorem Q1_eq (k:Nat) (a1:Arg) (z1216:(Unit)):X0_0 (blockC 0 (seqC (D.N k [1,1]) D.K0)) a1 z1216=q1 a1 z1216:=by kernel_rfl
noncomputable def s0 (k:Nat) (a1:Arg):((List (List UInt8))×Int)->Option Out:=fun v402=>D.L k [1,0,1,0,0] [0,3] [] (blockC 0 (seqC (D.N k [1,1]) D.K0)) (T0 a1 v402)
noncomputable def r0 (k:Nat) (a1:Arg):((List (List UInt8))×Int)->Option Out:=rawIter (fun w v=>B0 k w (Q1 k a1) a1 v) k
theorem s0_eq (k:Nat) (a1:Arg):s0 k a1=r0 k a1:=by
 funext v402;
 have h0:X0_0 (blockC 0 (seqC (D.N k [1,1]) D.K0)) a1=Q1 k a1:=funext fun z=>Q1_eq k a1 z
 refine (iter_raw _ _ _ (T0 a1) (fun self v=>B0 k self (X0_0 (blockC 0 (seqC (D.N k [1,1]) D.K0)) a1) a1 v) (fun rec v=>B0_eq k rec (blockC 0 (seqC (D.N k [1,1]) D.K0)) a1 v) k v402).trans ?_
 rw[h0]
 rfl
noncomputable def p (l0:((List (List UInt8))×Int)->Option Out) (a1:Arg):Option Out:=l0 (a1.1,(0:Int))
theorem raw_eq (k:Nat) (a1:Arg):@Eq (Option Out) (D.W k a1) (p (r0 k a1) a1):=
 Eq.trans (b:=p (s0 k a1) a1) (by kernel_rfl) (by rw[s0_eq])
theorem ok:Ok prog 190 D.sig:=fd_ok func190 tlOk (by kernel_rfl) (fc spec_l2Fault.ok (fc spec_l2Count.ok (fc spec_l2Size.ok (fc spec_l1Read.ok (fc spec_l2Cell.ok (fn_nil _))))))
end spec_l6Cells
namespace spec_l6Stubs
abbrev Arg:Type:=(List L6Spot)×(List (List UInt8))×Unit
abbrev Out:Type:=Int×Unit
abbrev ps:PQ:=[(.ro,(.slc tL6Spot)),(.ro,(.slc (.slc u8)))]
noncomputable def D:FD:={ fn:=f191,tl:=TL0,ps:=ps,rs:=[(i64,(roMd i64))],gl:=[(219,spec_l6Cell.D.sig)],lv:=[(2,[0,1,5]),(9,[0,8]),(12,[0,8,9])],lx:=[(0,[0]),(1,[0,1,5]),(2,[]),(4,[0,8])],od:=[(5,[0,1,2,3,4,5,6,7,8,9,10,11,12,13,14,15,16,17,18,19]),(16,[0,1,2,3,4,5,6,7,8,9,10,11,12,13,14,15,16,17,18,19,20,21,22,23,24,25,26,27,28,29,30,31,32,33])],ar:=[(5,[6,12])],pd:=[(5,[17])] }
noncomputable def sem (a:Arg):Option Out:=@lift Out fun k=>D.W k a
noncomputable def T0 (a1:Arg) (v402:Int):St:={ n:=102,sl:=[(0,.val (.slc tL6Spot) a1.1),(1,.val (.slc (.slc u8)) a1.2.1),(5,.val i64 v402)],vr:=[],lent:=[] }
noncomputable def S0 (rec:RT Out) (a1:Arg):(Int)->Option Out:=fun v402=>rec (T0 a1 v402)
noncomputable def X0_0 (K:KT Out) (a1:Arg):(Unit)->Option Out:=fun z=>K (.exit 0) ({ n:=102,sl:=[(0,.val (.slc tL6Spot) a1.1)],vr:=[],lent:=[] })
noncomputable def b0 (self:Int->Option Out) (e0:(Unit)->Option Out) (a1:Arg) (v402:Int):Option Out:=bif decide (v402 < (a1.1.length:Int)) then (if 0<=v402 then ((a1.1[v402.toNat]?).bind fun x603=>bif !decide (x603.2.2.1.2.1=(1:Int)) then (self (w64 (v402+(1:Int)))) else if 0<=v402 then ((a1.1[v402.toNat]?).bind fun x604=>if 0<=v402 then ((a1.1[v402.toNat]?).bind fun x605=>(spec_l6Cell.sem (a1.2.1,x604.2.2.1.2.2.1,x605.2.2.1.2.2.2.1,())).bind fun r606=>bif !r606.2.1 then (some ((4:Int),())) else bif !decide (r606.1.2.1=(2:Int)) then (some ((4:Int),())) else self (w64 (v402+(1:Int)))) else none) else none) else none) else e0 ()
noncomputable abbrev B0 (_:Nat):=b0
theorem B0_eq (k:Nat) (rec:RT Out) (K:KT Out) (a1:Arg) (v402:Int):D.N k [1,0,1,0,0] (T0 a1 v402) (loopC rec (keepF [0,1,5] []) K)=b0 (S0 rec a1) (X0_0 K a1) a1 v402:=by kernel_rfl
noncomputable def T1 (a1:Arg) (v1008:(List L6Spot)×Int):St:={ n:=102,sl:=[(0,.val (.slc tL6Spot) v1008.1),(8,.val i64 v1008.2)],vr:=[],lent:=[] }
noncomputable def S1 (rec:RT Out) (a1:Arg):((List L6Spot)×Int)->Option Out:=fun v1008=>rec (T1 a1 v1008)
noncomputable def X1_2 (K:KT Out) (a1:Arg):(Unit)->Option Out:=fun z=>K (.exit 2) ({ n:=102,sl:=[],vr:=[],lent:=[] })
noncomputable def T2 (a1:Arg) (c1610:List L6Spot) (c1611:Int) (v1609:Int):St:={ n:=102,sl:=[(0,.val (.slc tL6Spot) c1610),(8,.val i64 c1611),(9,.val i64 v1609)],vr:=[],lent:=[] }
noncomputable def b2 (self:Int->Option Out) (e4:(Unit)->Option Out) (a1:Arg) (c1610:List L6Spot) (c1611:Int) (v1609:Int):Option Out:=bif decide (v1609 < c1611) then (if 0<=c1611 then ((c1610[c1611.toNat]?).bind fun x1812=>if 0<=v1609 then ((c1610[v1609.toNat]?).bind fun x1813=>bif decide (x1812.2.2.1.2.1=(1:Int)) then (bif decide (x1813.2.2.1.2.1=(1:Int)) then (bif decide (x1812.2.2.1.2.2.1=x1813.2.2.1.2.2.1) then (bif decide (x1812.2.2.1.2.2.2.1=x1813.2.2.1.2.2.2.1) then (some ((6:Int),())) else self (w64 (v1609+(1:Int)))) else self (w64 (v1609+(1:Int)))) else self (w64 (v1609+(1:Int)))) else self (w64 (v1609+(1:Int)))) else none) else none) else e4 ()
noncomputable abbrev B2 (_:Nat):=b2
noncomputable def q1 (self:((List L6Spot)×Int)->Option Out) (e2:(Unit)->Option Out) (a1:Arg) (c1610:List L6Spot) (c1611:Int) (z1814:(Unit)):Option Out:=self (c1610,w64 (c1611+(1:Int)))
noncomputable abbrev Q1 (_:Nat):=q1
noncomputable def s2 (k:Nat) (rec:RT Out) (K:KT Out) (a1:Arg):(List L6Spot)->Int->(Int)->Option Out:=fun c1610 c1611=>fun v1609=>D.L k [1,1,0,1,0,0,1,0,0,1,0,0] [0,8,9] [] (blockC 4 (blockC 3 (seqC (D.N k [1,1,0,1,0,0,1,1]) (loopC rec (keepF [0,8] []) K)))) (T2 a1 c1610 c1611 v1609)
noncomputable def r2 (k:Nat) (self:((List L6Spot)×Int)->Option Out) (e2:(Unit)->Option Out) (a1:Arg):(List L6Spot)->Int->(Int)->Option Out:=fun c1610 c1611=>rawIter (fun w v=>B2 k w (Q1 k self e2 a1 c1610 c1611) a1 c1610 c1611 v) k
theorem s2_eq (k:Nat) (rec:RT Out) (K:KT Out) (a1:Arg):s2 k rec K a1=r2 k (S1 rec a1) (X1_2 K a1) a1:=
 funext fun c1610=>funext fun c1611=>funext fun v1609=>iter_raw _ _ _ (T2 a1 c1610 c1611) _ (fun rec v=>by kernel_rfl) k v1609
noncomputable def b1 (self:((List L6Spot)×Int)->Option Out) (e2:(Unit)->Option Out) (l2:(List L6Spot)->Int->(Int)->Option Out) (a1:Arg) (v1008:(List L6Spot)×Int):Option Out:=bif decide (v1008.2 < (v1008.1.length:Int)) then (l2 v1008.1 v1008.2 (0:Int)) else e2 ()
noncomputable def B1 (k:Nat) (self:((List L6Spot)×Int)->Option Out) (e2:(Unit)->Option Out) (a1:Arg) (v1008:(List L6Spot)×Int):Option Out:=b1 self e2 (r2 k self e2 a1) a1 v1008
theorem B1_eq (k:Nat) (rec:RT Out) (K:KT Out) (a1:Arg) (v1008:(List L6Spot)×Int):D.N k [1,1,0,1,0,0] (T1 a1 v1008) (loopC rec (keepF [0,8] []) K)=B1 k (S1 rec a1) (X1_2 K a1) a1 v1008:=
 Eq.trans (b:=b1 (S1 rec a1) (X1_2 K a1) (s2 k rec K a1) a1 v1008) (by kernel_rfl) (by rw[s2_eq];rfl)
noncomputable def q2 (a1:Arg) (z1815:(Unit)):Option Out:=some ((0:Int),())
noncomputable abbrev Q2 (_:Nat):=q2
theorem Q2_eq (k:Nat) (a1:Arg) (z1815:(Unit)):X1_2 (blockC 2 (seqC (D.N k [1,1,1]) D.K0)) a1 z1815=q2 a1 z1815:=by kernel_rfl
noncomputable def s1 (k:Nat) (a1:Arg):((List L6Spot)×Int)->Option Out:=fun v1008=>D.L k [1,1,0,1,0,0] [0,8] [] (blockC 2 (seqC (D.N k [1,1,1]) D.K0)) (T1 a1 v1008)
noncomputable def r1 (k:Nat) (a1:Arg):((List L6Spot)×Int)->Option Out:=rawIter (fun w v=>B1 k w (Q2 k a1) a1 v) k
theorem s1_eq (k:Nat) (a1:Arg):s1 k a1=r1 k a1:=by
 funext v1008;
 have h2:X1_2 (blockC 2 (seqC (D.N k [1,1,1]) D.K0)) a1=Q2 k a1:=funext fun z=>Q2_eq k a1 z
 refine (iter_raw _ _ _ (T1 a1) (fun self v=>B1 k self (X1_2 (blockC 2 (seqC (D.N k [1,1,1]) D.K0)) a1) a1 v) (fun rec v=>B1_eq k rec (blockC 2 (seqC (D.N k [1,1,1]) D.K0)) a1 v) k v1008).trans ?_
 rw[h2]
 rfl
noncomputable def q0 (l1:((List L6Spot)×Int)->Option Out) (a1:Arg) (z607:(Unit)):Option Out:=l1 (a1.1,(0:Int))
noncomputable def Q0 (k:Nat) (a1:Arg) (z607:(Unit)):Option Out:=q0 (r1 k a1) a1 z607
theorem Q0_eq (k:Nat) (a1:Arg) (z607:(Unit)):X0_0 (blockC 0 (seqC (D.N k [1,1]) D.K0)) a1 z607=Q0 k a1 z607:=
 Eq.trans (b:=q0 (s1 k a1) a1 z607) (by kernel_rfl) (by rw[s1_eq];rfl)
noncomputable def s0 (k:Nat) (a1:Arg):(Int)->Option Out:=fun v402=>D.L k [1,0,1,0,0] [0,1,5] [] (blockC 0 (seqC (D.N k [1,1]) D.K0)) (T0 a1 v402)
noncomputable def r0 (k:Nat) (a1:Arg):(Int)->Option Out:=rawIter (fun w v=>B0 k w (Q0 k a1) a1 v) k
theorem s0_eq (k:Nat) (a1:Arg):s0 k a1=r0 k a1:=by
 funext v402;
 have h0:X0_0 (blockC 0 (seqC (D.N k [1,1]) D.K0)) a1=Q0 k a1:=funext fun z=>Q0_eq k a1 z
 refine (iter_raw _ _ _ (T0 a1) (fun self v=>B0 k self (X0_0 (blockC 0 (seqC (D.N k [1,1]) D.K0)) a1) a1 v) (fun rec v=>B0_eq k rec (blockC 0 (seqC (D.N k [1,1]) D.K0)) a1 v) k v402).trans ?_
 rw[h0]
 rfl
noncomputable def p (l0:(Int)->Option Out) (a1:Arg):Option Out:=l0 (0:Int)
theorem raw_eq (k:Nat) (a1:Arg):@Eq (Option Out) (D.W k a1) (p (r0 k a1) a1):=
 Eq.trans (b:=p (s0 k a1) a1) (by kernel_rfl) (by rw[s0_eq])
theorem ok:Ok prog 191 D.sig:=fd_ok func191 tlOk (by kernel_rfl) (fc spec_l6Cell.ok (fn_nil _))
end spec_l6Stubs
namespace spec_l6Fault
abbrev Arg:Type:=(List (List UInt8))×Unit
abbrev Out:Type:=Int×Unit
abbrev ps:PQ:=[(.ro,(.slc (.slc u8)))]
noncomputable def D:FD:={ fn:=f119,tl:=TL0,ps:=ps,rs:=[(i64,(roMd i64))],gl:=[(145,spec_l6Seen.D.sig),(190,spec_l6Cells.D.sig),(191,spec_l6Stubs.D.sig),(192,spec_l6Spots.D.sig)],lv:=[(11,[5,6]),(14,[5,6,7])],lx:=[(0,[]),(2,[5,6])],od:=[(16,[0,1,2,3,4,5,6,7,8,9,10,11,12,13,14,15,16,17,18,19,20,21,22,23,24,25,26,27,28,29,30,31])] }
noncomputable def sem (a:Arg):Option Out:=@lift Out fun k=>D.W k a
noncomputable def T0 (a1:Arg) (v406:(List L6Spot)×Int):St:={ n:=68,sl:=[(5,.own (.slc tL6Spot) (ownMd (.slc tL6Spot)) [] v406.1),(6,.val i64 v406.2)],vr:=[],lent:=[] }
noncomputable def S0 (rec:RT Out) (a1:Arg):((List L6Spot)×Int)->Option Out:=fun v406=>rec (T0 a1 v406)
noncomputable def X0_0 (K:KT Out) (a1:Arg):(Unit)->Option Out:=fun z=>K (.exit 0) ({ n:=68,sl:=[],vr:=[],lent:=[] })
noncomputable def T1 (a1:Arg) (c1008:List L6Spot) (c1009:Int) (v1007:Int):St:={ n:=68,sl:=[(5,.own (.slc tL6Spot) (ownMd (.slc tL6Spot)) [] c1008),(6,.val i64 c1009),(7,.val i64 v1007)],vr:=[],lent:=[] }
noncomputable def b1 (self:Int->Option Out) (e2:(Unit)->Option Out) (a1:Arg) (c1008:List L6Spot) (c1009:Int) (v1007:Int):Option Out:=bif decide (v1007 < c1009) then (if 0<=c1009/\c1009 < (c1008.length:Int) then ((c1008[c1009.toNat]?).bind fun x1210=>if 0<=v1007/\v1007 < (c1008.length:Int) then ((c1008[v1007.toNat]?).bind fun x1211=>bif decide (x1210.2.2.1.2.2.2.2.1.1=x1211.2.2.1.2.2.2.2.1.1) then (if 0<=c1009/\c1009 < (c1008.length:Int) then ((c1008[c1009.toNat]?).bind fun x1212=>if 0<=v1007/\v1007 < (c1008.length:Int) then ((c1008[v1007.toNat]?).bind fun x1213=>bif decide (x1212.2.2.1.2.2.2.2.1.2.1=x1213.2.2.1.2.2.2.2.1.2.1) then (some ((8:Int),())) else self (w64 (v1007+(1:Int)))) else none) else none) else self (w64 (v1007+(1:Int)))) else none) else none) else e2 ()
noncomputable abbrev B1 (_:Nat):=b1
noncomputable def q0 (self:((List L6Spot)×Int)->Option Out) (e0:(Unit)->Option Out) (a1:Arg) (c1008:List L6Spot) (c1009:Int) (z1214:(Unit)):Option Out:=self (c1008,w64 (c1009+(1:Int)))
noncomputable abbrev Q0 (_:Nat):=q0
noncomputable def s1 (k:Nat) (rec:RT Out) (K:KT Out) (a1:Arg):(List L6Spot)->Int->(Int)->Option Out:=fun c1008 c1009=>fun v1007=>D.L k [1,1,1,1,1,0,1,0,0,1,0,0,1,0,0] [5,6,7] [] (blockC 2 (blockC 1 (seqC (D.N k [1,1,1,1,1,0,1,0,0,1,1]) (loopC rec (keepF [5,6] []) K)))) (T1 a1 c1008 c1009 v1007)
noncomputable def r1 (k:Nat) (self:((List L6Spot)×Int)->Option Out) (e0:(Unit)->Option Out) (a1:Arg):(List L6Spot)->Int->(Int)->Option Out:=fun c1008 c1009=>rawIter (fun w v=>B1 k w (Q0 k self e0 a1 c1008 c1009) a1 c1008 c1009 v) k
theorem s1_eq (k:Nat) (rec:RT Out) (K:KT Out) (a1:Arg):s1 k rec K a1=r1 k (S0 rec a1) (X0_0 K a1) a1:=
 funext fun c1008=>funext fun c1009=>funext fun v1007=>iter_raw _ _ _ (T1 a1 c1008 c1009) _ (fun rec v=>by kernel_rfl) k v1007
noncomputable def b0 (self:((List L6Spot)×Int)->Option Out) (e0:(Unit)->Option Out) (l1:(List L6Spot)->Int->(Int)->Option Out) (a1:Arg) (v406:(List L6Spot)×Int):Option Out:=bif decide (v406.2 < (v406.1.length:Int)) then (l1 v406.1 v406.2 (0:Int)) else e0 ()
noncomputable def B0 (k:Nat) (self:((List L6Spot)×Int)->Option Out) (e0:(Unit)->Option Out) (a1:Arg) (v406:(List L6Spot)×Int):Option Out:=b0 self e0 (r1 k self e0 a1) a1 v406
theorem B0_eq (k:Nat) (rec:RT Out) (K:KT Out) (a1:Arg) (v406:(List L6Spot)×Int):D.N k [1,1,1,1,1,0,1,0,0] (T0 a1 v406) (loopC rec (keepF [5,6] []) K)=B0 k (S0 rec a1) (X0_0 K a1) a1 v406:=
 Eq.trans (b:=b0 (S0 rec a1) (X0_0 K a1) (s1 k rec K a1) a1 v406) (by kernel_rfl) (by rw[s1_eq];rfl)
noncomputable def q1 (a1:Arg) (z1215:(Unit)):Option Out:=some ((0:Int),())
noncomputable abbrev Q1 (_:Nat):=q1
theorem Q1_eq (k:Nat) (a1:Arg) (z1215:(Unit)):X0_0 (blockC 0 (seqC (D.N k [1,1,1,1,1,1]) D.K0)) a1 z1215=q1 a1 z1215:=by kernel_rfl
noncomputable def s0 (k:Nat) (a1:Arg):((List L6Spot)×Int)->Option Out:=fun v406=>D.L k [1,1,1,1,1,0,1,0,0] [5,6] [] (blockC 0 (seqC (D.N k [1,1,1,1,1,1]) D.K0)) (T0 a1 v406)
noncomputable def r0 (k:Nat) (a1:Arg):((List L6Spot)×Int)->Option Out:=rawIter (fun w v=>B0 k w (Q1 k a1) a1 v) k
theorem s0_eq (k:Nat) (a1:Arg):s0 k a1=r0 k a1:=by
 funext v406;
 have h0:X0_0 (blockC 0 (seqC (D.N k [1,1,1,1,1,1]) D.K0)) a1=Q1 k a1:=funext fun z=>Q1_eq k a1 z
 refine (iter_raw _ _ _ (T0 a1) (fun self v=>B0 k self (X0_0 (blockC 0 (seqC (D.N k [1,1,1,1,1,1]) D.K0)) a1) a1 v) (fun rec v=>B0_eq k rec (blockC 0 (seqC (D.N k [1,1,1,1,1,1]) D.K0)) a1 v) k v406).trans ?_
 rw[h0]
 rfl
noncomputable def p (l0:((List L6Spot)×Int)->Option Out) (a1:Arg):Option Out:=bif decide ((12:Int) < (a1.1.length:Int)) then (some ((2:Int),())) else (spec_l6Cells.sem (a1.1,())).bind fun r2=>bif !decide (r2.1=(0:Int)) then (some (r2.1,())) else (spec_l6Spots.sem (a1.1,())).bind fun r3=>(spec_l6Stubs.sem (r3.1,a1.1,())).bind fun r4=>bif !decide (r4.1=(0:Int)) then (some (r4.1,())) else (spec_l6Seen.sem (a1.1,())).bind fun r5=>l0 (r5.1,(0:Int))
theorem raw_eq (k:Nat) (a1:Arg):@Eq (Option Out) (D.W k a1) (p (r0 k a1) a1):=
 Eq.trans (b:=p (s0 k a1) a1) (by kernel_rfl) (by rw[s0_eq])
theorem ok:Ok prog 119 D.sig:=fd_ok func119 tlOk (by kernel_rfl) (fc spec_l6Seen.ok (fc spec_l6Cells.ok (fc spec_l6Stubs.ok (fc spec_l6Spots.ok (fn_nil _)))))
end spec_l6Fault
namespace spec_l7Copy
abbrev Arg:Type:=(List (List UInt8))×Unit
abbrev Out:Type:=(List (List UInt8))×Unit
abbrev ps:PQ:=[(.ro,(.slc (.slc u8)))]
noncomputable def D:FD:={ fn:=f232,tl:=TL0,ps:=ps,rs:=[((.slc (.slc u8)),(ownMd (.slc (.slc u8))))],gl:=[(109,spec_l2Copy.D.sig)],lv:=[(3,[0,3,4])],lx:=[(0,[3])] }
noncomputable def sem (a:Arg):Option Out:=@lift Out fun k=>D.W k a
noncomputable def T0 (a1:Arg) (v402:(List (List UInt8))×Int):St:={ n:=21,sl:=[(0,.val (.slc (.slc u8)) a1.1),(3,.own (.slc (.slc u8)) (ownMd (.slc (.slc u8))) [] v402.1),(4,.val i64 v402.2)],vr:=[],lent:=[] }
noncomputable def b0 (self:((List (List UInt8))×Int)->Option Out) (e0:(List (List UInt8))->Option Out) (a1:Arg) (v402:(List (List UInt8))×Int):Option Out:=bif decide (v402.2 < (a1.1.length:Int)) then (if 0<=v402.2 then ((a1.1[v402.2.toNat]?).bind fun x603=>(spec_l2Copy.sem (x603,())).bind fun r604=>if v402.1.length+[r604.1].length<=CAP then (self (v402.1++[r604.1],w64 (v402.2+(1:Int)))) else none) else none) else e0 v402.1
noncomputable abbrev B0 (_:Nat):=b0
noncomputable def q0 (a1:Arg) (z605:(List (List UInt8))):Option Out:=some (z605,())
noncomputable abbrev Q0 (_:Nat):=q0
noncomputable def s0 (k:Nat) (a1:Arg):((List (List UInt8))×Int)->Option Out:=fun v402=>D.L k [1,1,0,1,0,0] [0,3,4] [] (blockC 0 (seqC (D.N k [1,1,1]) D.K0)) (T0 a1 v402)
noncomputable def r0 (k:Nat) (a1:Arg):((List (List UInt8))×Int)->Option Out:=rawIter (fun w v=>B0 k w (Q0 k a1) a1 v) k
theorem s0_eq (k:Nat) (a1:Arg):s0 k a1=r0 k a1:=
 funext fun v402=>iter_raw _ _ _ (T0 a1) _ (fun rec v=>by kernel_rfl) k v402
noncomputable def p (l0:((List (List UInt8))×Int)->Option Out) (a1:Arg):Option Out:=l0 (([]:List (List UInt8)),(0:Int))
theorem raw_eq (k:Nat) (a1:Arg):@Eq (Option Out) (D.W k a1) (p (r0 k a1) a1):=
 Eq.trans (b:=p (s0 k a1) a1) (by kernel_rfl) (by rw[s0_eq])
theorem ok:Ok prog 232 D.sig:=fd_ok func232 tlOk (by kernel_rfl) (fc spec_l2Copy.ok (fn_nil _))
end spec_l7Copy
namespace spec_l7Bad
abbrev Arg:Type:=Int×Unit
abbrev Out:Type:=EditsResult×Unit
abbrev ps:PQ:=[(.ro,i64)]
noncomputable def D:FD:={ fn:=f259,tl:=TL0,ps:=ps,rs:=[(tEditsResult,(ownMd tEditsResult))] }
noncomputable def sem (a:Arg):Option Out:=@lift Out fun k=>D.W k a
noncomputable def p (a1:Arg):Option Out:=some ((a1.1,([]:List Run),([]:List (List UInt8)),()),())
theorem raw_eq (k:Nat) (a1:Arg):@Eq (Option Out) (D.W k a1) (p a1):=by kernel_rfl
theorem ok:Ok prog 259 D.sig:=fd_ok func259 tlOk (by kernel_rfl) (fn_nil _)
end spec_l7Bad
namespace spec_l2New
abbrev Arg:Type:=UInt8×Unit
abbrev Out:Type:=(List UInt8)×Unit
abbrev ps:PQ:=[(.ro,u8)]
noncomputable def D:FD:={ fn:=f261,tl:=TL0,ps:=ps,rs:=[((.slc u8),(ownMd (.slc u8)))],lv:=[(3,[0,3,4])],lx:=[(0,[3])] }
noncomputable def sem (a:Arg):Option Out:=@lift Out fun k=>D.W k a
noncomputable def T0 (a1:Arg) (v402:(List UInt8)×Int):St:={ n:=19,sl:=[(0,.val u8 a1.1),(3,.own (.slc u8) (ownMd (.slc u8)) [] v402.1),(4,.val i64 v402.2)],vr:=[],lent:=[] }
noncomputable def b0 (self:((List UInt8)×Int)->Option Out) (e0:(List UInt8)->Option Out) (a1:Arg) (v402:(List UInt8)×Int):Option Out:=bif decide (v402.2 < (64:Int)) then (if 0<=v402.2/\v402.2 < (v402.1.length:Int) then ((v402.1[v402.2.toNat]?).bind fun x603=>self (v402.1.set v402.2.toNat a1.1,w64 (v402.2+(1:Int)))) else none) else e0 v402.1
noncomputable abbrev B0 (_:Nat):=b0
noncomputable def q0 (a1:Arg) (z604:(List UInt8)):Option Out:=if 0<=(0:Int)/\(0:Int) < (z604.length:Int) then ((z604[0]?).bind fun x605=>if 0<=(1:Int)/\(1:Int) < ((z604.set 0 (0:UInt8)).length:Int) then (((z604.set 0 (0:UInt8))[1]?).bind fun x606=>let y607:=(z604.set 0 (0:UInt8)).set 1 (64:UInt8);some (y607,())) else none) else none
noncomputable abbrev Q0 (_:Nat):=q0
noncomputable def s0 (k:Nat) (a1:Arg):((List UInt8)×Int)->Option Out:=fun v402=>D.L k [1,1,0,1,0,0] [0,3,4] [] (blockC 0 (seqC (D.N k [1,1,1]) D.K0)) (T0 a1 v402)
noncomputable def r0 (k:Nat) (a1:Arg):((List UInt8)×Int)->Option Out:=rawIter (fun w v=>B0 k w (Q0 k a1) a1 v) k
theorem s0_eq (k:Nat) (a1:Arg):s0 k a1=r0 k a1:=
 funext fun v402=>iter_raw _ _ _ (T0 a1) _ (fun rec v=>by kernel_rfl) k v402
noncomputable def p (l0:((List UInt8)×Int)->Option Out) (a1:Arg):Option Out:=if 0<=(64:Int)/\(64:Int)<=(64:Int)/\(64:Int)<=(CAP:Int) then (l0 (List.replicate 64 (0:UInt8),(0:Int))) else none
theorem raw_eq (k:Nat) (a1:Arg):@Eq (Option Out) (D.W k a1) (p (r0 k a1) a1):=
 Eq.trans (b:=p (s0 k a1) a1) (by kernel_rfl) (by rw[s0_eq])
theorem ok:Ok prog 261 D.sig:=fd_ok func261 tlOk (by kernel_rfl) (fn_nil _)
end spec_l2New
namespace spec_l3Apply
abbrev Arg:Type:=(List UInt8)×(List Run)×Unit
abbrev Out:Type:=(List UInt8)×Unit
abbrev ps:PQ:=[(.ro,(.slc u8)),(.ro,(.slc tRun))]
noncomputable def D:FD:={ fn:=f262,tl:=TL0,ps:=ps,rs:=[((.slc u8),(ownMd (.slc u8)))],gl:=[(109,spec_l2Copy.D.sig)],lv:=[(3,[1,5,6])],lx:=[(0,[5])],od:=[(5,[0,1,2,3,4,5,6,7,8,9,10,11,12])] }
noncomputable def sem (a:Arg):Option Out:=@lift Out fun k=>D.W k a
noncomputable def T0 (a1:Arg) (v403:(List UInt8)×Int):St:={ n:=29,sl:=[(1,.val (.slc tRun) a1.2.1),(5,.own (.slc u8) (ownMd (.slc u8)) [] v403.1),(6,.val i64 v403.2)],vr:=[],lent:=[] }
noncomputable def b0 (self:((List UInt8)×Int)->Option Out) (e0:(List UInt8)->Option Out) (a1:Arg) (v403:(List UInt8)×Int):Option Out:=bif decide (v403.2 < (a1.2.1.length:Int)) then (if 0<=v403.2 then ((a1.2.1[v403.2.toNat]?).bind fun x604=>if 0<=x604.1/\x604.1<=(v403.1.length:Int) then (if 0<=v403.2 then ((a1.2.1[v403.2.toNat]?).bind fun x605=>let y606:=over v403.1 x604.1.toNat (min x605.2.1.length (v403.1.length - x604.1.toNat)) x605.2.1;self (y606,w64 (v403.2+(1:Int)))) else none) else none) else none) else e0 v403.1
noncomputable abbrev B0 (_:Nat):=b0
noncomputable def q0 (a1:Arg) (z607:(List UInt8)):Option Out:=some (z607,())
noncomputable abbrev Q0 (_:Nat):=q0
noncomputable def s0 (k:Nat) (a1:Arg):((List UInt8)×Int)->Option Out:=fun v403=>D.L k [1,1,0,1,0,0] [1,5,6] [] (blockC 0 (seqC (D.N k [1,1,1]) D.K0)) (T0 a1 v403)
noncomputable def r0 (k:Nat) (a1:Arg):((List UInt8)×Int)->Option Out:=rawIter (fun w v=>B0 k w (Q0 k a1) a1 v) k
theorem s0_eq (k:Nat) (a1:Arg):s0 k a1=r0 k a1:=
 funext fun v403=>iter_raw _ _ _ (T0 a1) _ (fun rec v=>by kernel_rfl) k v403
noncomputable def p (l0:((List UInt8)×Int)->Option Out) (a1:Arg):Option Out:=(spec_l2Copy.sem (a1.1,())).bind fun r2=>l0 (r2.1,(0:Int))
theorem raw_eq (k:Nat) (a1:Arg):@Eq (Option Out) (D.W k a1) (p (r0 k a1) a1):=
 Eq.trans (b:=p (s0 k a1) a1) (by kernel_rfl) (by rw[s0_eq])
theorem ok:Ok prog 262 D.sig:=fd_ok func262 tlOk (by kernel_rfl) (fc spec_l2Copy.ok (fn_nil _))
end spec_l3Apply
namespace spec_ApplyRecord
abbrev Arg:Type:=(List (List UInt8))×Record×Unit
abbrev Out:Type:=EditsResult×Unit
abbrev ps:PQ:=[(.ro,(.slc (.slc u8))),(.ro,tRecord)]
noncomputable def D:FD:={ fn:=f193,tl:=TL0,ps:=ps,rs:=[(tEditsResult,(ownMd tEditsResult))],gl:=[(227,spec_l4Fault.D.sig),(232,spec_l7Copy.D.sig),(259,spec_l7Bad.D.sig),(260,spec_l4Runs.D.sig),(261,spec_l2New.D.sig),(262,spec_l3Apply.D.sig)],lv:=[(4,[0,3,4,5])],lx:=[(0,[0,3,4])],od:=[(20,[0,1,2,3,4,5,6]),(21,[0,1,2,3,4,5,6,7,8,9,10,11,12,13,14])] }
noncomputable def sem (a:Arg):Option Out:=@lift Out fun k=>D.W k a
noncomputable def T0 (a1:Arg) (v403:Int):St:={ n:=75,sl:=[(0,.val (.slc (.slc u8)) a1.1),(3,.box tRecord (roMd tRecord) [] a1.2.1),(4,.box tEditsResult (ownMd tEditsResult) [] ((0:Int),([]:List Run),([]:List (List UInt8)),())),(5,.val i64 v403)],vr:=[],lent:=[] }
noncomputable def b0 (self:Int->Option Out) (e0:(Unit)->Option Out) (a1:Arg) (v403:Int):Option Out:=bif decide (v403 < (a1.1.length:Int)) then (if 0<=v403 then ((a1.1[v403.toNat]?).bind fun x604=>bif !decide ((x604.length:Int)=(64:Int)) then ((spec_l7Bad.sem ((1:Int),())).bind fun r605=>some (r605.1,())) else self (w64 (v403+(1:Int)))) else none) else e0 ()
noncomputable abbrev B0 (_:Nat):=b0
noncomputable def q0 (a1:Arg) (z606:(Unit)):Option Out:=(spec_l4Fault.sem (a1.2.1,())).bind fun r607=>bif !decide (r607.1=(0:Int)) then ((spec_l7Bad.sem (r607.1,())).bind fun r608=>some (r608.1,())) else (spec_l7Copy.sem (a1.1,())).bind fun r609=>(spec_l4Runs.sem (a1.2.1.1,())).bind fun r610=>bif !r610.1 then (some (((0:Int),([]:List Run),r609.1,()),())) else bif decide ((a1.1.length:Int) < a1.2.1.2.2.1) then ((spec_l7Bad.sem ((1:Int),())).bind fun r611=>some (r611.1,())) else bif decide (a1.2.1.2.2.1=(12:Int)) then ((spec_l7Bad.sem ((2:Int),())).bind fun r612=>some (r612.1,())) else let j620:=fun (p619:EditsResult)=>(if 0<=a1.2.1.2.2.1/\a1.2.1.2.2.1 < (p619.2.2.1.length:Int) then ((p619.2.2.1[a1.2.1.2.2.1.toNat]?).bind fun x621=>(p619.2.2.1[a1.2.1.2.2.1.toNat]?).bind fun x622=>(spec_l3Apply.sem (x622,a1.2.1.2.2.2.1,())).bind fun r623=>if 0<=a1.2.1.2.2.1/\a1.2.1.2.2.1 < (p619.2.2.1.length:Int) then ((p619.2.2.1[a1.2.1.2.2.1.toNat]?).bind fun x624=>some ((p619.1,p619.2.1,p619.2.2.1.set a1.2.1.2.2.1.toNat r623.1,p619.2.2.2),())) else none) else none:Option Out);bif decide (a1.2.1.2.2.1=(a1.1.length:Int)) then ((spec_l2New.sem ((0:UInt8),())).bind fun r613=>if r609.1.length+[r613.1].length<=CAP then (j620 ((0:Int),([]:List Run),r609.1++[r613.1],())) else none) else j620 ((0:Int),([]:List Run),r609.1,())
noncomputable abbrev Q0 (_:Nat):=q0
noncomputable def s0 (k:Nat) (a1:Arg):(Int)->Option Out:=fun v403=>D.L k [1,1,0,1,0,0] [0,3,4,5] [] (blockC 0 (seqC (D.N k [1,1,1]) D.K0)) (T0 a1 v403)
noncomputable def r0 (k:Nat) (a1:Arg):(Int)->Option Out:=rawIter (fun w v=>B0 k w (Q0 k a1) a1 v) k
theorem s0_eq (k:Nat) (a1:Arg):s0 k a1=r0 k a1:=
 funext fun v403=>iter_raw _ _ _ (T0 a1) _ (fun rec v=>by kernel_rfl) k v403
noncomputable def p (l0:(Int)->Option Out) (a1:Arg):Option Out:=bif decide ((12:Int) < (a1.1.length:Int)) then ((spec_l7Bad.sem ((2:Int),())).bind fun r2=>some (r2.1,())) else l0 (0:Int)
theorem raw_eq (k:Nat) (a1:Arg):@Eq (Option Out) (D.W k a1) (p (r0 k a1) a1):=
 Eq.trans (b:=p (s0 k a1) a1) (by kernel_rfl) (by rw[s0_eq])
theorem ok:Ok prog 193 D.sig:=fd_ok func193 tlOk (by kernel_rfl) (fc spec_l4Fault.ok (fc spec_l7Copy.ok (fc spec_l7Bad.ok (fc spec_l4Runs.ok (fc spec_l2New.ok (fc spec_l3Apply.ok (fn_nil _)))))))
end spec_ApplyRecord
namespace spec_l12Redo
abbrev Arg:Type:=(List Record)×Unit
abbrev Out:Type:=(List (List UInt8))×Int×Unit
abbrev ps:PQ:=[(.ro,(.slc tRecord))]
noncomputable def D:FD:={ fn:=f120,tl:=TL0,ps:=ps,rs:=[((.slc (.slc u8)),(ownMd (.slc (.slc u8)))),(i64,(roMd i64))],gl:=[(193,spec_ApplyRecord.D.sig)],lv:=[(3,[0,4,5])],lx:=[(0,[4])],od:=[(7,[0,1,2,3])] }
noncomputable def sem (a:Arg):Option Out:=@lift Out fun k=>D.W k a
noncomputable def T0 (a1:Arg) (v402:(List (List UInt8))×Int):St:={ n:=28,sl:=[(0,.val (.slc tRecord) a1.1),(4,.own (.slc (.slc u8)) (ownMd (.slc (.slc u8))) [] v402.1),(5,.val i64 v402.2)],vr:=[],lent:=[] }
noncomputable def b0 (self:((List (List UInt8))×Int)->Option Out) (e0:(List (List UInt8))->Option Out) (a1:Arg) (v402:(List (List UInt8))×Int):Option Out:=bif decide (v402.2 < (a1.1.length:Int)) then (if 0<=v402.2 then ((a1.1[v402.2.toNat]?).bind fun x603=>(spec_ApplyRecord.sem (v402.1,x603,())).bind fun r604=>bif !decide (r604.1.1=(0:Int)) then (some (([]:List (List UInt8)),r604.1.1,())) else self (r604.1.2.2.1,w64 (v402.2+(1:Int)))) else none) else e0 v402.1
noncomputable abbrev B0 (_:Nat):=b0
noncomputable def q0 (a1:Arg) (z605:(List (List UInt8))):Option Out:=some (z605,(0:Int),())
noncomputable abbrev Q0 (_:Nat):=q0
noncomputable def s0 (k:Nat) (a1:Arg):((List (List UInt8))×Int)->Option Out:=fun v402=>D.L k [1,1,0,1,0,0] [0,4,5] [] (blockC 0 (seqC (D.N k [1,1,1]) D.K0)) (T0 a1 v402)
noncomputable def r0 (k:Nat) (a1:Arg):((List (List UInt8))×Int)->Option Out:=rawIter (fun w v=>B0 k w (Q0 k a1) a1 v) k
theorem s0_eq (k:Nat) (a1:Arg):s0 k a1=r0 k a1:=
 funext fun v402=>iter_raw _ _ _ (T0 a1) _ (fun rec v=>by kernel_rfl) k v402
noncomputable def p (l0:((List (List UInt8))×Int)->Option Out) (a1:Arg):Option Out:=l0 (([]:List (List UInt8)),(0:Int))
theorem raw_eq (k:Nat) (a1:Arg):@Eq (Option Out) (D.W k a1) (p (r0 k a1) a1):=
 Eq.trans (b:=p (s0 k a1) a1) (by kernel_rfl) (by rw[s0_eq])
theorem ok:Ok prog 120 D.sig:=fd_ok func120 tlOk (by kernel_rfl) (fc spec_ApplyRecord.ok (fn_nil _))
end spec_l12Redo
namespace spec_l12Records
abbrev Arg:Type:=Log×Unit
abbrev Out:Type:=(List Record)×Unit
abbrev ps:PQ:=[(.ro,(.ptr tLog))]
noncomputable def D:FD:={ fn:=f121,tl:=TL0,ps:=ps,rs:=[((.slc tRecord),(ownMd (.slc tRecord)))],gl:=[(109,spec_l2Copy.D.sig),(189,spec_l5Read.D.sig)],od:=[(1,[0,1,2,3,5,6,7,8,4,9,10,11,12,13,14,15])] }
noncomputable def sem (a:Arg):Option Out:=@lift Out fun k=>D.W k a
noncomputable def p (a1:Arg):Option Out:=(spec_l2Copy.sem (a1.1.1,())).bind fun r2=>if r2.1.length+a1.1.2.1.length<=CAP then ((spec_l5Read.sem (r2.1++a1.1.2.1,())).bind fun r3=>some (r3.1,())) else none
theorem raw_eq (k:Nat) (a1:Arg):@Eq (Option Out) (D.W k a1) (p a1):=by kernel_rfl
theorem ok:Ok prog 121 D.sig:=fd_ok func121 tlOk (by kernel_rfl) (fc spec_l2Copy.ok (fc spec_l5Read.ok (fn_nil _)))
end spec_l12Records
namespace spec_l12Same
abbrev Arg:Type:=(List (List UInt8))×(List (List UInt8))×Unit
abbrev Out:Type:=Bool×Unit
abbrev ps:PQ:=[(.ro,(.slc (.slc u8))),(.ro,(.slc (.slc u8)))]
noncomputable def D:FD:={ fn:=f122,tl:=TL0,ps:=ps,rs:=[(.bool,(roMd .bool))],lv:=[(4,[0,1,5])],lx:=[(0,[])],od:=[(6,[0,1,2,3,4,5,6,7,8,9,10])] }
noncomputable def sem (a:Arg):Option Out:=@lift Out fun k=>D.W k a
noncomputable def T0 (a1:Arg) (v402:Int):St:={ n:=28,sl:=[(0,.val (.slc (.slc u8)) a1.1),(1,.val (.slc (.slc u8)) a1.2.1),(5,.val i64 v402)],vr:=[],lent:=[] }
noncomputable def b0 (self:Int->Option Out) (e0:(Unit)->Option Out) (a1:Arg) (v402:Int):Option Out:=bif decide (v402 < (a1.1.length:Int)) then (if 0<=v402 then ((a1.1[v402.toNat]?).bind fun x603=>if 0<=v402 then ((a1.2.1[v402.toNat]?).bind fun x604=>bif !decide (x603=x604) then (some (false,())) else self (w64 (v402+(1:Int)))) else none) else none) else e0 ()
noncomputable abbrev B0 (_:Nat):=b0
noncomputable def q0 (a1:Arg) (z605:(Unit)):Option Out:=some (true,())
noncomputable abbrev Q0 (_:Nat):=q0
noncomputable def s0 (k:Nat) (a1:Arg):(Int)->Option Out:=fun v402=>D.L k [1,1,0,1,0,0] [0,1,5] [] (blockC 0 (seqC (D.N k [1,1,1]) D.K0)) (T0 a1 v402)
noncomputable def r0 (k:Nat) (a1:Arg):(Int)->Option Out:=rawIter (fun w v=>B0 k w (Q0 k a1) a1 v) k
theorem s0_eq (k:Nat) (a1:Arg):s0 k a1=r0 k a1:=
 funext fun v402=>iter_raw _ _ _ (T0 a1) _ (fun rec v=>by kernel_rfl) k v402
noncomputable def p (l0:(Int)->Option Out) (a1:Arg):Option Out:=bif !decide ((a1.1.length:Int)=(a1.2.1.length:Int)) then (some (false,())) else l0 (0:Int)
theorem raw_eq (k:Nat) (a1:Arg):@Eq (Option Out) (D.W k a1) (p (r0 k a1) a1):=
 Eq.trans (b:=p (s0 k a1) a1) (by kernel_rfl) (by rw[s0_eq])
theorem ok:Ok prog 122 D.sig:=fd_ok func122 tlOk (by kernel_rfl) (fn_nil _)
end spec_l12Same
namespace spec_l12Fault
abbrev Arg:Type:=Store×Unit
abbrev Out:Type:=Int×Unit
abbrev ps:PQ:=[(.ro,(.ptr tStore))]
noncomputable def D:FD:={ fn:=f56,tl:=TL0,ps:=ps,rs:=[(i64,(roMd i64))],gl:=[(72,spec_l11Fault.D.sig),(75,spec_l6RowsIn.D.sig),(117,spec_l5Fault.D.sig),(118,spec_l1In.D.sig),(119,spec_l6Fault.D.sig),(120,spec_l12Redo.D.sig),(121,spec_l12Records.D.sig),(122,spec_l12Same.D.sig)],od:=[(13,[0,1,2,3,5,6,7,8,9,10,11,12,4,13,14,15])],ar:=[(13,[3,8,12])],pd:=[(13,[14])] }
noncomputable def sem (a:Arg):Option Out:=@lift Out fun k=>D.W k a
noncomputable def p (a1:Arg):Option Out:=(spec_l5Fault.sem (a1.1.2.2.1,())).bind fun r2=>bif !decide (r2.1=(0:Int)) then (some (r2.1,())) else bif !a1.1.1 then (bif decide ((0:Int) < (a1.1.2.1.length:Int)) then (some ((1:Int),())) else bif decide ((0:Int) < (a1.1.2.2.2.1.length:Int)) then (some ((1:Int),())) else bif decide ((0:Int) < (a1.1.2.2.1.2.1.length:Int)) then (some ((1:Int),())) else (spec_l1In.sem (a1.1.2.2.2.2.1,(1:Int),(100:Int),())).bind fun r3=>bif !r3.1 then (some ((3:Int),())) else some ((0:Int),())) else (spec_l6Fault.sem (a1.1.2.1,())).bind fun r4=>bif !decide (r4.1=(0:Int)) then (some (r4.1,())) else (spec_l6RowsIn.sem (a1.1.2.1,())).bind fun r5=>(spec_l11Fault.sem ((r5.1,a1.1.2.2.2.1,a1.1.2.2.2.2.1,()),())).bind fun r6=>bif !decide (r6.1=(0:Int)) then (some (r6.1,())) else (spec_l12Records.sem (a1.1.2.2.1,())).bind fun r7=>(spec_l12Redo.sem (r7.1,())).bind fun r8=>bif !decide (r8.2.1=(0:Int)) then (some ((8:Int),())) else (spec_l12Same.sem (r8.1,a1.1.2.1,())).bind fun r9=>bif !r9.1 then (some ((8:Int),())) else some ((0:Int),())
theorem raw_eq (k:Nat) (a1:Arg):@Eq (Option Out) (D.W k a1) (p a1):=by kernel_rfl
theorem ok:Ok prog 56 D.sig:=fd_ok func56 tlOk (by kernel_rfl) (fc spec_l11Fault.ok (fc spec_l6RowsIn.ok (fc spec_l5Fault.ok (fc spec_l1In.ok (fc spec_l6Fault.ok (fc spec_l12Redo.ok (fc spec_l12Records.ok (fc spec_l12Same.ok (fn_nil _)))))))))
end spec_l12Fault
namespace spec_StoreFault
abbrev Arg:Type:=Store×Unit
abbrev Out:Type:=Int×Unit
abbrev ps:PQ:=[(.ro,tStore)]
noncomputable def D:FD:={ fn:=f12,tl:=TL0,ps:=ps,rs:=[(i64,(roMd i64))],gl:=[(56,spec_l12Fault.D.sig)] }
noncomputable def sem (a:Arg):Option Out:=@lift Out fun k=>D.W k a
noncomputable def p (a1:Arg):Option Out:=(spec_l12Fault.sem (a1.1,())).bind fun r2=>some (r2.1,())
theorem raw_eq (k:Nat) (a1:Arg):@Eq (Option Out) (D.W k a1) (p a1):=by kernel_rfl
theorem ok:Ok prog 12 D.sig:=fd_ok func12 tlOk (by kernel_rfl) (fc spec_l12Fault.ok (fn_nil _))
end spec_StoreFault
namespace laws_toByteS
abbrev Arg:Type:=(List UInt8)×Unit
abbrev Out:Type:=(List UInt8)×Unit
abbrev ps:PQ:=[(.ro,(.slc u8))]
noncomputable def D:FD:={ fn:=f35,tl:=TL0,ps:=ps,rs:=[((.slc u8),(ownMd (.slc u8)))],lv:=[(3,[0,3,4])],lx:=[(0,[3])] }
noncomputable def sem (a:Arg):Option Out:=@lift Out fun k=>D.W k a
noncomputable def T0 (a1:Arg) (v402:(List UInt8)×Int):St:={ n:=22,sl:=[(0,.val (.slc u8) a1.1),(3,.own (.slc u8) (ownMd (.slc u8)) [] v402.1),(4,.val i64 v402.2)],vr:=[],lent:=[] }
noncomputable def b0 (self:((List UInt8)×Int)->Option Out) (e0:(List UInt8)->Option Out) (a1:Arg) (v402:(List UInt8)×Int):Option Out:=bif decide (v402.2 < (a1.1.length:Int)) then (if 0<=v402.2 then ((a1.1[v402.2.toNat]?).bind fun x603=>if 0<=v402.2/\v402.2 < (v402.1.length:Int) then ((v402.1[v402.2.toNat]?).bind fun x604=>self (v402.1.set v402.2.toNat x603,w64 (v402.2+(1:Int)))) else none) else none) else e0 v402.1
noncomputable abbrev B0 (_:Nat):=b0
noncomputable def q0 (a1:Arg) (z605:(List UInt8)):Option Out:=some (z605,())
noncomputable abbrev Q0 (_:Nat):=q0
noncomputable def s0 (k:Nat) (a1:Arg):((List UInt8)×Int)->Option Out:=fun v402=>D.L k [1,1,0,1,0,0] [0,3,4] [] (blockC 0 (seqC (D.N k [1,1,1]) D.K0)) (T0 a1 v402)
noncomputable def r0 (k:Nat) (a1:Arg):((List UInt8)×Int)->Option Out:=rawIter (fun w v=>B0 k w (Q0 k a1) a1 v) k
theorem s0_eq (k:Nat) (a1:Arg):s0 k a1=r0 k a1:=
 funext fun v402=>iter_raw _ _ _ (T0 a1) _ (fun rec v=>by kernel_rfl) k v402
noncomputable def p (l0:((List UInt8)×Int)->Option Out) (a1:Arg):Option Out:=if 0<=(a1.1.length:Int)/\(a1.1.length:Int)<=(a1.1.length:Int)/\(a1.1.length:Int)<=(CAP:Int) then (l0 (List.replicate (a1.1.length:Int).toNat (0:UInt8),(0:Int))) else none
theorem raw_eq (k:Nat) (a1:Arg):@Eq (Option Out) (D.W k a1) (p (r0 k a1) a1):=
 Eq.trans (b:=p (s0 k a1) a1) (by kernel_rfl) (by rw[s0_eq])
theorem ok:Ok prog 35 D.sig:=fd_ok func35 tlOk (by kernel_rfl) (fn_nil _)
end laws_toByteS
namespace laws_toByteSS
abbrev Arg:Type:=(List (List UInt8))×Unit
abbrev Out:Type:=(List (List UInt8))×Unit
abbrev ps:PQ:=[(.ro,(.slc (.slc u8)))]
noncomputable def D:FD:={ fn:=f57,tl:=TL0,ps:=ps,rs:=[((.slc (.slc u8)),(ownMd (.slc (.slc u8))))],gl:=[(35,laws_toByteS.D.sig)],lv:=[(3,[0,3,4])],lx:=[(0,[3])] }
noncomputable def sem (a:Arg):Option Out:=@lift Out fun k=>D.W k a
noncomputable def T0 (a1:Arg) (v402:(List (List UInt8))×Int):St:={ n:=23,sl:=[(0,.val (.slc (.slc u8)) a1.1),(3,.own (.slc (.slc u8)) (ownMd (.slc (.slc u8))) [] v402.1),(4,.val i64 v402.2)],vr:=[],lent:=[] }
noncomputable def b0 (self:((List (List UInt8))×Int)->Option Out) (e0:(List (List UInt8))->Option Out) (a1:Arg) (v402:(List (List UInt8))×Int):Option Out:=bif decide (v402.2 < (a1.1.length:Int)) then (if 0<=v402.2 then ((a1.1[v402.2.toNat]?).bind fun x603=>(laws_toByteS.sem (x603,())).bind fun r604=>if 0<=v402.2/\v402.2 < (v402.1.length:Int) then ((v402.1[v402.2.toNat]?).bind fun x605=>self (v402.1.set v402.2.toNat r604.1,w64 (v402.2+(1:Int)))) else none) else none) else e0 v402.1
noncomputable abbrev B0 (_:Nat):=b0
noncomputable def q0 (a1:Arg) (z606:(List (List UInt8))):Option Out:=some (z606,())
noncomputable abbrev Q0 (_:Nat):=q0
noncomputable def s0 (k:Nat) (a1:Arg):((List (List UInt8))×Int)->Option Out:=fun v402=>D.L k [1,1,0,1,0,0] [0,3,4] [] (blockC 0 (seqC (D.N k [1,1,1]) D.K0)) (T0 a1 v402)
noncomputable def r0 (k:Nat) (a1:Arg):((List (List UInt8))×Int)->Option Out:=rawIter (fun w v=>B0 k w (Q0 k a1) a1 v) k
theorem s0_eq (k:Nat) (a1:Arg):s0 k a1=r0 k a1:=
 funext fun v402=>iter_raw _ _ _ (T0 a1) _ (fun rec v=>by kernel_rfl) k v402
noncomputable def p (l0:((List (List UInt8))×Int)->Option Out) (a1:Arg):Option Out:=if 0<=(a1.1.length:Int)/\(a1.1.length:Int)<=(a1.1.length:Int)/\(a1.1.length:Int)<=(CAP:Int) then (l0 (List.replicate (a1.1.length:Int).toNat ([]:List UInt8),(0:Int))) else none
theorem raw_eq (k:Nat) (a1:Arg):@Eq (Option Out) (D.W k a1) (p (r0 k a1) a1):=
 Eq.trans (b:=p (s0 k a1) a1) (by kernel_rfl) (by rw[s0_eq])
theorem ok:Ok prog 57 D.sig:=fd_ok func57 tlOk (by kernel_rfl) (fc laws_toByteS.ok (fn_nil _))
end laws_toByteSS
namespace laws_toLog
abbrev Arg:Type:=Log×Unit
abbrev Out:Type:=Log×Unit
abbrev ps:PQ:=[(.ro,tLog)]
noncomputable def D:FD:={ fn:=f58,tl:=TL0,ps:=ps,rs:=[(tLog,(ownMd tLog))],gl:=[(35,laws_toByteS.D.sig)] }
noncomputable def sem (a:Arg):Option Out:=@lift Out fun k=>D.W k a
noncomputable def p (a1:Arg):Option Out:=(laws_toByteS.sem (a1.1.1,())).bind fun r2=>(laws_toByteS.sem (a1.1.2.1,())).bind fun r3=>some ((r2.1,r3.1,()),())
theorem raw_eq (k:Nat) (a1:Arg):@Eq (Option Out) (D.W k a1) (p a1):=by kernel_rfl
theorem ok:Ok prog 58 D.sig:=fd_ok func58 tlOk (by kernel_rfl) (fc laws_toByteS.ok (fn_nil _))
end laws_toLog
namespace laws_toRow
abbrev Arg:Type:=Row×Unit
abbrev Out:Type:=Row×Unit
abbrev ps:PQ:=[(.ro,tRow)]
noncomputable def D:FD:={ fn:=f147,tl:=TL0,ps:=ps,rs:=[(tRow,(roMd tRow))] }
noncomputable def sem (a:Arg):Option Out:=@lift Out fun k=>D.W k a
noncomputable def p (a1:Arg):Option Out:=some ((a1.1.1,a1.1.2.1,a1.1.2.2.1,a1.1.2.2.2.1,()),())
theorem raw_eq (k:Nat) (a1:Arg):@Eq (Option Out) (D.W k a1) (p a1):=by kernel_rfl
theorem ok:Ok prog 147 D.sig:=fd_ok func147 tlOk (by kernel_rfl) (fn_nil _)
end laws_toRow
namespace laws_toChange
abbrev Arg:Type:=Change×Unit
abbrev Out:Type:=Change×Unit
abbrev ps:PQ:=[(.ro,tChange)]
noncomputable def D:FD:={ fn:=f263,tl:=TL0,ps:=ps,rs:=[(tChange,(roMd tChange))],gl:=[(147,laws_toRow.D.sig)] }
noncomputable def sem (a:Arg):Option Out:=@lift Out fun k=>D.W k a
noncomputable def p (a1:Arg):Option Out:=(laws_toRow.sem (a1.1.2.1,())).bind fun r2=>(laws_toRow.sem (a1.1.2.2.2.1,())).bind fun r3=>some ((a1.1.1,r2.1,a1.1.2.2.1,r3.1,()),())
theorem raw_eq (k:Nat) (a1:Arg):@Eq (Option Out) (D.W k a1) (p a1):=by kernel_rfl
theorem ok:Ok prog 263 D.sig:=fd_ok func263 tlOk (by kernel_rfl) (fc laws_toRow.ok (fn_nil _))
end laws_toChange
namespace laws_toChangeS
abbrev Arg:Type:=(List Change)×Unit
abbrev Out:Type:=(List Change)×Unit
abbrev ps:PQ:=[(.ro,(.slc tChange))]
noncomputable def D:FD:={ fn:=f194,tl:=TL0,ps:=ps,rs:=[((.slc tChange),(ownMd (.slc tChange)))],gl:=[(263,laws_toChange.D.sig)],lv:=[(3,[0,3,4])],lx:=[(0,[3])] }
noncomputable def sem (a:Arg):Option Out:=@lift Out fun k=>D.W k a
noncomputable def T0 (a1:Arg) (v402:(List Change)×Int):St:={ n:=23,sl:=[(0,.val (.slc tChange) a1.1),(3,.own (.slc tChange) (ownMd (.slc tChange)) [] v402.1),(4,.val i64 v402.2)],vr:=[],lent:=[] }
noncomputable def b0 (self:((List Change)×Int)->Option Out) (e0:(List Change)->Option Out) (a1:Arg) (v402:(List Change)×Int):Option Out:=bif decide (v402.2 < (a1.1.length:Int)) then (if 0<=v402.2 then ((a1.1[v402.2.toNat]?).bind fun x603=>(laws_toChange.sem (x603,())).bind fun r604=>if 0<=v402.2/\v402.2 < (v402.1.length:Int) then ((v402.1[v402.2.toNat]?).bind fun x605=>self (v402.1.set v402.2.toNat r604.1,w64 (v402.2+(1:Int)))) else none) else none) else e0 v402.1
noncomputable abbrev B0 (_:Nat):=b0
noncomputable def q0 (a1:Arg) (z606:(List Change)):Option Out:=some (z606,())
noncomputable abbrev Q0 (_:Nat):=q0
noncomputable def s0 (k:Nat) (a1:Arg):((List Change)×Int)->Option Out:=fun v402=>D.L k [1,1,0,1,0,0] [0,3,4] [] (blockC 0 (seqC (D.N k [1,1,1]) D.K0)) (T0 a1 v402)
noncomputable def r0 (k:Nat) (a1:Arg):((List Change)×Int)->Option Out:=rawIter (fun w v=>B0 k w (Q0 k a1) a1 v) k
theorem s0_eq (k:Nat) (a1:Arg):s0 k a1=r0 k a1:=
 funext fun v402=>iter_raw _ _ _ (T0 a1) _ (fun rec v=>by kernel_rfl) k v402
noncomputable def p (l0:((List Change)×Int)->Option Out) (a1:Arg):Option Out:=if 0<=(a1.1.length:Int)/\(a1.1.length:Int)<=(a1.1.length:Int)/\(a1.1.length:Int)<=(CAP:Int) then (l0 (List.replicate (a1.1.length:Int).toNat (false,((0:Int),(0:Int),(0:Int),([]:List UInt8),()),false,((0:Int),(0:Int),(0:Int),([]:List UInt8),()),()),(0:Int))) else none
theorem raw_eq (k:Nat) (a1:Arg):@Eq (Option Out) (D.W k a1) (p (r0 k a1) a1):=
 Eq.trans (b:=p (s0 k a1) a1) (by kernel_rfl) (by rw[s0_eq])
theorem ok:Ok prog 194 D.sig:=fd_ok func194 tlOk (by kernel_rfl) (fc laws_toChange.ok (fn_nil _))
end laws_toChangeS
end OT
