/- The proof's parts, merged: Functions  a body that is run on data gives the contract.. No conditions but those that each states. -/
import Derived.Test.YtljankkghppaiaaGreatTc
import Derived.ProofKit
import Derived.Deep.Slices
import Derived.Laws.BitsLemmas
import Derived.Shelf.SlLaysE0
import Derived.Shelf.RegionOpenPlain
import Derived.WalkKit
import Derived.Deep.LoopGhost
import Derived.Deep.RegionLaw
import Derived.Lib.Walk
import Derived.Sort.WalkB12
import Derived.Lib.SliceRun
import Derived.Test.YtljankkghppaiaaGreatProg
import Derived.KernelRfl
set_option linter.unusedVariables false
set_option linter.unusedSimpArgs false
namespace OT
open Go
section
variable {P:Program} {w:World} {A:Cells} {R:Type} {x:R} {E:Env}
theorem init_len:∀ (ps:List (PM×Ty)) (v:(tupT (ps.map (·.2))).den),(initSlots ps v).length=ps.length
 | [],_=>rfl
 | (.ro,t)::ps,v=>by cases t <;> simp[initSlots,init_len ps v.2]
 | (.fix f,t)::ps,v=>by cases t <;> simp[initSlots,init_len ps v.2]
 | (.mutp m,t)::ps,v=>by simp[initSlots,init_len ps v.2]
 | (.muts m,t)::ps,v=>by simp[initSlots,init_len ps v.2]
 | (.eat m,t)::ps,v=>by simp[initSlots,init_len ps v.2]
 | (.eatv m,t)::ps,v=>by simp[initSlots,init_len ps v.2]
theorem args_len:∀ (ps:List (PM×Ty)) {v:(tupT (ps.map (·.2))).den} {xs:List Value} {G:FP},ArgsRel P w A noH ps v xs G->xs.length=ps.length
 | [],_,_,_,h=>by have h:_=[]:=h;rw[h];rfl
 | (pm,t)::ps,_,_,_,h=>by
  obtain ⟨y,ys,F1,F2,rfl,_,_,h2⟩:=h
  simp[args_len ps h2]
theorem init_ok:∀ (ps:List (PM×Ty)) {v:(tupT (ps.map (·.2))).den} {xs:List Value} {G:FP},ArgsRel P w A noH ps v xs G->psOk ps=true ->
  ∃ Fi:Nat->FP,(∀ b k,sumF ps.length Fi b k<=G b k)/\∀ i s,(initSlots ps v)[i]?=some s->∃ y,xs[i]?=some y/\(∀ σ a,SlotRel P A σ a w y s (Fi i))/\(∀ t m H v,s=.box t m H v->(i,i,false) ∈ lentOf 0 ps) /\
   ((i,i,true) ∈ lentOf 0 ps->∃ t m H v,s=.own t m H v):=by
 have main:∀ (ps:List (PM×Ty)) (n:Nat) {v:(tupT (ps.map (·.2))).den} {xs:List Value} {G:FP},ArgsRel P w A noH ps v xs G->psOk ps=true ->
   ∃ Fi:Nat->FP,(∀ b k,sumF ps.length Fi b k<=G b k)/\∀ i s,(initSlots ps v)[i]?=some s->∃ y,xs[i]?=some y/\(∀ σ a,SlotRel P A σ a w y s (Fi i))/\(∀ t m H v,s=.box t m H v->(n+i,n+i,false) ∈ lentOf n ps) /\
    ((n+i,n+i,true) ∈ lentOf n ps->∃ t m H v,s=.own t m H v):=by
  have hlt:∀ (ps:List (PM×Ty)) (n j k:Nat) (c:Bool),(j,k,c) ∈ lentOf n ps->n<=j/\j=k:=by
   intro ps
   induction ps with
   | nil=>intro n j k c h;cases h
   | cons p ps ih=>
    intro n j k c h
    obtain ⟨pm,t⟩:=p
    cases pm with
    | ro=>have:=ih (n+1) j k c h;omega
    | fix f=>have:=ih (n+1) j k c h;omega
    | eatv m=>have:=ih (n+1) j k c h;omega
    | mutp m=>
     rcases List.mem_cons.1 h with e | h
     ·injection e with e1 e2;injection e2 with e2 e3;omega
     ·have:=ih (n+1) j k c h;omega
    | eat m=>
     rcases List.mem_cons.1 h with e | h
     ·injection e with e1 e2;injection e2 with e2 e3;omega
     ·have:=ih (n+1) j k c h;omega
    | muts m=>
     rcases List.mem_cons.1 h with e | h
     ·injection e with e1 e2;injection e2 with e2 e3;omega
     ·have:=ih (n+1) j k c h;omega
  intro ps
  induction ps with
  | nil=>intro n v xs G h _;exact ⟨fun _ _ _=>0,fun b k=>Nat.zero_le _,fun i s hs=>by cases hs⟩
  | cons p ps ih=>
   intro n v xs G h hp
   obtain ⟨pm,t⟩:=p
   obtain ⟨y,ys,F1,F2,rfl,hs,ha,hr⟩:=h
   have hp':psOk ps=true:=hp
   obtain ⟨Fi,g1,g2⟩:=ih (n+1) hr hp'
   obtain ⟨s0,hs0,hrel,hbox,hown⟩:∃ s0,initSlots ((pm,t)::ps) v=s0::initSlots ps v.2/\(∀ σ a,SlotRel P A σ a w y s0 F1)/\(∀ t' m' H' v',s0=.box t' m' H' v'->∃ m,pm=.mutp m\/pm=.eat m)/\((∃ m,pm=.muts m)->∃ t' m H v,s0=.own t' m H v):=by
    cases pm with
    | ro=>
     obtain ⟨cs,h1,h2⟩:=ha
     cases t with
     | ptr e=>
      refine ⟨.cp e v.1,rfl,fun σ a=>?_,(fun _ _ _ _ e=>by cases e),fun ⟨m,e⟩=>by cases e⟩
      have hl:=Ro.length _ h2
      match cs,hl with
      | [u],_=>
       rw[mkV_one _ _ rfl] at h1
       subst h1
       exact h2
     | _=>exact ⟨.val _ v.1,rfl,fun σ a=>⟨cs,h1,h2⟩,(fun _ _ _ _ e=>by cases e),fun ⟨m,e⟩=>by cases e⟩
    | fix f=>
     obtain ⟨⟨cs,h1,h2⟩,h3⟩:=ha
     cases t with
     | fn=>
      refine ⟨.val .fn (f,v.1.2),rfl,fun σ a=>⟨cs,h1,?_⟩,(fun _ _ _ _ e=>by cases e),fun ⟨m,e⟩=>by cases e⟩
      have e:v.1=(f,v.1.2):=by have:=h3 rfl;rw[<-this]
      rw[<-e];exact h2
     | _=>exact ⟨.dead,rfl,fun σ a=>trivial,(fun _ _ _ _ e=>by cases e),fun ⟨m,e⟩=>by cases e⟩
    | mutp m=>
     obtain ⟨b,o,L,F3,h1,h2,h3,h4,h5,h6⟩:=ha
     exact ⟨.box t m [] v.1,rfl,fun σ a=>⟨b,o,L,F3,h1,h2,h3,h4,h5,h6⟩,fun _ _ _ _ _=>⟨m,.inl rfl⟩,fun ⟨m,e⟩=>by cases e⟩
    | eat m=>
     obtain ⟨b,o,L,F3,h1,h2,h3,h4,h5,h6⟩:=ha
     exact ⟨.box t m [] v.1,rfl,fun σ a=>⟨b,o,L,F3,h1,h2,h3,h4,h5,h6⟩,fun _ _ _ _ _=>⟨m,.inr rfl⟩,fun ⟨m,e⟩=>by cases e⟩
    | muts m=>
     obtain ⟨cs,h1,h2⟩:=ha
     exact ⟨.own t m [] v.1,rfl,fun σ a=>⟨cs,h1,h2⟩,(fun _ _ _ _ e=>by cases e),fun _=>⟨_,_,_,_,rfl⟩⟩
    | eatv m=>
     obtain ⟨H,cs,hH,h1,h2⟩:=ha
     obtain rfl:=List.isEmpty_iff.1 hH
     exact ⟨.own t m [] v.1,rfl,fun σ a=>⟨cs,h1,h2⟩,(fun _ _ _ _ e=>by cases e),fun _=>⟨_,_,_,_,rfl⟩⟩
   refine ⟨fun k=>match k with | 0=>F1 | k+1=>Fi k,fun b k=>?_,fun i s hi=>?_⟩
   ·have:sumF (ps.length+1) (fun k=>match k with | 0=>F1 | k+1=>Fi k) b k=F1 b k+sumF ps.length Fi b k:=by
     rw[Nat.add_comm,sumF_add]
     congr 1
     ·simp[sumF]
     ·refine congrFun (congrFun (sumF_congr fun j hj=>?_) b) k
      rw[Nat.add_comm]
    show sumF (ps.length+1) _ b k<=G b k
    rw[this]
    have:=hs b k;have:=g1 b k;omega
   ·rw[hs0] at hi
    cases i with
    | zero=>
     injection hi with hi
     subst hi
     refine ⟨y,rfl,hrel,fun t' m' H' v' e=>?_,fun hm=>?_⟩
     ·obtain ⟨m,rfl | rfl⟩:=hbox t' m' H' v' e
      ·exact List.mem_cons_self
      ·exact List.mem_cons_self
     ·refine hown ?_
      cases pm with
      | muts m=>exact ⟨m,rfl⟩
      | ro=>have:=hlt ps (n+1) _ _ _ hm;omega
      | fix f=>have:=hlt ps (n+1) _ _ _ hm;omega
      | eatv m=>have:=hlt ps (n+1) _ _ _ hm;omega
      | mutp m=>
       rcases List.mem_cons.1 hm with e | hm
       ·injection e with e1 e2;injection e2 with e2 e3;cases e3
       ·have:=hlt ps (n+1) _ _ _ hm;omega
      | eat m=>
       rcases List.mem_cons.1 hm with e | hm
       ·injection e with e1 e2;injection e2 with e2 e3;cases e3
       ·have:=hlt ps (n+1) _ _ _ hm;omega
    | succ i=>
     obtain ⟨y',q1,q2,q3,q4⟩:=g2 i s hi
     have hidx:n+1+i=n+(i+1):=by omega
     rw[hidx] at q3 q4
     refine ⟨y',q1,q2,fun t' m' H' v' e=>?_,fun hm=>q4 ?_⟩
     ·have:=q3 t' m' H' v' e
      cases pm with
      | ro=>exact this
      | fix f=>exact this
      | eatv m=>exact this
      | mutp m=>exact List.mem_cons_of_mem _ this
      | eat m=>exact List.mem_cons_of_mem _ this
      | muts m=>exact List.mem_cons_of_mem _ this
     ·cases pm with
      | ro=>exact hm
      | fix f=>exact hm
      | eatv m=>exact hm
      | mutp m=>
       rcases List.mem_cons.1 hm with e | hm
       ·injection e with e1 e2;omega
       ·exact hm
      | eat m=>
       rcases List.mem_cons.1 hm with e | hm
       ·injection e with e1 e2;omega
       ·exact hm
      | muts m=>
       rcases List.mem_cons.1 hm with e | hm
       ·injection e with e1 e2;omega
       ·exact hm
 intro ps v xs G h hp
 obtain ⟨Fi,g1,g2⟩:=main ps 0 h hp
 exact ⟨Fi,g1,fun i s hi=>by simpa using g2 i s hi⟩
theorem lent_idx:∀ (ps:List (PM×Ty)) (n j k:Nat) (c:Bool),(j,k,c) ∈ lentOf n ps->n<=j/\j=k/\j < n+ps.length:=by
 intro ps
 induction ps with
 | nil=>intro n j k c h;cases h
 | cons p ps ih=>
  intro n j k c h
  obtain ⟨pm,t⟩:=p
  simp only[List.length_cons]
  cases pm with
  | ro=>have:=ih (n+1) j k c h;omega
  | fix f=>have:=ih (n+1) j k c h;omega
  | eatv m=>have:=ih (n+1) j k c h;omega
  | mutp m=>
   rcases List.mem_cons.1 h with e | h
   ·injection e with e1 e2;injection e2 with e2 e3;omega
   ·have:=ih (n+1) j k c h;omega
  | eat m=>
   rcases List.mem_cons.1 h with e | h
   ·injection e with e1 e2;injection e2 with e2 e3;omega
   ·have:=ih (n+1) j k c h;omega
  | muts m=>
   rcases List.mem_cons.1 h with e | h
   ·injection e with e1 e2;injection e2 with e2 e3;omega
   ·have:=ih (n+1) j k c h;omega
theorem look_num:∀ (ss:List Slot) (n i:Nat),lookN (numbered n ss) i=if n<=i then ss[i - n]? else none
 | [],n,i=>by simp[numbered,lookN]
 | s::ss,n,i=>by
  simp only[numbered,lookN,look_num ss (n+1) i]
  by_cases hi:n=i
  ·subst hi;simp
  ·have:Nat.beq n i=false:=by
    cases hb:Nat.beq n i with
    | false=>rfl
    | true=>exact absurd (Nat.eq_of_beq_eq_true hb) hi
   simp only[this,Bool.false_eq_true,if_false]
   by_cases hle:n<=i
   ·rw[if_pos (by omega),if_pos hle]
    have e:i - n=(i - (n+1))+1:=by omega
    rw[e,List.getElem?_cons_succ]
   ·rw[if_neg (by omega),if_neg hle]
theorem begin_ok {g:Sig} {v:(tupT (g.ps.map (·.2))).den} {xs:List Value} {F0:FP} {n:Nat} (h:ArgsRel P w A noH g.ps v xs F0) (hp:psOk g.ps=true) (hn:g.ps.length<=n) (h1:∀ b i,F0 b i<=1) (h2:∀ b i,1<=F0 b i->¬ A b i) (h3:∀ b i,1<=F0 b i\/A b i->b < w.heap.size) :
  ∃ F,Rel0 P { w0:=w,A0:=A,F0:=F0,args:=xs.toArray } A (initSt g.ps v n) { tmps:=xs.toArray++Array.replicate (n - xs.toArray.size) undef,defers:=[] } w F:=by
 obtain ⟨Fi,g1,g2⟩:=init_ok g.ps h hp
 have hlen:=args_len g.ps h
 have hil:=init_len g.ps v
 have hget:∀ i,(initSt g.ps v n).get i=if i < n then (match (initSlots g.ps v)[i]? with | some s=>s | none=>.dead) else .dead:=fun i=>by
  unfold St.get initSt
  simp only[look_num,Nat.zero_le,if_true,Nat.sub_zero]
  by_cases hi:i < n
  ·rw[if_pos (by simpa [Nat.blt_eq] using hi),if_pos hi]
   rfl
  ·rw[if_neg (by simpa [Nat.blt_eq] using hi),if_neg hi]
 have htmp:∀ i (y:Value),xs[i]?=some y->tmp { tmps:=xs.toArray++Array.replicate (n - xs.toArray.size) undef,defers:=[] } i=y:=fun i y hy=>by
  have hi:=(List.getElem?_eq_some_iff.1 hy).1
  unfold tmp
  rw[Array.getD_eq_getD_getElem?,Array.getElem?_append_left (by simpa using hi)]
  simp[hy]
 have hsum:∀ b k,sumF n (fun i=>if i < g.ps.length then Fi i else fun _ _=>0) b k<=F0 b k:=fun b k=>by
  have e:n=g.ps.length+(n - g.ps.length):=by omega
  rw[e,sumF_add]
  have e1:=congrFun (congrFun (sumF_congr (n:=g.ps.length) (f:=fun i=>if i < g.ps.length then Fi i else fun _ _=>0) (g:=Fi) (fun j hj=>by simp only[if_pos hj])) b) k
  have e2:=congrFun (congrFun (sumF_congr (n:=n - g.ps.length) (f:=fun j=>(fun i=>if i < g.ps.length then Fi i else fun _ _=>0) (g.ps.length+j)) (g:=fun _ _ _=>0) (fun j hj=>by simp only;rw[if_neg (by omega)])) b) k
  rw[e1,e2,sumF_zero]
  exact g1 b k
 refine ⟨fun i=>if i < g.ps.length then Fi i else fun _ _=>0,?_,rfl,fun i hi=>?_,(fun d r p snap hm=>by cases hm),fun b k=>?_,fun b k hp=>?_,fun b k hp=>?_,fun i=>rfl,Ext.refl _ _,fun b k hp=>?_,fun _ _ h=>h,fun _ _ h=>.inl h,fun j k hm=>?_,fun r t m H v' hg hl=>?_,fun j k hm R hR=>?_⟩
 ·simp only[Array.size_append,List.size_toArray,Array.size_replicate,hlen,initSt];omega
 ·rw[hget]
  have hi:i < n:=hi
  rw[if_pos hi]
  cases hs:(initSlots g.ps v)[i]? with
  | none=>trivial
  | some s=>
   obtain ⟨y,q1,q2,_⟩:=g2 i s hs
   have hlt:i < g.ps.length:=by rw[<-hil];exact (List.getElem?_eq_some_iff.1 hs).1
   rw[htmp i y q1]
   simp only[if_pos hlt]
   exact q2 _ _
 ·have:=hsum b k;have:=h1 b k;show 0+sumF n _ b k<=1;omega
 ·have hp:1<=0+sumF n (fun i=>if i < g.ps.length then Fi i else fun _ _=>0) b k:=hp
  have:=hsum b k
  exact h2 b k (by omega)
 ·refine h3 b k (hp.imp (fun hp=>?_) id)
  have hp:1<=0+sumF n (fun i=>if i < g.ps.length then Fi i else fun _ _=>0) b k:=hp
  have:=hsum b k
  omega
 ·have hp:1<=0+sumF n (fun i=>if i < g.ps.length then Fi i else fun _ _=>0) b k:=hp
  have:=hsum b k
  left;show 1<=F0 b k;omega
 ·obtain ⟨_,rfl,hj⟩:=lent_idx g.ps 0 j k false hm
  have hj:j < xs.length:=by omega
  rw[htmp j xs[j] (List.getElem?_eq_getElem hj)]
  simp[hj]
 ·exfalso
  rw[hget] at hg
  split at hg
  ·cases hs:(initSlots g.ps v)[r]? with
   | none=>rw[hs] at hg;cases hg
   | some s=>
    rw[hs] at hg
    obtain ⟨y,_,_,q3,_⟩:=g2 r s hs
    exact hl r (q3 t m H v' hg)
  ·cases hg
 ·obtain ⟨_,rfl,hj⟩:=lent_idx g.ps 0 j k true hm
  have hj':j < (initSlots g.ps v).length:=by omega
  have hs:=List.getElem?_eq_getElem hj'
  obtain ⟨y,q1,q2,_,q4⟩:=g2 j _ hs
  obtain ⟨t,m,H,v',e⟩:=q4 hm
  have hjn:j < n:=by omega
  rw[hget,if_pos hjn,hs] at hR
  simp only[e,rootPl,Option.some.injEq] at hR
  subst hR
  rw[htmp j y q1]
  have h2:=q2 (initSt g.ps v n) { tmps:=#[],defers:=[] }
  rw[e] at h2
  obtain ⟨cs,c1,c2⟩:=h2
  have:=mkV_cells (Rep.length _ c2) (Rep.one _ c2)
  show mkV t y.cells.toList=_
  rw[c1,this,<- c1]
  have hjx:=(List.getElem?_eq_some_iff.1 q1)
  obtain ⟨hjx,e2⟩:=hjx
  simp[hjx,e2]
noncomputable def funOk (P:Program) (E:Env) (fn:Func) (ps:List (PM×Ty)) (rs:List (Ty×Md)) (es:List Nat):Bool:=
 codeOk P E (bodyOf fn)&&rvOk E rs fn.results.toList&&psOk ps&&Nat.ble ps.length fn.ntmps&&decide es.Nodup
theorem sound_of_body (hE:EnvOk P E) {f:FuncId} {fn:Func} (hf:P.funcs[f]?=some fn) (hb:fn.body.isSome=true) {g:Sig} (hh:∀ v H,g.hol v H=true->H=[]) {es fr:List Nat} (hok:funOk P E fn g.ps g.rs es=true) (hF:∀ v out,g.F v=some out->∃ k,bodyK E k fn g.ps g.rs es fr v=some out):Sound P f g:=by
 intro w A F0 v xs hargs h1 h2 h3 out hout
 replace hargs:=hargs.none (hh v)
 obtain ⟨k,hk⟩:=hF v out hout
 simp only[funOk,Bool.and_eq_true,Nat.ble_eq,decide_eq_true_eq] at hok
 obtain ⟨⟨⟨⟨hcode,hrv⟩,hps⟩,hnt⟩,hnd⟩:=hok
 obtain ⟨c,hc⟩:=Option.isSome_iff_exists.1 hb
 have hbo:bodyOf fn=c:=by simp[bodyOf,hc]
 rw[hbo] at hcode
 obtain ⟨F,hrel⟩:=begin_ok hargs hps hnt h1 h2 h3
 unfold bodyK at hk
 rw[hbo] at hk
 have hxl:=args_len g.ps hargs
 have hend:∀ (a':Act) (w':World) (σ':St),outK g.ps g.rs es fn.results.toList (mvs fr) σ'=some out->RelE P { w0:=w,A0:=A,F0:=F0,args:=xs.toArray } σ' a' w' ->
   a'.defers=[]/\∃ rv,(results fn a'.tmps).run P w'=.ok rv w'/\(∃ rv',Ending.returned rv=.returned rv'/\Ext w w' F0/\∃ (A':Cells) (G GR GM:FP),(∀ b i,A b i->A' b i)/\(∀ b i,A' b i->A b i\/1<=F0 b i\/w.heap.size<=b) /\
    (∀ b i,1<=G b i->1<=F0 b i\/w.heap.size<=b)/\(∀ b i,G b i<=1)/\(∀ b i,1<=G b i->¬ A' b i)/\(∀ b i,1<=G b i\/A' b i->b < w'.heap.size)/\(∀ b i,GR b i+GM b i<=G b i) /\
    RetRel P w' A' (splitR g.rs out).1 rv' GR/\MutsRel P w' A' g.ps (splitR g.rs out).2 xs GM):=by
  intro a' w' σ' ho hr
  obtain ⟨A1,F1,hr⟩:=hr
  unfold outK at ho
  obtain ⟨A2,σ2,X2,F2,vals,L,Fi,pre,r1,r2,r3,r4,r5,r6,r7,r8,r9⟩:=res_ok hE g.rs fn.results.toList 0 hrv hr ho
  obtain ⟨vs,us,Gi,m1,m2,m3,m4,m5,m6⟩:=muts_ok r2 0 g.ps es hps hnd (by simp[hxl]) r3
  have hpre:pre vs=out:=Option.some.inj m1
  have hsp:splitR g.rs out=(L,vs):=by rw[<-hpre,r4]
  have hGR:∀ b i,sumF L.length Fi b i<=X2 b i:=fun b i=>by have:=r8 b i;omega
  have hGM0:∀ b i,sumL Gi us b i<=sumL F2 us b i:=fun b i=>by
   have:∀ l:List Nat,(∀ j ∈ l,j ∈ us)->sumL Gi l b i<=sumL F2 l b i:=by
    intro l
    induction l with
    | nil=>intro _;exact Nat.le_refl _
    | cons j l ih=>
     intro hl
     have:=m5 j b i (hl j List.mem_cons_self)
     have:=ih fun j' hj'=>hl j' (List.mem_cons_of_mem _ hj')
     simp only[sumL];omega
   exact this us fun _ h=>h
  have hGM:∀ b i,sumL Gi us b i<=sumF σ2.n F2 b i:=fun b i=>Nat.le_trans (hGM0 b i) (sumL_le us F2 m3 m4 b i)
  refine ⟨r2.defers,_,results_run (by rw[r6]) r7,_,rfl,r2.ext,?_⟩
  obtain ⟨A3,hA3⟩:∃ A3:Cells,∀ b i,A3 b i↔(A2 b i\/(1<=X2 b i+sumF σ2.n F2 b i/\sumF L.length Fi b i+sumL Gi us b i=0)):=⟨fun b i=>A2 b i\/(1<=X2 b i+sumF σ2.n F2 b i/\sumF L.length Fi b i+sumL Gi us b i=0),fun _ _=>Iff.rfl⟩
  have hA23:∀ b i,A2 b i->A3 b i:=fun b i h=>(hA3 b i).2 (.inl h)
  have htot:∀ b i,X2 b i+sumF σ2.n F2 b i<=1:=fun b i=>r2.tot b i
  refine ⟨A3,fun b i=>sumF L.length Fi b i+sumL Gi us b i,sumF L.length Fi,sumL Gi us,fun b i ha=>hA23 b i (r2.a0 b i ha),fun b i ha=>?_,fun b i hp=>?_,fun b i=>?_,fun b i hp ha=>?_,fun b i hp=>?_,fun _ _=>Nat.le_refl _,?_,?_⟩
  ·rcases (hA3 b i).1 ha with ha | ⟨hp,_⟩
   ·exact r2.a1 b i ha
   ·exact .inr (r2.own b i hp)
  ·have hp:1<=sumF L.length Fi b i+sumL Gi us b i:=hp
   exact r2.own b i (by have:=hGR b i;have:=hGM b i;omega)
  ·show sumF L.length Fi b i+sumL Gi us b i<=1
   have:=hGR b i;have:=hGM b i;have:=htot b i;omega
  ·have hp:1<=sumF L.length Fi b i+sumL Gi us b i:=hp
   rcases (hA3 b i).1 ha with ha | ⟨_,hz⟩
   ·exact r2.dis b i (by have:=hGR b i;have:=hGM b i;omega) ha
   ·omega
  ·rcases hp with hp | ha
   ·have hp:1<=sumF L.length Fi b i+sumL Gi us b i:=hp
    exact r2.bnd b i (.inl (by have:=hGR b i;have:=hGM b i;omega))
   ·rcases (hA3 b i).1 ha with ha | ⟨hp,_⟩
    ·exact r2.bnd b i (.inr ha)
    ·exact r2.bnd b i (.inl hp)
  ·rw[hsp]
   have hres:=r9 A3 hA23 (fun b i hx _ hz=>(hA3 b i).2 (.inr ⟨by omega,by
    have:=hGM b i;have:=htot b i;omega⟩))
   show RetRel P w' A3 L _ _
   match L,r5,hres with
   | [],_,_=>trivial
   | [y],hl,hres=>
    match vals,hl with
    | [u],_=>
     obtain ⟨u',cs,e1,e2,e3⟩:=hres 0 y rfl
     injection e1 with e1
     subst e1
     refine ⟨cs,by simpa using e2,e3.le fun b i=>by simp[sumF]⟩
   | y::z::L,hl,hres=>
    refine ⟨vals.toArray,Fi,?_,fun _ _=>Nat.le_refl _,fun j q hq=>?_⟩
    ·rw[dif_neg]
     simp only[List.size_toArray,hl,List.length_cons];omega
    ·obtain ⟨u,cs,e1,e2,e3⟩:=hres j q hq
     exact ⟨u,cs,by simpa using e1,e2,e3⟩
  ·rw[hsp]
   refine m6 A3 hA23 fun i b k' hi hp hz=>(hA3 b k').2 (.inr ⟨by have:=le_sumF F2 (m4 i hi) b k';omega,?_⟩)
   have h4:=le_sumF F2 (m4 i hi) b k'
   have h5:=htot b k'
   have h6:=hGR b k'
   have h7:sumL Gi us b k'=0:=by
    rcases Nat.eq_zero_or_pos (sumL Gi us b k') with h0 | h0
    ·exact h0
    ·obtain ⟨j,hj,hpj⟩:=sumL_pos h0
     by_cases hij:j=i
     ·subst hij;omega
     ·have:=m5 j b k' hj
      have:=le_sumF2 F2 (m4 j hj) (m4 i hi) hij b k'
      omega
   omega
 refine calls_of_wp hf hc (wp_mono (code_ok hE c hcode hrel hk) fun e a' w' hq=>?_)
 cases e with
 | normal=>obtain ⟨σ',h4,h5⟩:=hq;exact hend a' w' σ' h4 h5
 | ret=>obtain ⟨σ',h4,h5⟩:=hq;exact hend a' w' σ' h4 h5
 | exit j=>obtain ⟨σ',h4,h5⟩:=hq;cases h4
 | _=>exact hq.elim
end
end OT
set_option linter.unusedVariables false
set_option linter.unusedSimpArgs false
namespace OT
open Go
def OLD (w:World):Cells:=fun b _=>b < w.heap.size
def argT:Ty->Bool
 | .int _ | .bool | .str | .unit=>true
 | .pair a b=>argT a&&argT b
 | .slc e=>argT e
 | _=>false
def okD:(T:Ty)->T.den->Prop
 | .int k,n=>k.min<=toI k n/\toI k n<=k.max
 | .str,s=>List.length s<=maxLen
 | .pair a b,v=>okD a v.1/\okD b v.2
 | .slc e,v=>List.length v<=maxLen/\∀ x ∈ (v:List e.den),okD e x
 | _,_=>True
def okA:(ps:List (PM×Ty))->(tupT (ps.map (·.2))).den->Prop
 | [],_=>True
 | (_,T)::ps,v=>okD T v.1/\okA ps v.2
section
variable {P:Program} {w:World} {H:Type} {enc:TypeId×Value->H}
theorem cells_sz {T:Ty} {i:TypeId} (h:layB P T (.inl i)=true):P.cellsOf i=T.sz:=by
 obtain ⟨inf,h1,h2,_⟩:=infoOk_some (layB_info h)
 simp[Program.cellsOf,h1,h2]
theorem add_none {a:Addr} {k:Nat} {u:Value} (h:w.cell? (a.add k)=some u) (hk:k=0\/a.spot=none):a.spot=none:=by
 rcases hk with rfl | hk
 ·unfold Addr.add at h
  rw[if_pos rfl] at h
  unfold World.cell? at h
  split at h
  ·split at h
   ·cases h
   ·rename_i hs
    cases hsp:a.spot with
    | none=>rfl
    | some s=>rw[hsp] at hs;simp at hs
  ·cases h
 ·exact hk
theorem trod_ro:∀ (T:Ty),argT T=true ->
  (∀ i,layB P T (.inl i)=true->∀ fuel cs x,DataW.trod enc P w 0 (fun _=>true) true fuel i cs=some x->∃ v:T.den,okD T v/\Ro P w (OLD w) T v cs) /\
  (∀ fs off,layB P T (.inr (fs,off))=true->∀ n (cs:List Value),cs.length=off+T.sz->(∀ f ∈ fs,∃ x,DataW.trod enc P w 0 (fun _=>true) true n f.type ((cs.drop f.offset).take (P.cellsOf f.type))=some x)->∃ v:T.den,okD T v/\Ro P w (OLD w) T v (cs.drop off)):=by
 intro T
 induction T with
 | int k=>
  intro _
  refine ⟨fun i hl fuel cs x h=>?_,fun fs off hl=>by simp[layB] at hl⟩
  obtain ⟨n,rfl,_,hwf⟩:=DataW.trod_int (lay_int hl) h
  simp only[Lit.wf,Bool.and_eq_true,decide_eq_true_eq] at hwf
  cases k with
  | u8=>
   have h1:toI .u8 (UInt8.ofInt n)=n:=by
    have:=toI_inI .u8 n (fun _=>by
     have h1:(0:Int)<=n:=hwf.1
     have h2:n<=(255:Int):=hwf.2
     omega)
    exact this
   refine ⟨(UInt8.ofInt n:UInt8),?_,?_⟩
   ·show IntKind.u8.min<=toI .u8 (UInt8.ofInt n)/\toI .u8 (UInt8.ofInt n)<=IntKind.u8.max
    rw[h1];exact hwf
   ·show [Value.int .u8 n]=[Value.int .u8 (toI .u8 (UInt8.ofInt n))]
    rw[h1]
  | _=>exact ⟨n,hwf,rfl⟩
 | bool=>
  intro _
  refine ⟨fun i hl fuel cs x h=>?_,fun fs off hl=>by simp[layB] at hl⟩
  have hu:P.underlying i=some .bool:=by
   simp only[layB,Bool.and_eq_true] at hl
   have h2:=hl.2
   split at h2
   ·assumption
   ·cases h2
  obtain ⟨b,rfl,_⟩:=DataW.trod_bool hu h
  exact ⟨b,trivial,rfl⟩
 | str=>
  intro _
  refine ⟨fun i hl fuel cs x h=>?_,fun fs off hl=>by simp[layB] at hl⟩
  obtain ⟨s,rfl,_,hsm⟩:=DataW.trod_string (lay_str hl) h
  exact ⟨s.data.toList,(by show s.data.toList.length<=maxLen;rw[Array.length_toList];exact hsm),by simp only[Ro]⟩
 | unit=>
  intro _
  refine ⟨fun i hl fuel cs x h=>?_,fun fs off hl n cs hlen _=>⟨(),trivial,?_⟩⟩
  ·simp only[layB,Bool.and_eq_true] at hl
   have h2:=hl.2
   split at h2
   ·rename_i fs hu
    obtain ⟨xs,n,_,_,hlen,_⟩:=DataW.trod_struct hu h
    have hsz:P.cellsOf i=0:=by
     obtain ⟨inf,h1,h3,_⟩:=infoOk_some hl.1
     simp[Program.cellsOf,h1,h3,Ty.sz]
    rw[hsz] at hlen
    exact ⟨(),trivial,by simp only[Ro];exact List.eq_nil_of_length_eq_zero hlen⟩
   ·cases h2
  ·simp only[Ro]
   exact List.drop_of_length_le (by simp only[Ty.sz] at hlen;omega)
 | pair a b iha ihb=>
  intro ha
  simp only[argT,Bool.and_eq_true] at ha
  have hinr:∀ fs off,layB P (.pair a b) (.inr (fs,off))=true->∀ n (cs:List Value),cs.length=off+(Ty.pair a b).sz->(∀ f ∈ fs,∃ x,DataW.trod enc P w 0 (fun _=>true) true n f.type ((cs.drop f.offset).take (P.cellsOf f.type))=some x)->∃ v:(Ty.pair a b).den,okD (.pair a b) v/\Ro P w (OLD w) (.pair a b) v (cs.drop off):=by
   intro fs off hl n cs hlen hf
   cases fs with
   | nil=>simp[layB] at hl
   | cons f r=>
    simp only[layB,Bool.and_eq_true,Nat.beq_eq,Nat.ble_eq] at hl
    obtain ⟨⟨⟨ho,_⟩,h1⟩,h2⟩:=hl
    simp only[Ty.sz] at hlen
    obtain ⟨x,hx⟩:=hf f List.mem_cons_self
    rw[ho,cells_sz h1] at hx
    obtain ⟨v1,o1,r1⟩:=(iha ha.1).1 _ h1 _ _ _ hx
    obtain ⟨v2,o2,r2⟩:=(ihb ha.2).2 r (off+a.sz) h2 n cs (by omega) (fun f' hf'=>hf f' (List.mem_cons_of_mem _ hf'))
    exact ⟨(v1,v2),⟨o1,o2⟩,r1,by rw[List.drop_drop];exact r2⟩
  refine ⟨fun i hl fuel cs x h=>?_,hinr⟩
  have hl0:=hl
  simp only[layB,Bool.and_eq_true] at hl
  have h2:=hl.2
  split at h2
  ·rename_i fs hu
   split at h2
   ·rename_i f r hfs
    have h3:layB P (.pair a b) (.inr (f::r,0))=true:=by
     simp only[layB,Nat.zero_add];exact h2
    obtain ⟨xs,n,_,_,hlen,hxl,hfields⟩:=DataW.trod_struct hu h
    rw[cells_sz hl0] at hlen
    have:=hinr (f::r) 0 h3 n cs (by omega) (fun f' hf'=>by
     rw[<-hfs] at hf'
     obtain ⟨j,hj,e⟩:=List.mem_iff_getElem.1 hf'
     have hj':j < fs.size:=by simpa using hj
     have:=hfields j f' (by rw[Array.getElem?_eq_getElem hj'];simpa using e)
     rw[this,List.getElem?_eq_getElem (by omega)]
     exact ⟨_,rfl⟩)
    simpa using this
   ·cases h2
  ·cases h2
 | slc e ih=>
  intro ha
  simp only[argT] at ha
  refine ⟨fun i hl fuel cs x h=>?_,fun fs off hl=>by simp[layB] at hl⟩
  obtain ⟨el,hu,hsz,hle⟩:=lay_slc hl
  rcases DataW.trod_slice hu h with ⟨rfl,_⟩ | ⟨a,len,cap,elems,rest,n,_,rfl,_,_,hlc,hcm,hel,hels,hrest,_⟩
  ·exact ⟨[],⟨Nat.zero_le _,fun x hx=>by cases hx⟩,none,0,rfl,Nat.le_refl _,fun _=>rfl,fun ad e=>by cases e⟩
  ·rw[cells_sz hle] at hels hrest
   have hcell:∀ k y,(w.cells? 0 (a.add (k*e.sz)) e.sz).bind (DataW.trod enc P w 0 (fun _=>true) true n el)=some y->∃ cs',w.cells? 0 (a.add (k*e.sz)) e.sz=some cs'/\DataW.trod enc P w 0 (fun _=>true) true n el cs'=some y:=fun k y hk=>by
    cases hc:w.cells? 0 (a.add (k*e.sz)) e.sz with
    | none=>rw[hc] at hk;cases hk
    | some cs'=>rw[hc] at hk;exact ⟨cs',rfl,hk⟩
   have hspot:0 < cap->a.spot=none:=fun hpos=>by
    have hfirst:∃ cs',w.cells? 0 (a.add (0*e.sz)) e.sz=some cs':=by
     by_cases hlen:0 < len
     ·have h0:=hels 0 hlen
      rw[List.getElem?_eq_getElem (by omega)] at h0
      obtain ⟨cs',h1,_⟩:=hcell 0 _ h0
      exact ⟨cs',h1⟩
     ·obtain rfl:len=0:=by omega
      obtain ⟨hr1,hr2⟩:=hrest rfl
      have h0:=hr2 0 (by omega)
      rw[List.getElem?_eq_getElem (by omega)] at h0
      obtain ⟨cs',h1,_⟩:=hcell (0+0) _ h0
      exact ⟨cs',by simpa using h1⟩
    obtain ⟨cs',h1⟩:=hfirst
    obtain ⟨_,hl1,h2⟩:=World.cells?_some h1
    have h3:=h2 0 (by omega)
    rw[List.getElem?_eq_getElem (by omega),Nat.zero_mul] at h3
    have h4:(a.add 0).add 0=a.add 0:=by unfold Addr.add;simp
    rw[h4] at h3
    exact add_none h3 (.inl rfl)
   have each:∀ k:Fin len,∃ v:e.den,okD e v/\∃ L:List Value,L.length=e.sz/\(∀ j u,L[j]?=some u->ce w a.block (a.off+k.val*e.sz+j)=some u/\OLD w a.block (a.off+k.val*e.sz+j))/\Ro P w (OLD w) e v L:=fun k=>by
    have h0:=hels k.val k.isLt
    rw[List.getElem?_eq_getElem (by have:=k.isLt;omega)] at h0
    obtain ⟨cs',h1,h2⟩:=hcell k.val _ h0
    obtain ⟨v,ho,hv⟩:=(ih ha).1 _ hle _ _ _ h2
    obtain ⟨_,hl1,h3⟩:=World.cells?_some h1
    refine ⟨v,ho,cs',hl1,fun j u hu=>?_,hv⟩
    have hj:=(List.getElem?_eq_some_iff.1 hu).1
    have h4:=h3 j (by omega)
    rw[hu] at h4
    have hsp:=hspot (by have:=k.isLt;omega)
    obtain ⟨b,off,sp⟩:=a
    simp only at hsp
    subst hsp
    rw[addr_add,addr_add] at h4
    have h5:ce w b (off+k.val*e.sz+j)=some u:=cell_ce h4 (Ro.one e hv u (List.mem_of_getElem? hu))
    exact ⟨h5,ce_lt h5⟩
   obtain ⟨f,hf⟩:=Classical.axiomOfChoice each
   refine ⟨List.ofFn f,⟨by simp;omega,fun x hx=>?_⟩,some a,cap,by simp,by simpa using hlc,(fun e=>by cases e),fun ad e=>?_⟩
   ·obtain ⟨j,rfl⟩:=List.mem_ofFn.1 hx
    exact (hf j).1
   injection e with e
   subst e
   refine ⟨hspot,fun k y hk=>?_⟩
   rw[List.getElem?_ofFn] at hk
   split at hk
   ·rename_i hlt
    injection hk with hk
    subst hk
    exact (hf ⟨k,hlt⟩).2
   ·cases hk
 | _=>intro ha;simp[argT] at ha
theorem arg_val {T:Ty} (ha:argT T=true) {i:TypeId} (hl:layB P T (.inl i)=true) {r:Reach} {b0:Nat} {v:Value} (h:Value.okWide P w r b0 i v):v=mkV T v.cells.toList:=by
 cases T with
 | int k=>
  have hu:=lay_int hl
  cases v <;> simp[Value.okWide,Cell.okWide,Cell.ok,hu] at h <;> simp[mkV,isAgg,Value.cells]
 | bool=>
  have hu:P.underlying i=some .bool:=by
   simp only[layB,Bool.and_eq_true] at hl
   have h2:=hl.2
   split at h2
   ·assumption
   ·cases h2
  cases v <;> simp[Value.okWide,Cell.okWide,Cell.ok,hu] at h <;> simp[mkV,isAgg,Value.cells]
 | str=>
  have hu:=lay_str hl
  cases v <;> simp[Value.okWide,Cell.okWide,Cell.ok,hu] at h <;> simp[mkV,isAgg,Value.cells]
 | slc e=>
  obtain ⟨el,hu,_⟩:=lay_slc hl
  cases v <;> simp[Value.okWide,Cell.okWide,Cell.ok,hu] at h <;> simp[mkV,isAgg,Value.cells]
 | unit=>
  simp only[layB,Bool.and_eq_true] at hl
  have h2:=hl.2
  split at h2
  ·rename_i fs hu
   simp only[Value.okWide,hu] at h
   obtain ⟨cs,rfl,_⟩:=h
   simp[mkV,isAgg,Value.cells]
  ·cases h2
 | pair a b=>
  simp only[layB,Bool.and_eq_true] at hl
  have h2:=hl.2
  split at h2
  ·rename_i fs hu
   simp only[Value.okWide,hu] at h
   obtain ⟨cs,rfl,_⟩:=h
   simp[mkV,isAgg,Value.cells]
  ·cases h2
 | _=>simp[argT] at ha
def roLay (P:Program):List (PM×Ty)->List TypeId->Bool
 | [],[]=>true
 | (.ro,T)::ps,t::ts=>argT T&&layB P T (.inl t)&&P.readableRec t&&Nat.blt t P.types.size&&roLay P ps ts
 | _,_=>false
theorem args_ro:∀ (ps:List (PM×Ty)) (ts:List TypeId) (args:List Value) (ds:List (DataW H)) (p:List MemPlace) {b0:Nat},roLay P ps ts=true->DataW.TrodAll enc P w 0 (fun _=>true) true ts args ds p ->
  (∀ (j:Nat) t v,ts[j]?=some t->args[j]?=some v->Value.okWide P w .any b0 t v)->∃ v,okA ps v/\ArgsRel P w (OLD w) noH ps v args (fun _ _=>0)
 | [],[],args,ds,p,b0,_,h,_=>by
  cases args with
  | nil=>exact ⟨(),trivial,rfl⟩
  | cons _ _=>simp[DataW.TrodAll] at h
 | (.ro,T)::ps,t::ts,args,ds,p,b0,hl,h,hok=>by
  simp only[roLay,Bool.and_eq_true] at hl
  cases args with
  | nil=>simp[DataW.TrodAll] at h
  | cons v args=>
   cases ds with
   | nil=>simp[DataW.TrodAll] at h
   | cons d ds=>
    obtain ⟨p1,q1,⟨fuel,h1⟩,h2,_⟩:=h
    obtain ⟨x,hox,hx⟩:=(trod_ro T hl.1.1.1.1).1 t hl.1.1.1.2 _ _ _ h1
    obtain ⟨xs,hoxs,hxs⟩:=args_ro ps ts args ds q1 (b0:=b0) hl.2 h2 (fun j t' v' ht hv=>hok (j+1) t' v' ht hv)
    exact ⟨(x,xs),⟨hox,hoxs⟩,v,args,fun _ _=>0,fun _ _=>0,rfl,fun _ _=>Nat.le_refl _,⟨_,arg_val hl.1.1.1.1 hl.1.1.1.2 (hok 0 t v rfl rfl),hx⟩,hxs⟩
theorem args_stay (hlo:laidOutB P=true) {W W':World} (hb:RowKit.Below W.heap.size W W') {sp:Nat->Bool}:∀ (ps:List (PM×Ty)) (ts:List TypeId) (args:List Value) (ds:List (DataW H)) (p:List MemPlace),roLay P ps ts=true->DataW.TrodAll enc P W 0 (fun _=>true) true ts args ds p ->
  (∀ x ∈ p,x.block < W.heap.size)->(∀ x ∈ p,sp x.block=true)->DataW.TrodAll enc P W' 0 sp true ts args ds p
 | [],[],args,ds,p,_,h,_,_=>by
  cases args with
  | nil=>
   cases ds with
   | nil=>exact h
   | cons _ _=>simp[DataW.TrodAll] at h
  | cons _ _=>simp[DataW.TrodAll] at h
 | (.ro,T)::ps,t::ts,args,ds,p,hl,h,hlt,hsp=>by
  simp only[roLay,Bool.and_eq_true] at hl
  cases args with
  | nil=>simp[DataW.TrodAll] at h
  | cons v args=>
   cases ds with
   | nil=>simp[DataW.TrodAll] at h
   | cons d ds=>
    obtain ⟨p1,q1,h1,h2,rfl⟩:=h
    have ht:t < P.types.size:=by have:=hl.1.2;rwa [Nat.blt_eq] at this
    exact ⟨p1,q1,WideElems.Trod_stays hlo hl.1.1.2 ht h1 (fun x hx=>hb.same (hlt x (List.mem_append_left _ hx))) (fun x hx=>hsp x (List.mem_append_left _ hx)),
     args_stay hlo hb ps ts args ds q1 hl.2 h2 (fun x hx=>hlt x (List.mem_append_right _ hx)) (fun x hx=>hsp x (List.mem_append_right _ hx)),rfl⟩
theorem law_calls {f:FuncId} {cap:Bool} {ps:List (PM×Ty)} {Fn:(tupT (ps.map (·.2))).den->Option (tupT ([((Ty.bool,roMd .bool):Ty×Md)].map (·.1)++mutTys ps)).den} (hs:Sound P f { cap:=cap,ps:=ps,rs:=[(.bool,roMd .bool)],F:=Fn }) (htrue:∀ v,okA ps v->∃ u,Fn v=some (true,u))
  {ts:List TypeId} (hl:roLay P ps ts=true) {args:List Value} {ds:List (DataW H)} {p:List MemPlace} (hA:DataW.TrodAll enc P w 0 (fun _=>true) true ts args ds p) {b0:Nat} (hok:∀ (j:Nat) t v,ts[j]?=some t->args[j]?=some v->Value.okWide P w .any b0 t v) :
  Calls P f args.toArray w fun e W'=>e=.returned (.bool true)/\RowKit.Below w.heap.size w W':=by
 obtain ⟨v,hov,hv⟩:=args_ro ps ts args ds p hl hA hok
 obtain ⟨u,hu⟩:=htrue v hov
 refine (hs w (OLD w) (fun _ _=>0) v args hv (fun _ _=>Nat.zero_le _) (fun b i h=>by omega) (fun b i h=>?_) _ hu).mono fun e W' h=>?_
 ·rcases h with h | h
  ·omega
  ·exact h
 ·obtain ⟨rv,rfl,hext,A',G,GR,GM,_,_,_,_,_,_,_,hret,_⟩:=h
  obtain ⟨cs,h1,h2⟩:=hret
  simp only[splitR] at h1 h2
  have h2:cs=[.bool true]:=h2
  subst h2
  exact ⟨by rw[h1];rfl,hext.os,hext.tape,hext.output,hext.size,fun b hb=>hext.obj b hb fun _=>rfl⟩
theorem law_post {C:Checked} {f:Func} {s:ChangeSpec} {W W':World} {args:Array Value} {ds:List (DataW H)} {p:List MemPlace} {apart fresh handsOn:Bool} (hlo:laidOutB P=true) {ps:List (PM×Ty)} {ts:List TypeId} (hts:f.params.toList=ts) (hl:roLay P ps ts=true) {tb:TypeId} (hr:f.resultTypes=#[tb]) (hu:P.underlying tb=some .bool)
  (hvars:s.vars=[]) (hW:DataW.Whole enc P f.params.toList s.vars apart W args.toList ds [] p) (hA:DataW.TrodAll enc P W 0 (fun _=>true) true ts args.toList ds p) (hfn:s.fn H (ds++[])={ results:=[.lit (.bool true)],args:=ds }) (hb:RowKit.Below W.heap.size W W') :
  s.post enc P f apart fresh handsOn false W args (.bool true) W':=by
 have hlt:∀ x ∈ p,x.block < W.heap.size:=fun x hx=>by simpa using hW.lt x hx
 refine ⟨ds,[],p,[],p,[],hW,?_,?_,?_,World.keptBut_mono (fun x hx=>⟨hx,.inr (.inl hx)⟩) (hb.frame (· ∈ p)),fun e=>by cases e⟩
 ·rw[hfn,hr]
  exact ⟨[],[],RowKit.shut_bool hu true,rfl,rfl⟩
 ·rw[hfn,hts]
  exact args_stay hlo hb ps ts args.toList ds p hl hA hlt (fun x hx=>by simpa using hlt x hx)
 ·rw[hfn,hvars]
  rfl
end
end OT
namespace OT
open Go
def tiOk (P:Program) (l:List (Nat×Ty)):Bool:=l.all fun p=>layB P p.2 (.inl p.1)
def eqOkL (P:Program) (l:List (Nat×Ty)):Bool:=l.all fun p=>!(p.2.eqOk&&isAgg p.2)||(eqB P p.2 (.inl p.1)&&(P.eqGuardType P.depth p.1 == false)&&Nat.ble (dep p.2) 10000)
theorem look_mem {α:Type}:∀ {l:List (Nat×α)} {i:Nat} {x:α},lookN l i=some x->(i,x) ∈ l
 | (k,y)::l,i,x,h=>by
  simp only[lookN] at h
  split at h
  ·rename_i hk
   injection h with h
   rw[Nat.eq_of_beq_eq_true hk,h];exact List.mem_cons_self
  ·exact List.mem_cons_of_mem _ (look_mem h)
def FnOk (P:Program) (l:List (Nat×Sig)):Prop:=∀ f g,lookN l f=some g->Sound P f g/\EnterOk P f g.cap
theorem fn_nil (P:Program):FnOk P []:=fun f g h=>by cases h
theorem fn_cons {P:Program} {f:Nat} {g:Sig} {l:List (Nat×Sig)} (h1:Sound P f g) (h2:EnterOk P f g.cap) (h3:FnOk P l):FnOk P ((f,g)::l):=fun f' g' h=>by
 simp only[lookN] at h
 split at h
 ·rename_i hk
  injection h with h
  subst h
  rw[<-Nat.eq_of_beq_eq_true hk]
  exact ⟨h1,h2⟩
 ·exact h3 f' g' h
theorem env_ok {P:Program} {E:Env} {tl:List (Nat×Ty)} {gl:List (Nat×Sig)} (h1:E.TI=lookN tl) (h2:E.G=lookN gl) (h3:tiOk P tl=true) (h4:eqOkL P tl=true) (h5:FnOk P gl):EnvOk P E where
 ti i T h:=by rw[h1] at h;exact List.all_eq_true.1 h3 _ (look_mem h)
 eq i T h hq ha:=by
  rw[h1] at h
  have:=List.all_eq_true.1 h4 _ (look_mem h)
  simp only[hq,ha,Bool.and_self,Bool.not_true,Bool.false_or,Bool.and_eq_true,beq_iff_eq,Nat.ble_eq] at this
  exact ⟨this.1.1,this.1.2,this.2⟩
 fn f g h:=by rw[h2] at h;exact h5 f g h
def Ok (P:Program) (f:FuncId) (g:Sig):Prop:=Sound P f g/\EnterOk P f g.cap
theorem fc {P:Program} {f:Nat} {g:Sig} {l:List (Nat×Sig)} (h:Ok P f g) (h3:FnOk P l):FnOk P ((f,g)::l):=fn_cons h.1 h.2 h3
def enterB (fn:Func) (cap:Bool):Bool:=!(fn.name == "runtime.NumGoroutine")&&!fn.body.isNone&&Nat.beq fn.nfree (match cap with | true=>1 | false=>0)
noncomputable def okB (P:Program) (E:Env) (fn:Func) (ps:PQ) (rs:RQ) (es:List Nat) (cap:Bool) (tl:TL):Bool:=(tiOk P tl&&eqOkL P tl)&&(enterB fn cap&&funOk P E fn ps rs es)
theorem fn_ok {P:Program} {E:Env} {f:FuncId} {fn:Func} (hf:P.funcs[f]?=some fn) {g:Sig} (hh:∀ v H,g.hol v H=true->H=[]) {es fr:List Nat} {tl:TL} {gl:GL} (h1:E.TI=lookN tl) (h2:E.G=lookN gl) (hok:okB P E fn g.ps g.rs es g.cap tl=true) (hg:FnOk P gl) (hF:∀ v,g.F v=lift fun k=>bodyK E k fn g.ps g.rs es fr v):Ok P f g:=by
 simp only[okB,enterB,Bool.and_eq_true,Bool.not_eq_true',Nat.beq_eq] at hok
 obtain ⟨⟨a1,a2⟩,⟨⟨b1,b2⟩,b3⟩,c⟩:=hok
 have hb:fn.body.isSome=true:=by
  cases h:fn.body with
  | none=>rw[h] at b2;cases b2
  | some _=>rfl
 exact ⟨sound_of_body (env_ok h1 h2 a1 a2 hg) hf hb hh c fun v out h=>lift_some (by rw[<-hF];exact h),fn,hf,b1,b2,b3⟩
structure FD where
 fn:Func
 tl:TL
 ps:PQ
 rs:RQ
 gl:GL:=[]
 es:List Nat:=[]
 fr:List Nat:=[]
 cap:Bool:=false
 fz:List (Nat×Nat×Nat):=[]
 lv:List (Nat×List Nat):=[]
 lx:List (Nat×List Nat):=[]
 lf:List (Nat×List (Nat×Md)):=[]
 od:List (Nat×List Nat):=[]
 ar:List (Nat×List Nat):=[]
 bx:List (Nat×List Nat):=[]
 pd:List (Nat×List Nat):=[]
 er:List (Nat×List (Nat×Nat)):=[]
noncomputable def FD.E (D:FD):Env:={ TI:=lookN D.tl,G:=lookN D.gl,fz:=D.fz,lv:=D.lv,lx:=D.lx,lf:=D.lf,od:=D.od,ar:=D.ar,bx:=D.bx,pd:=D.pd,er:=D.er }
noncomputable def FD.W (D:FD) (k:Nat) (a:(tupT (D.ps.map (·.2))).den):Option (tupT (D.rs.map (·.1)++mutTys D.ps)).den:=bodyK D.E k D.fn D.ps D.rs D.es D.fr a
noncomputable def FD.F (D:FD) (a:(tupT (D.ps.map (·.2))).den):Option (tupT (D.rs.map (·.1)++mutTys D.ps)).den:=lift fun k=>D.W k a
noncomputable def FD.sig (D:FD):Sig:={ cap:=D.cap,ps:=D.ps,rs:=D.rs,F:=D.F }
noncomputable def FD.fin (D:FD):St->Option (tupT (D.rs.map (·.1)++mutTys D.ps)).den:=outK D.ps D.rs D.es D.fn.results.toList (mvs D.fr)
noncomputable def FD.K0 (D:FD):KT (tupT (D.rs.map (·.1)++mutTys D.ps)).den:=endK D.fin
noncomputable def FD.N (D:FD) (k:Nat) (p:List Nat):St->KT (tupT (D.rs.map (·.1)++mutTys D.ps)).den->Option (tupT (D.rs.map (·.1)++mutTys D.ps)).den:=codeK D.E k D.fin (sub p (bodyOf D.fn))
noncomputable def FD.L (D:FD) (k:Nat) (p live:List Nat) (fro:List (Nat×Md)) (K:KT (tupT (D.rs.map (·.1)++mutTys D.ps)).den) (σ:St):Option (tupT (D.rs.map (·.1)++mutTys D.ps)).den:=iterK (D.N k p) (keepF live fro) K k σ
theorem fd_ok {P:Program} {D:FD} {f:FuncId} (hf:P.funcs[f]?=some D.fn) (ht:(tiOk P D.tl&&eqOkL P D.tl)=true) (hok:(enterB D.fn D.cap&&funOk P D.E D.fn D.ps D.rs D.es)=true) (hg:FnOk P D.gl):Ok P f D.sig:=
 fn_ok (hh:=fun _ _ h=>List.isEmpty_iff.1 h) (es:=D.es) (fr:=D.fr) (tl:=D.tl) (gl:=D.gl) (E:=D.E) hf rfl rfl (by rw[okB,ht,Bool.true_and];exact hok) hg fun _=>rfl
end OT
namespace OT
open Go
theorem w64_in {n:Int} (h:-9223372036854775808<=n/\n<=9223372036854775807):w64 n=n:=by
 unfold w64
 rw[IntKind.wrap_i64]
 omega
theorem maxLen_val:maxLen=9223372036854775807:=by simp[maxLen]
theorem rawIter_eq {V R:Type} {B:(V->Option R)->V->Option R} (f:V->R) (I:V->Prop) (μ:V->Nat)
  (h:∀ v,I v->∀ self,B self v=some (f v)\/∃ v',B self v=self v'/\f v'=f v/\I v'/\μ v' < μ v):∀ (k:Nat) (v:V),I v->μ v < k->rawIter B k v=some (f v)
 | 0,v,_,hk=>by omega
 | k+1,v,hI,hk=>by
  show B (rawIter B k) v=some (f v)
  rcases h v hI (rawIter B k) with h1 | ⟨v',h1,h2,h3,h4⟩
  ·exact h1
  ·rw[h1,rawIter_eq f I μ h k v' h3 (by omega),h2]
def allB {α:Type} (e:α->α->Bool) (xs ys:List α):Bool:=(xs.zip ys).all fun p=>e p.1 p.2
theorem allB_drop {α:Type} (e:α->α->Bool) (xs ys:List α) (i:Nat) (hx:i < xs.length) (hy:i < ys.length):allB e (xs.drop i) (ys.drop i)=(e xs[i] ys[i]&&allB e (xs.drop (i+1)) (ys.drop (i+1))):=by
 unfold allB
 rw[List.drop_eq_getElem_cons hx,List.drop_eq_getElem_cons hy]
 simp only[List.zip_cons_cons,List.all_cons]
theorem all_loop {α:Type} {B:(Int->Option (Bool×Unit))->Int->Option (Bool×Unit)} {xs ys:List α} (e:α->α->Bool) (hlen:xs.length=ys.length) (hmax:xs.length<=maxLen)
  (hin:∀ (i:Nat) (hx:i < xs.length) (hy:i < ys.length) self,B self (i:Int)=if e xs[i] ys[i]=true then self (w64 ((i:Int)+1)) else some (false,()))
  (hout:∀ self,B self (xs.length:Int)=some (true,())):∀ k,xs.length < k->rawIter B k 0=some (allB e xs ys,()):=by
 intro k hk
 have h:=rawIter_eq (B:=B) (fun v=>(allB e (xs.drop v.toNat) (ys.drop v.toNat),())) (fun v=>0<=v/\v<=(xs.length:Int)) (fun v=>xs.length - v.toNat) (fun v hv self=>by
  obtain ⟨h0,h1⟩:=hv
  obtain ⟨i,rfl⟩:=Int.eq_ofNat_of_zero_le h0
  simp only[Int.toNat_natCast]
  by_cases hi:i < xs.length
  ·have hy:i < ys.length:=by omega
   rw[allB_drop e xs ys i hi hy,hin i hi hy]
   cases he:e xs[i] ys[i] with
   | true=>
    right
    have hw:w64 ((i:Int)+1)=((i+1:Nat):Int):=by rw[w64_in (by rw[maxLen_val] at hmax;omega)];omega
    refine ⟨_,by rw[hw];rfl,by simp,by omega,?_⟩
    simp only[Int.toNat_natCast];omega
   | false=>left;simp
  ·have hi':i=xs.length:=by omega
   subst hi'
   left
   rw[hout]
   simp[allB]) k 0 ⟨by omega,by omega⟩ (by simpa using hk)
 simpa using h
theorem copy_loop {α:Type} {B:((List α×Int)->Option (List α×Unit))->(List α×Int)->Option (List α×Unit)} {xs:List α} (hmax:xs.length<=maxLen)
  (hin:∀ (i:Nat) (hx:i < xs.length) (acc:List α) self,acc.length=xs.length->B self (acc,(i:Int))=self (acc.set i xs[i],w64 ((i:Int)+1)))
  (hout:∀ acc self,B self (acc,(xs.length:Int))=some (acc,())) (z:α):∀ k,xs.length < k->rawIter B k (List.replicate xs.length z,0)=some (xs,()):=by
 intro k hk
 refine rawIter_eq (B:=B) (fun _=>(xs,())) (fun v=>0<=v.2/\v.2<=(xs.length:Int)/\v.1.length=xs.length/\∀ j,j < v.2.toNat->v.1[j]?=xs[j]?) (fun v=>xs.length - v.2.toNat) (fun v hv self=>?_) k _ ⟨by simp,by simp,by simp,by simp⟩ (by simpa using hk)
 obtain ⟨acc,i⟩:=v
 obtain ⟨h0,h1,h2,h3⟩:=hv
 simp only at h0 h1 h2 h3
 obtain ⟨i,rfl⟩:=Int.eq_ofNat_of_zero_le h0
 simp only[Int.toNat_natCast] at h3 ⊢
 by_cases hi:i < xs.length
 ·right
  have hw:w64 ((i:Int)+1)=((i+1:Nat):Int):=by rw[w64_in (by rw[maxLen_val] at hmax;omega)];omega
  refine ⟨(acc.set i xs[i],((i+1:Nat):Int)),by rw[hin i hi acc self h2,hw],trivial,⟨by omega,by simp only;omega,by simpa using h2,fun j hj=>?_⟩,?_⟩
  ·simp only[Int.toNat_natCast] at hj
   by_cases hji:j=i
   ·subst hji;simp[h2,hi]
   ·simp only[List.getElem?_set]
    rw[if_neg (fun e=>hji e.symm)]
    exact h3 j (by omega)
  ·simp only[Int.toNat_natCast];omega
 ·have hi':i=xs.length:=by omega
  subst hi'
  left
  rw[hout]
  have:acc=xs:=List.ext_getElem? fun j=>by
   by_cases hj:j < xs.length
   ·exact h3 j hj
   ·rw[List.getElem?_eq_none (by omega),List.getElem?_eq_none (by omega)]
  rw[this]
end OT
set_option linter.unusedVariables false
set_option linter.unusedSimpArgs false
namespace OT
open Go
theorem rawIter_succ {V R:Type} (B:(V->Option R)->V->Option R) (k:Nat) (v:V):rawIter B (k+1) v=B (rawIter B k) v:=rfl
def sumW {α:Type} (f:α->Nat):List α->Nat
 | []=>0
 | x::xs=>f x+sumW f xs
theorem sumW_mem {α:Type} (f:α->Nat):∀ (xs:List α) (x:α),x ∈ xs->f x<=sumW f xs
 | y::xs,x,h=>by
  simp only[sumW]
  rcases List.mem_cons.1 h with rfl | h
  ·omega
  ·have:=sumW_mem f xs x h;omega
 | [],_,h=>by cases h
theorem sumW_append {α:Type} (f:α->Nat):∀ (xs ys:List α),sumW f (xs++ys)=sumW f xs+sumW f ys
 | [],ys=>by simp[sumW]
 | x::xs,ys=>by simp only[List.cons_append,sumW,sumW_append f xs ys];omega
theorem sumW_32 {α:Type} (f:α->Nat):∀ (xs:List α),sumW (fun x=>32*(f x+1)) xs=32*(xs.length+sumW f xs)
 | []=>rfl
 | x::xs=>by simp only[sumW,sumW_32 f xs,List.length_cons];omega
def zz:(t:Ty)->t.den->Nat
 | .str,v=>List.length v
 | .pair a b,v=>zz a v.1+zz b v.2
 | .slc e,v=>List.length v+sumW (zz e) v
 | _,_=>0
theorem zz_mem {e:Ty} {xs:List e.den} {x:e.den} (h:x ∈ xs):zz e x+1<=zz (.slc e) xs:=by
 have:=sumW_mem (zz e) xs x h
 have:1<=xs.length:=List.length_pos_of_mem h
 show _<=List.length xs+_
 omega
theorem zz_len {e:Ty} (xs:List e.den):xs.length<=zz (.slc e) xs:=Nat.le_add_right _ _
theorem zz_cons {e:Ty} (x:e.den) (xs:List e.den):zz (.slc e) (x::xs)=zz e x+1+zz (.slc e) xs:=by
 show (List.length xs+1)+(zz e x+sumW (zz e) xs)=zz e x+1+(List.length xs+sumW (zz e) xs)
 omega
theorem zz_append {e:Ty} (xs ys:List e.den):zz (.slc e) (xs++ys)=zz (.slc e) xs+zz (.slc e) ys:=by
 show List.length (xs++ys)+sumW (zz e) (xs++ys)=List.length xs+sumW (zz e) xs+(List.length ys+sumW (zz e) ys)
 rw[sumW_append,List.length_append]
 omega
def lft (n:Int) (z:Nat):Int:=if (z:Int)<=n then n - z else -1
theorem sz_loop {α:Type} {B:((Int×Int)->Option (Int×Unit))->(Int×Int)->Option (Int×Unit)} {xs:List α} (hmax:xs.length<=maxLen) (z:α->Nat)
  (hin:∀ (i:Nat) (hx:i < xs.length) (n:Int) self,0<=n->n<=1048576->B self (n,(i:Int))=if lft n (z xs[i]) < 0 then some (-1,()) else self (lft n (z xs[i]),w64 ((i:Int)+1)))
  (hout:∀ n self,B self (n,(xs.length:Int))=some (n,())) (n:Int) (h0:0<=n) (h1:n<=1048576) :
  ∀ k,xs.length < k->rawIter B k (n,0)=some (lft n (sumW z xs),()):=by
 have main:∀ (m i:Nat) (n:Int),xs.length - i=m->i<=xs.length->0<=n->n<=1048576->∀ k,m < k->rawIter B k (n,(i:Int))=some (lft n (sumW z (xs.drop i)),()):=by
  intro m
  induction m with
  | zero=>
   intro i n hm hi h0 h1 k hk
   have hi':i=xs.length:=by omega
   subst hi'
   cases k with
   | zero=>omega
   | succ k=>
    have:rawIter B (k+1) (n,(xs.length:Int))=some (n,()):=hout n _
    rw[this]
    simp[lft,sumW,h0]
  | succ m ih=>
   intro i n hm hi h0 h1 k hk
   have hlt:i < xs.length:=by omega
   rw[List.drop_eq_getElem_cons hlt]
   simp only[sumW]
   cases k with
   | zero=>omega
   | succ k=>
    show B (rawIter B k) _=_
    rw[hin i hlt n _ h0 h1]
    by_cases hz:(z xs[i]:Int)<=n
    ·have e:lft n (z xs[i])=n - (z xs[i]:Int):=if_pos hz
     have hneg:¬ (n - (z xs[i]:Int) < 0):=by omega
     have hw:w64 ((i:Int)+1)=((i+1:Nat):Int):=by rw[w64_in (by rw[maxLen_val] at hmax;omega)];omega
     rw[e,if_neg hneg,hw,ih (i+1) _ (by omega) (by omega) (by omega) (by omega) k (by omega)]
     unfold lft
     by_cases hc:((sumW z (xs.drop (i+1)):Nat):Int)<=n - (z xs[i]:Int)
     ·rw[if_pos hc,if_pos (by omega)]
      have:n - (z xs[i]:Int) - (sumW z (xs.drop (i+1)):Nat)=n - ((z xs[i]+sumW z (xs.drop (i+1)):Nat):Int):=by omega
      rw[this]
     ·rw[if_neg hc,if_neg (by omega)]
    ·have e:lft n (z xs[i])=-1:=if_neg hz
     rw[e,if_pos (by omega)]
     unfold lft
     rw[if_neg (by omega)]
 intro k hk
 simpa using main xs.length 0 n (by omega) (by omega) h0 h1 k hk
theorem lft_add {n:Int} {a b:Nat} (h:(a:Int)<=n):lft (n - a) b=lft n (a+b):=by
 unfold lft
 by_cases hc:(b:Int)<=n - a
 ·rw[if_pos hc,if_pos (by omega)];omega
 ·rw[if_neg hc,if_neg (by omega)]
theorem get_self_set {α:Type} (xs:List α) (i:Nat) (a:α) (h:i < xs.length):(xs.set i a)[i]?=some a:=by simp[h]
def BIG:Int:=4611686018427387904
def chain {α:Type} (E:α->Int->α->Int->Prop) (W:α->Nat):List α->Int->List α->Int->Prop
 | [],k,ys,k'=>ys=[]/\k'=k
 | x::xs,k,ys,k'=>∃ y ys' k1,ys=y::ys'/\0<=k/\k+W x<=BIG/\k<=k1/\k1<=k+W x/\E x k y k1/\chain E W xs k1 ys' k'
theorem mark_loop {α:Type} {B:((List α×Int×Int)->Option (Int×List α×Unit))->(List α×Int×Int)->Option (Int×List α×Unit)} {xs:List α} (hmax:xs.length<=maxLen) (E:α->Int->α->Int->Prop) (W:α->Nat)
  (hE:∀ x ∈ xs,∀ k:Int,0<=k->k+W x<=BIG->∃ y k',k<=k'/\k'<=k+W x/\E x k y k')
  (hin:∀ (i:Nat) (acc:List α) (k:Int) self (x y:α) (k':Int),i < acc.length->acc[i]?=some x->0<=k->k+W x<=BIG->k<=k'->k'<=k+W x->E x k y k'->B self (acc,k,(i:Int))=self (acc.set i y,k',w64 ((i:Int)+1)))
  (hout:∀ (acc:List α) (k:Int) self,B self (acc,k,(acc.length:Int))=some (k,acc,())) (k:Int) (h0:0<=k) (h1:k+sumW W xs<=BIG) :
  ∃ ys k',k<=k'/\k'<=k+sumW W xs/\ys.length=xs.length/\chain E W xs k ys k'/\∀ f,xs.length < f->rawIter B f (xs,k,0)=some (k',ys,()):=by
 have main:∀ (rest pre:List α) (k:Int),(pre++rest).length<=maxLen->(∀ x ∈ rest,x ∈ xs)->0<=k->k+sumW W rest<=BIG ->
   ∃ ys k',k<=k'/\k'<=k+sumW W rest/\ys.length=rest.length/\chain E W rest k ys k'/\∀ f,rest.length < f->rawIter B f (pre++rest,k,(pre.length:Int))=some (k',pre++ys,()):=by
  intro rest
  induction rest with
  | nil=>
   intro pre k hm _ h0 h1
   refine ⟨[],k,Int.le_refl _,by simp[sumW],rfl,⟨rfl,rfl⟩,fun f hf=>?_⟩
   cases f with
   | zero=>simp at hf
   | succ f=>
    simp only[List.append_nil]
    exact hout pre k _
  | cons x rest ih=>
   intro pre k hm hx h0 h1
   simp only[sumW] at h1
   obtain ⟨y,k1,g1,g2,g3⟩:=hE x (hx x List.mem_cons_self) k h0 (by omega)
   obtain ⟨ys,k',i1,i2,i3,i4,i5⟩:=ih (pre++[y]) k1 (by simpa using hm) (fun z hz=>hx z (List.mem_cons_of_mem _ hz)) (by omega) (by omega)
   refine ⟨y::ys,k',by omega,by simp only[sumW];omega,by simp[i3],⟨y,ys,k1,rfl,h0,by omega,g1,g2,g3,i4⟩,fun f hf=>?_⟩
   cases f with
   | zero=>omega
   | succ f=>
    show B (rawIter B f) _=_
    have hlen:pre.length < (pre++x::rest).length:=by simp
    rw[hin pre.length (pre++x::rest) k _ x y k1 hlen (by simp) h0 (by omega) g1 g2 g3]
    have hw:w64 ((pre.length:Int)+1)=(((pre++[y]).length:Nat):Int):=by
     have:pre.length+1<=maxLen:=by have:=hm;simp at this;omega
     rw[maxLen_val] at this
     rw[w64_in (by omega)];simp
    have hs:(pre++x::rest).set pre.length y=(pre++[y])++rest:=by simp
    rw[hw,hs,i5 f (by simp only[List.length_cons] at hf;omega)]
    simp
 obtain ⟨ys,k',i1,i2,i3,i4,i5⟩:=main xs [] k (by simpa using hmax) (fun x h=>h) h0 h1
 exact ⟨ys,k',i1,i2,i3,i4,fun f hf=>by simpa using i5 f hf⟩
theorem held_loop {α:Type} {ys:List α} {B:((Int×Int)->Option (Int×Unit))->(Int×Int)->Option (Int×Unit)} {xs:List α} {k k':Int} (hmax:ys.length<=maxLen) {E:α->Int->α->Int->Prop} {W:α->Nat} (hc:chain E W xs k ys k')
  (hin:∀ (i:Nat) (k:Int) self (x y:α) (k':Int),i < ys.length->ys[i]?=some y->0<=k->k+W x<=BIG->k<=k'->k'<=k+W x->E x k y k'->B self (k,(i:Int))=self (k',w64 ((i:Int)+1)))
  (hout:∀ (k:Int) self,B self (k,(ys.length:Int))=some (k,())):∀ f,ys.length < f->rawIter B f (k,0)=some (k',()):=by
 have main:∀ (xs ys' pre:List α) (k:Int),pre++ys'=ys->chain E W xs k ys' k'->∀ f,ys'.length < f->rawIter B f (k,(pre.length:Int))=some (k',()):=by
  intro xs
  induction xs with
  | nil=>
   intro ys' pre k hp hc f hf
   obtain ⟨rfl,rfl⟩:=hc
   cases f with
   | zero=>simp at hf
   | succ f=>
    have:=hout k' (rawIter B f)
    have e:pre=ys:=by simpa using hp
    subst e
    exact this
  | cons x xs ih=>
   intro ys' pre k hp hc f hf
   obtain ⟨y,ys2,k1,rfl,c1,c2,c3,c4,c5,c6⟩:=hc
   cases f with
   | zero=>omega
   | succ f=>
    show B (rawIter B f) _=_
    have hl:pre.length < ys.length:=by rw[<-hp];simp
    rw[hin pre.length k _ x y k1 hl (by rw[<-hp];simp) c1 c2 c3 c4 c5]
    have hw:w64 ((pre.length:Int)+1)=(((pre++[y]).length:Nat):Int):=by
     have:pre.length+1<=maxLen:=by omega
     rw[maxLen_val] at this
     rw[w64_in (by omega)];simp
    rw[hw]
    exact ih ys2 (pre++[y]) k1 (by rw[<-hp];simp) c6 f (by simp only[List.length_cons] at hf;omega)
 intro f hf
 simpa using main xs ys [] k rfl hc f hf
end OT
set_option linter.unusedVariables false
set_option linter.unusedSimpArgs false
namespace OT
open Go
def forI {S O α:Type} (f:Nat->S->α->Sum O S) (fin:S->O):Nat->List α->S->O
 | _,[],s=>fin s
 | i,x::xs,s=>match f i s x with
  | .inl o=>o
  | .inr s'=>forI f fin (i+1) xs s'
theorem for_loop {V S O α:Type} {B:(V->Option O)->V->Option O} (xs:List α) (enc:S->Int->V) (f:Nat->S->α->Sum O S) (fin:S->O) (I:Nat->S->Prop) (hmax:xs.length<=maxLen)
  (hin:∀ (i:Nat) (hi:i < xs.length) (s:S) self,I i s->B self (enc s (i:Int))=match f i s xs[i] with | .inl o=>some o | .inr s'=>self (enc s' (w64 ((i:Int)+1))))
  (hI:∀ (i:Nat) (hi:i < xs.length) (s s':S),I i s->f i s xs[i]=.inr s'->I (i+1) s')
  (hout:∀ (s:S) self,I xs.length s->B self (enc s (xs.length:Int))=some (fin s)) (s:S) (h0:I 0 s):∀ k,xs.length < k->rawIter B k (enc s 0)=some (forI f fin 0 xs s):=by
 have main:∀ (m i:Nat) (s:S),xs.length - i=m->i<=xs.length->I i s->∀ k,m < k->rawIter B k (enc s (i:Int))=some (forI f fin i (xs.drop i) s):=by
  intro m
  induction m with
  | zero=>
   intro i s hm hi hs k hk
   have hi':i=xs.length:=by omega
   subst hi'
   cases k with
   | zero=>omega
   | succ k=>
    show B (rawIter B k) _=_
    rw[hout s _ hs]
    simp[forI]
  | succ m ih=>
   intro i s hm hi hs k hk
   have hlt:i < xs.length:=by omega
   cases k with
   | zero=>omega
   | succ k=>
    show B (rawIter B k) _=_
    rw[hin i hlt s _ hs,List.drop_eq_getElem_cons hlt]
    simp only[forI]
    cases hf:f i s xs[i] with
    | inl o=>rfl
    | inr s'=>
     have hw:w64 ((i:Int)+1)=((i+1:Nat):Int):=by rw[w64_in (by rw[maxLen_val] at hmax;omega)];omega
     simp only[hw]
     exact ih (i+1) s' (by omega) (by omega) (hI i hlt s s' hs hf) k (by omega)
 intro k hk
 simpa using main xs.length 0 s (by omega) (by omega) h0 k hk
theorem forI_check {O α:Type} (p:α->Bool) (bad:O) (fin:Unit->O):∀ (xs:List α) (i:Nat),forI (fun _ _ x=>if p x then .inr () else .inl bad) fin i xs ()=if xs.all p then fin () else bad
 | [],_=>rfl
 | x::xs,i=>by
  simp only[forI,List.all_cons]
  by_cases h:p x=true
  ·simp[h,forI_check p bad fin xs (i+1)]
  ·simp[h]
def firstF {α:Type} (c:α->Int):List α->Int
 | []=>0
 | x::xs=>if c x=0 then firstF c xs else c x
theorem forI_first {O α:Type} (c:α->Int) (bad:Int->O) (fin:Unit->O):∀ (xs:List α) (i:Nat),forI (fun _ _ x=>if c x=0 then .inr () else .inl (bad (c x))) fin i xs ()=if firstF c xs=0 then fin () else bad (firstF c xs)
 | [],_=>rfl
 | x::xs,i=>by
  simp only[forI,firstF]
  by_cases h:c x=0
  ·simp[h,forI_first c bad fin xs (i+1)]
  ·simp[h]
theorem both_self {R:Type} (a:Option R):both a a=a:=by simp[both]
theorem nilB_eq {R α:Type} {v:List α} {a b r:Option R} (h1:v=[]->a=r) (h2:b=r):nilB v a b=r:=by
 cases v with
 | nil=>rw[nilB,h1 rfl,h2,both_self]
 | cons _ _=>exact h2
theorem cap_ok {n:Nat} (h:n<=200000000000):n<=CAP:=by simp only[CAP];omega
end OT
set_option linter.unusedVariables false
set_option linter.unusedSimpArgs false
namespace OT
open Go Go.Shelf Go.RowKit Go.Lib Go.Proofs
section
variable {P:Program} {ρ:Ren}
theorem run_clear_k (w:World) (t e ty:TypeId) (z:Value) (ht:P.underlying t=some (.slice e)) (hv:∀ w,(zeroValue e).run P w=.ok z w) (b o n c:Nat) (hn:0 < n)
  (hc:∀ j,j < (Builtin.zeroCells z.cells n).toList.length->(w.cell? ⟨b,o+j,none⟩).isSome=true) (hf:∀ j,j < (Builtin.zeroCells z.cells n).toList.length->w.frozen? ⟨b,o+j,none⟩=false) (h1:∀ v ∈ (Builtin.zeroCells z.cells n).toList,v.oneCell'=true) :
  (Builtin.clear_ #[t] ty #[.slice (some ⟨b,o,none⟩) n c]).run P w=.ok (.tuple #[]) (w.setCells b o (Builtin.zeroCells z.cells n).toList):=by
 have hst:=run_storeCells_cells (P:=P) b o (Builtin.zeroCells z.cells n).toList 0 w (by simpa using hc) (by simpa using hf) h1
 simp only[Nat.add_zero] at hst
 obtain ⟨m,rfl⟩:∃ m,n=m+1:=⟨n - 1,by omega⟩
 simp[Builtin.clear_,run_underlying ht,hv,hst]
theorem some_setCells (b:Nat) (vs:List Value) (o:Nat) (w:World) (h:∀ j,j < vs.length->(w.cell? ⟨b,o+j,none⟩).isSome=true) (k:Nat) (hk:(w.cell? ⟨b,k,none⟩).isSome=true):((w.setCells b o vs).cell? ⟨b,k,none⟩).isSome=true:=by
 by_cases hin:o<=k/\k < o+vs.length
 ·have:=World.cell?_setCells_in b vs o w h (k - o) (by omega)
  rw[show o+(k - o)=k by omega] at this
  rw[this];rfl
 ·rw[World.cell?_setCells_out b vs o w ⟨b,k,none⟩ (fun _ _=>by show k < o\/o+vs.length<=k;omega)]
  exact hk
set_option maxHeartbeats 4000000 in
set_option maxRecDepth 1000000 in
theorem del_calls (L:SlLaysE0.n45 P ρ) (k:Nat) (inf:TypeInfo) (zv:Value) (hi0:P.info? (ρ.t 23)=some inf) (hsk:inf.size=k) (hz:∀ w,(zeroValue (ρ.t 23)).run P w=.ok zv w) (hzk:zv.cells.size=k) (hz1:∀ n,∀ v ∈ (Builtin.zeroCells zv.cells n).toList,v.oneCell'=true)
  (b off n c i j:Nat) (cs:List Value) (w:World) (hcl:cs.length=n*k) (hcs:∀ t v,cs[t]?=some v->w.cell? ⟨b,off+t,none⟩=some v) (hfz:∀ t,t < n*k->w.frozen? ⟨b,off+t,none⟩=false) (h1c:∀ v ∈ cs,v.oneCell'=true)
  (hcap:n<=c) (hm:c<=9223372036854775807) (hij:i < j) (hj:j<=n) :
  Calls P (ρ.f 45) #[.slice (some ⟨b,off,none⟩) n c,.int .i64 i,.int .i64 j] w fun e w'=>e=.returned (.slice (some ⟨b,off,none⟩) (i+(n - j)) c) /\
   w'=(w.drew.setCells b (off+i*k) (cs.drop (j*k))).setCells b (off+(i+(n - j))*k) (Builtin.zeroCells zv.cells (n - (i+(n - j)))).toList:=by
 have mixed:=L.mixed;have t0:=L.t0;have a0:=L.a0;have z0:=L.z0;have v0:=L.v0;have t3:=L.t3;have a3:=L.a3;have z3:=L.z3;have v3:=L.v3;have t4:=L.t4;have a4:=L.a4;have z4:=L.z4;have v4:=L.v4;have t22:=L.t22;have a22:=L.a22;have z22:=L.z22;have v22:=L.v22
 have z23:∀ w,(Go.sizeOf (ρ.t 23)).run P w=.ok k w:=fun w=>by simp[Go.sizeOf,typeInfo,hi0,hsk]
 have hjk:j*k<=n*k:=Nat.mul_le_mul_right _ hj
 obtain ⟨news,hnews⟩:∃ news,news=cs.drop (j*k):=⟨_,rfl⟩
 have hlen:news.length=(n - j)*k:=by rw[hnews,List.length_drop,hcl,Nat.sub_mul]
 obtain ⟨A,hA,hsrc⟩:∃ A:Addr,(if c=j then some (⟨b,off,none⟩:Addr) else some ⟨b,off+j*k,none⟩)=some A/\Hid (∀ t u,news[t]?=some u->w.drew.cell? (A.add t)=some u):=by
  by_cases h:c=j
  ·refine ⟨⟨b,off,none⟩,by simp[h],fun t u hu=>?_⟩
   have h0:news.length=0:=by rw[hlen,show n - j=0 by omega,Nat.zero_mul]
   rw[List.length_eq_zero_iff.1 h0] at hu
   simp at hu
  ·refine ⟨⟨b,off+j*k,none⟩,by simp[h],fun t u hu=>?_⟩
   rw[hnews,List.getElem?_drop] at hu
   rw[Addr.add_lit,show off+j*k+t=off+(j*k+t) by omega]
   exact hcs _ u hu
 have s1:Hid (news.length=(n - j)*k):=hlen
 have s2:Hid (∀ u ∈ news,u.oneCell'=true):=by
  intro u hu
  rw[hnews] at hu
  exact h1c u (List.mem_of_mem_drop hu)
 have hsome:∀ t,t < n*k->(w.cell? ⟨b,off+t,none⟩).isSome=true:=fun t ht=>by rw[hcs t _ (List.getElem?_eq_getElem (by omega))];rfl
 have hij2:i*k+(n - j)*k<=n*k:=by rw[<-Nat.add_mul];exact Nat.mul_le_mul_right _ (by omega)
 have s3:Hid (∀ t,t < news.length->(w.drew.cell? ⟨b,off+i*k+t,none⟩).isSome=true/\w.drew.frozen? ⟨b,off+i*k+t,none⟩=false):=by
  intro t ht
  rw[hlen] at ht
  rw[Nat.add_assoc]
  exact ⟨hsome _ (by omega),hfz _ (by omega)⟩
 obtain ⟨W1,hW1⟩:∃ W1,W1=w.drew.setCells b (off+i*k) news:=⟨_,rfl⟩
 have hZ:(Builtin.zeroCells zv.cells (n - (i+(n - j)))).toList.length=(n - (i+(n - j)))*k:=by simp[Builtin.zeroCells,hzk]
 have hnk:(i+(n - j))*k+(n - (i+(n - j)))*k=n*k:=by rw[<-Nat.add_mul];congr 1;omega
 have hcl2:∀ ty,(Builtin.clear_ #[ρ.t 22] ty #[.slice (some ⟨b,off+(i+(n - j))*k,none⟩) (n - (i+(n - j))) (c - (i+(n - j)))]).run P W1=.ok (.tuple #[]) (W1.setCells b (off+(i+(n - j))*k) (Builtin.zeroCells zv.cells (n - (i+(n - j)))).toList):=
  fun ty=>run_clear_k W1 _ _ ty zv t22 hz b (off+(i+(n - j))*k) _ _ (by omega) (fun t ht=>by
   rw[hZ] at ht
   rw[hW1,Nat.add_assoc]
   exact some_setCells b _ _ _ (fun t ht=>by rw[hlen] at ht;rw[Nat.add_assoc];exact hsome _ (by omega)) _ (hsome _ (by omega))) (fun t ht=>by rw[hZ] at ht;rw[hW1,World.frozen?_setCells,Nat.add_assoc];exact hfz _ (by omega)) (hz1 _)
 have hW:Hid (W1=w.drew.setCells b (off+i*k) news):=hW1
 have hne:¬ (i:Int)=(j:Int):=by omega
 have hic:i<=c:=by omega
 have hjc:j<=c:=by omega
 have hcn:¬ c=i+(n - j):=by omega
 rw[<-hnews,<- hW1]
 obtain ⟨Z,hZd⟩:∃ Z,Z=(Builtin.zeroCells zv.cells (n - (i+(n - j)))).toList:=⟨_,rfl⟩
 rw[<-hZd] at hcl2 ⊢
 clear hW1 hnews hlen hsome hcs hfz hcl h1c hZ hZd hz1 hzk
 obtain ⟨_,_,FG⟩:=L.f45
 go_enter FG,SlBodyN.n45_ntmps ρ
 go_wp2_with fail
 go_region_law_o (refine step_append_room rfl (.tmp 22) (.tmp 25) (ρ.t 22) rfl (ρ.t 23) inf k t22 hi0 hsk b off i c (by simp[Act.eval,Act.put]) A (n - j) (c - j) news (by simp[Act.eval,Act.put]) s1.out hsrc.out s2.out (by omega) s3.out ?_;rw[<-hW.out])
 go_wp2
 go_ret
 exact ⟨rfl,rfl⟩
set_option maxHeartbeats 4000000 in
set_option maxRecDepth 1000000 in
theorem del_same (L:SlLaysE0.n45 P ρ) (b:Option Addr) (n c i:Nat) (w:World) (hin:i<=n) (hcap:n<=c) (hm:c<=9223372036854775807) (hb:∀ ad,b=some ad->ad.spot=none) (hnone:b=none->c=0) (k:Nat) (z23:∀ w,(Go.sizeOf (ρ.t 23)).run P w=.ok k w) :
  Calls P (ρ.f 45) #[.slice b n c,.int .i64 i,.int .i64 i] w fun e w'=>e=.returned (.slice b n c)/\w'=w:=by
 have mixed:=L.mixed;have t0:=L.t0;have a0:=L.a0;have z0:=L.z0;have v0:=L.v0;have t3:=L.t3;have a3:=L.a3;have z3:=L.z3;have v3:=L.v3;have t4:=L.t4;have a4:=L.a4;have z4:=L.z4;have v4:=L.v4;have t22:=L.t22;have a22:=L.a22;have z22:=L.z22;have v22:=L.v22
 have hic:i<=c:=by omega
 obtain ⟨_,_,FG⟩:=L.f45
 cases b with
 | none=>
  have h0:=hnone rfl
  subst h0
  have hn0:n=0:=by omega
  subst hn0
  have hi0:i=0:=by omega
  subst hi0
  go_enter FG,SlBodyN.n45_ntmps ρ
  go_wp2
  all_goals (go_ret;exact ⟨rfl,rfl⟩)
 | some ad=>
  obtain ⟨b,off,sp⟩:=ad
  have:=hb _ rfl
  simp only at this
  subst this
  go_enter FG,SlBodyN.n45_ntmps ρ
  go_wp2
  all_goals (go_ret;exact ⟨rfl,rfl⟩)
theorem zone (w:World) {e:Ty} {i:TypeId} (hl:layB P e (.inl i)=true) (hz:e.zok=true) {inf:TypeInfo} {zv:Value} (h1:P.info? i=some inf) (h2:inf.zero=some zv):∀ n,∀ v ∈ (Builtin.zeroCells zv.cells n).toList,v.oneCell'=true:=by
 obtain ⟨L,hL⟩:=zok_some e hz
 obtain ⟨inf',z',i1,i2,i3,i4,i5,i6⟩:=infoOk_zero (layB_info hl)
 rw[h1] at i1
 injection i1 with i1
 subst i1
 rw[h2] at i4
 injection i4 with i4
 subst i4
 have hc:=i6 L hL
 obtain ⟨r1,_,_⟩:=zc_ok (P:=P) (w:=w) (A:=fun _ _=>True) e hL hl
 have hone:=Rep.one _ r1
 intro n v hv
 refine hone v ?_
 rw[<-hc]
 simp only[Builtin.zeroCells,Array.toList_map,List.mem_map,Array.toList_range,List.mem_range] at hv
 obtain ⟨j,hj,rfl⟩:=hv
 have hpos:0 < zv.cells.size:=by
  rcases Nat.eq_zero_or_pos zv.cells.size with h0 | h0
  ·rw[h0,Nat.mul_zero] at hj;omega
  ·exact h0
 have:=Nat.mod_lt j hpos
 rw[getElem!_pos zv.cells _ this]
 simp
theorem rep_laid {w w':World} {A:Cells} {F0:FP} {e:Ty} {me:Md} {b cap:Nat} {vs:List e.den} {news:List Value} {Hi:Nat->FP} {F1:FP}
  (hw:Ext w w' (rng b 0 (cap*e.sz))) (hcap:cap<=maxLen) (hown:OwnBlk w' b (cap*e.sz,isU8 e)) (hlen:List.length vs<=cap) (hhas:Has w' b 0 news)
  (hel:∀ (i:Nat) (y:e.den),vs[i]?=some y->Rep P w A e me [] y ((news.drop (i*e.sz)).take e.sz) (Hi i))
  (hF:∀ b' i,rng b 0 (cap*e.sz) b' i+sumF (List.length vs) Hi b' i<=F1 b' i) (hle:∀ b' i,F1 b' i<=F0 b' i) (h1:∀ b i,F0 b i<=1) (hdis:∀ b i,1<=F0 b i->¬ A b i) (hbnd:∀ b i,1<=F0 b i\/A b i->b < w.heap.size) :
  Rep P w' A (.slc e) (.slc true me) [] vs [.slice (some ⟨b,0,none⟩) (List.length vs) cap] F1:=by
 simp only[Rep,hole,List.any_nil,Bool.false_eq_true,if_false,ownMd,mdOf,Md.own,if_true,Md.e]
 refine ⟨some ⟨b,0,none⟩,cap,rfl,hlen,hcap,(fun e=>by cases e),fun ad e2=>?_⟩
 injection e2 with e2
 subst e2
 refine ⟨rfl,rfl,hown,Hi,hF,fun i y hy=>?_⟩
 have hr:=hel i y hy
 have hi:=(List.getElem?_eq_some_iff.1 hy).1
 refine ⟨_,Rep.length _ hr,fun j u hu=>?_,?_⟩
 ·rw[List.getElem?_take] at hu
  split at hu
  ·rw[List.getElem?_drop] at hu
   have:=hhas _ u hu
   rw[Nat.zero_add] at this
   exact this
  ·cases hu
 ·simp only[List.filterMap_nil]
  refine Rep.mono (P:=P) (fun _ _ h=>h) (fun b' k ha u hu=>hw.cell b' k (hbnd b' k (.inr ha)) ?_ u hu) hw.blk e hr (fun _ _=>Nat.le_refl _) (fun b' k hp u hu=>hw.cell b' k ?_ ?_ u hu)
  ·rcases Nat.eq_zero_or_pos (rng b 0 (cap*e.sz) b' k) with h0 | h0
   ·exact h0
   ·exact absurd ha (hdis b' k (by have:=hF b' k;have:=hle b' k;omega))
  ·exact hbnd b' k (.inl (by have:=le_sumF Hi hi b' k;have:=hF b' k;have:=hle b' k;omega))
  ·rcases Nat.eq_zero_or_pos (rng b 0 (cap*e.sz) b' k) with h0 | h0
   ·exact h0
   ·have:=le_sumF Hi hi b' k;have:=hF b' k;have:=hle b' k;have:=h1 b' k;omega
def delF (e:Ty) (v:List e.den×Int×Int×Unit):Option (List e.den×Unit):=if 0<=v.2.1/\v.2.1<=v.2.2.1/\v.2.2.1<=(v.1.length:Int) then some (v.1.take v.2.1.toNat++v.1.drop v.2.2.1.toNat,()) else none
def delIn (i j:Int) (k:Nat):Bool:=decide (i<=(k:Int))&&decide ((k:Int) < j)
def delH (i j:Int):List Path->Bool
 | []=>true
 | [.idx k::_]=>delIn i j k
 | _=>false
theorem delH_facts {i j:Int} {H:List Path} (h:delH i j H=true):hole H=false/\(j<=i->H=[])/\∀ t:Nat,((t:Int) < i\/j<=(t:Int))->H.filterMap (stripI t)=[]:=by
 unfold delH at h
 split at h
 ·exact ⟨rfl,fun _=>rfl,fun _ _=>rfl⟩
 ·rename_i k q
  simp only[delIn,Bool.and_eq_true,decide_eq_true_eq] at h
  refine ⟨rfl,fun hij=>by omega,fun t ht=>?_⟩
  have hne:¬ t=k:=by omega
  simp[stripI,hne]
 ·cases h
theorem delete_ok (L:SlLaysE0.n45 P ρ) {e:Ty} {me:Md} (hl:layB P e (.inl (ρ.t 23))=true) (h1:1<=e.sz) (hzk:e.zok=true) (he:EnterOk P (ρ.f 45) false) :
  Ok P (ρ.f 45) { ps:=[(.eatv (.slc true me),.slc e),(.ro,.int .i64),(.ro,.int .i64)],rs:=[(.slc e,.slc true me)],F:=delF e,hol:=fun v H=>delH v.2.1 v.2.2.1 H }:=by
 refine ⟨?_,he⟩
 intro w A F0 v xs hargs hle hdis hbnd out hout
 obtain ⟨vs,i,j,⟨⟩⟩:=v
 obtain ⟨x,xs',F1,F2,rfl,hF,⟨H,cs,hH,rfl,hrep⟩,x2,xs2,F3,F4,rfl,hF2,⟨cs2,rfl,hi⟩,x3,xs3,F5,F6,rfl,hF3,⟨cs3,rfl,hj⟩,hnil⟩:=hargs
 have hnil:xs3=[]:=hnil
 subst hnil
 have hrep:Rep P w A (.slc e) (.slc true me) H vs cs F1:=hrep
 have hH:delH i j H=true:=hH
 obtain ⟨hH1,hH2,hH3⟩:=delH_facts hH
 have hi:cs2=[.int .i64 i]:=hi
 have hj:cs3=[.int .i64 j]:=hj
 subst hi;subst hj
 have hout:delF e (vs,i,j,())=some out:=hout
 unfold delF at hout
 split at hout
 rotate_left
 ·cases hout
 rename_i hb
 obtain ⟨b1,b2,b3⟩:=hb
 simp only at b1 b2 b3 hout
 injection hout with hout
 subst hout
 obtain ⟨ni,rfl⟩:=Int.eq_ofNat_of_zero_le b1
 obtain ⟨nj,rfl⟩:=Int.eq_ofNat_of_zero_le (Int.le_trans b1 b2)
 simp only[Int.toNat_natCast]
 have hij:ni<=nj:=by omega
 have hjn:nj<=List.length vs:=by omega
 obtain ⟨inf,zv,i1,i2,i3,i4,i5,_⟩:=infoOk_zero (layB_info hl)
 have hz:∀ w,(zeroValue (ρ.t 23)).run P w=.ok zv w:=fun w=>by simp[zeroValue,typeInfo,i1,i4]
 have z23:∀ w,(Go.sizeOf (ρ.t 23)).run P w=.ok e.sz w:=fun w=>by simp[Go.sizeOf,typeInfo,i1,i2]
 obtain ⟨xa,cap,olds,Fi,r1,r2,r3,r4,r5,r6,r7,r8⟩:=slc_elemsH hH1 (v:=vs) hrep
 obtain ⟨c1,c2,c3,c4⟩:=r8 rfl
 subst r1
 have hmax:cap<=9223372036854775807:=by unfold maxLen at c2;omega
 have hx:(mkV (.slc e) [.slice xa (List.length vs) cap]::[mkV (.int .i64) [.int .i64 (ni:Int)],mkV (.int .i64) [.int .i64 (nj:Int)]]).toArray=#[.slice xa (List.length vs) cap,.int .i64 ni,.int .i64 nj]:=rfl
 show Calls P (ρ.f 45) (mkV (.slc e) [.slice xa (List.length vs) cap]::[mkV (.int .i64) [.int .i64 (ni:Int)],mkV (.int .i64) [.int .i64 (nj:Int)]]).toArray w _
 rw[hx]
 have hfin:∀ (w':World) (rv:Value),Ext w w' F0->(∃ cs,rv=mkV (.slc e) cs/\Rep P w' A (.slc e) (.slc true me) [] (vs.take ni++vs.drop nj) cs F1) ->
   ∃ rv',Ending.returned rv=.returned rv'/\Ext w w' F0/\∃ (A':Cells) (G GR GM:FP),(∀ b i,A b i->A' b i)/\(∀ b i,A' b i->A b i\/1<=F0 b i\/w.heap.size<=b)/\(∀ b i,1<=G b i->1<=F0 b i\/w.heap.size<=b)/\(∀ b i,G b i<=1)/\(∀ b i,1<=G b i->¬ A' b i)/\(∀ b i,1<=G b i\/A' b i->b < w'.heap.size)/\(∀ b i,GR b i+GM b i<=G b i) /\
   RetRel P w' A' [⟨.slc e,.slc true me,vs.take ni++vs.drop nj⟩] rv' GR/\MutsRel P w' A' [(.eatv (.slc true me),.slc e),(.ro,.int .i64),(.ro,.int .i64)] () [mkV (.slc e) [.slice xa (List.length vs) cap],mkV (.int .i64) [.int .i64 (ni:Int)],mkV (.int .i64) [.int .i64 (nj:Int)]] GM:=fun w' rv hext hr=>
  ⟨_,rfl,hext,A,F0,F1,fun _ _=>0,fun _ _ h=>h,fun _ _ h=>.inl h,fun _ _ h=>.inl h,hle,hdis,fun b i h=>Nat.lt_of_lt_of_le (hbnd b i h) hext.size,fun b i=>by have:=hF b i;show F1 b i+0<=F0 b i;omega,hr,trivial⟩
 by_cases heq:ni=nj
 ·subst heq
  refine (del_same L xa (List.length vs) cap ni w hjn c1 hmax (fun ad had=>(c4 ad had).2.1) c3 e.sz z23).mono ?_
  rintro ex w' ⟨rfl,rfl⟩
  refine hfin _ _ (Ext.refl _ _) ⟨_,(mkV_one _ _ rfl).symm,?_⟩
  rw[List.take_append_drop]
  have hrep':=hrep
  rw[hH2 (Int.le_refl _)] at hrep'
  exact hrep'
 ·cases xa with
  | none=>have:=c3 rfl;omega
  | some ad=>
   obtain ⟨q1,q2,q3,q4⟩:=c4 ad rfl
   obtain ⟨_,d5⟩:=r3 ad rfl
   obtain ⟨b,off,sp⟩:=ad
   simp only at q1 q2 q3 q4 d5
   subst q1;subst q2
   have hle1:List.length vs*e.sz<=cap*e.sz:=Nat.mul_le_mul_right _ c1
   have hcell:∀ t,t < cap*e.sz->(w.cell? ⟨b,t,none⟩).isSome=true:=fun t ht=>by
    obtain ⟨c,e',fr,w1,w2,w3⟩:=q3
    unfold World.cell?
    simp only[w1,Option.isSome_none,Bool.false_eq_true,if_false]
    rw[Array.getElem?_eq_getElem (by simp only at w2;omega)];rfl
   have hkit:=del_calls L e.sz inf zv i1 i2 hz i5 (zone w hl hzk i1 i4) b 0 (List.length vs) cap ni nj olds w r4 (fun t u hu=>ce_cell (d5 t u hu) (r5 u (List.mem_of_getElem? hu))) (fun t ht=>by rw[Nat.zero_add];exact q3.frozen (by simp only;omega)) r5 c1 hmax (by omega) hjn
   refine hkit.mono ?_
   rintro ex w' ⟨rfl,hw⟩
   simp only[Nat.zero_add] at hw
   have hnew:List.length (vs.take ni++vs.drop nj)=ni+(List.length vs - nj):=by simp;omega
   have m1:ni*e.sz+(List.length vs - nj)*e.sz=(ni+(List.length vs - nj))*e.sz:=by rw[Nat.add_mul]
   have m2:(ni+(List.length vs - nj))*e.sz<=List.length vs*e.sz:=Nat.mul_le_mul_right _ (by omega)
   have m3:(olds.drop (nj*e.sz)).length=(List.length vs - nj)*e.sz:=by rw[List.length_drop,r4,Nat.sub_mul]
   have hZ:(Builtin.zeroCells zv.cells (List.length vs - (ni+(List.length vs - nj)))).toList.length=(List.length vs - (ni+(List.length vs - nj)))*e.sz:=by simp[Builtin.zeroCells,i5]
   have m4:(ni+(List.length vs - nj))*e.sz+(List.length vs - (ni+(List.length vs - nj)))*e.sz=List.length vs*e.sz:=by rw[<-Nat.add_mul];congr 1;omega
   have x1:=ext_setCells (b:=b) (o:=ni*e.sz) (olds.drop (nj*e.sz)) w.drew (ni*e.sz)
   have x2:=ext_setCells (b:=b) (o:=(ni+(List.length vs - nj))*e.sz) (Builtin.zeroCells zv.cells (List.length vs - (ni+(List.length vs - nj)))).toList (w.drew.setCells b (ni*e.sz) (olds.drop (nj*e.sz))) ((ni+(List.length vs - nj))*e.sz)
   have hx1:∀ b' t,rng b 0 (cap*e.sz) b' t=0->rng b (ni*e.sz) (olds.drop (nj*e.sz)).length b' t=0:=fun b' t h0=>by
    simp only[rng] at h0 ⊢
    split at h0
    ·cases h0
    ·rw[if_neg (by omega)]
   have hx2:∀ b' t,rng b 0 (cap*e.sz) b' t=0->rng b ((ni+(List.length vs - nj))*e.sz) (Builtin.zeroCells zv.cells (List.length vs - (ni+(List.length vs - nj)))).toList.length b' t=0:=fun b' t h0=>by
    simp only[rng] at h0 ⊢
    split at h0
    ·cases h0
    ·rw[if_neg (by omega)]
   have hext:Ext w w' (rng b 0 (cap*e.sz)):=by
    rw[hw]
    exact (((ext_drew w).mono (fun _ _ _=>rfl)).trans (x1.mono hx1) (fun _ _ _ h=>h)).trans (x2.mono hx2) (fun _ _ _ h=>h)
   refine hfin w' _ (hext.mono fun b' t h0=>by have:=q4 b' t;have:=hF b' t;omega) ⟨[.slice (some ⟨b,0,none⟩) (ni+(List.length vs - nj)) cap],(mkV_one _ _ rfl).symm,?_⟩
   rw[<-hnew]
   refine rep_laid (news:=olds.take (ni*e.sz)++olds.drop (nj*e.sz)) (Hi:=fun t=>if t < ni then Fi t else Fi (nj+(t - ni))) (F0:=F0) hext c2 (hext.blk _ _ q3) (by rw[hnew];omega) ?_ ?_ (fun b' t=>?_) (fun b' t=>by have:=hF b' t;omega) hle hdis hbnd
   ·intro t u hu
    rw[Nat.zero_add]
    have hl1:(olds.take (ni*e.sz)).length=ni*e.sz:=by rw[List.length_take,r4];omega
    rw[hw]
    have hin2:t < (ni+(List.length vs - nj))*e.sz:=by
     have:=(List.getElem?_eq_some_iff.1 hu).1
     rw[List.length_append,hl1,m3] at this
     omega
    refine x2.cell b t ?_ ?_ u ?_
    ·have:=x1.size
     have hb:=q3.lt
     exact Nat.lt_of_lt_of_le hb x1.size
    ·simp only[rng];rw[if_neg (by omega)]
    ·by_cases ht:t < ni*e.sz
     ·rw[List.getElem?_append_left (by omega),List.getElem?_take,if_pos ht] at hu
      refine x1.cell b t q3.lt ?_ u ?_
      ·simp only[rng];rw[if_neg (by omega)]
      ·have:=d5 t u hu
       rw[Nat.zero_add] at this
       exact this
     ·rw[List.getElem?_append_right (by omega),hl1] at hu
      have:=has_setCells (w:=w.drew) (b:=b) (o:=ni*e.sz) (L:=olds.drop (nj*e.sz)) (fun k hk=>by rw[m3] at hk;exact hcell _ (by omega)) (fun u hu=>r5 u (List.mem_of_mem_drop hu)) _ u hu
      rw[show ni*e.sz+(t - ni*e.sz)=t by omega] at this
      exact this
   ·have hl1:(olds.take (ni*e.sz)).length=(vs.take ni).length*e.sz:=by rw[List.length_take,List.length_take,r4,Nat.min_eq_left (show ni<=List.length vs by omega),Nat.min_eq_left (Nat.mul_le_mul_right _ (by omega))]
    have hr:=two_rows (P:=P) (w:=w) (A:=A) (e:=e) (me:=me) (v:=vs.take ni) (y:=vs.drop nj) (Fi:=Fi) (Gi:=fun t=>Fi (nj+t)) hl1 (fun t z hz=>by
      rw[List.getElem?_take] at hz
      split at hz
      ·rename_i ht
       have:=r6 t z hz
       rw[hH3 t (.inl (by omega))] at this
       have h6:t*e.sz+e.sz<=ni*e.sz:=by rw[<-Nat.succ_mul];exact Nat.mul_le_mul_right _ (by omega)
       rw[List.drop_take,List.take_take,Nat.min_eq_left (by omega)]
       exact this
      ·cases hz) (fun t z hz=>by
      rw[List.getElem?_drop] at hz
      have:=r6 (nj+t) z hz
      rw[hH3 (nj+t) (.inr (by omega))] at this
      rw[List.drop_drop,<- Nat.add_mul]
      exact this)
    intro t z hz
    have:=hr t z hz
    have hl2:(vs.take ni).length=ni:=by simp;omega
    rw[hl2] at this
    exact this
   ·rw[hnew]
    have s1:=two_sums ni (List.length vs - nj) Fi (fun t=>Fi (nj+t)) b' t
    have s2:=sumF_add nj (List.length vs - nj) Fi b' t
    have s3:=sumF_part (List.length vs) Fi 0 ni (by omega) b' t
    have s4:=sumF_add ni (nj - ni) Fi b' t
    rw[show ni+(nj - ni)=nj by omega] at s4
    rw[show nj+(List.length vs - nj)=List.length vs by omega] at s2
    have:=q4 b' t
    have e1:sumF (ni+(List.length vs - nj)) (fun t=>if t < ni then Fi t else Fi (nj+(t - ni))) b' t=sumF ni Fi b' t+sumF (List.length vs - nj) (fun t=>Fi (nj+t)) b' t:=s1
    omega
end
end OT
set_option maxRecDepth 100000
set_option linter.unusedVariables false
namespace OT
open Go Go.Proofs.Tryz
abbrev Row:Type:=(Int×Int×Int×(List UInt8)×Unit)
abbrev tRow:Ty:=(tupT [i64,i64,i64,.str])
abbrev Change:Type:=(Bool×Row×Bool×Row×Unit)
abbrev tChange:Ty:=(tupT [.bool,tRow,.bool,tRow])
abbrev Key:Type:=(Int×Int×Unit)
abbrev tKey:Ty:=(tupT [i64,i64])
abbrev Tx:Type:=(Int×(List Change)×(List Int)×(List Key)×Unit)
abbrev tTx:Ty:=(tupT [i64,(.slc tChange),(.slc i64),(.slc tKey)])
abbrev Plain:Type:=((List Row)×(List Tx)×Int×Unit)
abbrev tPlain:Ty:=(tupT [(.slc tRow),(.slc tTx),i64])
abbrev Op:Type:=(Int×Int×Row×Int×Unit)
abbrev tOp:Ty:=(tupT [i64,i64,tRow,i64])
abbrev PlainResult:Type:=(Int×Int×Plain×Unit)
abbrev tPlainResult:Ty:=(tupT [i64,i64,tPlain])
abbrev ChangeResult:Type:=(Int×Bool×Change×Unit)
abbrev tChangeResult:Ty:=(tupT [i64,.bool,tChange])
abbrev RowsResult:Type:=(Int×(List Row)×Unit)
abbrev tRowsResult:Ty:=(tupT [i64,(.slc tRow)])
abbrev TxsResult:Type:=(Int×(List Tx)×Unit)
abbrev tTxsResult:Ty:=(tupT [i64,(.slc tTx)])
abbrev RunResult:Type:=(Int×(List Int)×(List Int)×Plain×Unit)
abbrev tRunResult:Ty:=(tupT [i64,(.slc i64),(.slc i64),tPlain])
abbrev Buffer:Type:=(Int×(List Change)×Unit)
abbrev tBuffer:Ty:=(tupT [i64,(.slc tChange)])
abbrev Miner:Type:=((List (List UInt8))×(List Buffer)×Unit)
abbrev tMiner:Ty:=(tupT [(.slc (.slc u8)),(.slc tBuffer)])
abbrev Run:Type:=(Int×(List UInt8)×Unit)
abbrev tRun:Ty:=(tupT [i64,(.slc u8)])
abbrev Record:Type:=(Int×Int×Int×(List Run)×Unit)
abbrev tRecord:Ty:=(tupT [i64,i64,i64,(.slc tRun)])
abbrev CellResult:Type:=(Int×Int×Int×Int×Row×Unit)
abbrev tCellResult:Ty:=(tupT [i64,i64,i64,i64,tRow])
abbrev L6Spot:Type:=(Int×Int×CellResult×Unit)
abbrev tL6Spot:Ty:=(tupT [i64,i64,tCellResult])
abbrev MinerResult:Type:=(Int×Bool×Bool×Int×(List Change)×Miner×Unit)
abbrev tMinerResult:Ty:=(tupT [i64,.bool,.bool,i64,(.slc tChange),tMiner])
abbrev EditsResult:Type:=(Int×(List Run)×(List (List UInt8))×Unit)
abbrev tEditsResult:Ty:=(tupT [i64,(.slc tRun),(.slc (.slc u8))])
abbrev Seen:Type:=(Row×Int×Int×Bool×Int×Int×Unit)
abbrev tSeen:Ty:=(tupT [tRow,i64,i64,.bool,i64,i64])
abbrev MinedResult:Type:=(Int×(List Buffer)×Miner×Unit)
abbrev tMinedResult:Ty:=(tupT [i64,(.slc tBuffer),tMiner])
abbrev Connector:Type:=(Miner×Int×Miner×Int×Unit)
abbrev tConnector:Ty:=(tupT [tMiner,i64,tMiner,i64])
abbrev Sent:Type:=(Int×Int×(List Change)×Unit)
abbrev tSent:Ty:=(tupT [i64,i64,(.slc tChange)])
abbrev ConnectorResult:Type:=(Int×Bool×Sent×Connector×Unit)
abbrev tConnectorResult:Ty:=(tupT [i64,.bool,tSent,tConnector])
abbrev RecordResult:Type:=(Int×Int×Record×Unit)
abbrev tRecordResult:Ty:=(tupT [i64,i64,tRecord])
abbrev SentResult:Type:=(Int×(List Sent)×Connector×Unit)
abbrev tSentResult:Ty:=(tupT [i64,(.slc tSent),tConnector])
abbrev Log:Type:=((List UInt8)×(List UInt8)×Unit)
abbrev tLog:Ty:=(tupT [(.slc u8),(.slc u8)])
abbrev Store:Type:=(Bool×(List (List UInt8))×Log×(List Tx)×Int×Unit)
abbrev tStore:Ty:=(tupT [.bool,(.slc (.slc u8)),tLog,(.slc tTx),i64])
abbrev L1Src:Type:=((List UInt8)×Int×Unit)
abbrev tL1Src:Ty:=(tupT [(.slc u8),i64])
abbrev L7Work:Type:=((List (List UInt8))×(List Run)×Unit)
abbrev tL7Work:Ty:=(tupT [(.slc (.slc u8)),(.slc tRun)])
abbrev PageResult:Type:=(Int×Int×(List UInt8)×Unit)
abbrev tPageResult:Ty:=(tupT [i64,i64,(.slc u8)])
noncomputable def TL0:TL:=[(2,i64),(40,tRow),(188,tTx),(33,(.slc tTx)),(32,(.slc tRow)),(145,tChange),(71,(.slc tChange)),(4,.bool),(186,(.slc tKey)),(310,tKey),(51,(.slc i64)),(42,tOp),(9,.str),(35,tPlain),(177,tChangeResult),(37,tPlainResult),(53,tRunResult),(55,(.slc tOp)),(27,tRow),(29,tOp),(301,(.map tKey .bool)),(153,tRowsResult),(3,i64),(49,(.slc tOp)),(191,tTxsResult),(5,u8),(104,(.slc u8)),(464,(.int .u64))]
theorem tlOk:(tiOk prog TL0&&eqOkL prog TL0)=true:=by kernel_rfl
namespace laws_szRow
abbrev Arg:Type:=Row×Int×Unit
abbrev Out:Type:=Int×Unit
abbrev ps:PQ:=[(.ro,tRow),(.ro,i64)]
noncomputable def D:FD:={ fn:=f103,tl:=TL0,ps:=ps,rs:=[(i64,(roMd i64))] }
noncomputable def sem (a:Arg):Option Out:=@lift Out fun k=>D.W k a
noncomputable def p (a1:Arg):Option Out:=bif decide (w64 (a1.2.1 - (a1.1.2.2.2.1.length:Int)) < (0:Int)) then (some ((-1:Int),())) else some (w64 (a1.2.1 - (a1.1.2.2.2.1.length:Int)),())
theorem raw_eq (k:Nat) (a1:Arg):@Eq (Option Out) (D.W k a1) (p a1):=by kernel_rfl
theorem ok:Ok prog 103 D.sig:=fd_ok func103 tlOk (by kernel_rfl) (fn_nil _)
end laws_szRow
namespace laws_szOp
abbrev Arg:Type:=Op×Int×Unit
abbrev Out:Type:=Int×Unit
abbrev ps:PQ:=[(.ro,tOp),(.ro,i64)]
noncomputable def D:FD:={ fn:=f16,tl:=TL0,ps:=ps,rs:=[(i64,(roMd i64))],gl:=[(103,laws_szRow.D.sig)] }
noncomputable def sem (a:Arg):Option Out:=@lift Out fun k=>D.W k a
noncomputable def p (a1:Arg):Option Out:=(laws_szRow.sem (a1.1.2.2.1,a1.2.1,())).bind fun r2=>bif decide (r2.1 < (0:Int)) then (some ((-1:Int),())) else some (r2.1,())
theorem raw_eq (k:Nat) (a1:Arg):@Eq (Option Out) (D.W k a1) (p a1):=by kernel_rfl
theorem ok:Ok prog 16 D.sig:=fd_ok func16 tlOk (by kernel_rfl) (fc laws_szRow.ok (fn_nil _))
end laws_szOp
namespace spec_l6At
abbrev Arg:Type:=(List Row)×Int×Int×Unit
abbrev Out:Type:=Int×Unit
abbrev ps:PQ:=[(.ro,(.slc tRow)),(.ro,i64),(.ro,i64)]
noncomputable def D:FD:={ fn:=f304,tl:=TL0,ps:=ps,rs:=[(i64,(roMd i64))],lv:=[(2,[0,1,2,7])],lx:=[(0,[])] }
noncomputable def sem (a:Arg):Option Out:=@lift Out fun k=>D.W k a
noncomputable def T0 (a1:Arg) (v402:Int):St:={ n:=31,sl:=[(0,.val (.slc tRow) a1.1),(1,.val i64 a1.2.1),(2,.val i64 a1.2.2.1),(7,.val i64 v402)],vr:=[],lent:=[] }
noncomputable def b0 (self:Int->Option Out) (e0:(Unit)->Option Out) (a1:Arg) (v402:Int):Option Out:=bif decide (v402 < (a1.1.length:Int)) then (if 0<=v402 then ((a1.1[v402.toNat]?).bind fun x603=>bif decide (x603.1=a1.2.1) then (if 0<=v402 then ((a1.1[v402.toNat]?).bind fun x604=>bif decide (x604.2.1=a1.2.2.1) then (some (v402,())) else self (w64 (v402+(1:Int)))) else none) else self (w64 (v402+(1:Int)))) else none) else e0 ()
noncomputable abbrev B0 (_:Nat):=b0
noncomputable def q0 (a1:Arg) (z605:(Unit)):Option Out:=some ((-1:Int),())
noncomputable abbrev Q0 (_:Nat):=q0
noncomputable def s0 (k:Nat) (a1:Arg):(Int)->Option Out:=fun v402=>D.L k [1,0,1,0,0] [0,1,2,7] [] (blockC 0 (seqC (D.N k [1,1]) D.K0)) (T0 a1 v402)
noncomputable def r0 (k:Nat) (a1:Arg):(Int)->Option Out:=rawIter (fun w v=>B0 k w (Q0 k a1) a1 v) k
theorem s0_eq (k:Nat) (a1:Arg):s0 k a1=r0 k a1:=
 funext fun v402=>iter_raw _ _ _ (T0 a1) _ (fun rec v=>by kernel_rfl) k v402
noncomputable def p (l0:(Int)->Option Out) (a1:Arg):Option Out:=l0 (0:Int)
theorem raw_eq (k:Nat) (a1:Arg):@Eq (Option Out) (D.W k a1) (p (r0 k a1) a1):=
 Eq.trans (b:=p (s0 k a1) a1) (by kernel_rfl) (by rw[s0_eq])
theorem ok:Ok prog 304 D.sig:=fd_ok func304 tlOk (by kernel_rfl) (fn_nil _)
end spec_l6At
namespace spec_l1Before
abbrev Arg:Type:=Row×Row×Unit
abbrev Out:Type:=Bool×Unit
abbrev ps:PQ:=[(.ro,(.ptr tRow)),(.ro,(.ptr tRow))]
noncomputable def D:FD:={ fn:=f334,tl:=TL0,ps:=ps,rs:=[(.bool,(roMd .bool))],od:=[(1,[0,1,2,3,4,5,6,7,8,9,10,11,12,13,14,15,16,17,18,19,20,21,22,23,24,25,26,27,28,29,30,31])] }
noncomputable def sem (a:Arg):Option Out:=@lift Out fun k=>D.W k a
noncomputable def p (a1:Arg):Option Out:=bif decide (a1.1.1 < a1.2.1.1) then (some (true,())) else bif decide (a1.1.1=a1.2.1.1) then (some (decide (a1.1.2.1 < a1.2.1.2.1),())) else some (false,())
theorem raw_eq (k:Nat) (a1:Arg):@Eq (Option Out) (D.W k a1) (p a1):=by kernel_rfl
theorem ok:Ok prog 334 D.sig:=fd_ok func334 tlOk (by kernel_rfl) (fn_nil _)
end spec_l1Before
namespace spec_l6Put
abbrev Arg:Type:=(List Row)×Row×Unit
abbrev Out:Type:=(List Row)×Unit
abbrev ps:PQ:=[(.ro,(.slc tRow)),(.ro,tRow)]
noncomputable def D:FD:={ fn:=f305,tl:=TL0,ps:=ps,rs:=[((.slc tRow),(ownMd (.slc tRow)))],gl:=[(334,spec_l1Before.D.sig)],lv:=[(2,[0,3,5])],lx:=[(0,[0,3,5])],od:=[(5,[0,1,4,5,6,2,3,7,8])] }
noncomputable def sem (a:Arg):Option Out:=@lift Out fun k=>D.W k a
noncomputable def T0 (a1:Arg) (v402:Int):St:={ n:=32,sl:=[(0,.val (.slc tRow) a1.1),(3,.box tRow (roMd tRow) [] a1.2.1),(5,.val i64 v402)],vr:=[],lent:=[] }
noncomputable def b0 (self:Int->Option Out) (e0:Int->Option Out) (a1:Arg) (v402:Int):Option Out:=bif decide (v402 < (a1.1.length:Int)) then (if 0<=v402 then ((a1.1[v402.toNat]?).bind fun x603=>(spec_l1Before.sem (x603,a1.2.1,())).bind fun r604=>bif r604.1 then (self (w64 (v402+(1:Int)))) else e0 v402) else none) else e0 v402
noncomputable abbrev B0 (_:Nat):=b0
noncomputable def q0 (a1:Arg) (z605:Int):Option Out:=if 0<=z605/\z605<=(a1.1.length:Int) then (if ([]:List Row).length+((a1.1.take z605.toNat).drop 0).length<=CAP then (let y606:=([]:List Row)++((a1.1.take z605.toNat).drop 0);if 0<=z605/\z605<=(a1.1.length:Int) then (if y606.length+[a1.2.1].length<=CAP then (if (y606++[a1.2.1]).length+((a1.1.take a1.1.length).drop z605.toNat).length<=CAP then (let y607:=(y606++[a1.2.1])++((a1.1.take a1.1.length).drop z605.toNat);some (y607,())) else none) else none) else none) else none) else none
noncomputable abbrev Q0 (_:Nat):=q0
noncomputable def s0 (k:Nat) (a1:Arg):(Int)->Option Out:=fun v402=>D.L k [1,1,0,0,0] [0,3,5] [] (blockC 0 (seqC (D.N k [1,1,1]) D.K0)) (T0 a1 v402)
noncomputable def r0 (k:Nat) (a1:Arg):(Int)->Option Out:=rawIter (fun w v=>B0 k w (Q0 k a1) a1 v) k
theorem s0_eq (k:Nat) (a1:Arg):s0 k a1=r0 k a1:=
 funext fun v402=>iter_raw _ _ _ (T0 a1) _ (fun rec v=>by kernel_rfl) k v402
noncomputable def p (l0:(Int)->Option Out) (a1:Arg):Option Out:=l0 (0:Int)
theorem raw_eq (k:Nat) (a1:Arg):@Eq (Option Out) (D.W k a1) (p (r0 k a1) a1):=
 Eq.trans (b:=p (s0 k a1) a1) (by kernel_rfl) (by rw[s0_eq])
theorem ok:Ok prog 305 D.sig:=fd_ok func305 tlOk (by kernel_rfl) (fc spec_l1Before.ok (fn_nil _))
end spec_l6Put
namespace spec_l6Key
abbrev Arg:Type:=Change×Unit
abbrev Out:Type:=Int×Int×Unit
abbrev ps:PQ:=[(.ro,(.ptr tChange))]
noncomputable def D:FD:={ fn:=f321,tl:=TL0,ps:=ps,rs:=[(i64,(roMd i64)),(i64,(roMd i64))],od:=[(2,[0,1,2,3,4,5,6,7,8,9,10,11]),(3,[0,1,2,3,4,5,6,7,8,9,10,11])] }
noncomputable def sem (a:Arg):Option Out:=@lift Out fun k=>D.W k a
noncomputable def p (a1:Arg):Option Out:=bif a1.1.2.2.1 then (some (a1.1.2.2.2.1.1,a1.1.2.2.2.1.2.1,())) else some (a1.1.2.1.1,a1.1.2.1.2.1,())
theorem raw_eq (k:Nat) (a1:Arg):@Eq (Option Out) (D.W k a1) (p a1):=by kernel_rfl
theorem ok:Ok prog 321 D.sig:=fd_ok func321 tlOk (by kernel_rfl) (fn_nil _)
end spec_l6Key
namespace spec_l6Do
abbrev Arg:Type:=(List Row)×Change×Unit
abbrev Out:Type:=(List Row)×Bool×Unit
abbrev ps:PQ:=[(.ro,(.slc tRow)),(.ro,(.ptr tChange))]
noncomputable def D:FD:={ fn:=f237,tl:=TL0,ps:=ps,rs:=[((.slc tRow),(ownMd (.slc tRow))),(.bool,(roMd .bool))],gl:=[(304,spec_l6At.D.sig),(305,spec_l6Put.D.sig),(321,spec_l6Key.D.sig)],lv:=[(7,[0,1,8,9,10])],lx:=[(0,[1,9])],od:=[(3,[0,1,2,3,4,5,6,7,8,9,10,11,12,13,14,15,16,17,18,19,20,21])] }
noncomputable def sem (a:Arg):Option Out:=@lift Out fun k=>D.W k a
noncomputable def T0 (a1:Arg) (c1011:Int) (v1010:(List Row)×Int):St:={ n:=70,sl:=[(0,.val (.slc tRow) a1.1),(1,.cp tChange a1.2.1),(8,.val i64 c1011),(9,.own (.slc tRow) (ownMd (.slc tRow)) [] v1010.1),(10,.val i64 v1010.2)],vr:=[],lent:=[] }
noncomputable def b0 (self:((List Row)×Int)->Option Out) (e0:(List Row)->Option Out) (a1:Arg) (c1011:Int) (v1010:(List Row)×Int):Option Out:=bif decide (v1010.2 < (a1.1.length:Int)) then (bif !decide (v1010.2=c1011) then (if 0<=v1010.2 then ((a1.1[v1010.2.toNat]?).bind fun x1212=>if v1010.1.length+[x1212].length<=CAP then (self (v1010.1++[x1212],w64 (v1010.2+(1:Int)))) else none) else none) else self (v1010.1,w64 (v1010.2+(1:Int)))) else e0 v1010.1
noncomputable abbrev B0 (_:Nat):=b0
noncomputable def q0 (a1:Arg) (c1011:Int) (z1213:(List Row)):Option Out:=bif a1.2.1.2.2.1 then ((spec_l6Put.sem (z1213,a1.2.1.2.2.2.1,())).bind fun r1214=>some (r1214.1,true,())) else some (z1213,true,())
noncomputable abbrev Q0 (_:Nat):=q0
noncomputable def s0 (k:Nat) (a1:Arg):Int->((List Row)×Int)->Option Out:=fun c1011=>fun v1010=>D.L k [1,1,1,1,1,0,1,0,0] [0,1,8,9,10] [] (blockC 0 (seqC (D.N k [1,1,1,1,1,1]) D.K0)) (T0 a1 c1011 v1010)
noncomputable def r0 (k:Nat) (a1:Arg):Int->((List Row)×Int)->Option Out:=fun c1011=>rawIter (fun w v=>B0 k w (Q0 k a1 c1011) a1 c1011 v) k
theorem s0_eq (k:Nat) (a1:Arg):s0 k a1=r0 k a1:=
 funext fun c1011=>funext fun v1010=>iter_raw _ _ _ (T0 a1 c1011) _ (fun rec v=>by kernel_rfl) k v1010
noncomputable def p (l0:Int->((List Row)×Int)->Option Out) (a1:Arg):Option Out:=(spec_l6Key.sem (a1.2.1,())).bind fun r2=>(spec_l6At.sem (a1.1,r2.1,r2.2.1,())).bind fun r3=>let j609:Option Out:=l0 r3.1 (([]:List Row),(0:Int));bif !(a1.2.1.1 == (decide ((0:Int)<=r3.1))) then (some (([]:List Row),false,())) else bif decide ((0:Int)<=r3.1) then (if 0<=r3.1 then ((a1.1[r3.1.toNat]?).bind fun x4=>bif !(Ty.eq tRow x4 a1.2.1.2.1) then (some (([]:List Row),false,())) else j609) else none) else j609
theorem raw_eq (k:Nat) (a1:Arg):@Eq (Option Out) (D.W k a1) (p (r0 k a1) a1):=
 Eq.trans (b:=p (s0 k a1) a1) (by kernel_rfl) (by rw[s0_eq])
theorem ok:Ok prog 237 D.sig:=fd_ok func237 tlOk (by kernel_rfl) (fc spec_l6At.ok (fc spec_l6Put.ok (fc spec_l6Key.ok (fn_nil _))))
end spec_l6Do
namespace spec_l10Inverse
abbrev Arg:Type:=(List Change)×Unit
abbrev Out:Type:=(List Change)×Unit
abbrev ps:PQ:=[(.ro,(.slc tChange))]
noncomputable def D:FD:={ fn:=f343,tl:=TL0,ps:=ps,rs:=[((.slc tChange),(ownMd (.slc tChange)))],lv:=[(3,[0,3,4])],lx:=[(0,[3])] }
noncomputable def sem (a:Arg):Option Out:=@lift Out fun k=>D.W k a
noncomputable def T0 (a1:Arg) (v402:(List Change)×Int):St:={ n:=31,sl:=[(0,.val (.slc tChange) a1.1),(3,.own (.slc tChange) (ownMd (.slc tChange)) [] v402.1),(4,.val i64 v402.2)],vr:=[],lent:=[] }
noncomputable def b0 (self:((List Change)×Int)->Option Out) (e0:(List Change)->Option Out) (a1:Arg) (v402:(List Change)×Int):Option Out:=bif decide ((0:Int)<=v402.2) then (if 0<=v402.2 then ((a1.1[v402.2.toNat]?).bind fun x603=>if v402.1.length+[(x603.2.2.1,x603.2.2.2.1,x603.1,x603.2.1,())].length<=CAP then (let y604:=v402.1++[(x603.2.2.1,x603.2.2.2.1,x603.1,x603.2.1,())];self (y604,w64 (v402.2 - (1:Int)))) else none) else none) else e0 v402.1
noncomputable abbrev B0 (_:Nat):=b0
noncomputable def q0 (a1:Arg) (z605:(List Change)):Option Out:=some (z605,())
noncomputable abbrev Q0 (_:Nat):=q0
noncomputable def s0 (k:Nat) (a1:Arg):((List Change)×Int)->Option Out:=fun v402=>D.L k [1,1,0,1,0,0] [0,3,4] [] (blockC 0 (seqC (D.N k [1,1,1]) D.K0)) (T0 a1 v402)
noncomputable def r0 (k:Nat) (a1:Arg):((List Change)×Int)->Option Out:=rawIter (fun w v=>B0 k w (Q0 k a1) a1 v) k
theorem s0_eq (k:Nat) (a1:Arg):s0 k a1=r0 k a1:=
 funext fun v402=>iter_raw _ _ _ (T0 a1) _ (fun rec v=>by kernel_rfl) k v402
noncomputable def p (l0:((List Change)×Int)->Option Out) (a1:Arg):Option Out:=l0 (([]:List Change),w64 ((a1.1.length:Int) - (1:Int)))
theorem raw_eq (k:Nat) (a1:Arg):@Eq (Option Out) (D.W k a1) (p (r0 k a1) a1):=
 Eq.trans (b:=p (s0 k a1) a1) (by kernel_rfl) (by rw[s0_eq])
theorem ok:Ok prog 343 D.sig:=fd_ok func343 tlOk (by kernel_rfl) (fn_nil _)
end spec_l10Inverse
namespace spec_l11Undo
abbrev Arg:Type:=(List Row)×(List Change)×Unit
abbrev Out:Type:=(List Row)×Bool×Unit
abbrev ps:PQ:=[(.ro,(.slc tRow)),(.ro,(.slc tChange))]
noncomputable def D:FD:={ fn:=f234,tl:=TL0,ps:=ps,rs:=[((.slc tRow),(roMd (.slc tRow))),(.bool,(roMd .bool))],gl:=[(237,spec_l6Do.D.sig),(343,spec_l10Inverse.D.sig)],lv:=[(3,[0,6,7])],lx:=[(0,[0])],lf:=[(3,[(0,(.slc false (.pair .leaf (.pair .leaf (.pair .leaf (.pair .leaf .leaf))))))])] }
noncomputable def sem (a:Arg):Option Out:=@lift Out fun k=>D.W k a
noncomputable def T0 (a1:Arg) (c404:List Change) (v403:(List Row)×Int):St:={ n:=30,sl:=[(0,.val (.slc tRow) v403.1),(6,.own (.slc tChange) (ownMd (.slc tChange)) [] c404),(7,.val i64 v403.2)],vr:=[],lent:=[] }
noncomputable def b0 (self:((List Row)×Int)->Option Out) (e0:(List Row)->Option Out) (a1:Arg) (c404:List Change) (v403:(List Row)×Int):Option Out:=bif decide (v403.2 < (c404.length:Int)) then (if 0<=v403.2/\v403.2 < (c404.length:Int) then ((c404[v403.2.toNat]?).bind fun x605=>(spec_l6Do.sem (v403.1,x605,())).bind fun r606=>bif !r606.2.1 then (some (([]:List Row),false,())) else self (r606.1,w64 (v403.2+(1:Int)))) else none) else e0 v403.1
noncomputable abbrev B0 (_:Nat):=b0
noncomputable def q0 (a1:Arg) (c404:List Change) (z607:(List Row)):Option Out:=some (z607,true,())
noncomputable abbrev Q0 (_:Nat):=q0
noncomputable def s0 (k:Nat) (a1:Arg):(List Change)->((List Row)×Int)->Option Out:=fun c404=>fun v403=>D.L k [1,1,0,1,0,0] [0,6,7] [(0,(.slc false (.pair .leaf (.pair .leaf (.pair .leaf (.pair .leaf .leaf))))))] (blockC 0 (seqC (D.N k [1,1,1]) D.K0)) (T0 a1 c404 v403)
noncomputable def r0 (k:Nat) (a1:Arg):(List Change)->((List Row)×Int)->Option Out:=fun c404=>rawIter (fun w v=>B0 k w (Q0 k a1 c404) a1 c404 v) k
theorem s0_eq (k:Nat) (a1:Arg):s0 k a1=r0 k a1:=
 funext fun c404=>funext fun v403=>iter_raw _ _ _ (T0 a1 c404) _ (fun rec v=>by kernel_rfl) k v403
noncomputable def p (l0:(List Change)->((List Row)×Int)->Option Out) (a1:Arg):Option Out:=(spec_l10Inverse.sem (a1.2.1,())).bind fun r2=>l0 r2.1 (a1.1,(0:Int))
theorem raw_eq (k:Nat) (a1:Arg):@Eq (Option Out) (D.W k a1) (p (r0 k a1) a1):=
 Eq.trans (b:=p (s0 k a1) a1) (by kernel_rfl) (by rw[s0_eq])
theorem ok:Ok prog 234 D.sig:=fd_ok func234 tlOk (by kernel_rfl) (fc spec_l6Do.ok (fc spec_l10Inverse.ok (fn_nil _)))
end spec_l11Undo
namespace spec_l11Back
abbrev Arg:Type:=(List Row)×(List Tx)×Unit
abbrev Out:Type:=(List Row)×Bool×Unit
abbrev ps:PQ:=[(.ro,(.slc tRow)),(.ro,(.slc tTx))]
noncomputable def D:FD:={ fn:=f178,tl:=TL0,ps:=ps,rs:=[((.slc tRow),(roMd (.slc tRow))),(.bool,(roMd .bool))],gl:=[(234,spec_l11Undo.D.sig)],lv:=[(3,[1,6,7])],lx:=[(0,[6])],lf:=[(3,[(6,(.slc false (.pair .leaf (.pair .leaf (.pair .leaf (.pair .leaf .leaf))))))])] }
noncomputable def sem (a:Arg):Option Out:=@lift Out fun k=>D.W k a
noncomputable def T0 (a1:Arg) (v402:(List Row)×Int):St:={ n:=33,sl:=[(1,.val (.slc tTx) a1.2.1),(6,.val (.slc tRow) v402.1),(7,.val i64 v402.2)],vr:=[],lent:=[] }
noncomputable def b0 (self:((List Row)×Int)->Option Out) (e0:(List Row)->Option Out) (a1:Arg) (v402:(List Row)×Int):Option Out:=bif decide (v402.2 < (a1.2.1.length:Int)) then (if 0<=v402.2 then ((a1.2.1[v402.2.toNat]?).bind fun x603=>(spec_l11Undo.sem (v402.1,x603.2.1,())).bind fun r604=>bif !r604.2.1 then (some (([]:List Row),false,())) else self (r604.1,w64 (v402.2+(1:Int)))) else none) else e0 v402.1
noncomputable abbrev B0 (_:Nat):=b0
noncomputable def q0 (a1:Arg) (z605:(List Row)):Option Out:=some (z605,true,())
noncomputable abbrev Q0 (_:Nat):=q0
noncomputable def s0 (k:Nat) (a1:Arg):((List Row)×Int)->Option Out:=fun v402=>D.L k [1,1,0,1,0,0] [1,6,7] [(6,(.slc false (.pair .leaf (.pair .leaf (.pair .leaf (.pair .leaf .leaf))))))] (blockC 0 (seqC (D.N k [1,1,1]) D.K0)) (T0 a1 v402)
noncomputable def r0 (k:Nat) (a1:Arg):((List Row)×Int)->Option Out:=rawIter (fun w v=>B0 k w (Q0 k a1) a1 v) k
theorem s0_eq (k:Nat) (a1:Arg):s0 k a1=r0 k a1:=
 funext fun v402=>iter_raw _ _ _ (T0 a1) _ (fun rec v=>by kernel_rfl) k v402
noncomputable def p (l0:((List Row)×Int)->Option Out) (a1:Arg):Option Out:=if ([]:List Row).length+a1.1.length<=CAP then (l0 (([]:List Row)++a1.1,(0:Int))) else none
theorem raw_eq (k:Nat) (a1:Arg):@Eq (Option Out) (D.W k a1) (p (r0 k a1) a1):=
 Eq.trans (b:=p (s0 k a1) a1) (by kernel_rfl) (by rw[s0_eq])
theorem ok:Ok prog 178 D.sig:=fd_ok func178 tlOk (by kernel_rfl) (fc spec_l11Undo.ok (fn_nil _))
end spec_l11Back
namespace spec_l1In
abbrev Arg:Type:=Int×Int×Int×Unit
abbrev Out:Type:=Bool×Unit
abbrev ps:PQ:=[(.ro,i64),(.ro,i64),(.ro,i64)]
noncomputable def D:FD:={ fn:=f218,tl:=TL0,ps:=ps,rs:=[(.bool,(roMd .bool))] }
noncomputable def sem (a:Arg):Option Out:=@lift Out fun k=>D.W k a
noncomputable def p (a1:Arg):Option Out:=bif decide (a1.2.1<=a1.1) then (some (decide (a1.1<=a1.2.2.1),())) else some (false,())
theorem raw_eq (k:Nat) (a1:Arg):@Eq (Option Out) (D.W k a1) (p a1):=by kernel_rfl
theorem ok:Ok prog 218 D.sig:=fd_ok func218 tlOk (by kernel_rfl) (fn_nil _)
end spec_l1In
namespace spec_l1Text
abbrev Arg:Type:=(List UInt8)×Unit
abbrev Out:Type:=Bool×Unit
abbrev ps:PQ:=[(.ro,.str)]
noncomputable def D:FD:={ fn:=f403,tl:=TL0,ps:=ps,rs:=[(.bool,(roMd .bool))],lv:=[(2,[0,3])],lx:=[(0,[0])] }
noncomputable def sem (a:Arg):Option Out:=@lift Out fun k=>D.W k a
noncomputable def T0 (a1:Arg) (v402:Int):St:={ n:=23,sl:=[(0,.val .str a1.1),(3,.val i64 v402)],vr:=[],lent:=[] }
noncomputable def b0 (self:Int->Option Out) (e0:(Unit)->Option Out) (a1:Arg) (v402:Int):Option Out:=bif decide (v402 < (a1.1.length:Int)) then (if 0<=v402 then ((a1.1[v402.toNat]?).bind fun x603=>bif decide ((x603.toNat:Int) < (97:Int)) then (some (false,())) else if 0<=v402 then ((a1.1[v402.toNat]?).bind fun x604=>bif decide ((122:Int) < (x604.toNat:Int)) then (some (false,())) else self (w64 (v402+(1:Int)))) else none) else none) else e0 ()
noncomputable abbrev B0 (_:Nat):=b0
noncomputable def q0 (a1:Arg) (z605:(Unit)):Option Out:=some (decide ((a1.1.length:Int)<=(8:Int)),())
noncomputable abbrev Q0 (_:Nat):=q0
noncomputable def s0 (k:Nat) (a1:Arg):(Int)->Option Out:=fun v402=>D.L k [1,0,1,0,0] [0,3] [] (blockC 0 (seqC (D.N k [1,1]) D.K0)) (T0 a1 v402)
noncomputable def r0 (k:Nat) (a1:Arg):(Int)->Option Out:=rawIter (fun w v=>B0 k w (Q0 k a1) a1 v) k
theorem s0_eq (k:Nat) (a1:Arg):s0 k a1=r0 k a1:=
 funext fun v402=>iter_raw _ _ _ (T0 a1) _ (fun rec v=>by kernel_rfl) k v402
noncomputable def p (l0:(Int)->Option Out) (a1:Arg):Option Out:=l0 (0:Int)
theorem raw_eq (k:Nat) (a1:Arg):@Eq (Option Out) (D.W k a1) (p (r0 k a1) a1):=
 Eq.trans (b:=p (s0 k a1) a1) (by kernel_rfl) (by rw[s0_eq])
theorem ok:Ok prog 403 D.sig:=fd_ok func403 tlOk (by kernel_rfl) (fn_nil _)
end spec_l1Text
namespace spec_l1Fault
abbrev Arg:Type:=Row×Unit
abbrev Out:Type:=Int×Unit
abbrev ps:PQ:=[(.ro,(.ptr tRow))]
noncomputable def D:FD:={ fn:=f320,tl:=TL0,ps:=ps,rs:=[(i64,(roMd i64))],gl:=[(218,spec_l1In.D.sig),(403,spec_l1Text.D.sig)] }
noncomputable def sem (a:Arg):Option Out:=@lift Out fun k=>D.W k a
noncomputable def p (a1:Arg):Option Out:=(spec_l1In.sem (a1.1.1,(0:Int),(3:Int),())).bind fun r2=>bif !r2.1 then (some ((3:Int),())) else (spec_l1In.sem (a1.1.2.1,(1:Int),(99:Int),())).bind fun r3=>bif !r3.1 then (some ((3:Int),())) else (spec_l1In.sem (a1.1.2.2.1,(0:Int),(999:Int),())).bind fun r4=>bif !r4.1 then (some ((3:Int),())) else (spec_l1Text.sem (a1.1.2.2.2.1,())).bind fun r5=>bif !r5.1 then (some ((5:Int),())) else some ((0:Int),())
theorem raw_eq (k:Nat) (a1:Arg):@Eq (Option Out) (D.W k a1) (p a1):=by kernel_rfl
theorem ok:Ok prog 320 D.sig:=fd_ok func320 tlOk (by kernel_rfl) (fc spec_l1In.ok (fc spec_l1Text.ok (fn_nil _)))
end spec_l1Fault
namespace spec_l6Rows
abbrev Arg:Type:=(List Row)×Unit
abbrev Out:Type:=Int×Unit
abbrev ps:PQ:=[(.ro,(.slc tRow))]
noncomputable def D:FD:={ fn:=f226,tl:=TL0,ps:=ps,rs:=[(i64,(roMd i64))],gl:=[(320,spec_l1Fault.D.sig),(334,spec_l1Before.D.sig)],lv:=[(4,[0,3])],lx:=[(0,[])],od:=[(9,[0,1,2,3,4,5,6,7,8,9,10,11,12])] }
noncomputable def sem (a:Arg):Option Out:=@lift Out fun k=>D.W k a
noncomputable def T0 (a1:Arg) (v402:Int):St:={ n:=34,sl:=[(0,.val (.slc tRow) a1.1),(3,.val i64 v402)],vr:=[],lent:=[] }
noncomputable def b0 (self:Int->Option Out) (e0:(Unit)->Option Out) (a1:Arg) (v402:Int):Option Out:=bif decide (v402 < (a1.1.length:Int)) then (if 0<=v402 then ((a1.1[v402.toNat]?).bind fun x603=>(spec_l1Fault.sem (x603,())).bind fun r604=>bif !decide (r604.1=(0:Int)) then (some (r604.1,())) else bif decide ((0:Int) < v402) then (if 0<=w64 (v402 - (1:Int)) then ((a1.1[(w64 (v402 - (1:Int))).toNat]?).bind fun x605=>if 0<=v402 then ((a1.1[v402.toNat]?).bind fun x606=>(spec_l1Before.sem (x605,x606,())).bind fun r607=>bif !r607.1 then (some ((1:Int),())) else self (w64 (v402+(1:Int)))) else none) else none) else self (w64 (v402+(1:Int)))) else none) else e0 ()
noncomputable abbrev B0 (_:Nat):=b0
noncomputable def q0 (a1:Arg) (z608:(Unit)):Option Out:=some ((0:Int),())
noncomputable abbrev Q0 (_:Nat):=q0
noncomputable def s0 (k:Nat) (a1:Arg):(Int)->Option Out:=fun v402=>D.L k [1,1,0,1,0,0] [0,3] [] (blockC 0 (seqC (D.N k [1,1,1]) D.K0)) (T0 a1 v402)
noncomputable def r0 (k:Nat) (a1:Arg):(Int)->Option Out:=rawIter (fun w v=>B0 k w (Q0 k a1) a1 v) k
theorem s0_eq (k:Nat) (a1:Arg):s0 k a1=r0 k a1:=
 funext fun v402=>iter_raw _ _ _ (T0 a1) _ (fun rec v=>by kernel_rfl) k v402
noncomputable def p (l0:(Int)->Option Out) (a1:Arg):Option Out:=bif decide ((60:Int) < (a1.1.length:Int)) then (some ((2:Int),())) else l0 (0:Int)
theorem raw_eq (k:Nat) (a1:Arg):@Eq (Option Out) (D.W k a1) (p (r0 k a1) a1):=
 Eq.trans (b:=p (s0 k a1) a1) (by kernel_rfl) (by rw[s0_eq])
theorem ok:Ok prog 226 D.sig:=fd_ok func226 tlOk (by kernel_rfl) (fc spec_l1Fault.ok (fc spec_l1Before.ok (fn_nil _)))
end spec_l6Rows
namespace spec_l10KeyOf
abbrev Arg:Type:=Change×Unit
abbrev Out:Type:=Key×Unit
abbrev ps:PQ:=[(.ro,(.ptr tChange))]
noncomputable def D:FD:={ fn:=f344,tl:=TL0,ps:=ps,rs:=[(tKey,(roMd tKey))],gl:=[(321,spec_l6Key.D.sig)] }
noncomputable def sem (a:Arg):Option Out:=@lift Out fun k=>D.W k a
noncomputable def p (a1:Arg):Option Out:=(spec_l6Key.sem (a1.1,())).bind fun r2=>some ((r2.1,r2.2.1,()),())
theorem raw_eq (k:Nat) (a1:Arg):@Eq (Option Out) (D.W k a1) (p a1):=by kernel_rfl
theorem ok:Ok prog 344 D.sig:=fd_ok func344 tlOk (by kernel_rfl) (fc spec_l6Key.ok (fn_nil _))
end spec_l10KeyOf
namespace spec_l10Locks
abbrev Arg:Type:=Tx×Key×Unit
abbrev Out:Type:=Bool×Unit
abbrev ps:PQ:=[(.ro,(.ptr tTx)),(.ro,tKey)]
noncomputable def D:FD:={ fn:=f345,tl:=TL0,ps:=ps,rs:=[(.bool,(roMd .bool))],lv:=[(2,[0,3,5])],lx:=[(0,[])],od:=[(4,[0,1,2,3,4,5,6,7,8])] }
noncomputable def sem (a:Arg):Option Out:=@lift Out fun k=>D.W k a
noncomputable def T0 (a1:Arg) (v402:Int):St:={ n:=24,sl:=[(0,.cp tTx a1.1),(3,.box tKey (roMd tKey) [] a1.2.1),(5,.val i64 v402)],vr:=[],lent:=[] }
noncomputable def b0 (self:Int->Option Out) (e0:(Unit)->Option Out) (a1:Arg) (v402:Int):Option Out:=bif decide (v402 < (a1.1.2.2.2.1.length:Int)) then (if 0<=v402 then ((a1.1.2.2.2.1[v402.toNat]?).bind fun x603=>bif (Ty.eq tKey x603 a1.2.1) then (some (true,())) else self (w64 (v402+(1:Int)))) else none) else e0 ()
noncomputable abbrev B0 (_:Nat):=b0
noncomputable def q0 (a1:Arg) (z604:(Unit)):Option Out:=some (false,())
noncomputable abbrev Q0 (_:Nat):=q0
noncomputable def s0 (k:Nat) (a1:Arg):(Int)->Option Out:=fun v402=>D.L k [1,0,1,0,0] [0,3,5] [] (blockC 0 (seqC (D.N k [1,1]) D.K0)) (T0 a1 v402)
noncomputable def r0 (k:Nat) (a1:Arg):(Int)->Option Out:=rawIter (fun w v=>B0 k w (Q0 k a1) a1 v) k
theorem s0_eq (k:Nat) (a1:Arg):s0 k a1=r0 k a1:=
 funext fun v402=>iter_raw _ _ _ (T0 a1) _ (fun rec v=>by kernel_rfl) k v402
noncomputable def p (l0:(Int)->Option Out) (a1:Arg):Option Out:=l0 (0:Int)
theorem raw_eq (k:Nat) (a1:Arg):@Eq (Option Out) (D.W k a1) (p (r0 k a1) a1):=
 Eq.trans (b:=p (s0 k a1) a1) (by kernel_rfl) (by rw[s0_eq])
theorem ok:Ok prog 345 D.sig:=fd_ok func345 tlOk (by kernel_rfl) (fn_nil _)
end spec_l10Locks
namespace spec_l6Change
abbrev Arg:Type:=Change×Unit
abbrev Out:Type:=Int×Unit
abbrev ps:PQ:=[(.ro,(.ptr tChange))]
noncomputable def D:FD:={ fn:=f205,tl:=TL0,ps:=ps,rs:=[(i64,(roMd i64))],gl:=[(320,spec_l1Fault.D.sig)],od:=[(1,[0,1,2,3,4,5,6,7,8,9,10,11,12,13,14,15,16,17,18,19,20,21,22,23,24,25,26,27,28,29,30,31,32,33,34,35,36,37,38,39,40,41,42,43,44,45,46,47,48,49])] }
noncomputable def sem (a:Arg):Option Out:=@lift Out fun k=>D.W k a
noncomputable def p (a1:Arg):Option Out:=let j5:Option Out:=bif a1.1.1 then ((spec_l1Fault.sem (a1.1.2.1,())).bind fun r6=>bif !decide (r6.1=(0:Int)) then (some (r6.1,())) else bif a1.1.2.2.1 then ((spec_l1Fault.sem (a1.1.2.2.2.1,())).bind fun r8=>some (r8.1,())) else some ((0:Int),())) else bif a1.1.2.2.1 then ((spec_l1Fault.sem (a1.1.2.2.2.1,())).bind fun r9=>some (r9.1,())) else some ((0:Int),());bif !a1.1.1 then (bif !a1.1.2.2.1 then (some ((1:Int),())) else bif a1.1.1 then (bif a1.1.2.2.1 then (bif !decide (a1.1.2.1.1=a1.1.2.2.2.1.1) then (some ((1:Int),())) else bif !decide (a1.1.2.1.2.1=a1.1.2.2.2.1.2.1) then (some ((1:Int),())) else j5) else j5) else j5) else bif a1.1.1 then (bif a1.1.2.2.1 then (bif !decide (a1.1.2.1.1=a1.1.2.2.2.1.1) then (some ((1:Int),())) else bif !decide (a1.1.2.1.2.1=a1.1.2.2.2.1.2.1) then (some ((1:Int),())) else j5) else j5) else j5
theorem raw_eq (k:Nat) (a1:Arg):@Eq (Option Out) (D.W k a1) (p a1):=by kernel_rfl
theorem ok:Ok prog 205 D.sig:=fd_ok func205 tlOk (by kernel_rfl) (fc spec_l1Fault.ok (fn_nil _))
end spec_l6Change
namespace spec_l9Change
abbrev Arg:Type:=Change×Unit
abbrev Out:Type:=Int×Unit
abbrev ps:PQ:=[(.ro,(.ptr tChange))]
noncomputable def D:FD:={ fn:=f360,tl:=TL0,ps:=ps,rs:=[(i64,(roMd i64))],gl:=[(205,spec_l6Change.D.sig)],od:=[(4,[0,1,2,3,4,5,6,7,8,9,10,11,12,13,14,15,16,17,18,19,20])] }
noncomputable def sem (a:Arg):Option Out:=@lift Out fun k=>D.W k a
noncomputable def p (a1:Arg):Option Out:=(spec_l6Change.sem (a1.1,())).bind fun r2=>bif !decide (r2.1=(0:Int)) then (some (r2.1,())) else bif a1.1.1 then (bif a1.1.2.2.1 then (bif (Ty.eq tRow a1.1.2.1 a1.1.2.2.2.1) then (some ((1:Int),())) else some ((0:Int),())) else some ((0:Int),())) else some ((0:Int),())
theorem raw_eq (k:Nat) (a1:Arg):@Eq (Option Out) (D.W k a1) (p a1):=by kernel_rfl
theorem ok:Ok prog 360 D.sig:=fd_ok func360 tlOk (by kernel_rfl) (fc spec_l6Change.ok (fn_nil _))
end spec_l9Change
namespace spec_l10Undo
abbrev Arg:Type:=Tx×Unit
abbrev Out:Type:=Int×Unit
abbrev ps:PQ:=[(.ro,(.ptr tTx))]
noncomputable def D:FD:={ fn:=f335,tl:=TL0,ps:=ps,rs:=[(i64,(roMd i64))],gl:=[(344,spec_l10KeyOf.D.sig),(345,spec_l10Locks.D.sig),(360,spec_l9Change.D.sig)],lv:=[(2,[0,3])],lx:=[(0,[])] }
noncomputable def sem (a:Arg):Option Out:=@lift Out fun k=>D.W k a
noncomputable def T0 (a1:Arg) (v402:Int):St:={ n:=34,sl:=[(0,.cp tTx a1.1),(3,.val i64 v402)],vr:=[],lent:=[] }
noncomputable def b0 (self:Int->Option Out) (e0:(Unit)->Option Out) (a1:Arg) (v402:Int):Option Out:=bif decide (v402 < (a1.1.2.1.length:Int)) then (if 0<=v402 then ((a1.1.2.1[v402.toNat]?).bind fun x603=>(spec_l9Change.sem (x603,())).bind fun r604=>bif !decide (r604.1=(0:Int)) then (some (r604.1,())) else if 0<=v402 then ((a1.1.2.1[v402.toNat]?).bind fun x605=>(spec_l10KeyOf.sem (x605,())).bind fun r606=>(spec_l10Locks.sem (a1.1,r606.1,())).bind fun r607=>bif !r607.1 then (some ((8:Int),())) else self (w64 (v402+(1:Int)))) else none) else none) else e0 ()
noncomputable abbrev B0 (_:Nat):=b0
noncomputable def q0 (a1:Arg) (z608:(Unit)):Option Out:=some ((0:Int),())
noncomputable abbrev Q0 (_:Nat):=q0
noncomputable def s0 (k:Nat) (a1:Arg):(Int)->Option Out:=fun v402=>D.L k [1,0,1,0,0] [0,3] [] (blockC 0 (seqC (D.N k [1,1]) D.K0)) (T0 a1 v402)
noncomputable def r0 (k:Nat) (a1:Arg):(Int)->Option Out:=rawIter (fun w v=>B0 k w (Q0 k a1) a1 v) k
theorem s0_eq (k:Nat) (a1:Arg):s0 k a1=r0 k a1:=
 funext fun v402=>iter_raw _ _ _ (T0 a1) _ (fun rec v=>by kernel_rfl) k v402
noncomputable def p (l0:(Int)->Option Out) (a1:Arg):Option Out:=l0 (0:Int)
theorem raw_eq (k:Nat) (a1:Arg):@Eq (Option Out) (D.W k a1) (p (r0 k a1) a1):=
 Eq.trans (b:=p (s0 k a1) a1) (by kernel_rfl) (by rw[s0_eq])
theorem ok:Ok prog 335 D.sig:=fd_ok func335 tlOk (by kernel_rfl) (fc spec_l10KeyOf.ok (fc spec_l10Locks.ok (fc spec_l9Change.ok (fn_nil _))))
end spec_l10Undo
namespace spec_l10Key
abbrev Arg:Type:=Key×Unit
abbrev Out:Type:=Bool×Unit
abbrev ps:PQ:=[(.ro,(.ptr tKey))]
noncomputable def D:FD:={ fn:=f413,tl:=TL0,ps:=ps,rs:=[(.bool,(roMd .bool))],gl:=[(218,spec_l1In.D.sig)] }
noncomputable def sem (a:Arg):Option Out:=@lift Out fun k=>D.W k a
noncomputable def p (a1:Arg):Option Out:=(spec_l1In.sem (a1.1.1,(0:Int),(3:Int),())).bind fun r2=>bif r2.1 then ((spec_l1In.sem (a1.1.2.1,(1:Int),(99:Int),())).bind fun r3=>some (r3.1,())) else some (false,())
theorem raw_eq (k:Nat) (a1:Arg):@Eq (Option Out) (D.W k a1) (p a1):=by kernel_rfl
theorem ok:Ok prog 413 D.sig:=fd_ok func413 tlOk (by kernel_rfl) (fc spec_l1In.ok (fn_nil _))
end spec_l10Key
namespace spec_l10Marks
abbrev Arg:Type:=Tx×Unit
abbrev Out:Type:=Int×Unit
abbrev ps:PQ:=[(.ro,(.ptr tTx))]
noncomputable def D:FD:={ fn:=f336,tl:=TL0,ps:=ps,rs:=[(i64,(roMd i64))],gl:=[(218,spec_l1In.D.sig),(413,spec_l10Key.D.sig)],lv:=[(4,[0,3]),(9,[0,4]),(14,[0,4,5])],lx:=[(0,[0]),(2,[]),(4,[0,4])],od:=[(6,[0,1,2,3,4,5,6,7,8,9,10,11,12,13,14,15,16,17,18,19,20,21,22,23,24,25,26,27,28,29,30,31,32,33,34,35]),(16,[0,1,2,3,4,5,6,7,8,9,10,11,12,13,14])],ar:=[(6,[3,6,10,21,24,28,32])] }
noncomputable def sem (a:Arg):Option Out:=@lift Out fun k=>D.W k a
noncomputable def T0 (a1:Arg) (v402:Int):St:={ n:=102,sl:=[(0,.cp tTx a1.1),(3,.val i64 v402)],vr:=[],lent:=[] }
noncomputable def S0 (rec:RT Out) (a1:Arg):(Int)->Option Out:=fun v402=>rec (T0 a1 v402)
noncomputable def X0_0 (K:KT Out) (a1:Arg):(Unit)->Option Out:=fun z=>K (.exit 0) ({ n:=102,sl:=[(0,.cp tTx a1.1)],vr:=[],lent:=[] })
noncomputable def b0 (self:Int->Option Out) (e0:(Unit)->Option Out) (a1:Arg) (v402:Int):Option Out:=bif decide (v402 < (a1.1.2.2.1.length:Int)) then (if 0<=v402 then ((a1.1.2.2.1[v402.toNat]?).bind fun x603=>(spec_l1In.sem (x603,(0:Int),(a1.1.2.1.length:Int),())).bind fun r604=>bif !r604.1 then (some ((3:Int),())) else bif decide ((0:Int) < v402) then (if 0<=v402 then ((a1.1.2.2.1[v402.toNat]?).bind fun x605=>if 0<=w64 (v402 - (1:Int)) then ((a1.1.2.2.1[(w64 (v402 - (1:Int))).toNat]?).bind fun x606=>bif decide (x605 < x606) then (some ((3:Int),())) else self (w64 (v402+(1:Int)))) else none) else none) else self (w64 (v402+(1:Int)))) else none) else e0 ()
noncomputable abbrev B0 (_:Nat):=b0
theorem B0_eq (k:Nat) (rec:RT Out) (K:KT Out) (a1:Arg) (v402:Int):D.N k [1,1,0,1,0,0] (T0 a1 v402) (loopC rec (keepF [0,3] []) K)=b0 (S0 rec a1) (X0_0 K a1) a1 v402:=by kernel_rfl
noncomputable def T1 (a1:Arg) (v1008:Tx×Int):St:={ n:=102,sl:=[(0,.cp tTx v1008.1),(4,.val i64 v1008.2)],vr:=[],lent:=[] }
noncomputable def S1 (rec:RT Out) (a1:Arg):(Tx×Int)->Option Out:=fun v1008=>rec (T1 a1 v1008)
noncomputable def X1_2 (K:KT Out) (a1:Arg):(Unit)->Option Out:=fun z=>K (.exit 2) ({ n:=102,sl:=[],vr:=[],lent:=[] })
noncomputable def T2 (a1:Arg) (c1612:Tx) (c1613:Int) (v1611:Int):St:={ n:=102,sl:=[(0,.cp tTx c1612),(4,.val i64 c1613),(5,.val i64 v1611)],vr:=[],lent:=[] }
noncomputable def b2 (self:Int->Option Out) (e4:(Unit)->Option Out) (a1:Arg) (c1612:Tx) (c1613:Int) (v1611:Int):Option Out:=bif decide (v1611 < c1613) then (if 0<=v1611 then ((c1612.2.2.2.1[v1611.toNat]?).bind fun x1814=>if 0<=c1613 then ((c1612.2.2.2.1[c1613.toNat]?).bind fun x1815=>bif (Ty.eq tKey x1814 x1815) then (some ((6:Int),())) else self (w64 (v1611+(1:Int)))) else none) else none) else e4 ()
noncomputable abbrev B2 (_:Nat):=b2
noncomputable def q1 (self:(Tx×Int)->Option Out) (e2:(Unit)->Option Out) (a1:Arg) (c1612:Tx) (c1613:Int) (z1816:(Unit)):Option Out:=self (c1612,w64 (c1613+(1:Int)))
noncomputable abbrev Q1 (_:Nat):=q1
noncomputable def s2 (k:Nat) (rec:RT Out) (K:KT Out) (a1:Arg):Tx->Int->(Int)->Option Out:=fun c1612 c1613=>fun v1611=>D.L k [1,1,1,0,1,0,0,1,0,0,1,1,0,0] [0,4,5] [] (blockC 4 (blockC 3 (seqC (D.N k [1,1,1,0,1,0,0,1,1]) (loopC rec (keepF [0,4] []) K)))) (T2 a1 c1612 c1613 v1611)
noncomputable def r2 (k:Nat) (self:(Tx×Int)->Option Out) (e2:(Unit)->Option Out) (a1:Arg):Tx->Int->(Int)->Option Out:=fun c1612 c1613=>rawIter (fun w v=>B2 k w (Q1 k self e2 a1 c1612 c1613) a1 c1612 c1613 v) k
theorem s2_eq (k:Nat) (rec:RT Out) (K:KT Out) (a1:Arg):s2 k rec K a1=r2 k (S1 rec a1) (X1_2 K a1) a1:=
 funext fun c1612=>funext fun c1613=>funext fun v1611=>iter_raw _ _ _ (T2 a1 c1612 c1613) _ (fun rec v=>by kernel_rfl) k v1611
noncomputable def b1 (self:(Tx×Int)->Option Out) (e2:(Unit)->Option Out) (l2:Tx->Int->(Int)->Option Out) (a1:Arg) (v1008:Tx×Int):Option Out:=bif decide (v1008.2 < (v1008.1.2.2.2.1.length:Int)) then (if 0<=v1008.2 then ((v1008.1.2.2.2.1[v1008.2.toNat]?).bind fun x1209=>(spec_l10Key.sem (x1209,())).bind fun r1210=>bif !r1210.1 then (some ((3:Int),())) else l2 v1008.1 v1008.2 (0:Int)) else none) else e2 ()
noncomputable def B1 (k:Nat) (self:(Tx×Int)->Option Out) (e2:(Unit)->Option Out) (a1:Arg) (v1008:Tx×Int):Option Out:=b1 self e2 (r2 k self e2 a1) a1 v1008
theorem B1_eq (k:Nat) (rec:RT Out) (K:KT Out) (a1:Arg) (v1008:Tx×Int):D.N k [1,1,1,0,1,0,0] (T1 a1 v1008) (loopC rec (keepF [0,4] []) K)=B1 k (S1 rec a1) (X1_2 K a1) a1 v1008:=
 Eq.trans (b:=b1 (S1 rec a1) (X1_2 K a1) (s2 k rec K a1) a1 v1008) (by kernel_rfl) (by rw[s2_eq];rfl)
noncomputable def q2 (a1:Arg) (z1817:(Unit)):Option Out:=some ((0:Int),())
noncomputable abbrev Q2 (_:Nat):=q2
theorem Q2_eq (k:Nat) (a1:Arg) (z1817:(Unit)):X1_2 (blockC 2 (seqC (D.N k [1,1,1,1]) D.K0)) a1 z1817=q2 a1 z1817:=by kernel_rfl
noncomputable def s1 (k:Nat) (a1:Arg):(Tx×Int)->Option Out:=fun v1008=>D.L k [1,1,1,0,1,0,0] [0,4] [] (blockC 2 (seqC (D.N k [1,1,1,1]) D.K0)) (T1 a1 v1008)
noncomputable def r1 (k:Nat) (a1:Arg):(Tx×Int)->Option Out:=rawIter (fun w v=>B1 k w (Q2 k a1) a1 v) k
theorem s1_eq (k:Nat) (a1:Arg):s1 k a1=r1 k a1:=by
 funext v1008;
 have h2:X1_2 (blockC 2 (seqC (D.N k [1,1,1,1]) D.K0)) a1=Q2 k a1:=funext fun z=>Q2_eq k a1 z
 refine (iter_raw _ _ _ (T1 a1) (fun self v=>B1 k self (X1_2 (blockC 2 (seqC (D.N k [1,1,1,1]) D.K0)) a1) a1 v) (fun rec v=>B1_eq k rec (blockC 2 (seqC (D.N k [1,1,1,1]) D.K0)) a1 v) k v1008).trans ?_
 rw[h2]
 rfl
noncomputable def q0 (l1:(Tx×Int)->Option Out) (a1:Arg) (z607:(Unit)):Option Out:=l1 (a1.1,(0:Int))
noncomputable def Q0 (k:Nat) (a1:Arg) (z607:(Unit)):Option Out:=q0 (r1 k a1) a1 z607
theorem Q0_eq (k:Nat) (a1:Arg) (z607:(Unit)):X0_0 (blockC 0 (seqC (D.N k [1,1,1]) D.K0)) a1 z607=Q0 k a1 z607:=
 Eq.trans (b:=q0 (s1 k a1) a1 z607) (by kernel_rfl) (by rw[s1_eq];rfl)
noncomputable def s0 (k:Nat) (a1:Arg):(Int)->Option Out:=fun v402=>D.L k [1,1,0,1,0,0] [0,3] [] (blockC 0 (seqC (D.N k [1,1,1]) D.K0)) (T0 a1 v402)
noncomputable def r0 (k:Nat) (a1:Arg):(Int)->Option Out:=rawIter (fun w v=>B0 k w (Q0 k a1) a1 v) k
theorem s0_eq (k:Nat) (a1:Arg):s0 k a1=r0 k a1:=by
 funext v402;
 have h0:X0_0 (blockC 0 (seqC (D.N k [1,1,1]) D.K0)) a1=Q0 k a1:=funext fun z=>Q0_eq k a1 z
 refine (iter_raw _ _ _ (T0 a1) (fun self v=>B0 k self (X0_0 (blockC 0 (seqC (D.N k [1,1,1]) D.K0)) a1) a1 v) (fun rec v=>B0_eq k rec (blockC 0 (seqC (D.N k [1,1,1]) D.K0)) a1 v) k v402).trans ?_
 rw[h0]
 rfl
noncomputable def p (l0:(Int)->Option Out) (a1:Arg):Option Out:=bif decide ((8:Int) < (a1.1.2.2.1.length:Int)) then (some ((2:Int),())) else bif decide ((12:Int) < (a1.1.2.2.2.1.length:Int)) then (some ((2:Int),())) else l0 (0:Int)
theorem raw_eq (k:Nat) (a1:Arg):@Eq (Option Out) (D.W k a1) (p (r0 k a1) a1):=
 Eq.trans (b:=p (s0 k a1) a1) (by kernel_rfl) (by rw[s0_eq])
theorem ok:Ok prog 336 D.sig:=fd_ok func336 tlOk (by kernel_rfl) (fc spec_l1In.ok (fc spec_l10Key.ok (fn_nil _)))
end spec_l10Marks
namespace spec_l10Lock
abbrev Arg:Type:=(List Tx)×Key×Unit
abbrev Out:Type:=Int×Unit
abbrev ps:PQ:=[(.ro,(.slc tTx)),(.ro,tKey)]
noncomputable def D:FD:={ fn:=f414,tl:=TL0,ps:=ps,rs:=[(i64,(roMd i64))],gl:=[(345,spec_l10Locks.D.sig)],lv:=[(2,[0,3,5])],lx:=[(0,[])],od:=[(4,[0,1,2,3,4])] }
noncomputable def sem (a:Arg):Option Out:=@lift Out fun k=>D.W k a
noncomputable def T0 (a1:Arg) (v402:Int):St:={ n:=22,sl:=[(0,.val (.slc tTx) a1.1),(3,.box tKey (roMd tKey) [] a1.2.1),(5,.val i64 v402)],vr:=[],lent:=[] }
noncomputable def b0 (self:Int->Option Out) (e0:(Unit)->Option Out) (a1:Arg) (v402:Int):Option Out:=bif decide (v402 < (a1.1.length:Int)) then (if 0<=v402 then ((a1.1[v402.toNat]?).bind fun x603=>(spec_l10Locks.sem (x603,a1.2.1,())).bind fun r604=>bif r604.1 then (if 0<=v402 then ((a1.1[v402.toNat]?).bind fun x605=>some (x605.1,())) else none) else self (w64 (v402+(1:Int)))) else none) else e0 ()
noncomputable abbrev B0 (_:Nat):=b0
noncomputable def q0 (a1:Arg) (z606:(Unit)):Option Out:=some ((0:Int),())
noncomputable abbrev Q0 (_:Nat):=q0
noncomputable def s0 (k:Nat) (a1:Arg):(Int)->Option Out:=fun v402=>D.L k [1,0,1,0,0] [0,3,5] [] (blockC 0 (seqC (D.N k [1,1]) D.K0)) (T0 a1 v402)
noncomputable def r0 (k:Nat) (a1:Arg):(Int)->Option Out:=rawIter (fun w v=>B0 k w (Q0 k a1) a1 v) k
theorem s0_eq (k:Nat) (a1:Arg):s0 k a1=r0 k a1:=
 funext fun v402=>iter_raw _ _ _ (T0 a1) _ (fun rec v=>by kernel_rfl) k v402
noncomputable def p (l0:(Int)->Option Out) (a1:Arg):Option Out:=l0 (0:Int)
theorem raw_eq (k:Nat) (a1:Arg):@Eq (Option Out) (D.W k a1) (p (r0 k a1) a1):=
 Eq.trans (b:=p (s0 k a1) a1) (by kernel_rfl) (by rw[s0_eq])
theorem ok:Ok prog 414 D.sig:=fd_ok func414 tlOk (by kernel_rfl) (fc spec_l10Locks.ok (fn_nil _))
end spec_l10Lock
namespace spec_l10Apart
abbrev Arg:Type:=(List Tx)×Unit
abbrev Out:Type:=Bool×Unit
abbrev ps:PQ:=[(.ro,(.slc tTx))]
noncomputable def D:FD:={ fn:=f337,tl:=TL0,ps:=ps,rs:=[(.bool,(roMd .bool))],gl:=[(414,spec_l10Lock.D.sig)],lv:=[(2,[0,3]),(5,[0,3,4])],lx:=[(0,[]),(2,[0,3])],od:=[(7,[0,1,2,3,4,5,6,7,8,10,11,12,13,14,9,15])] }
noncomputable def sem (a:Arg):Option Out:=@lift Out fun k=>D.W k a
noncomputable def T0 (a1:Arg) (v402:(List Tx)×Int):St:={ n:=37,sl:=[(0,.val (.slc tTx) v402.1),(3,.val i64 v402.2)],vr:=[],lent:=[] }
noncomputable def S0 (rec:RT Out) (a1:Arg):((List Tx)×Int)->Option Out:=fun v402=>rec (T0 a1 v402)
noncomputable def X0_0 (K:KT Out) (a1:Arg):(Unit)->Option Out:=fun z=>K (.exit 0) ({ n:=37,sl:=[],vr:=[],lent:=[] })
noncomputable def T1 (a1:Arg) (c1004:List Tx) (c1005:Int) (v1003:Int):St:={ n:=37,sl:=[(0,.val (.slc tTx) c1004),(3,.val i64 c1005),(4,.val i64 v1003)],vr:=[],lent:=[] }
noncomputable def b1 (self:Int->Option Out) (e2:(Unit)->Option Out) (a1:Arg) (c1004:List Tx) (c1005:Int) (v1003:Int):Option Out:=if 0<=c1005 then ((c1004[c1005.toNat]?).bind fun x1206=>bif decide (v1003 < (x1206.2.2.2.1.length:Int)) then (if 0<=c1005 then ((c1004[c1005.toNat]?).bind fun x1207=>if 0<=v1003 then ((x1207.2.2.2.1[v1003.toNat]?).bind fun x1208=>if 0<=c1005 then ((c1004[c1005.toNat]?).bind fun x1209=>(spec_l10Lock.sem (c1004,x1208,())).bind fun r1210=>bif !decide (r1210.1=x1209.1) then (some (false,())) else self (w64 (v1003+(1:Int)))) else none) else none) else none) else e2 ()) else none
noncomputable abbrev B1 (_:Nat):=b1
noncomputable def q0 (self:((List Tx)×Int)->Option Out) (e0:(Unit)->Option Out) (a1:Arg) (c1004:List Tx) (c1005:Int) (z1211:(Unit)):Option Out:=self (c1004,w64 (c1005+(1:Int)))
noncomputable abbrev Q0 (_:Nat):=q0
noncomputable def s1 (k:Nat) (rec:RT Out) (K:KT Out) (a1:Arg):(List Tx)->Int->(Int)->Option Out:=fun c1004 c1005=>fun v1003=>D.L k [1,0,1,0,0,1,0,0,1,0,0] [0,3,4] [] (blockC 2 (blockC 1 (seqC (D.N k [1,0,1,0,0,1,1]) (loopC rec (keepF [0,3] []) K)))) (T1 a1 c1004 c1005 v1003)
noncomputable def r1 (k:Nat) (self:((List Tx)×Int)->Option Out) (e0:(Unit)->Option Out) (a1:Arg):(List Tx)->Int->(Int)->Option Out:=fun c1004 c1005=>rawIter (fun w v=>B1 k w (Q0 k self e0 a1 c1004 c1005) a1 c1004 c1005 v) k
theorem s1_eq (k:Nat) (rec:RT Out) (K:KT Out) (a1:Arg):s1 k rec K a1=r1 k (S0 rec a1) (X0_0 K a1) a1:=
 funext fun c1004=>funext fun c1005=>funext fun v1003=>iter_raw _ _ _ (T1 a1 c1004 c1005) _ (fun rec v=>by kernel_rfl) k v1003
noncomputable def b0 (self:((List Tx)×Int)->Option Out) (e0:(Unit)->Option Out) (l1:(List Tx)->Int->(Int)->Option Out) (a1:Arg) (v402:(List Tx)×Int):Option Out:=bif decide (v402.2 < (v402.1.length:Int)) then (l1 v402.1 v402.2 (0:Int)) else e0 ()
noncomputable def B0 (k:Nat) (self:((List Tx)×Int)->Option Out) (e0:(Unit)->Option Out) (a1:Arg) (v402:(List Tx)×Int):Option Out:=b0 self e0 (r1 k self e0 a1) a1 v402
theorem B0_eq (k:Nat) (rec:RT Out) (K:KT Out) (a1:Arg) (v402:(List Tx)×Int):D.N k [1,0,1,0,0] (T0 a1 v402) (loopC rec (keepF [0,3] []) K)=B0 k (S0 rec a1) (X0_0 K a1) a1 v402:=
 Eq.trans (b:=b0 (S0 rec a1) (X0_0 K a1) (s1 k rec K a1) a1 v402) (by kernel_rfl) (by rw[s1_eq];rfl)
noncomputable def q1 (a1:Arg) (z1212:(Unit)):Option Out:=some (true,())
noncomputable abbrev Q1 (_:Nat):=q1
theorem Q1_eq (k:Nat) (a1:Arg) (z1212:(Unit)):X0_0 (blockC 0 (seqC (D.N k [1,1]) D.K0)) a1 z1212=q1 a1 z1212:=by kernel_rfl
noncomputable def s0 (k:Nat) (a1:Arg):((List Tx)×Int)->Option Out:=fun v402=>D.L k [1,0,1,0,0] [0,3] [] (blockC 0 (seqC (D.N k [1,1]) D.K0)) (T0 a1 v402)
noncomputable def r0 (k:Nat) (a1:Arg):((List Tx)×Int)->Option Out:=rawIter (fun w v=>B0 k w (Q1 k a1) a1 v) k
theorem s0_eq (k:Nat) (a1:Arg):s0 k a1=r0 k a1:=by
 funext v402;
 have h0:X0_0 (blockC 0 (seqC (D.N k [1,1]) D.K0)) a1=Q1 k a1:=funext fun z=>Q1_eq k a1 z
 refine (iter_raw _ _ _ (T0 a1) (fun self v=>B0 k self (X0_0 (blockC 0 (seqC (D.N k [1,1]) D.K0)) a1) a1 v) (fun rec v=>B0_eq k rec (blockC 0 (seqC (D.N k [1,1]) D.K0)) a1 v) k v402).trans ?_
 rw[h0]
 rfl
noncomputable def p (l0:((List Tx)×Int)->Option Out) (a1:Arg):Option Out:=l0 (a1.1,(0:Int))
theorem raw_eq (k:Nat) (a1:Arg):@Eq (Option Out) (D.W k a1) (p (r0 k a1) a1):=
 Eq.trans (b:=p (s0 k a1) a1) (by kernel_rfl) (by rw[s0_eq])
theorem ok:Ok prog 337 D.sig:=fd_ok func337 tlOk (by kernel_rfl) (fc spec_l10Lock.ok (fn_nil _))
end spec_l10Apart
namespace spec_l10Count
abbrev Arg:Type:=(List Tx)×Unit
abbrev Out:Type:=Int×Unit
abbrev ps:PQ:=[(.ro,(.slc tTx))]
noncomputable def D:FD:={ fn:=f338,tl:=TL0,ps:=ps,rs:=[(i64,(roMd i64))],lv:=[(3,[0,3,4])],lx:=[(0,[3])] }
noncomputable def sem (a:Arg):Option Out:=@lift Out fun k=>D.W k a
noncomputable def T0 (a1:Arg) (v402:Int×Int):St:={ n:=20,sl:=[(0,.val (.slc tTx) a1.1),(3,.val i64 v402.1),(4,.val i64 v402.2)],vr:=[],lent:=[] }
noncomputable def b0 (self:(Int×Int)->Option Out) (e0:Int->Option Out) (a1:Arg) (v402:Int×Int):Option Out:=bif decide (v402.2 < (a1.1.length:Int)) then (if 0<=v402.2 then ((a1.1[v402.2.toNat]?).bind fun x603=>self (w64 (v402.1+(x603.2.1.length:Int)),w64 (v402.2+(1:Int)))) else none) else e0 v402.1
noncomputable abbrev B0 (_:Nat):=b0
noncomputable def q0 (a1:Arg) (z604:Int):Option Out:=some (z604,())
noncomputable abbrev Q0 (_:Nat):=q0
noncomputable def s0 (k:Nat) (a1:Arg):(Int×Int)->Option Out:=fun v402=>D.L k [1,1,0,1,0,0] [0,3,4] [] (blockC 0 (seqC (D.N k [1,1,1]) D.K0)) (T0 a1 v402)
noncomputable def r0 (k:Nat) (a1:Arg):(Int×Int)->Option Out:=rawIter (fun w v=>B0 k w (Q0 k a1) a1 v) k
theorem s0_eq (k:Nat) (a1:Arg):s0 k a1=r0 k a1:=
 funext fun v402=>iter_raw _ _ _ (T0 a1) _ (fun rec v=>by kernel_rfl) k v402
noncomputable def p (l0:(Int×Int)->Option Out) (a1:Arg):Option Out:=l0 ((0:Int),(0:Int))
theorem raw_eq (k:Nat) (a1:Arg):@Eq (Option Out) (D.W k a1) (p (r0 k a1) a1):=
 Eq.trans (b:=p (s0 k a1) a1) (by kernel_rfl) (by rw[s0_eq])
theorem ok:Ok prog 338 D.sig:=fd_ok func338 tlOk (by kernel_rfl) (fn_nil _)
end spec_l10Count
namespace spec_l10Fault
abbrev Arg:Type:=(List Tx)×Unit
abbrev Out:Type:=Int×Unit
abbrev ps:PQ:=[(.ro,(.slc tTx))]
noncomputable def D:FD:={ fn:=f227,tl:=TL0,ps:=ps,rs:=[(i64,(roMd i64))],gl:=[(218,spec_l1In.D.sig),(335,spec_l10Undo.D.sig),(336,spec_l10Marks.D.sig),(337,spec_l10Apart.D.sig),(338,spec_l10Count.D.sig)],lv:=[(4,[0,3])],lx:=[(0,[0])],od:=[(9,[0,1,2,3,4,5,6,7,8,9,10,11,12,13,14])] }
noncomputable def sem (a:Arg):Option Out:=@lift Out fun k=>D.W k a
noncomputable def T0 (a1:Arg) (v402:Int):St:={ n:=56,sl:=[(0,.val (.slc tTx) a1.1),(3,.val i64 v402)],vr:=[],lent:=[] }
noncomputable def b0 (self:Int->Option Out) (e0:(Unit)->Option Out) (a1:Arg) (v402:Int):Option Out:=bif decide (v402 < (a1.1.length:Int)) then (if 0<=v402 then ((a1.1[v402.toNat]?).bind fun x603=>(spec_l1In.sem (x603.1,(1:Int),(99:Int),())).bind fun r604=>bif !r604.1 then (some ((3:Int),())) else let j608:Option Out:=(spec_l10Undo.sem (x603,())).bind fun r609=>bif !decide (r609.1=(0:Int)) then (some (r609.1,())) else (spec_l10Marks.sem (x603,())).bind fun r610=>bif !decide (r610.1=(0:Int)) then (some (r610.1,())) else self (w64 (v402+(1:Int)));bif decide ((0:Int) < v402) then (if 0<=w64 (v402 - (1:Int)) then ((a1.1[(w64 (v402 - (1:Int))).toNat]?).bind fun x605=>bif decide (x603.1<=x605.1) then (some ((1:Int),())) else j608) else none) else j608) else none) else e0 ()
noncomputable abbrev B0 (_:Nat):=b0
noncomputable def q0 (a1:Arg) (z611:(Unit)):Option Out:=(spec_l10Apart.sem (a1.1,())).bind fun r612=>bif !r612.1 then (some ((7:Int),())) else (spec_l10Count.sem (a1.1,())).bind fun r613=>bif decide ((12:Int) < r613.1) then (some ((2:Int),())) else some ((0:Int),())
noncomputable abbrev Q0 (_:Nat):=q0
noncomputable def s0 (k:Nat) (a1:Arg):(Int)->Option Out:=fun v402=>D.L k [1,1,0,1,0,0] [0,3] [] (blockC 0 (seqC (D.N k [1,1,1]) D.K0)) (T0 a1 v402)
noncomputable def r0 (k:Nat) (a1:Arg):(Int)->Option Out:=rawIter (fun w v=>B0 k w (Q0 k a1) a1 v) k
theorem s0_eq (k:Nat) (a1:Arg):s0 k a1=r0 k a1:=
 funext fun v402=>iter_raw _ _ _ (T0 a1) _ (fun rec v=>by kernel_rfl) k v402
noncomputable def p (l0:(Int)->Option Out) (a1:Arg):Option Out:=bif decide ((4:Int) < (a1.1.length:Int)) then (some ((2:Int),())) else l0 (0:Int)
theorem raw_eq (k:Nat) (a1:Arg):@Eq (Option Out) (D.W k a1) (p (r0 k a1) a1):=
 Eq.trans (b:=p (s0 k a1) a1) (by kernel_rfl) (by rw[s0_eq])
theorem ok:Ok prog 227 D.sig:=fd_ok func227 tlOk (by kernel_rfl) (fc spec_l1In.ok (fc spec_l10Undo.ok (fc spec_l10Marks.ok (fc spec_l10Apart.ok (fc spec_l10Count.ok (fn_nil _))))))
end spec_l10Fault
namespace spec_l10Room
abbrev Arg:Type:=(List Row)×(List Tx)×Key×Unit
abbrev Out:Type:=Int×Unit
abbrev ps:PQ:=[(.ro,(.slc tRow)),(.ro,(.slc tTx)),(.ro,tKey)]
noncomputable def D:FD:={ fn:=f228,tl:=TL0,ps:=ps,rs:=[(i64,(roMd i64))],lv:=[(3,[0,1,5,7,8]),(7,[1,5,7,9]),(14,[7,10,11]),(18,[7,10,11,12,13])],lx:=[(0,[1,5,7]),(2,[5,7]),(4,[10]),(6,[7,10,11,12])],od:=[(5,[0,1,2,3,4,5,6,7,8,9,10,11,12,13,14]),(20,[0,1,2,3,4,5,6,7,8,9])] }
noncomputable def sem (a:Arg):Option Out:=@lift Out fun k=>D.W k a
noncomputable def T0 (a1:Arg) (v402:(List Key)×Int):St:={ n:=82,sl:=[(0,.val (.slc tRow) a1.1),(1,.val (.slc tTx) a1.2.1),(5,.box tKey (roMd tKey) [] a1.2.2.1),(7,.own (.slc tKey) (ownMd (.slc tKey)) [] v402.1),(8,.val i64 v402.2)],vr:=[],lent:=[] }
noncomputable def S0 (rec:RT Out) (a1:Arg):((List Key)×Int)->Option Out:=fun v402=>rec (T0 a1 v402)
noncomputable def X0_0 (K:KT Out) (a1:Arg):(List Key)->Option Out:=fun z=>K (.exit 0) ({ n:=82,sl:=[(1,.val (.slc tTx) a1.2.1),(5,.box tKey (roMd tKey) [] a1.2.2.1),(7,.own (.slc tKey) (ownMd (.slc tKey)) [] z)],vr:=[],lent:=[] })
noncomputable def b0 (self:((List Key)×Int)->Option Out) (e0:(List Key)->Option Out) (a1:Arg) (v402:(List Key)×Int):Option Out:=bif decide (v402.2 < (a1.1.length:Int)) then (if 0<=v402.2 then ((a1.1[v402.2.toNat]?).bind fun x603=>if 0<=v402.2 then ((a1.1[v402.2.toNat]?).bind fun x604=>if v402.1.length+[(x603.1,x604.2.1,())].length<=CAP then (self (v402.1++[(x603.1,x604.2.1,())],w64 (v402.2+(1:Int)))) else none) else none) else none) else e0 v402.1
noncomputable abbrev B0 (_:Nat):=b0
theorem B0_eq (k:Nat) (rec:RT Out) (K:KT Out) (a1:Arg) (v402:(List Key)×Int):D.N k [1,1,0,1,0,0] (T0 a1 v402) (loopC rec (keepF [0,1,5,7,8] []) K)=b0 (S0 rec a1) (X0_0 K a1) a1 v402:=by kernel_rfl
noncomputable def T1 (a1:Arg) (v1006:(List Key)×Int):St:={ n:=82,sl:=[(1,.val (.slc tTx) a1.2.1),(5,.box tKey (roMd tKey) [] a1.2.2.1),(7,.own (.slc tKey) (ownMd (.slc tKey)) [] v1006.1),(9,.val i64 v1006.2)],vr:=[],lent:=[] }
noncomputable def S1 (rec:RT Out) (a1:Arg):((List Key)×Int)->Option Out:=fun v1006=>rec (T1 a1 v1006)
noncomputable def X1_2 (K:KT Out) (a1:Arg):(List Key)->Option Out:=fun z=>K (.exit 2) ({ n:=82,sl:=[(5,.box tKey (roMd tKey) [] a1.2.2.1),(7,.own (.slc tKey) (ownMd (.slc tKey)) [] z)],vr:=[],lent:=[] })
noncomputable def b1 (self:((List Key)×Int)->Option Out) (e2:(List Key)->Option Out) (a1:Arg) (v1006:(List Key)×Int):Option Out:=bif decide (v1006.2 < (a1.2.1.length:Int)) then (if 0<=v1006.2 then ((a1.2.1[v1006.2.toNat]?).bind fun x1207=>if v1006.1.length+x1207.2.2.2.1.length<=CAP then (self (v1006.1++x1207.2.2.2.1,w64 (v1006.2+(1:Int)))) else none) else none) else e2 v1006.1
noncomputable abbrev B1 (_:Nat):=b1
theorem B1_eq (k:Nat) (rec:RT Out) (K:KT Out) (a1:Arg) (v1006:(List Key)×Int):D.N k [1,1,1,0,1,0,0] (T1 a1 v1006) (loopC rec (keepF [1,5,7,9] []) K)=b1 (S1 rec a1) (X1_2 K a1) a1 v1006:=by kernel_rfl
noncomputable def T2 (a1:Arg) (v2213:(List Key)×Int×Int):St:={ n:=82,sl:=[(7,.own (.slc tKey) (ownMd (.slc tKey)) [] v2213.1),(10,.val i64 v2213.2.1),(11,.val i64 v2213.2.2)],vr:=[],lent:=[] }
noncomputable def S2 (rec:RT Out) (a1:Arg):((List Key)×Int×Int)->Option Out:=fun v2213=>rec (T2 a1 v2213)
noncomputable def X2_4 (K:KT Out) (a1:Arg):Int->Option Out:=fun z=>K (.exit 4) ({ n:=82,sl:=[(10,.val i64 z)],vr:=[],lent:=[] })
noncomputable def T3 (a1:Arg) (c2815:List Key) (c2816:Int) (c2817:Int) (v2814:Bool×Int):St:={ n:=82,sl:=[(7,.own (.slc tKey) (ownMd (.slc tKey)) [] c2815),(10,.val i64 c2816),(11,.val i64 c2817),(12,.val .bool v2814.1),(13,.val i64 v2814.2)],vr:=[],lent:=[] }
noncomputable def b3 (self:(Bool×Int)->Option Out) (e6:Bool->Option Out) (a1:Arg) (c2815:List Key) (c2816:Int) (c2817:Int) (v2814:Bool×Int):Option Out:=bif decide (v2814.2 < c2817) then (bif v2814.1 then (if 0<=v2814.2/\v2814.2 < (c2815.length:Int) then ((c2815[v2814.2.toNat]?).bind fun x3018=>if 0<=c2817/\c2817 < (c2815.length:Int) then ((c2815[c2817.toNat]?).bind fun x3019=>self (!(Ty.eq tKey x3018 x3019),w64 (v2814.2+(1:Int)))) else none) else none) else e6 v2814.1) else e6 v2814.1
noncomputable abbrev B3 (_:Nat):=b3
noncomputable def q2 (self:((List Key)×Int×Int)->Option Out) (e4:Int->Option Out) (a1:Arg) (c2815:List Key) (c2816:Int) (c2817:Int) (z3020:Bool):Option Out:=bif z3020 then (self (c2815,w64 (c2816+(1:Int)),w64 (c2817+(1:Int)))) else self (c2815,c2816,w64 (c2817+(1:Int)))
noncomputable abbrev Q2 (_:Nat):=q2
noncomputable def s3 (k:Nat) (rec:RT Out) (K:KT Out) (a1:Arg):(List Key)->Int->Int->(Bool×Int)->Option Out:=fun c2815 c2816 c2817=>fun v2814=>D.L k [1,1,1,1,1,1,0,1,0,0,1,0,0,1,0,1,0,0] [7,10,11,12,13] [] (blockC 6 (seqC (D.N k [1,1,1,1,1,1,0,1,0,0,1,0,0,1,1]) (blockC 5 (seqC (D.N k [1,1,1,1,1,1,0,1,0,0,1,1]) (loopC rec (keepF [7,10,11] []) K))))) (T3 a1 c2815 c2816 c2817 v2814)
noncomputable def r3 (k:Nat) (self:((List Key)×Int×Int)->Option Out) (e4:Int->Option Out) (a1:Arg):(List Key)->Int->Int->(Bool×Int)->Option Out:=fun c2815 c2816 c2817=>rawIter (fun w v=>B3 k w (Q2 k self e4 a1 c2815 c2816 c2817) a1 c2815 c2816 c2817 v) k
theorem s3_eq (k:Nat) (rec:RT Out) (K:KT Out) (a1:Arg):s3 k rec K a1=r3 k (S2 rec a1) (X2_4 K a1) a1:=
 funext fun c2815=>funext fun c2816=>funext fun c2817=>funext fun v2814=>iter_raw _ _ _ (T3 a1 c2815 c2816 c2817) _ (fun rec v=>by kernel_rfl) k v2814
noncomputable def b2 (self:((List Key)×Int×Int)->Option Out) (e4:Int->Option Out) (l3:(List Key)->Int->Int->(Bool×Int)->Option Out) (a1:Arg) (v2213:(List Key)×Int×Int):Option Out:=bif decide (v2213.2.2 < (v2213.1.length:Int)) then (l3 v2213.1 v2213.2.1 v2213.2.2 (true,(0:Int))) else e4 v2213.2.1
noncomputable def B2 (k:Nat) (self:((List Key)×Int×Int)->Option Out) (e4:Int->Option Out) (a1:Arg) (v2213:(List Key)×Int×Int):Option Out:=b2 self e4 (r3 k self e4 a1) a1 v2213
theorem B2_eq (k:Nat) (rec:RT Out) (K:KT Out) (a1:Arg) (v2213:(List Key)×Int×Int):D.N k [1,1,1,1,1,1,0,1,0,0] (T2 a1 v2213) (loopC rec (keepF [7,10,11] []) K)=B2 k (S2 rec a1) (X2_4 K a1) a1 v2213:=
 Eq.trans (b:=b2 (S2 rec a1) (X2_4 K a1) (s3 k rec K a1) a1 v2213) (by kernel_rfl) (by rw[s3_eq];rfl)
noncomputable def q3 (a1:Arg) (z3021:Int):Option Out:=some (z3021,())
noncomputable abbrev Q3 (_:Nat):=q3
theorem Q3_eq (k:Nat) (a1:Arg) (z3021:Int):X2_4 (blockC 4 (seqC (D.N k [1,1,1,1,1,1,1]) D.K0)) a1 z3021=q3 a1 z3021:=by kernel_rfl
noncomputable def s2 (k:Nat) (a1:Arg):((List Key)×Int×Int)->Option Out:=fun v2213=>D.L k [1,1,1,1,1,1,0,1,0,0] [7,10,11] [] (blockC 4 (seqC (D.N k [1,1,1,1,1,1,1]) D.K0)) (T2 a1 v2213)
noncomputable def r2 (k:Nat) (a1:Arg):((List Key)×Int×Int)->Option Out:=rawIter (fun w v=>B2 k w (Q3 k a1) a1 v) k
theorem s2_eq (k:Nat) (a1:Arg):s2 k a1=r2 k a1:=by
 funext v2213;
 have h4:X2_4 (blockC 4 (seqC (D.N k [1,1,1,1,1,1,1]) D.K0)) a1=Q3 k a1:=funext fun z=>Q3_eq k a1 z
 refine (iter_raw _ _ _ (T2 a1) (fun self v=>B2 k self (X2_4 (blockC 4 (seqC (D.N k [1,1,1,1,1,1,1]) D.K0)) a1) a1 v) (fun rec v=>B2_eq k rec (blockC 4 (seqC (D.N k [1,1,1,1,1,1,1]) D.K0)) a1 v) k v2213).trans ?_
 rw[h4]
 rfl
noncomputable def q1 (l2:((List Key)×Int×Int)->Option Out) (a1:Arg) (z1208:(List Key)):Option Out:=let j1812:=fun (p1811:List Key)=>(l2 (p1811,(0:Int),(0:Int)):Option Out);bif !decide (a1.2.2.1.2.1=(0:Int)) then (if z1208.length+[a1.2.2.1].length<=CAP then (j1812 (z1208++[a1.2.2.1])) else none) else j1812 z1208
noncomputable def Q1 (k:Nat) (a1:Arg) (z1208:(List Key)):Option Out:=q1 (r2 k a1) a1 z1208
theorem Q1_eq (k:Nat) (a1:Arg) (z1208:(List Key)):X1_2 (blockC 2 (seqC (D.N k [1,1,1,1]) D.K0)) a1 z1208=Q1 k a1 z1208:=
 Eq.trans (b:=q1 (s2 k a1) a1 z1208) (by kernel_rfl) (by rw[s2_eq];rfl)
noncomputable def s1 (k:Nat) (a1:Arg):((List Key)×Int)->Option Out:=fun v1006=>D.L k [1,1,1,0,1,0,0] [1,5,7,9] [] (blockC 2 (seqC (D.N k [1,1,1,1]) D.K0)) (T1 a1 v1006)
noncomputable def r1 (k:Nat) (a1:Arg):((List Key)×Int)->Option Out:=rawIter (fun w v=>B1 k w (Q1 k a1) a1 v) k
theorem s1_eq (k:Nat) (a1:Arg):s1 k a1=r1 k a1:=by
 funext v1006;
 have h2:X1_2 (blockC 2 (seqC (D.N k [1,1,1,1]) D.K0)) a1=Q1 k a1:=funext fun z=>Q1_eq k a1 z
 refine (iter_raw _ _ _ (T1 a1) (fun self v=>B1 k self (X1_2 (blockC 2 (seqC (D.N k [1,1,1,1]) D.K0)) a1) a1 v) (fun rec v=>B1_eq k rec (blockC 2 (seqC (D.N k [1,1,1,1]) D.K0)) a1 v) k v1006).trans ?_
 rw[h2]
 rfl
noncomputable def q0 (l1:((List Key)×Int)->Option Out) (a1:Arg) (z605:(List Key)):Option Out:=l1 (z605,(0:Int))
noncomputable def Q0 (k:Nat) (a1:Arg) (z605:(List Key)):Option Out:=q0 (r1 k a1) a1 z605
theorem Q0_eq (k:Nat) (a1:Arg) (z605:(List Key)):X0_0 (blockC 0 (seqC (D.N k [1,1,1]) D.K0)) a1 z605=Q0 k a1 z605:=
 Eq.trans (b:=q0 (s1 k a1) a1 z605) (by kernel_rfl) (by rw[s1_eq];rfl)
noncomputable def s0 (k:Nat) (a1:Arg):((List Key)×Int)->Option Out:=fun v402=>D.L k [1,1,0,1,0,0] [0,1,5,7,8] [] (blockC 0 (seqC (D.N k [1,1,1]) D.K0)) (T0 a1 v402)
noncomputable def r0 (k:Nat) (a1:Arg):((List Key)×Int)->Option Out:=rawIter (fun w v=>B0 k w (Q0 k a1) a1 v) k
theorem s0_eq (k:Nat) (a1:Arg):s0 k a1=r0 k a1:=by
 funext v402;
 have h0:X0_0 (blockC 0 (seqC (D.N k [1,1,1]) D.K0)) a1=Q0 k a1:=funext fun z=>Q0_eq k a1 z
 refine (iter_raw _ _ _ (T0 a1) (fun self v=>B0 k self (X0_0 (blockC 0 (seqC (D.N k [1,1,1]) D.K0)) a1) a1 v) (fun rec v=>B0_eq k rec (blockC 0 (seqC (D.N k [1,1,1]) D.K0)) a1 v) k v402).trans ?_
 rw[h0]
 rfl
noncomputable def p (l0:((List Key)×Int)->Option Out) (a1:Arg):Option Out:=l0 (([]:List Key),(0:Int))
theorem raw_eq (k:Nat) (a1:Arg):@Eq (Option Out) (D.W k a1) (p (r0 k a1) a1):=
 Eq.trans (b:=p (s0 k a1) a1) (by kernel_rfl) (by rw[s0_eq])
theorem ok:Ok prog 228 D.sig:=fd_ok func228 tlOk (by kernel_rfl) (fn_nil _)
end spec_l10Room
namespace spec_l11Fault
abbrev Arg:Type:=Plain×Unit
abbrev Out:Type:=Int×Unit
abbrev ps:PQ:=[(.ro,(.ptr tPlain))]
noncomputable def D:FD:={ fn:=f104,tl:=TL0,ps:=ps,rs:=[(i64,(roMd i64))],gl:=[(178,spec_l11Back.D.sig),(218,spec_l1In.D.sig),(226,spec_l6Rows.D.sig),(227,spec_l10Fault.D.sig),(228,spec_l10Room.D.sig)],od:=[(8,[0,1,2,3,4,5,6,7,8,9,10,11,12,13,14,15,16,17,18,19,20,21,22,23,24,25]),(10,[0,1,2,3,4,5,6,7,8,9,10]),(12,[0,1,2,3,4,5,6,7,8,9,10,11,12,13])],ar:=[(8,[3,13,18,22])] }
noncomputable def sem (a:Arg):Option Out:=@lift Out fun k=>D.W k a
noncomputable def p (a1:Arg):Option Out:=(spec_l6Rows.sem (a1.1.1,())).bind fun r2=>bif !decide (r2.1=(0:Int)) then (some (r2.1,())) else (spec_l10Fault.sem (a1.1.2.1,())).bind fun r3=>bif !decide (r3.1=(0:Int)) then (some (r3.1,())) else let j8:Option Out:=(spec_l10Room.sem (a1.1.1,a1.1.2.1,((0:Int),(0:Int),()),())).bind fun r9=>bif decide ((12:Int) < r9.1) then (some ((2:Int),())) else (spec_l11Back.sem (a1.1.1,a1.1.2.1,())).bind fun r10=>bif !r10.2.1 then (some ((8:Int),())) else some ((0:Int),());(spec_l1In.sem (a1.1.2.2.1,(1:Int),(100:Int),())).bind fun r4=>bif !r4.1 then (some ((3:Int),())) else bif decide ((0:Int) < (a1.1.2.1.length:Int)) then (if 0<=w64 ((a1.1.2.1.length:Int) - (1:Int)) then ((a1.1.2.1[(w64 ((a1.1.2.1.length:Int) - (1:Int))).toNat]?).bind fun x5=>bif decide (a1.1.2.2.1<=x5.1) then (some ((3:Int),())) else j8) else none) else j8
theorem raw_eq (k:Nat) (a1:Arg):@Eq (Option Out) (D.W k a1) (p a1):=by kernel_rfl
theorem ok:Ok prog 104 D.sig:=fd_ok func104 tlOk (by kernel_rfl) (fc spec_l11Back.ok (fc spec_l1In.ok (fc spec_l6Rows.ok (fc spec_l10Fault.ok (fc spec_l10Room.ok (fn_nil _))))))
end spec_l11Fault
namespace spec_l11Bad
abbrev Arg:Type:=Int×Unit
abbrev Out:Type:=PlainResult×Unit
abbrev ps:PQ:=[(.ro,i64)]
noncomputable def D:FD:={ fn:=f105,tl:=TL0,ps:=ps,rs:=[(tPlainResult,(ownMd tPlainResult))] }
noncomputable def sem (a:Arg):Option Out:=@lift Out fun k=>D.W k a
noncomputable def p (a1:Arg):Option Out:=some ((a1.1,(0:Int),(([]:List Row),([]:List Tx),(0:Int),()),()),())
theorem raw_eq (k:Nat) (a1:Arg):@Eq (Option Out) (D.W k a1) (p a1):=by kernel_rfl
theorem ok:Ok prog 105 D.sig:=fd_ok func105 tlOk (by kernel_rfl) (fn_nil _)
end spec_l11Bad
namespace spec_l10Bad
abbrev Arg:Type:=Int×Unit
abbrev Out:Type:=ChangeResult×Unit
abbrev ps:PQ:=[(.ro,i64)]
noncomputable def D:FD:={ fn:=f229,tl:=TL0,ps:=ps,rs:=[(tChangeResult,(roMd tChangeResult))] }
noncomputable def sem (a:Arg):Option Out:=@lift Out fun k=>D.W k a
noncomputable def p (a1:Arg):Option Out:=some ((a1.1,false,(false,((0:Int),(0:Int),(0:Int),([]:List UInt8),()),false,((0:Int),(0:Int),(0:Int),([]:List UInt8),()),()),()),())
theorem raw_eq (k:Nat) (a1:Arg):@Eq (Option Out) (D.W k a1) (p a1):=by kernel_rfl
theorem ok:Ok prog 229 D.sig:=fd_ok func229 tlOk (by kernel_rfl) (fn_nil _)
end spec_l10Bad
namespace spec_l10Row
abbrev Arg:Type:=Int×Unit
abbrev Out:Type:=Bool×Unit
abbrev ps:PQ:=[(.ro,i64)]
noncomputable def D:FD:={ fn:=f340,tl:=TL0,ps:=ps,rs:=[(.bool,(roMd .bool))],gl:=[(218,spec_l1In.D.sig)] }
noncomputable def sem (a:Arg):Option Out:=@lift Out fun k=>D.W k a
noncomputable def p (a1:Arg):Option Out:=(spec_l1In.sem (a1.1,(2:Int),(4:Int),())).bind fun r2=>some (r2.1,())
theorem raw_eq (k:Nat) (a1:Arg):@Eq (Option Out) (D.W k a1) (p a1):=by kernel_rfl
theorem ok:Ok prog 340 D.sig:=fd_ok func340 tlOk (by kernel_rfl) (fc spec_l1In.ok (fn_nil _))
end spec_l10Row
namespace spec_l10Form
abbrev Arg:Type:=Op×Unit
abbrev Out:Type:=Bool×Unit
abbrev ps:PQ:=[(.ro,(.ptr tOp))]
noncomputable def D:FD:={ fn:=f339,tl:=TL0,ps:=ps,rs:=[(.bool,(roMd .bool))],gl:=[(218,spec_l1In.D.sig),(340,spec_l10Row.D.sig)] }
noncomputable def sem (a:Arg):Option Out:=@lift Out fun k=>D.W k a
noncomputable def p (a1:Arg):Option Out:=let j6:Option Out:=let j8:Option Out:=bif decide (a1.1.1=(4:Int)) then (bif decide (a1.1.2.2.1.2.2.1=(0:Int)) then (some (decide (a1.1.2.2.1.2.2.2.1=([]:List UInt8)),())) else some (false,())) else (spec_l10Row.sem (a1.1.1,())).bind fun r9=>bif r9.1 then (some (true,())) else some ((Ty.eq tRow a1.1.2.2.1 ((0:Int),(0:Int),(0:Int),([]:List UInt8),())),());bif decide (a1.1.1=(1:Int)) then (bif !decide (a1.1.2.1=(0:Int)) then (some (false,())) else j8) else bif decide (a1.1.1=(9:Int)) then (bif !decide (a1.1.2.1=(0:Int)) then (some (false,())) else j8) else j8;(spec_l1In.sem (a1.1.1,(1:Int),(9:Int),())).bind fun r2=>bif !r2.1 then (some (false,())) else bif !decide (a1.1.1=(6:Int)) then (bif !decide (a1.1.2.2.2.1=(0:Int)) then (some (false,())) else j6) else j6
theorem raw_eq (k:Nat) (a1:Arg):@Eq (Option Out) (D.W k a1) (p a1):=by kernel_rfl
theorem ok:Ok prog 339 D.sig:=fd_ok func339 tlOk (by kernel_rfl) (fc spec_l1In.ok (fc spec_l10Row.ok (fn_nil _)))
end spec_l10Form
namespace spec_l10Op
abbrev Arg:Type:=Op×Unit
abbrev Out:Type:=Int×Unit
abbrev ps:PQ:=[(.ro,(.ptr tOp))]
noncomputable def D:FD:={ fn:=f230,tl:=TL0,ps:=ps,rs:=[(i64,(roMd i64))],gl:=[(218,spec_l1In.D.sig),(320,spec_l1Fault.D.sig),(339,spec_l10Form.D.sig),(340,spec_l10Row.D.sig)] }
noncomputable def sem (a:Arg):Option Out:=@lift Out fun k=>D.W k a
noncomputable def p (a1:Arg):Option Out:=(spec_l10Form.sem (a1.1,())).bind fun r2=>bif !r2.1 then (some ((1:Int),())) else bif !decide (a1.1.1=(1:Int)) then (bif !decide (a1.1.1=(9:Int)) then ((spec_l1In.sem (a1.1.2.1,(1:Int),(99:Int),())).bind fun r3=>bif !r3.1 then (some ((3:Int),())) else (spec_l1In.sem (a1.1.2.2.2.1,(0:Int),(7:Int),())).bind fun r4=>bif !r4.1 then (some ((3:Int),())) else (spec_l10Row.sem (a1.1.1,())).bind fun r9=>bif r9.1 then ((spec_l1Fault.sem (a1.1.2.2.1,())).bind fun r10=>some (r10.1,())) else some ((0:Int),())) else (spec_l1In.sem (a1.1.2.2.2.1,(0:Int),(7:Int),())).bind fun r5=>bif !r5.1 then (some ((3:Int),())) else (spec_l10Row.sem (a1.1.1,())).bind fun r11=>bif r11.1 then ((spec_l1Fault.sem (a1.1.2.2.1,())).bind fun r12=>some (r12.1,())) else some ((0:Int),())) else (spec_l1In.sem (a1.1.2.2.2.1,(0:Int),(7:Int),())).bind fun r6=>bif !r6.1 then (some ((3:Int),())) else (spec_l10Row.sem (a1.1.1,())).bind fun r13=>bif r13.1 then ((spec_l1Fault.sem (a1.1.2.2.1,())).bind fun r14=>some (r14.1,())) else some ((0:Int),())
theorem raw_eq (k:Nat) (a1:Arg):@Eq (Option Out) (D.W k a1) (p a1):=by kernel_rfl
theorem ok:Ok prog 230 D.sig:=fd_ok func230 tlOk (by kernel_rfl) (fc spec_l1In.ok (fc spec_l1Fault.ok (fc spec_l10Form.ok (fc spec_l10Row.ok (fn_nil _)))))
end spec_l10Op
namespace spec_l10At
abbrev Arg:Type:=(List Tx)×Int×Unit
abbrev Out:Type:=Int×Unit
abbrev ps:PQ:=[(.ro,(.slc tTx)),(.ro,i64)]
noncomputable def D:FD:={ fn:=f233,tl:=TL0,ps:=ps,rs:=[(i64,(roMd i64))],lv:=[(2,[0,1,5])],lx:=[(0,[])] }
noncomputable def sem (a:Arg):Option Out:=@lift Out fun k=>D.W k a
noncomputable def T0 (a1:Arg) (v402:Int):St:={ n:=20,sl:=[(0,.val (.slc tTx) a1.1),(1,.val i64 a1.2.1),(5,.val i64 v402)],vr:=[],lent:=[] }
noncomputable def b0 (self:Int->Option Out) (e0:(Unit)->Option Out) (a1:Arg) (v402:Int):Option Out:=bif decide (v402 < (a1.1.length:Int)) then (if 0<=v402 then ((a1.1[v402.toNat]?).bind fun x603=>bif decide (x603.1=a1.2.1) then (some (v402,())) else self (w64 (v402+(1:Int)))) else none) else e0 ()
noncomputable abbrev B0 (_:Nat):=b0
noncomputable def q0 (a1:Arg) (z604:(Unit)):Option Out:=some ((-1:Int),())
noncomputable abbrev Q0 (_:Nat):=q0
noncomputable def s0 (k:Nat) (a1:Arg):(Int)->Option Out:=fun v402=>D.L k [1,0,1,0,0] [0,1,5] [] (blockC 0 (seqC (D.N k [1,1]) D.K0)) (T0 a1 v402)
noncomputable def r0 (k:Nat) (a1:Arg):(Int)->Option Out:=rawIter (fun w v=>B0 k w (Q0 k a1) a1 v) k
theorem s0_eq (k:Nat) (a1:Arg):s0 k a1=r0 k a1:=
 funext fun v402=>iter_raw _ _ _ (T0 a1) _ (fun rec v=>by kernel_rfl) k v402
noncomputable def p (l0:(Int)->Option Out) (a1:Arg):Option Out:=l0 (0:Int)
theorem raw_eq (k:Nat) (a1:Arg):@Eq (Option Out) (D.W k a1) (p (r0 k a1) a1):=
 Eq.trans (b:=p (s0 k a1) a1) (by kernel_rfl) (by rw[s0_eq])
theorem ok:Ok prog 233 D.sig:=fd_ok func233 tlOk (by kernel_rfl) (fn_nil _)
end spec_l10At
namespace spec_l10Held
abbrev Arg:Type:=(List Tx)×Int×Key×Unit
abbrev Out:Type:=Bool×Unit
abbrev ps:PQ:=[(.ro,(.slc tTx)),(.ro,i64),(.ro,tKey)]
noncomputable def D:FD:={ fn:=f415,tl:=TL0,ps:=ps,rs:=[(.bool,(roMd .bool))],lv:=[(2,[0,1,5,7]),(6,[0,1,5,7,8])],lx:=[(0,[]),(1,[0,1,5,7]),(2,[0,1,5,7])] }
noncomputable def sem (a:Arg):Option Out:=@lift Out fun k=>D.W k a
noncomputable def T0 (a1:Arg) (v402:(List Tx)×Int×Key×Int):St:={ n:=68,sl:=[(0,.val (.slc tTx) v402.1),(1,.val i64 v402.2.1),(5,.box tKey (roMd tKey) [] v402.2.2.1),(7,.val i64 v402.2.2.2)],vr:=[],lent:=[] }
noncomputable def S0 (rec:RT Out) (a1:Arg):((List Tx)×Int×Key×Int)->Option Out:=fun v402=>rec (T0 a1 v402)
noncomputable def X0_0 (K:KT Out) (a1:Arg):(Unit)->Option Out:=fun z=>K (.exit 0) ({ n:=68,sl:=[],vr:=[],lent:=[] })
noncomputable def T1 (a1:Arg) (c1005:List Tx) (c1006:Int) (c1007:Key) (c1008:Int) (v1004:Int):St:={ n:=68,sl:=[(0,.val (.slc tTx) c1005),(1,.val i64 c1006),(5,.box tKey (roMd tKey) [] c1007),(7,.val i64 c1008),(8,.val i64 v1004)],vr:=[],lent:=[] }
noncomputable def b1 (self:Int->Option Out) (e2:(Unit)->Option Out) (a1:Arg) (c1005:List Tx) (c1006:Int) (c1007:Key) (c1008:Int) (v1004:Int):Option Out:=if 0<=c1008 then ((c1005[c1008.toNat]?).bind fun x1209=>bif decide (v1004 < (x1209.2.2.2.1.length:Int)) then (if 0<=c1008 then ((c1005[c1008.toNat]?).bind fun x1210=>if 0<=v1004 then ((x1210.2.2.2.1[v1004.toNat]?).bind fun x1211=>bif (Ty.eq tKey x1211 c1007) then (some (true,())) else bif decide (x1211.1=(0:Int)) then (bif decide (x1211.2.1=c1007.1) then (some (true,())) else bif decide (c1007.1=(0:Int)) then (bif decide (x1211.1=c1007.2.1) then (some (true,())) else self (w64 (v1004+(1:Int)))) else self (w64 (v1004+(1:Int)))) else bif decide (c1007.1=(0:Int)) then (bif decide (x1211.1=c1007.2.1) then (some (true,())) else self (w64 (v1004+(1:Int)))) else self (w64 (v1004+(1:Int)))) else none) else none) else e2 ()) else none
noncomputable abbrev B1 (_:Nat):=b1
noncomputable def q0 (self:((List Tx)×Int×Key×Int)->Option Out) (e0:(Unit)->Option Out) (a1:Arg) (c1005:List Tx) (c1006:Int) (c1007:Key) (c1008:Int) (z1212:(Unit)):Option Out:=self (c1005,c1006,c1007,w64 (c1008+(1:Int)))
noncomputable abbrev Q0 (_:Nat):=q0
noncomputable def s1 (k:Nat) (rec:RT Out) (K:KT Out) (a1:Arg):(List Tx)->Int->Key->Int->(Int)->Option Out:=fun c1005 c1006 c1007 c1008=>fun v1004=>D.L k [1,0,1,0,0,1,0,0,1,1,0,0] [0,1,5,7,8] [] (blockC 2 (blockC 1 (seqC (D.N k [1,0,1,0,0,1,1]) (loopC rec (keepF [0,1,5,7] []) K)))) (T1 a1 c1005 c1006 c1007 c1008 v1004)
noncomputable def r1 (k:Nat) (self:((List Tx)×Int×Key×Int)->Option Out) (e0:(Unit)->Option Out) (a1:Arg):(List Tx)->Int->Key->Int->(Int)->Option Out:=fun c1005 c1006 c1007 c1008=>rawIter (fun w v=>B1 k w (Q0 k self e0 a1 c1005 c1006 c1007 c1008) a1 c1005 c1006 c1007 c1008 v) k
theorem s1_eq (k:Nat) (rec:RT Out) (K:KT Out) (a1:Arg):s1 k rec K a1=r1 k (S0 rec a1) (X0_0 K a1) a1:=
 funext fun c1005=>funext fun c1006=>funext fun c1007=>funext fun c1008=>funext fun v1004=>iter_raw _ _ _ (T1 a1 c1005 c1006 c1007 c1008) _ (fun rec v=>by kernel_rfl) k v1004
noncomputable def b0 (self:((List Tx)×Int×Key×Int)->Option Out) (e0:(Unit)->Option Out) (l1:(List Tx)->Int->Key->Int->(Int)->Option Out) (a1:Arg) (v402:(List Tx)×Int×Key×Int):Option Out:=bif decide (v402.2.2.2 < (v402.1.length:Int)) then (if 0<=v402.2.2.2 then ((v402.1[v402.2.2.2.toNat]?).bind fun x603=>bif decide (x603.1=v402.2.1) then (self (v402.1,v402.2.1,v402.2.2.1,w64 (v402.2.2.2+(1:Int)))) else l1 v402.1 v402.2.1 v402.2.2.1 v402.2.2.2 (0:Int)) else none) else e0 ()
noncomputable def B0 (k:Nat) (self:((List Tx)×Int×Key×Int)->Option Out) (e0:(Unit)->Option Out) (a1:Arg) (v402:(List Tx)×Int×Key×Int):Option Out:=b0 self e0 (r1 k self e0 a1) a1 v402
theorem B0_eq (k:Nat) (rec:RT Out) (K:KT Out) (a1:Arg) (v402:(List Tx)×Int×Key×Int):D.N k [1,0,1,0,0] (T0 a1 v402) (loopC rec (keepF [0,1,5,7] []) K)=B0 k (S0 rec a1) (X0_0 K a1) a1 v402:=
 Eq.trans (b:=b0 (S0 rec a1) (X0_0 K a1) (s1 k rec K a1) a1 v402) (by kernel_rfl) (by rw[s1_eq];rfl)
noncomputable def q1 (a1:Arg) (z1213:(Unit)):Option Out:=some (false,())
noncomputable abbrev Q1 (_:Nat):=q1
theorem Q1_eq (k:Nat) (a1:Arg) (z1213:(Unit)):X0_0 (blockC 0 (seqC (D.N k [1,1]) D.K0)) a1 z1213=q1 a1 z1213:=by kernel_rfl
noncomputable def s0 (k:Nat) (a1:Arg):((List Tx)×Int×Key×Int)->Option Out:=fun v402=>D.L k [1,0,1,0,0] [0,1,5,7] [] (blockC 0 (seqC (D.N k [1,1]) D.K0)) (T0 a1 v402)
noncomputable def r0 (k:Nat) (a1:Arg):((List Tx)×Int×Key×Int)->Option Out:=rawIter (fun w v=>B0 k w (Q1 k a1) a1 v) k
theorem s0_eq (k:Nat) (a1:Arg):s0 k a1=r0 k a1:=by
 funext v402;
 have h0:X0_0 (blockC 0 (seqC (D.N k [1,1]) D.K0)) a1=Q1 k a1:=funext fun z=>Q1_eq k a1 z
 refine (iter_raw _ _ _ (T0 a1) (fun self v=>B0 k self (X0_0 (blockC 0 (seqC (D.N k [1,1]) D.K0)) a1) a1 v) (fun rec v=>B0_eq k rec (blockC 0 (seqC (D.N k [1,1]) D.K0)) a1 v) k v402).trans ?_
 rw[h0]
 rfl
noncomputable def p (l0:((List Tx)×Int×Key×Int)->Option Out) (a1:Arg):Option Out:=l0 (a1.1,a1.2.1,a1.2.2.1,(0:Int))
theorem raw_eq (k:Nat) (a1:Arg):@Eq (Option Out) (D.W k a1) (p (r0 k a1) a1):=
 Eq.trans (b:=p (s0 k a1) a1) (by kernel_rfl) (by rw[s0_eq])
theorem ok:Ok prog 415 D.sig:=fd_ok func415 tlOk (by kernel_rfl) (fn_nil _)
end spec_l10Held
namespace spec_l10Wanted
abbrev Arg:Type:=(List Row)×Op×Unit
abbrev Out:Type:=Change×Int×Unit
abbrev ps:PQ:=[(.ro,(.slc tRow)),(.ro,(.ptr tOp))]
noncomputable def D:FD:={ fn:=f416,tl:=TL0,ps:=ps,rs:=[(tChange,(roMd tChange)),(i64,(roMd i64))],gl:=[(304,spec_l6At.D.sig)],od:=[(1,[0,1,2,3,4,5,6,7,8,9,10,11,12])] }
noncomputable def sem (a:Arg):Option Out:=@lift Out fun k=>D.W k a
noncomputable def p (a1:Arg):Option Out:=(spec_l6At.sem (a1.1,a1.2.1.2.2.1.1,a1.2.1.2.2.1.2.1,())).bind fun r2=>let j5:Option Out:=let j7:Option Out:=let j10:=fun (p9:Change)=>(bif p9.2.2.1 then (some ((p9.1,p9.2.1,p9.2.2.1,a1.2.1.2.2.1,p9.2.2.2.2),(0:Int),())) else some (p9,(0:Int),()):Option Out);bif decide ((0:Int)<=r2.1) then (if 0<=r2.1 then ((a1.1[r2.1.toNat]?).bind fun x8=>j10 (decide ((0:Int)<=r2.1),x8,!decide (a1.2.1.1=(4:Int)),((0:Int),(0:Int),(0:Int),([]:List UInt8),()),())) else none) else j10 (decide ((0:Int)<=r2.1),((0:Int),(0:Int),(0:Int),([]:List UInt8),()),!decide (a1.2.1.1=(4:Int)),((0:Int),(0:Int),(0:Int),([]:List UInt8),()),());bif !decide (a1.2.1.1=(2:Int)) then (bif decide (r2.1 < (0:Int)) then (some ((false,((0:Int),(0:Int),(0:Int),([]:List UInt8),()),false,((0:Int),(0:Int),(0:Int),([]:List UInt8),()),()),(4:Int),())) else j7) else j7;bif decide (a1.2.1.1=(2:Int)) then (bif decide ((0:Int)<=r2.1) then (some ((false,((0:Int),(0:Int),(0:Int),([]:List UInt8),()),false,((0:Int),(0:Int),(0:Int),([]:List UInt8),()),()),(6:Int),())) else j5) else j5
theorem raw_eq (k:Nat) (a1:Arg):@Eq (Option Out) (D.W k a1) (p a1):=by kernel_rfl
theorem ok:Ok prog 416 D.sig:=fd_ok func416 tlOk (by kernel_rfl) (fc spec_l6At.ok (fn_nil _))
end spec_l10Wanted
namespace spec_l8Catalog
abbrev Arg:Type:=(List Row)×Change×Unit
abbrev Out:Type:=Int×Unit
abbrev ps:PQ:=[(.ro,(.slc tRow)),(.ro,(.ptr tChange))]
noncomputable def D:FD:={ fn:=f453,tl:=TL0,ps:=ps,rs:=[(i64,(roMd i64))],gl:=[(218,spec_l1In.D.sig),(321,spec_l6Key.D.sig)],lv:=[(5,[0,1,6,7])],lx:=[(0,[])],od:=[(7,[0,1,2,3,4,5,6,7,8,9,10,11,12,13,14,15,16,17,18,19,20,21,22,23,24,25,26,27,28,29,30,31,32,33,34,35])] }
noncomputable def sem (a:Arg):Option Out:=@lift Out fun k=>D.W k a
noncomputable def T0 (a1:Arg) (c1008:Int) (v1007:Int):St:={ n:=80,sl:=[(0,.val (.slc tRow) a1.1),(1,.cp tChange a1.2.1),(6,.val i64 c1008),(7,.val i64 v1007)],vr:=[],lent:=[] }
noncomputable def b0 (self:Int->Option Out) (e0:(Unit)->Option Out) (a1:Arg) (c1008:Int) (v1007:Int):Option Out:=bif decide (v1007 < (a1.1.length:Int)) then (if 0<=v1007 then ((a1.1[v1007.toNat]?).bind fun x1209=>bif decide (x1209.1=c1008) then (if 0<=v1007 then ((a1.1[v1007.toNat]?).bind fun x1210=>bif !decide (x1210.1=(0:Int)) then (bif !a1.2.1.2.2.1 then (some ((8:Int),())) else if 0<=v1007 then ((a1.1[v1007.toNat]?).bind fun x1211=>bif decide (a1.2.1.2.2.2.1.2.2.1 < (x1211.2.2.2.1.length:Int)) then (some ((8:Int),())) else self (w64 (v1007+(1:Int)))) else none) else self (w64 (v1007+(1:Int)))) else none) else self (w64 (v1007+(1:Int)))) else none) else e0 ()
noncomputable abbrev B0 (_:Nat):=b0
noncomputable def q0 (a1:Arg) (c1008:Int) (z1212:(Unit)):Option Out:=some ((0:Int),())
noncomputable abbrev Q0 (_:Nat):=q0
noncomputable def s0 (k:Nat) (a1:Arg):Int->(Int)->Option Out:=fun c1008=>fun v1007=>D.L k [1,1,1,0,1,0,0] [0,1,6,7] [] (blockC 0 (seqC (D.N k [1,1,1,1]) D.K0)) (T0 a1 c1008 v1007)
noncomputable def r0 (k:Nat) (a1:Arg):Int->(Int)->Option Out:=fun c1008=>rawIter (fun w v=>B0 k w (Q0 k a1 c1008) a1 c1008 v) k
theorem s0_eq (k:Nat) (a1:Arg):s0 k a1=r0 k a1:=
 funext fun c1008=>funext fun v1007=>iter_raw _ _ _ (T0 a1 c1008) _ (fun rec v=>by kernel_rfl) k v1007
noncomputable def p (l0:Int->(Int)->Option Out) (a1:Arg):Option Out:=(spec_l6Key.sem (a1.2.1,())).bind fun r2=>let j606:Option Out:=l0 r2.2.1 (0:Int);bif a1.2.1.2.2.1 then ((spec_l1In.sem (r2.2.1,(1:Int),(3:Int),())).bind fun r3=>bif !r3.1 then (some ((10:Int),())) else bif decide ((8:Int) < a1.2.1.2.2.2.1.2.2.1) then (some ((10:Int),())) else bif !decide (a1.2.1.2.2.2.1.2.2.2.1=([]:List UInt8)) then (some ((10:Int),())) else j606) else j606
theorem raw_eq (k:Nat) (a1:Arg):@Eq (Option Out) (D.W k a1) (p (r0 k a1) a1):=
 Eq.trans (b:=p (s0 k a1) a1) (by kernel_rfl) (by rw[s0_eq])
theorem ok:Ok prog 453 D.sig:=fd_ok func453 tlOk (by kernel_rfl) (fc spec_l1In.ok (fc spec_l6Key.ok (fn_nil _)))
end spec_l8Catalog
namespace spec_l8Longest
abbrev Arg:Type:=(List Row)×Int×Unit
abbrev Out:Type:=Int×Unit
abbrev ps:PQ:=[(.ro,(.slc tRow)),(.ro,i64)]
noncomputable def D:FD:={ fn:=f454,tl:=TL0,ps:=ps,rs:=[(i64,(roMd i64))],gl:=[(304,spec_l6At.D.sig)] }
noncomputable def sem (a:Arg):Option Out:=@lift Out fun k=>D.W k a
noncomputable def p (a1:Arg):Option Out:=(spec_l6At.sem (a1.1,(0:Int),a1.2.1,())).bind fun r2=>bif decide (r2.1 < (0:Int)) then (some ((-1:Int),())) else if 0<=r2.1 then ((a1.1[r2.1.toNat]?).bind fun x3=>some (x3.2.2.1,())) else none
theorem raw_eq (k:Nat) (a1:Arg):@Eq (Option Out) (D.W k a1) (p a1):=by kernel_rfl
theorem ok:Ok prog 454 D.sig:=fd_ok func454 tlOk (by kernel_rfl) (fc spec_l6At.ok (fn_nil _))
end spec_l8Longest
namespace spec_l8May
abbrev Arg:Type:=(List Row)×Change×Unit
abbrev Out:Type:=Int×Unit
abbrev ps:PQ:=[(.ro,(.slc tRow)),(.ro,(.ptr tChange))]
noncomputable def D:FD:={ fn:=f417,tl:=TL0,ps:=ps,rs:=[(i64,(roMd i64))],gl:=[(321,spec_l6Key.D.sig),(453,spec_l8Catalog.D.sig),(454,spec_l8Longest.D.sig)] }
noncomputable def sem (a:Arg):Option Out:=@lift Out fun k=>D.W k a
noncomputable def p (a1:Arg):Option Out:=(spec_l6Key.sem (a1.2.1,())).bind fun r2=>bif decide (r2.1=(0:Int)) then ((spec_l8Catalog.sem (a1.1,a1.2.1,())).bind fun r3=>some (r3.1,())) else bif !a1.2.1.2.2.1 then (some ((0:Int),())) else (spec_l8Longest.sem (a1.1,r2.1,())).bind fun r4=>bif decide (r4.1 < (0:Int)) then (some ((4:Int),())) else bif decide (r4.1 < (a1.2.1.2.2.2.1.2.2.2.1.length:Int)) then (some ((10:Int),())) else some ((0:Int),())
theorem raw_eq (k:Nat) (a1:Arg):@Eq (Option Out) (D.W k a1) (p a1):=by kernel_rfl
theorem ok:Ok prog 417 D.sig:=fd_ok func417 tlOk (by kernel_rfl) (fc spec_l6Key.ok (fc spec_l8Catalog.ok (fc spec_l8Longest.ok (fn_nil _))))
end spec_l8May
namespace spec_l10CheckRow
abbrev Arg:Type:=(List Row)×(List Tx)×Op×Unit
abbrev Out:Type:=ChangeResult×Unit
abbrev ps:PQ:=[(.ro,(.slc tRow)),(.ro,(.slc tTx)),(.ro,(.ptr tOp))]
noncomputable def D:FD:={ fn:=f341,tl:=TL0,ps:=ps,rs:=[(tChangeResult,(roMd tChangeResult))],gl:=[(228,spec_l10Room.D.sig),(229,spec_l10Bad.D.sig),(338,spec_l10Count.D.sig),(415,spec_l10Held.D.sig),(416,spec_l10Wanted.D.sig),(417,spec_l8May.D.sig)],od:=[(1,[0,1,2,3,4,5,6,7,8,9,10,11,12]),(2,[0,1,2,3,4,5,6])] }
noncomputable def sem (a:Arg):Option Out:=@lift Out fun k=>D.W k a
noncomputable def p (a1:Arg):Option Out:=(spec_l10Held.sem (a1.2.1,a1.2.2.1.2.1,(a1.2.2.1.2.2.1.1,a1.2.2.1.2.2.1.2.1,()),())).bind fun r2=>bif r2.1 then ((spec_l10Bad.sem ((7:Int),())).bind fun r3=>some (r3.1,())) else (spec_l10Wanted.sem (a1.1,a1.2.2.1,())).bind fun r4=>bif !decide (r4.2.1=(0:Int)) then ((spec_l10Bad.sem (r4.2.1,())).bind fun r5=>some (r5.1,())) else (spec_l8May.sem (a1.1,r4.1,())).bind fun r6=>bif !decide (r6.1=(0:Int)) then ((spec_l10Bad.sem (r6.1,())).bind fun r7=>some (r7.1,())) else (spec_l10Room.sem (a1.1,a1.2.1,(a1.2.2.1.2.2.1.1,a1.2.2.1.2.2.1.2.1,()),())).bind fun r8=>bif decide ((12:Int) < r8.1) then ((spec_l10Bad.sem ((9:Int),())).bind fun r10=>some (r10.1,())) else (spec_l10Count.sem (a1.2.1,())).bind fun r9=>bif decide ((12:Int)<=r9.1) then ((spec_l10Bad.sem ((9:Int),())).bind fun r11=>some (r11.1,())) else bif r4.1.1 then (bif r4.1.2.2.1 then (bif (Ty.eq tRow r4.1.2.1 r4.1.2.2.2.1) then (some (((0:Int),false,(false,((0:Int),(0:Int),(0:Int),([]:List UInt8),()),false,((0:Int),(0:Int),(0:Int),([]:List UInt8),()),()),()),())) else some (((0:Int),true,r4.1,()),())) else some (((0:Int),true,r4.1,()),())) else some (((0:Int),true,r4.1,()),())
theorem raw_eq (k:Nat) (a1:Arg):@Eq (Option Out) (D.W k a1) (p a1):=by kernel_rfl
theorem ok:Ok prog 341 D.sig:=fd_ok func341 tlOk (by kernel_rfl) (fc spec_l10Room.ok (fc spec_l10Bad.ok (fc spec_l10Count.ok (fc spec_l10Held.ok (fc spec_l10Wanted.ok (fc spec_l8May.ok (fn_nil _)))))))
end spec_l10CheckRow
namespace spec_l10Check
abbrev Arg:Type:=(List Row)×(List Tx)×Op×Unit
abbrev Out:Type:=ChangeResult×Unit
abbrev ps:PQ:=[(.ro,(.slc tRow)),(.ro,(.slc tTx)),(.ro,(.ptr tOp))]
noncomputable def D:FD:={ fn:=f231,tl:=TL0,ps:=ps,rs:=[(tChangeResult,(roMd tChangeResult))],gl:=[(229,spec_l10Bad.D.sig),(233,spec_l10At.D.sig),(341,spec_l10CheckRow.D.sig)],od:=[(17,[0,1,2,3,4,5,6,7,8,9,10])] }
noncomputable def sem (a:Arg):Option Out:=@lift Out fun k=>D.W k a
noncomputable def p (a1:Arg):Option Out:=bif decide (a1.2.2.1.1=(1:Int)) then (bif decide ((4:Int)<=(a1.2.1.length:Int)) then ((spec_l10Bad.sem ((2:Int),())).bind fun r2=>some (r2.1,())) else some (((0:Int),false,(false,((0:Int),(0:Int),(0:Int),([]:List UInt8),()),false,((0:Int),(0:Int),(0:Int),([]:List UInt8),()),()),()),())) else bif decide (a1.2.2.1.1=(9:Int)) then (some (((0:Int),false,(false,((0:Int),(0:Int),(0:Int),([]:List UInt8),()),false,((0:Int),(0:Int),(0:Int),([]:List UInt8),()),()),()),())) else (spec_l10At.sem (a1.2.1,a1.2.2.1.2.1,())).bind fun r3=>bif decide (r3.1 < (0:Int)) then ((spec_l10Bad.sem ((4:Int),())).bind fun r4=>some (r4.1,())) else bif decide (a1.2.2.1.1=(5:Int)) then (if 0<=r3.1 then ((a1.2.1[r3.1.toNat]?).bind fun x5=>bif decide ((8:Int)<=(x5.2.2.1.length:Int)) then ((spec_l10Bad.sem ((2:Int),())).bind fun r6=>some (r6.1,())) else some (((0:Int),false,(false,((0:Int),(0:Int),(0:Int),([]:List UInt8),()),false,((0:Int),(0:Int),(0:Int),([]:List UInt8),()),()),()),())) else none) else bif decide (a1.2.2.1.1=(6:Int)) then (if 0<=r3.1 then ((a1.2.1[r3.1.toNat]?).bind fun x7=>bif decide ((x7.2.2.1.length:Int)<=a1.2.2.1.2.2.2.1) then ((spec_l10Bad.sem ((3:Int),())).bind fun r8=>some (r8.1,())) else some (((0:Int),false,(false,((0:Int),(0:Int),(0:Int),([]:List UInt8),()),false,((0:Int),(0:Int),(0:Int),([]:List UInt8),()),()),()),())) else none) else bif decide (a1.2.2.1.1=(7:Int)) then (bif decide (a1.2.2.1.1=(7:Int)) then (some (((0:Int),false,(false,((0:Int),(0:Int),(0:Int),([]:List UInt8),()),false,((0:Int),(0:Int),(0:Int),([]:List UInt8),()),()),()),())) else (spec_l10CheckRow.sem (a1.1,a1.2.1,a1.2.2.1,())).bind fun r10=>some (r10.1,())) else bif decide (a1.2.2.1.1=(8:Int)) then (some (((0:Int),false,(false,((0:Int),(0:Int),(0:Int),([]:List UInt8),()),false,((0:Int),(0:Int),(0:Int),([]:List UInt8),()),()),()),())) else (spec_l10CheckRow.sem (a1.1,a1.2.1,a1.2.2.1,())).bind fun r11=>some (r11.1,())
theorem raw_eq (k:Nat) (a1:Arg):@Eq (Option Out) (D.W k a1) (p a1):=by kernel_rfl
theorem ok:Ok prog 231 D.sig:=fd_ok func231 tlOk (by kernel_rfl) (fc spec_l10Bad.ok (fc spec_l10At.ok (fc spec_l10CheckRow.ok (fn_nil _))))
end spec_l10Check
namespace spec_CheckOp
abbrev Arg:Type:=(List Row)×(List Tx)×Op×Unit
abbrev Out:Type:=ChangeResult×Unit
abbrev ps:PQ:=[(.ro,(.slc tRow)),(.ro,(.slc tTx)),(.ro,tOp)]
noncomputable def D:FD:={ fn:=f106,tl:=TL0,ps:=ps,rs:=[(tChangeResult,(roMd tChangeResult))],gl:=[(226,spec_l6Rows.D.sig),(227,spec_l10Fault.D.sig),(229,spec_l10Bad.D.sig),(230,spec_l10Op.D.sig),(231,spec_l10Check.D.sig)] }
noncomputable def sem (a:Arg):Option Out:=@lift Out fun k=>D.W k a
noncomputable def p (a1:Arg):Option Out:=(spec_l6Rows.sem (a1.1,())).bind fun r2=>bif !decide (r2.1=(0:Int)) then ((spec_l10Bad.sem (r2.1,())).bind fun r3=>some (r3.1,())) else (spec_l10Fault.sem (a1.2.1,())).bind fun r4=>bif !decide (r4.1=(0:Int)) then ((spec_l10Bad.sem (r4.1,())).bind fun r5=>some (r5.1,())) else (spec_l10Op.sem (a1.2.2.1,())).bind fun r6=>bif !decide (r6.1=(0:Int)) then ((spec_l10Bad.sem (r6.1,())).bind fun r7=>some (r7.1,())) else (spec_l10Check.sem (a1.1,a1.2.1,a1.2.2.1,())).bind fun r8=>some (r8.1,())
theorem raw_eq (k:Nat) (a1:Arg):@Eq (Option Out) (D.W k a1) (p a1):=by kernel_rfl
theorem ok:Ok prog 106 D.sig:=fd_ok func106 tlOk (by kernel_rfl) (fc spec_l6Rows.ok (fc spec_l10Fault.ok (fc spec_l10Bad.ok (fc spec_l10Op.ok (fc spec_l10Check.ok (fn_nil _))))))
end spec_CheckOp
namespace spec_l10CopyOne
abbrev Arg:Type:=Tx×Unit
abbrev Out:Type:=Tx×Unit
abbrev ps:PQ:=[(.ro,tTx)]
noncomputable def D:FD:={ fn:=f418,tl:=TL0,ps:=ps,rs:=[(tTx,(ownMd tTx))],od:=[(1,[0,1,3,4,7,8,11,12,2,5,6,9,10,13,14,15])],ar:=[(1,[1,4,8,12])],bx:=[(1,[1])],pd:=[(1,[2,6,10])] }
noncomputable def sem (a:Arg):Option Out:=@lift Out fun k=>D.W k a
noncomputable def p (a1:Arg):Option Out:=if ([]:List Change).length+a1.1.2.1.length<=CAP then (if ([]:List Int).length+a1.1.2.2.1.length<=CAP then (if ([]:List Key).length+a1.1.2.2.2.1.length<=CAP then (some ((a1.1.1,([]:List Change)++a1.1.2.1,([]:List Int)++a1.1.2.2.1,([]:List Key)++a1.1.2.2.2.1,()),())) else none) else none) else none
theorem raw_eq (k:Nat) (a1:Arg):@Eq (Option Out) (D.W k a1) (p a1):=by kernel_rfl
theorem ok:Ok prog 418 D.sig:=fd_ok func418 tlOk (by kernel_rfl) (fn_nil _)
end spec_l10CopyOne
namespace spec_l10Copy
abbrev Arg:Type:=(List Tx)×Unit
abbrev Out:Type:=(List Tx)×Unit
abbrev ps:PQ:=[(.ro,(.slc tTx))]
noncomputable def D:FD:={ fn:=f342,tl:=TL0,ps:=ps,rs:=[((.slc tTx),(ownMd (.slc tTx)))],gl:=[(418,spec_l10CopyOne.D.sig)],lv:=[(3,[0,3,4])],lx:=[(0,[3])] }
noncomputable def sem (a:Arg):Option Out:=@lift Out fun k=>D.W k a
noncomputable def T0 (a1:Arg) (v402:(List Tx)×Int):St:={ n:=21,sl:=[(0,.val (.slc tTx) a1.1),(3,.own (.slc tTx) (ownMd (.slc tTx)) [] v402.1),(4,.val i64 v402.2)],vr:=[],lent:=[] }
noncomputable def b0 (self:((List Tx)×Int)->Option Out) (e0:(List Tx)->Option Out) (a1:Arg) (v402:(List Tx)×Int):Option Out:=bif decide (v402.2 < (a1.1.length:Int)) then (if 0<=v402.2 then ((a1.1[v402.2.toNat]?).bind fun x603=>(spec_l10CopyOne.sem (x603,())).bind fun r604=>if v402.1.length+[r604.1].length<=CAP then (self (v402.1++[r604.1],w64 (v402.2+(1:Int)))) else none) else none) else e0 v402.1
noncomputable abbrev B0 (_:Nat):=b0
noncomputable def q0 (a1:Arg) (z605:(List Tx)):Option Out:=some (z605,())
noncomputable abbrev Q0 (_:Nat):=q0
noncomputable def s0 (k:Nat) (a1:Arg):((List Tx)×Int)->Option Out:=fun v402=>D.L k [1,1,0,1,0,0] [0,3,4] [] (blockC 0 (seqC (D.N k [1,1,1]) D.K0)) (T0 a1 v402)
noncomputable def r0 (k:Nat) (a1:Arg):((List Tx)×Int)->Option Out:=rawIter (fun w v=>B0 k w (Q0 k a1) a1 v) k
theorem s0_eq (k:Nat) (a1:Arg):s0 k a1=r0 k a1:=
 funext fun v402=>iter_raw _ _ _ (T0 a1) _ (fun rec v=>by kernel_rfl) k v402
noncomputable def p (l0:((List Tx)×Int)->Option Out) (a1:Arg):Option Out:=l0 (([]:List Tx),(0:Int))
theorem raw_eq (k:Nat) (a1:Arg):@Eq (Option Out) (D.W k a1) (p (r0 k a1) a1):=
 Eq.trans (b:=p (s0 k a1) a1) (by kernel_rfl) (by rw[s0_eq])
theorem ok:Ok prog 342 D.sig:=fd_ok func342 tlOk (by kernel_rfl) (fc spec_l10CopyOne.ok (fn_nil _))
end spec_l10Copy
namespace spec_l11Copy
abbrev Arg:Type:=Plain×Unit
abbrev Out:Type:=Plain×Unit
abbrev ps:PQ:=[(.ro,tPlain)]
noncomputable def D:FD:={ fn:=f232,tl:=TL0,ps:=ps,rs:=[(tPlain,(ownMd tPlain))],gl:=[(342,spec_l10Copy.D.sig)],od:=[(1,[1,2,4,5,7,8,0,3,6,9,10])],ar:=[(1,[2,5,8])],bx:=[(1,[1])] }
noncomputable def sem (a:Arg):Option Out:=@lift Out fun k=>D.W k a
noncomputable def p (a1:Arg):Option Out:=if ([]:List Row).length+a1.1.1.length<=CAP then ((spec_l10Copy.sem (a1.1.2.1,())).bind fun r2=>some ((([]:List Row)++a1.1.1,r2.1,a1.1.2.2.1,()),())) else none
theorem raw_eq (k:Nat) (a1:Arg):@Eq (Option Out) (D.W k a1) (p a1):=by kernel_rfl
theorem ok:Ok prog 232 D.sig:=fd_ok func232 tlOk (by kernel_rfl) (fc spec_l10Copy.ok (fn_nil _))
end spec_l11Copy
namespace spec_l11Cut
abbrev Arg:Type:=Tx×Int×Unit
abbrev Out:Type:=(List Change)×Tx×Unit
abbrev ps:PQ:=[(.mutp (roMd tTx),tTx),(.ro,i64)]
noncomputable def D:FD:={ fn:=f235,tl:=TL0,ps:=ps,rs:=[((.slc tChange),(ownMd (.slc tChange)))],es:=[0] }
noncomputable def sem (a:Arg):Option Out:=@lift Out fun k=>D.W k a
noncomputable def p (a1:Arg):Option Out:=if 0<=a1.2.1 then ((a1.1.2.2.1[a1.2.1.toNat]?).bind fun x2=>if 0<=x2/\x2<=(a1.1.2.1.length:Int) then (if ([]:List Change).length+((a1.1.2.1.take a1.1.2.1.length).drop x2.toNat).length<=CAP then (let y3:=([]:List Change)++((a1.1.2.1.take a1.1.2.1.length).drop x2.toNat);if 0<=x2/\x2<=(a1.1.2.1.length:Int) then (if 0<=w64 (a1.2.1+(1:Int))/\w64 (a1.2.1+(1:Int))<=(a1.1.2.2.1.length:Int) then (let y4:=(a1.1.2.2.1.take (w64 (a1.2.1+(1:Int))).toNat).drop 0;some (y3,(a1.1.1,(a1.1.2.1.take x2.toNat).drop 0,y4,a1.1.2.2.2),())) else none) else none) else none) else none) else none
theorem raw_eq (k:Nat) (a1:Arg):@Eq (Option Out) (D.W k a1) (p a1):=by kernel_rfl
theorem ok:Ok prog 235 D.sig:=fd_ok func235 tlOk (by kernel_rfl) (fn_nil _)
end spec_l11Cut
namespace spec_l11Gone
abbrev Arg:Type:=(List Tx)×Int×Unit
abbrev Out:Type:=(List Tx)×Unit
abbrev ps:PQ:=[(.ro,(.slc tTx)),(.ro,i64)]
noncomputable def D:FD:={ fn:=f236,tl:=TL0,ps:=ps,rs:=[((.slc tTx),(.slc true (roMd tTx)))],lv:=[(3,[0,1,5,6])],lx:=[(0,[5])],lf:=[(3,[(5,(.slc true (.pair .leaf (.pair (.slc false (.pair .leaf (.pair (.pair .leaf (.pair .leaf (.pair .leaf (.pair .leaf .leaf)))) (.pair .leaf (.pair (.pair .leaf (.pair .leaf (.pair .leaf (.pair .leaf .leaf)))) .leaf))))) (.pair (.slc false .leaf) (.pair (.slc false (.pair .leaf (.pair .leaf .leaf))) .leaf))))))])] }
noncomputable def sem (a:Arg):Option Out:=@lift Out fun k=>D.W k a
noncomputable def T0 (a1:Arg) (v402:(List Tx)×Int):St:={ n:=25,sl:=[(0,.val (.slc tTx) a1.1),(1,.val i64 a1.2.1),(5,.own (.slc tTx) (.slc true (roMd tTx)) [] v402.1),(6,.val i64 v402.2)],vr:=[],lent:=[] }
noncomputable def b0 (self:((List Tx)×Int)->Option Out) (e0:(List Tx)->Option Out) (a1:Arg) (v402:(List Tx)×Int):Option Out:=bif decide (v402.2 < (a1.1.length:Int)) then (bif !decide (v402.2=a1.2.1) then (if 0<=v402.2 then ((a1.1[v402.2.toNat]?).bind fun x603=>if v402.1.length+[x603].length<=CAP then (self (v402.1++[x603],w64 (v402.2+(1:Int)))) else none) else none) else self (v402.1,w64 (v402.2+(1:Int)))) else e0 v402.1
noncomputable abbrev B0 (_:Nat):=b0
noncomputable def q0 (a1:Arg) (z604:(List Tx)):Option Out:=some (z604,())
noncomputable abbrev Q0 (_:Nat):=q0
noncomputable def s0 (k:Nat) (a1:Arg):((List Tx)×Int)->Option Out:=fun v402=>D.L k [1,1,0,1,0,0] [0,1,5,6] [(5,(.slc true (.pair .leaf (.pair (.slc false (.pair .leaf (.pair (.pair .leaf (.pair .leaf (.pair .leaf (.pair .leaf .leaf)))) (.pair .leaf (.pair (.pair .leaf (.pair .leaf (.pair .leaf (.pair .leaf .leaf)))) .leaf))))) (.pair (.slc false .leaf) (.pair (.slc false (.pair .leaf (.pair .leaf .leaf))) .leaf))))))] (blockC 0 (seqC (D.N k [1,1,1]) D.K0)) (T0 a1 v402)
noncomputable def r0 (k:Nat) (a1:Arg):((List Tx)×Int)->Option Out:=rawIter (fun w v=>B0 k w (Q0 k a1) a1 v) k
theorem s0_eq (k:Nat) (a1:Arg):s0 k a1=r0 k a1:=
 funext fun v402=>iter_raw _ _ _ (T0 a1) _ (fun rec v=>by kernel_rfl) k v402
noncomputable def p (l0:((List Tx)×Int)->Option Out) (a1:Arg):Option Out:=l0 (([]:List Tx),(0:Int))
theorem raw_eq (k:Nat) (a1:Arg):@Eq (Option Out) (D.W k a1) (p (r0 k a1) a1):=
 Eq.trans (b:=p (s0 k a1) a1) (by kernel_rfl) (by rw[s0_eq])
theorem ok:Ok prog 236 D.sig:=fd_ok func236 tlOk (by kernel_rfl) (fn_nil _)
end spec_l11Gone
namespace spec_l10Note
abbrev Arg:Type:=(List Tx)×Int×Change×Unit
abbrev Out:Type:=(List Tx)×Unit
abbrev ps:PQ:=[(.ro,(.slc tTx)),(.ro,i64),(.ro,tChange)]
noncomputable def D:FD:={ fn:=f238,tl:=TL0,ps:=ps,rs:=[((.slc tTx),(ownMd (.slc tTx)))],gl:=[(342,spec_l10Copy.D.sig),(344,spec_l10KeyOf.D.sig),(345,spec_l10Locks.D.sig)],od:=[(3,[0,1,2,3,4,5,6,7,8,9,10]),(6,[0,1,2,3,4,5,6,7,8,9,10])] }
noncomputable def sem (a:Arg):Option Out:=@lift Out fun k=>D.W k a
noncomputable def p (a1:Arg):Option Out:=(spec_l10Copy.sem (a1.1,())).bind fun r2=>if 0<=a1.2.1/\a1.2.1 < (r2.1.length:Int) then ((r2.1[a1.2.1.toNat]?).bind fun x3=>(r2.1[a1.2.1.toNat]?).bind fun x4=>(r2.1[a1.2.1.toNat]?).bind fun x5=>if x4.2.1.length+[a1.2.2.1].length<=CAP then (if a1.2.1.toNat=a1.2.1.toNat then ((r2.1.set a1.2.1.toNat x5)[a1.2.1.toNat]?).bind fun x6=>let y7:=(r2.1.set a1.2.1.toNat x5).set a1.2.1.toNat (x6.1,x4.2.1++[a1.2.2.1],x6.2.2);(spec_l10KeyOf.sem (a1.2.2.1,())).bind fun r8=>(y7[a1.2.1.toNat]?).bind fun x9=>(spec_l10Locks.sem (x9,r8.1,())).bind fun r10=>bif !r10.1 then ((y7[a1.2.1.toNat]?).bind fun x11=>(y7[a1.2.1.toNat]?).bind fun x12=>(y7[a1.2.1.toNat]?).bind fun x13=>if x12.2.2.2.1.length+[r8.1].length<=CAP then (if a1.2.1.toNat=a1.2.1.toNat then ((y7.set a1.2.1.toNat x13)[a1.2.1.toNat]?).bind fun x14=>let y15:=(y7.set a1.2.1.toNat x13).set a1.2.1.toNat (x14.1,x14.2.1,x14.2.2.1,x12.2.2.2.1++[r8.1],x14.2.2.2.2);some (y15,()) else none) else none) else some (y7,()) else none) else none) else none
theorem raw_eq (k:Nat) (a1:Arg):@Eq (Option Out) (D.W k a1) (p a1):=by kernel_rfl
theorem ok:Ok prog 238 D.sig:=fd_ok func238 tlOk (by kernel_rfl) (fc spec_l10Copy.ok (fc spec_l10KeyOf.ok (fc spec_l10Locks.ok (fn_nil _))))
end spec_l10Note
namespace spec_l11Do
abbrev Arg:Type:=Plain×Op×ChangeResult×Unit
abbrev Out:Type:=PlainResult×Unit
abbrev ps:PQ:=[(.ro,tPlain),(.ro,(.ptr tOp)),(.ro,(.ptr tChangeResult))]
noncomputable def D:FD:={ fn:=f107,tl:=TL0,ps:=ps,rs:=[(tPlainResult,(.pair (roMd i64) (.pair (roMd i64) (.pair (.pair (roMd (.slc tRow)) (.pair (.slc true (roMd tTx)) (roMd (tupT [i64])))) (roMd .unit)))))],gl:=[(105,spec_l11Bad.D.sig),(232,spec_l11Copy.D.sig),(233,spec_l10At.D.sig),(234,spec_l11Undo.D.sig),(235,spec_l11Cut.D.sig),(236,spec_l11Gone.D.sig),(237,spec_l6Do.D.sig),(238,spec_l10Note.D.sig)],od:=[(3,[0,1,2,3,4,5,6,7,8,9]),(8,[0,1,2,3,4,5,6,7,8,9,10,11,12]),(13,[0,1,2,3,4,5,6,7,8,9,10,11,12,13,14,15,16,17,18,19,20,21,22,23,24,25,26]),(15,[0,1,2,3,4,5,6,7,8,9,10,11,12,13,14,15,16,17,18,19,20,21,22]),(19,[0,1,2,3,4,5,6,7,8,9,10,11,12,13,14,15,16,17,18,19]),(22,[0,1,2,3,4,5,6,7,8,9,10,11,12,13,14]),(23,[0,1,2,3,4,5,6,7,8,9,10,11,12,13])],er:=[(13,[(3,27)]),(15,[(4,22)])] }
noncomputable def sem (a:Arg):Option Out:=@lift Out fun k=>D.W k a
noncomputable def p (a1:Arg):Option Out:=(spec_l11Copy.sem (a1.1,())).bind fun r2=>(spec_l10At.sem (r2.1.2.1,a1.2.1.2.1,())).bind fun r3=>bif decide (a1.2.1.1=(1:Int)) then (bif decide ((100:Int)<=a1.1.2.2.1) then ((spec_l11Bad.sem ((9:Int),())).bind fun r4=>some (r4.1,())) else if r2.1.2.1.length+[(a1.1.2.2.1,([]:List Change),([]:List Int),([]:List Key),())].length<=CAP then (let y5:=r2.1.2.1++[(a1.1.2.2.1,([]:List Change),([]:List Int),([]:List Key),())];bif a1.2.2.1.2.1 then ((spec_l6Do.sem (r2.1.1,a1.2.2.1.2.2.1,())).bind fun r30=>(spec_l10Note.sem (y5,r3.1,a1.2.2.1.2.2.1,())).bind fun r31=>some (((0:Int),a1.1.2.2.1,(r30.1,r31.1,w64 (a1.1.2.2.1+(1:Int)),r2.1.2.2.2),()),())) else some (((0:Int),a1.1.2.2.1,(r2.1.1,y5,w64 (a1.1.2.2.1+(1:Int)),r2.1.2.2.2),()),())) else none) else bif decide (a1.2.1.1=(5:Int)) then (if 0<=r3.1/\r3.1 < (r2.1.2.1.length:Int) then ((r2.1.2.1[r3.1.toNat]?).bind fun x6=>(r2.1.2.1[r3.1.toNat]?).bind fun x7=>if 0<=r3.1/\r3.1 < (r2.1.2.1.length:Int) then ((r2.1.2.1[r3.1.toNat]?).bind fun x8=>if 0<=r3.1/\r3.1 < (r2.1.2.1.length:Int) then ((r2.1.2.1[r3.1.toNat]?).bind fun x9=>(r2.1.2.1[r3.1.toNat]?).bind fun x10=>(r2.1.2.1[r3.1.toNat]?).bind fun x11=>(r2.1.2.1[r3.1.toNat]?).bind fun x12=>if x11.2.2.1.length+[(x10.2.1.length:Int)].length<=CAP then (if 0<=r3.1/\r3.1 < ((r2.1.2.1.set r3.1.toNat x12).length:Int) then (if r3.1.toNat=r3.1.toNat then ((r2.1.2.1.set r3.1.toNat x12)[r3.1.toNat]?).bind fun x13=>let y14:=(r2.1.2.1.set r3.1.toNat x12).set r3.1.toNat (x13.1,x13.2.1,x11.2.2.1++[(x10.2.1.length:Int)],x13.2.2.2);bif a1.2.2.1.2.1 then ((spec_l6Do.sem (r2.1.1,a1.2.2.1.2.2.1,())).bind fun r32=>(spec_l10Note.sem (y14,r3.1,a1.2.2.1.2.2.1,())).bind fun r33=>some (((0:Int),(x7.2.2.1.length:Int),(r32.1,r33.1,r2.1.2.2),()),())) else some (((0:Int),(x7.2.2.1.length:Int),(r2.1.1,y14,r2.1.2.2),()),()) else none) else none) else none) else none) else none) else none) else bif decide (a1.2.1.1=(6:Int)) then (if 0<=r3.1/\r3.1 < (r2.1.2.1.length:Int) then ((r2.1.2.1[r3.1.toNat]?).bind fun x15=>(r2.1.2.1[r3.1.toNat]?).bind fun x16=>((r2.1.2.1.set r3.1.toNat x16)[r3.1.toNat]?).bind fun x17=>(spec_l11Cut.sem (x17,a1.2.1.2.2.2.1,())).bind fun r18=>((r2.1.2.1.set r3.1.toNat x16)[r3.1.toNat]?).bind fun x19=>let y20:=(r2.1.2.1.set r3.1.toNat x16).set r3.1.toNat r18.2.1;(spec_l11Undo.sem (r2.1.1,r18.1,())).bind fun r21=>bif a1.2.2.1.2.1 then ((spec_l6Do.sem (r21.1,a1.2.2.1.2.2.1,())).bind fun r34=>(spec_l10Note.sem (y20,r3.1,a1.2.2.1.2.2.1,())).bind fun r35=>some (((0:Int),(0:Int),(r34.1,r35.1,r2.1.2.2),()),())) else some (((0:Int),(0:Int),(r21.1,y20,r2.1.2.2),()),())) else none) else bif decide (a1.2.1.1=(7:Int)) then ((spec_l11Gone.sem (r2.1.2.1,r3.1,())).bind fun r22=>bif a1.2.2.1.2.1 then ((spec_l6Do.sem (r2.1.1,a1.2.2.1.2.2.1,())).bind fun r36=>(spec_l10Note.sem (r22.1,r3.1,a1.2.2.1.2.2.1,())).bind fun r37=>some (((0:Int),(0:Int),(r36.1,r37.1,r2.1.2.2),()),())) else some (((0:Int),(0:Int),(r2.1.1,r22.1,r2.1.2.2),()),())) else bif decide (a1.2.1.1=(8:Int)) then (if 0<=r3.1/\r3.1 < (r2.1.2.1.length:Int) then ((r2.1.2.1[r3.1.toNat]?).bind fun x23=>(r2.1.2.1[r3.1.toNat]?).bind fun x24=>((r2.1.2.1.set r3.1.toNat x24)[r3.1.toNat]?).bind fun x25=>(spec_l11Undo.sem (r2.1.1,x25.2.1,())).bind fun r26=>(spec_l11Gone.sem (r2.1.2.1.set r3.1.toNat x24,r3.1,())).bind fun r27=>bif a1.2.2.1.2.1 then ((spec_l6Do.sem (r26.1,a1.2.2.1.2.2.1,())).bind fun r38=>(spec_l10Note.sem (r27.1,r3.1,a1.2.2.1.2.2.1,())).bind fun r39=>some (((0:Int),(0:Int),(r38.1,r39.1,r2.1.2.2),()),())) else some (((0:Int),(0:Int),(r26.1,r27.1,r2.1.2.2),()),())) else none) else bif a1.2.2.1.2.1 then ((spec_l6Do.sem (r2.1.1,a1.2.2.1.2.2.1,())).bind fun r40=>(spec_l10Note.sem (r2.1.2.1,r3.1,a1.2.2.1.2.2.1,())).bind fun r41=>some (((0:Int),(0:Int),(r40.1,r41.1,r2.1.2.2),()),())) else some (((0:Int),(0:Int),r2.1,()),())
theorem raw_eq (k:Nat) (a1:Arg):@Eq (Option Out) (D.W k a1) (p a1):=by kernel_rfl
theorem ok:Ok prog 107 D.sig:=fd_ok func107 tlOk (by kernel_rfl) (fc spec_l11Bad.ok (fc spec_l11Copy.ok (fc spec_l10At.ok (fc spec_l11Undo.ok (fc spec_l11Cut.ok (fc spec_l11Gone.ok (fc spec_l6Do.ok (fc spec_l10Note.ok (fn_nil _)))))))))
end spec_l11Do
namespace spec_DoPlain
abbrev Arg:Type:=Plain×Op×Unit
abbrev Out:Type:=PlainResult×Unit
abbrev ps:PQ:=[(.ro,tPlain),(.ro,tOp)]
noncomputable def D:FD:={ fn:=f17,tl:=TL0,ps:=ps,rs:=[(tPlainResult,(.pair (roMd i64) (.pair (roMd i64) (.pair (.pair (roMd (.slc tRow)) (.pair (.slc true (roMd tTx)) (roMd (tupT [i64])))) (roMd .unit)))))],gl:=[(104,spec_l11Fault.D.sig),(105,spec_l11Bad.D.sig),(106,spec_CheckOp.D.sig),(107,spec_l11Do.D.sig)] }
noncomputable def sem (a:Arg):Option Out:=@lift Out fun k=>D.W k a
noncomputable def p (a1:Arg):Option Out:=(spec_l11Fault.sem (a1.1,())).bind fun r2=>bif !decide (r2.1=(0:Int)) then ((spec_l11Bad.sem (r2.1,())).bind fun r3=>some (r3.1,())) else (spec_CheckOp.sem (a1.1.1,a1.1.2.1,a1.2.1,())).bind fun r4=>bif !decide (r4.1.1=(0:Int)) then ((spec_l11Bad.sem (r4.1.1,())).bind fun r5=>some (r5.1,())) else (spec_l11Do.sem (a1.1,a1.2.1,r4.1,())).bind fun r6=>some (r6.1,())
theorem raw_eq (k:Nat) (a1:Arg):@Eq (Option Out) (D.W k a1) (p a1):=by kernel_rfl
theorem ok:Ok prog 17 D.sig:=fd_ok func17 tlOk (by kernel_rfl) (fc spec_l11Fault.ok (fc spec_l11Bad.ok (fc spec_CheckOp.ok (fc spec_l11Do.ok (fn_nil _)))))
end spec_DoPlain
namespace laws_toRow
abbrev Arg:Type:=Row×Unit
abbrev Out:Type:=Row×Unit
abbrev ps:PQ:=[(.ro,tRow)]
noncomputable def D:FD:={ fn:=f110,tl:=TL0,ps:=ps,rs:=[(tRow,(roMd tRow))] }
noncomputable def sem (a:Arg):Option Out:=@lift Out fun k=>D.W k a
noncomputable def p (a1:Arg):Option Out:=some ((a1.1.1,a1.1.2.1,a1.1.2.2.1,a1.1.2.2.2.1,()),())
theorem raw_eq (k:Nat) (a1:Arg):@Eq (Option Out) (D.W k a1) (p a1):=by kernel_rfl
theorem ok:Ok prog 110 D.sig:=fd_ok func110 tlOk (by kernel_rfl) (fn_nil _)
end laws_toRow
namespace laws_toOp
abbrev Arg:Type:=Op×Unit
abbrev Out:Type:=Op×Unit
abbrev ps:PQ:=[(.ro,tOp)]
noncomputable def D:FD:={ fn:=f19,tl:=TL0,ps:=ps,rs:=[(tOp,(roMd tOp))],gl:=[(110,laws_toRow.D.sig)] }
noncomputable def sem (a:Arg):Option Out:=@lift Out fun k=>D.W k a
noncomputable def p (a1:Arg):Option Out:=(laws_toRow.sem (a1.1.2.2.1,())).bind fun r2=>some ((a1.1.1,a1.1.2.1,r2.1,a1.1.2.2.2.1,()),())
theorem raw_eq (k:Nat) (a1:Arg):@Eq (Option Out) (D.W k a1) (p a1):=by kernel_rfl
theorem ok:Ok prog 19 D.sig:=fd_ok func19 tlOk (by kernel_rfl) (fc laws_toRow.ok (fn_nil _))
end laws_toOp
namespace slices_Clone_Row
abbrev Arg:Type:=(List Row)×Unit
abbrev Out:Type:=(List Row)×Unit
abbrev ps:PQ:=[(.ro,(.slc tRow))]
noncomputable def D:FD:={ fn:=f243,tl:=TL0,ps:=ps,rs:=[((.slc tRow),(ownMd (.slc tRow)))] }
noncomputable def sem (a:Arg):Option Out:=@lift Out fun k=>D.W k a
noncomputable def p (a1:Arg):Option Out:=nilB a1.1 (some (([]:List Row),())) (if ([]:List Row).length+a1.1.length<=CAP then (some (([]:List Row)++a1.1,())) else none)
theorem raw_eq (k:Nat) (a1:Arg):@Eq (Option Out) (D.W k a1) (p a1):=by kernel_rfl
theorem ok:Ok prog 243 D.sig:=fd_ok func243 tlOk (by kernel_rfl) (fn_nil _)
end slices_Clone_Row
namespace impl_IsBefore
abbrev Arg:Type:=Row×Row×Unit
abbrev Out:Type:=Bool×Unit
abbrev ps:PQ:=[(.ro,tRow),(.ro,tRow)]
noncomputable def D:FD:={ fn:=f326,tl:=TL0,ps:=ps,rs:=[(.bool,(roMd .bool))] }
noncomputable def sem (a:Arg):Option Out:=@lift Out fun k=>D.W k a
noncomputable def p (a1:Arg):Option Out:=bif decide (a1.1.1 < a1.2.1.1) then (some (true,())) else bif decide (a1.1.1=a1.2.1.1) then (some (decide (a1.1.2.1 < a1.2.1.2.1),())) else some (false,())
theorem raw_eq (k:Nat) (a1:Arg):@Eq (Option Out) (D.W k a1) (p a1):=by kernel_rfl
theorem ok:Ok prog 326 D.sig:=fd_ok func326 tlOk (by kernel_rfl) (fn_nil _)
end impl_IsBefore
namespace impl_order
abbrev Arg:Type:=Row×Row×Unit
abbrev Out:Type:=Int×Unit
abbrev ps:PQ:=[(.ro,tRow),(.ro,tRow)]
noncomputable def D:FD:={ fn:=f312,tl:=TL0,ps:=ps,rs:=[(i64,(roMd i64))],gl:=[(326,impl_IsBefore.D.sig)] }
noncomputable def sem (a:Arg):Option Out:=@lift Out fun k=>D.W k a
noncomputable def p (a1:Arg):Option Out:=(impl_IsBefore.sem (a1.1,a1.2.1,())).bind fun r2=>bif r2.1 then (some ((-1:Int),())) else (impl_IsBefore.sem (a1.2.1,a1.1,())).bind fun r3=>bif r3.1 then (some ((1:Int),())) else some ((0:Int),())
theorem raw_eq (k:Nat) (a1:Arg):@Eq (Option Out) (D.W k a1) (p a1):=by kernel_rfl
theorem ok:Ok prog 312 D.sig:=fd_ok func312 tlOk (by kernel_rfl) (fc impl_IsBefore.ok (fn_nil _))
end impl_order
namespace impl_in
abbrev Arg:Type:=Int×Int×Int×Unit
abbrev Out:Type:=Bool×Unit
abbrev ps:PQ:=[(.ro,i64),(.ro,i64),(.ro,i64)]
noncomputable def D:FD:={ fn:=f214,tl:=TL0,ps:=ps,rs:=[(.bool,(roMd .bool))] }
noncomputable def sem (a:Arg):Option Out:=@lift Out fun k=>D.W k a
noncomputable def p (a1:Arg):Option Out:=bif decide (a1.2.1<=a1.1) then (some (decide (a1.1<=a1.2.2.1),())) else some (false,())
theorem raw_eq (k:Nat) (a1:Arg):@Eq (Option Out) (D.W k a1) (p a1):=by kernel_rfl
theorem ok:Ok prog 214 D.sig:=fd_ok func214 tlOk (by kernel_rfl) (fn_nil _)
end impl_in
namespace impl_RowFault
abbrev Arg:Type:=Row×Unit
abbrev Out:Type:=Int×Unit
abbrev ps:PQ:=[(.ro,tRow)]
noncomputable def D:FD:={ fn:=f313,tl:=TL0,ps:=ps,rs:=[(i64,(roMd i64))],gl:=[(214,impl_in.D.sig)],lv:=[(6,[1,26,27])],lx:=[(0,[])] }
noncomputable def sem (a:Arg):Option Out:=@lift Out fun k=>D.W k a
noncomputable def T0 (a1:Arg) (v405:Int):St:={ n:=43,sl:=[(1,.box tRow (roMd tRow) [] a1.1),(26,.val i64 (a1.1.2.2.2.1.length:Int)),(27,.val i64 v405)],vr:=[],lent:=[] }
noncomputable def b0 (self:Int->Option Out) (e0:(Unit)->Option Out) (a1:Arg) (v405:Int):Option Out:=bif decide (v405 < (a1.1.2.2.2.1.length:Int)) then (if 0<=v405 then ((a1.1.2.2.2.1[v405.toNat]?).bind fun x606=>bif decide ((x606.toNat:Int) < (97:Int)) then (some ((5:Int),())) else if 0<=v405 then ((a1.1.2.2.2.1[v405.toNat]?).bind fun x607=>bif decide ((122:Int) < (x607.toNat:Int)) then (some ((5:Int),())) else self (w64 (v405+(1:Int)))) else none) else none) else e0 ()
noncomputable abbrev B0 (_:Nat):=b0
noncomputable def q0 (a1:Arg) (z608:(Unit)):Option Out:=some ((0:Int),())
noncomputable abbrev Q0 (_:Nat):=q0
noncomputable def s0 (k:Nat) (a1:Arg):(Int)->Option Out:=fun v405=>D.L k [1,1,1,0,1,0,0] [1,26,27] [] (blockC 0 (seqC (D.N k [1,1,1,1]) D.K0)) (T0 a1 v405)
noncomputable def r0 (k:Nat) (a1:Arg):(Int)->Option Out:=rawIter (fun w v=>B0 k w (Q0 k a1) a1 v) k
theorem s0_eq (k:Nat) (a1:Arg):s0 k a1=r0 k a1:=
 funext fun v405=>iter_raw _ _ _ (T0 a1) _ (fun rec v=>by kernel_rfl) k v405
noncomputable def p (l0:(Int)->Option Out) (a1:Arg):Option Out:=(impl_in.sem (a1.1.1,(0:Int),(3:Int),())).bind fun r2=>bif !r2.1 then (some ((3:Int),())) else (impl_in.sem (a1.1.2.1,(1:Int),(99:Int),())).bind fun r3=>bif !r3.1 then (some ((3:Int),())) else (impl_in.sem (a1.1.2.2.1,(0:Int),(999:Int),())).bind fun r4=>bif !r4.1 then (some ((3:Int),())) else bif decide ((8:Int) < (a1.1.2.2.2.1.length:Int)) then (some ((5:Int),())) else l0 (0:Int)
theorem raw_eq (k:Nat) (a1:Arg):@Eq (Option Out) (D.W k a1) (p (r0 k a1) a1):=
 Eq.trans (b:=p (s0 k a1) a1) (by kernel_rfl) (by rw[s0_eq])
theorem ok:Ok prog 313 D.sig:=fd_ok func313 tlOk (by kernel_rfl) (fc impl_in.ok (fn_nil _))
end impl_RowFault
namespace impl_changeFault
abbrev Arg:Type:=Change×Unit
abbrev Out:Type:=Int×Unit
abbrev ps:PQ:=[(.ro,tChange)]
noncomputable def D:FD:={ fn:=f193,tl:=TL0,ps:=ps,rs:=[(i64,(roMd i64))],gl:=[(312,impl_order.D.sig),(313,impl_RowFault.D.sig)] }
noncomputable def sem (a:Arg):Option Out:=@lift Out fun k=>D.W k a
noncomputable def p (a1:Arg):Option Out:=let j7:Option Out:=bif a1.1.1 then ((impl_RowFault.sem (a1.1.2.1,())).bind fun r8=>bif !decide (r8.1=(0:Int)) then (some (r8.1,())) else bif a1.1.2.2.1 then ((impl_RowFault.sem (a1.1.2.2.2.1,())).bind fun r10=>some (r10.1,())) else some ((0:Int),())) else bif a1.1.2.2.1 then ((impl_RowFault.sem (a1.1.2.2.2.1,())).bind fun r11=>some (r11.1,())) else some ((0:Int),());bif !a1.1.1 then (bif !a1.1.2.2.1 then (some ((1:Int),())) else bif a1.1.1 then (bif a1.1.2.2.1 then ((impl_order.sem (a1.1.2.1,a1.1.2.2.2.1,())).bind fun r2=>bif !decide (r2.1=(0:Int)) then (some ((1:Int),())) else j7) else j7) else j7) else bif a1.1.1 then (bif a1.1.2.2.1 then ((impl_order.sem (a1.1.2.1,a1.1.2.2.2.1,())).bind fun r3=>bif !decide (r3.1=(0:Int)) then (some ((1:Int),())) else j7) else j7) else j7
theorem raw_eq (k:Nat) (a1:Arg):@Eq (Option Out) (D.W k a1) (p a1):=by kernel_rfl
theorem ok:Ok prog 193 D.sig:=fd_ok func193 tlOk (by kernel_rfl) (fc impl_order.ok (fc impl_RowFault.ok (fn_nil _)))
end impl_changeFault
namespace impl_Change_key
abbrev Arg:Type:=Change×Unit
abbrev Out:Type:=Row×Unit
abbrev ps:PQ:=[(.ro,tChange)]
noncomputable def D:FD:={ fn:=f198,tl:=TL0,ps:=ps,rs:=[(tRow,(roMd tRow))] }
noncomputable def sem (a:Arg):Option Out:=@lift Out fun k=>D.W k a
noncomputable def p (a1:Arg):Option Out:=bif a1.1.2.2.1 then (some (a1.1.2.2.2.1,())) else some (a1.1.2.1,())
theorem raw_eq (k:Nat) (a1:Arg):@Eq (Option Out) (D.W k a1) (p a1):=by kernel_rfl
theorem ok:Ok prog 198 D.sig:=fd_ok func198 tlOk (by kernel_rfl) (fn_nil _)
end impl_Change_key
namespace slices_BinarySearchFunc_Row
abbrev Arg:Type:=(List Row)×Row×(Nat×Int)×Unit
abbrev Out:Type:=Int×Bool×Unit
abbrev ps:PQ:=[(.ro,(.slc tRow)),(.ro,tRow),(.fix 312,.fn)]
noncomputable def D:FD:={ fn:=f314,tl:=TL0,ps:=ps,rs:=[(i64,(roMd i64)),(.bool,(roMd .bool))],gl:=[(312,impl_order.D.sig)],lv:=[(3,[0,2,4,8,9,10])],lx:=[(0,[0,2,4,8,9])],od:=[(5,[0,1,2,3,4,5,6,7]),(8,[0,1,2,3,4,5,6,7,8,9,10,11,12,13,14,15])] }
noncomputable def sem (a:Arg):Option Out:=@lift Out fun k=>D.W k a
noncomputable def T0 (a1:Arg) (v402:Int×Int):St:={ n:=49,sl:=[(0,.val (.slc tRow) a1.1),(2,.val .fn ((312,a1.2.2.1.2):Nat×Int)),(4,.box tRow (roMd tRow) [] a1.2.1),(8,.val i64 (a1.1.length:Int)),(9,.val i64 v402.1),(10,.val i64 v402.2)],vr:=[],lent:=[] }
noncomputable def b0 (self:(Int×Int)->Option Out) (e0:Int->Option Out) (a1:Arg) (v402:Int×Int):Option Out:=bif decide (v402.1 < v402.2) then (if 0<=w64 ((IntKind.wrap .u64 (w64 (v402.1+v402.2))).fdiv (2 ^ 1)) then ((a1.1[(w64 ((IntKind.wrap .u64 (w64 (v402.1+v402.2))).fdiv (2 ^ 1))).toNat]?).bind fun x603=>(impl_order.sem (x603,a1.2.1,())).bind fun r604=>bif decide (r604.1 < (0:Int)) then (self (w64 ((w64 ((IntKind.wrap .u64 (w64 (v402.1+v402.2))).fdiv (2 ^ 1)))+(1:Int)),v402.2)) else self (v402.1,w64 ((IntKind.wrap .u64 (w64 (v402.1+v402.2))).fdiv (2 ^ 1)))) else none) else e0 v402.1
noncomputable abbrev B0 (_:Nat):=b0
noncomputable def q0 (a1:Arg) (z605:Int):Option Out:=bif decide (z605 < (a1.1.length:Int)) then (if 0<=z605 then ((a1.1[z605.toNat]?).bind fun x606=>(impl_order.sem (x606,a1.2.1,())).bind fun r607=>some (z605,decide (r607.1=(0:Int)),())) else none) else some (z605,false,())
noncomputable abbrev Q0 (_:Nat):=q0
noncomputable def s0 (k:Nat) (a1:Arg):(Int×Int)->Option Out:=fun v402=>D.L k [1,1,1,0,0,0] [0,2,4,8,9,10] [] (blockC 0 (seqC (D.N k [1,1,1,1]) D.K0)) (T0 a1 v402)
noncomputable def r0 (k:Nat) (a1:Arg):(Int×Int)->Option Out:=rawIter (fun w v=>B0 k w (Q0 k a1) a1 v) k
theorem s0_eq (k:Nat) (a1:Arg):s0 k a1=r0 k a1:=
 funext fun v402=>iter_raw _ _ _ (T0 a1) _ (fun rec v=>by kernel_rfl) k v402
noncomputable def p (l0:(Int×Int)->Option Out) (a1:Arg):Option Out:=l0 ((0:Int),(a1.1.length:Int))
theorem raw_eq (k:Nat) (a1:Arg):@Eq (Option Out) (D.W k a1) (p (r0 k a1) a1):=
 Eq.trans (b:=p (s0 k a1) a1) (by kernel_rfl) (by rw[s0_eq])
theorem ok:Ok prog 314 D.sig:=fd_ok func314 tlOk (by kernel_rfl) (fc impl_order.ok (fn_nil _))
end slices_BinarySearchFunc_Row
namespace impl_Change_fitsTo
abbrev Arg:Type:=Change×(List Row)×Unit
abbrev Out:Type:=Bool×Unit
abbrev ps:PQ:=[(.ro,tChange),(.ro,(.slc tRow))]
noncomputable def D:FD:={ fn:=f194,tl:=TL0,ps:=ps,rs:=[(.bool,(roMd .bool))],gl:=[(198,impl_Change_key.D.sig),(314,slices_BinarySearchFunc_Row.D.sig)],od:=[(2,[0,1,2,3,4,5,6,7,8,9,10,11,12,13,14,15,16,17])] }
noncomputable def sem (a:Arg):Option Out:=@lift Out fun k=>D.W k a
noncomputable def p (a1:Arg):Option Out:=(impl_Change_key.sem (a1.1,())).bind fun r2=>(slices_BinarySearchFunc_Row.sem (a1.2.1,r2.1,((312,0):Nat×Int),())).bind fun r3=>bif (r3.2.1 == a1.1.1) then (bif !r3.2.1 then (some (true,())) else if 0<=r3.1 then ((a1.2.1[r3.1.toNat]?).bind fun x4=>some ((Ty.eq tRow x4 a1.1.2.1),())) else none) else some (false,())
theorem raw_eq (k:Nat) (a1:Arg):@Eq (Option Out) (D.W k a1) (p a1):=by kernel_rfl
theorem ok:Ok prog 194 D.sig:=fd_ok func194 tlOk (by kernel_rfl) (fc impl_Change_key.ok (fc slices_BinarySearchFunc_Row.ok (fn_nil _)))
end impl_Change_fitsTo
namespace impl_RowsFault
abbrev Arg:Type:=(List Row)×Unit
abbrev Out:Type:=Int×Unit
abbrev ps:PQ:=[(.ro,(.slc tRow))]
noncomputable def D:FD:={ fn:=f207,tl:=TL0,ps:=ps,rs:=[(i64,(roMd i64))],gl:=[(313,impl_RowFault.D.sig),(326,impl_IsBefore.D.sig)],lv:=[(4,[0,9,10,11])],lx:=[(0,[])],od:=[(9,[0,1,2,3,4,5,6,7,8,9,10,11])] }
noncomputable def sem (a:Arg):Option Out:=@lift Out fun k=>D.W k a
noncomputable def T0 (a1:Arg) (v402:Int):St:={ n:=34,sl:=[(0,.val (.slc tRow) a1.1),(9,.val (.slc tRow) a1.1),(10,.val i64 (a1.1.length:Int)),(11,.val i64 v402)],vr:=[],lent:=[] }
noncomputable def b0 (self:Int->Option Out) (e0:(Unit)->Option Out) (a1:Arg) (v402:Int):Option Out:=bif decide (v402 < (a1.1.length:Int)) then (if 0<=v402 then ((a1.1[v402.toNat]?).bind fun x603=>(impl_RowFault.sem (x603,())).bind fun r604=>bif !decide (r604.1=(0:Int)) then (some (r604.1,())) else bif decide ((0:Int) < v402) then (if 0<=w64 (v402 - (1:Int)) then ((a1.1[(w64 (v402 - (1:Int))).toNat]?).bind fun x605=>(impl_IsBefore.sem (x605,x603,())).bind fun r606=>bif !r606.1 then (some ((1:Int),())) else self (w64 (v402+(1:Int)))) else none) else self (w64 (v402+(1:Int)))) else none) else e0 ()
noncomputable abbrev B0 (_:Nat):=b0
noncomputable def q0 (a1:Arg) (z607:(Unit)):Option Out:=some ((0:Int),())
noncomputable abbrev Q0 (_:Nat):=q0
noncomputable def s0 (k:Nat) (a1:Arg):(Int)->Option Out:=fun v402=>D.L k [1,1,0,1,0,0] [0,9,10,11] [] (blockC 0 (seqC (D.N k [1,1,1]) D.K0)) (T0 a1 v402)
noncomputable def r0 (k:Nat) (a1:Arg):(Int)->Option Out:=rawIter (fun w v=>B0 k w (Q0 k a1) a1 v) k
theorem s0_eq (k:Nat) (a1:Arg):s0 k a1=r0 k a1:=
 funext fun v402=>iter_raw _ _ _ (T0 a1) _ (fun rec v=>by kernel_rfl) k v402
noncomputable def p (l0:(Int)->Option Out) (a1:Arg):Option Out:=bif decide ((60:Int) < (a1.1.length:Int)) then (some ((2:Int),())) else l0 (0:Int)
theorem raw_eq (k:Nat) (a1:Arg):@Eq (Option Out) (D.W k a1) (p (r0 k a1) a1):=
 Eq.trans (b:=p (s0 k a1) a1) (by kernel_rfl) (by rw[s0_eq])
theorem ok:Ok prog 207 D.sig:=fd_ok func207 tlOk (by kernel_rfl) (fc impl_RowFault.ok (fc impl_IsBefore.ok (fn_nil _)))
end impl_RowsFault
namespace impl_changed
abbrev Arg:Type:=(List Row)×Change×Unit
abbrev Out:Type:=(List Row)×Unit
abbrev ps:PQ:=[(.ro,(.slc tRow)),(.ro,tChange)]
noncomputable def D:FD:={ fn:=f356,tl:=TL0,ps:=ps,rs:=[((.slc tRow),(ownMd (.slc tRow)))],gl:=[(198,impl_Change_key.D.sig),(314,slices_BinarySearchFunc_Row.D.sig)] }
noncomputable def sem (a:Arg):Option Out:=@lift Out fun k=>D.W k a
noncomputable def p (a1:Arg):Option Out:=(impl_Change_key.sem (a1.2.1,())).bind fun r2=>(slices_BinarySearchFunc_Row.sem (a1.1,r2.1,((312,0):Nat×Int),())).bind fun r3=>if 0<=r3.1/\r3.1<=(a1.1.length:Int) then (if ([]:List Row).length+((a1.1.take r3.1.toNat).drop 0).length<=CAP then (let y4:=([]:List Row)++((a1.1.take r3.1.toNat).drop 0);let j8:=fun (p7:List Row)=>(let j11:=fun (p10:Int)=>(if 0<=p10/\p10<=(a1.1.length:Int) then (if p7.length+((a1.1.take a1.1.length).drop p10.toNat).length<=CAP then (let y12:=p7++((a1.1.take a1.1.length).drop p10.toNat);some (y12,())) else none) else none:Option Out);bif r3.2.1 then (j11 (w64 (r3.1+(1:Int)))) else j11 r3.1:Option Out);bif a1.2.1.2.2.1 then (if y4.length+[a1.2.1.2.2.2.1].length<=CAP then (j8 (y4++[a1.2.1.2.2.2.1])) else none) else j8 y4) else none) else none
theorem raw_eq (k:Nat) (a1:Arg):@Eq (Option Out) (D.W k a1) (p a1):=by kernel_rfl
theorem ok:Ok prog 356 D.sig:=fd_ok func356 tlOk (by kernel_rfl) (fc impl_Change_key.ok (fc slices_BinarySearchFunc_Row.ok (fn_nil _)))
end impl_changed
namespace impl_ApplyChanges
abbrev Arg:Type:=(List Row)×(List Change)×Unit
abbrev Out:Type:=RowsResult×Unit
abbrev ps:PQ:=[(.ro,(.slc tRow)),(.ro,(.slc tChange))]
noncomputable def D:FD:={ fn:=f245,tl:=TL0,ps:=ps,rs:=[(tRowsResult,(ownMd tRowsResult))],gl:=[(193,impl_changeFault.D.sig),(194,impl_Change_fitsTo.D.sig),(207,impl_RowsFault.D.sig),(243,slices_Clone_Row.D.sig),(356,impl_changed.D.sig)],lv:=[(6,[4,6,18,19,20])],lx:=[(0,[4,6])] }
noncomputable def sem (a:Arg):Option Out:=@lift Out fun k=>D.W k a
noncomputable def T0 (a1:Arg) (v404:(List Row)×Int):St:={ n:=45,sl:=[(4,.box tRowsResult (ownMd tRowsResult) [] ((0:Int),([]:List Row),())),(6,.own (.slc tRow) (ownMd (.slc tRow)) [] v404.1),(18,.val (.slc tChange) a1.2.1),(19,.val i64 (a1.2.1.length:Int)),(20,.val i64 v404.2)],vr:=[],lent:=[] }
noncomputable def b0 (self:((List Row)×Int)->Option Out) (e0:(List Row)->Option Out) (a1:Arg) (v404:(List Row)×Int):Option Out:=bif decide (v404.2 < (a1.2.1.length:Int)) then (if 0<=v404.2 then ((a1.2.1[v404.2.toNat]?).bind fun x605=>(impl_changeFault.sem (x605,())).bind fun r606=>bif !decide (r606.1=(0:Int)) then (some ((r606.1,([]:List Row),()),())) else (impl_Change_fitsTo.sem (x605,v404.1,())).bind fun r607=>bif !r607.1 then (some (((8:Int),([]:List Row),()),())) else (impl_changed.sem (v404.1,x605,())).bind fun r608=>self (r608.1,w64 (v404.2+(1:Int)))) else none) else e0 v404.1
noncomputable abbrev B0 (_:Nat):=b0
noncomputable def q0 (a1:Arg) (z609:(List Row)):Option Out:=bif decide ((60:Int) < (z609.length:Int)) then (some (((2:Int),([]:List Row),()),())) else some (((0:Int),z609,()),())
noncomputable abbrev Q0 (_:Nat):=q0
noncomputable def s0 (k:Nat) (a1:Arg):((List Row)×Int)->Option Out:=fun v404=>D.L k [1,1,1,0,1,0,0] [4,6,18,19,20] [] (blockC 0 (seqC (D.N k [1,1,1,1]) D.K0)) (T0 a1 v404)
noncomputable def r0 (k:Nat) (a1:Arg):((List Row)×Int)->Option Out:=rawIter (fun w v=>B0 k w (Q0 k a1) a1 v) k
theorem s0_eq (k:Nat) (a1:Arg):s0 k a1=r0 k a1:=
 funext fun v404=>iter_raw _ _ _ (T0 a1) _ (fun rec v=>by kernel_rfl) k v404
noncomputable def p (l0:((List Row)×Int)->Option Out) (a1:Arg):Option Out:=(impl_RowsFault.sem (a1.1,())).bind fun r2=>bif !decide (r2.1=(0:Int)) then (some ((r2.1,([]:List Row),()),())) else (slices_Clone_Row.sem (a1.1,())).bind fun r3=>l0 (r3.1,(0:Int))
theorem raw_eq (k:Nat) (a1:Arg):@Eq (Option Out) (D.W k a1) (p (r0 k a1) a1):=
 Eq.trans (b:=p (s0 k a1) a1) (by kernel_rfl) (by rw[s0_eq])
theorem ok:Ok prog 245 D.sig:=fd_ok func245 tlOk (by kernel_rfl) (fc impl_changeFault.ok (fc impl_Change_fitsTo.ok (fc impl_RowsFault.ok (fc slices_Clone_Row.ok (fc impl_changed.ok (fn_nil _))))))
end impl_ApplyChanges
namespace impl_inverse
abbrev Arg:Type:=(List Change)×Unit
abbrev Out:Type:=(List Change)×Unit
abbrev ps:PQ:=[(.ro,(.slc tChange))]
noncomputable def D:FD:={ fn:=f251,tl:=TL0,ps:=ps,rs:=[((.slc tChange),(ownMd (.slc tChange)))],lv:=[(3,[0,3,4])],lx:=[(0,[3])] }
noncomputable def sem (a:Arg):Option Out:=@lift Out fun k=>D.W k a
noncomputable def T0 (a1:Arg) (v402:(List Change)×Int):St:={ n:=30,sl:=[(0,.val (.slc tChange) a1.1),(3,.own (.slc tChange) (ownMd (.slc tChange)) [] v402.1),(4,.val i64 v402.2)],vr:=[],lent:=[] }
noncomputable def b0 (self:((List Change)×Int)->Option Out) (e0:(List Change)->Option Out) (a1:Arg) (v402:(List Change)×Int):Option Out:=bif decide ((0:Int)<=v402.2) then (if 0<=v402.2 then ((a1.1[v402.2.toNat]?).bind fun x603=>if v402.1.length+[(x603.2.2.1,x603.2.2.2.1,x603.1,x603.2.1,())].length<=CAP then (let y604:=v402.1++[(x603.2.2.1,x603.2.2.2.1,x603.1,x603.2.1,())];self (y604,w64 (v402.2 - (1:Int)))) else none) else none) else e0 v402.1
noncomputable abbrev B0 (_:Nat):=b0
noncomputable def q0 (a1:Arg) (z605:(List Change)):Option Out:=some (z605,())
noncomputable abbrev Q0 (_:Nat):=q0
noncomputable def s0 (k:Nat) (a1:Arg):((List Change)×Int)->Option Out:=fun v402=>D.L k [1,1,0,1,0,0] [0,3,4] [] (blockC 0 (seqC (D.N k [1,1,1]) D.K0)) (T0 a1 v402)
noncomputable def r0 (k:Nat) (a1:Arg):((List Change)×Int)->Option Out:=rawIter (fun w v=>B0 k w (Q0 k a1) a1 v) k
theorem s0_eq (k:Nat) (a1:Arg):s0 k a1=r0 k a1:=
 funext fun v402=>iter_raw _ _ _ (T0 a1) _ (fun rec v=>by kernel_rfl) k v402
noncomputable def p (l0:((List Change)×Int)->Option Out) (a1:Arg):Option Out:=l0 (([]:List Change),w64 ((a1.1.length:Int) - (1:Int)))
theorem raw_eq (k:Nat) (a1:Arg):@Eq (Option Out) (D.W k a1) (p (r0 k a1) a1):=
 Eq.trans (b:=p (s0 k a1) a1) (by kernel_rfl) (by rw[s0_eq])
theorem ok:Ok prog 251 D.sig:=fd_ok func251 tlOk (by kernel_rfl) (fn_nil _)
end impl_inverse
namespace impl_committed
abbrev Arg:Type:=(List Row)×(List Tx)×Unit
abbrev Out:Type:=(List Row)×Int×Unit
abbrev ps:PQ:=[(.ro,(.slc tRow)),(.ro,(.slc tTx))]
noncomputable def D:FD:={ fn:=f181,tl:=TL0,ps:=ps,rs:=[((.slc tRow),(ownMd (.slc tRow))),(i64,(roMd i64))],gl:=[(243,slices_Clone_Row.D.sig),(245,impl_ApplyChanges.D.sig),(251,impl_inverse.D.sig)],lv:=[(2,[0,9,10,11])],lx:=[(0,[0])],lf:=[(2,[(0,(.slc false (.pair .leaf (.pair .leaf (.pair .leaf (.pair .leaf .leaf))))))])],od:=[(6,[0,1,2,3])] }
noncomputable def sem (a:Arg):Option Out:=@lift Out fun k=>D.W k a
noncomputable def T0 (a1:Arg) (v402:(List Row)×Int):St:={ n:=30,sl:=[(0,.val (.slc tRow) v402.1),(9,.val (.slc tTx) a1.2.1),(10,.val i64 (a1.2.1.length:Int)),(11,.val i64 v402.2)],vr:=[],lent:=[] }
noncomputable def b0 (self:((List Row)×Int)->Option Out) (e0:(List Row)->Option Out) (a1:Arg) (v402:(List Row)×Int):Option Out:=bif decide (v402.2 < (a1.2.1.length:Int)) then (if 0<=v402.2 then ((a1.2.1[v402.2.toNat]?).bind fun x603=>(impl_inverse.sem (x603.2.1,())).bind fun r604=>(impl_ApplyChanges.sem (v402.1,r604.1,())).bind fun r605=>bif !decide (r605.1.1=(0:Int)) then (some (([]:List Row),r605.1.1,())) else self (r605.1.2.1,w64 (v402.2+(1:Int)))) else none) else e0 v402.1
noncomputable abbrev B0 (_:Nat):=b0
noncomputable def q0 (a1:Arg) (z606:(List Row)):Option Out:=(slices_Clone_Row.sem (z606,())).bind fun r607=>some (r607.1,(0:Int),())
noncomputable abbrev Q0 (_:Nat):=q0
noncomputable def s0 (k:Nat) (a1:Arg):((List Row)×Int)->Option Out:=fun v402=>D.L k [1,0,1,0,0] [0,9,10,11] [(0,(.slc false (.pair .leaf (.pair .leaf (.pair .leaf (.pair .leaf .leaf))))))] (blockC 0 (seqC (D.N k [1,1]) D.K0)) (T0 a1 v402)
noncomputable def r0 (k:Nat) (a1:Arg):((List Row)×Int)->Option Out:=rawIter (fun w v=>B0 k w (Q0 k a1) a1 v) k
theorem s0_eq (k:Nat) (a1:Arg):s0 k a1=r0 k a1:=
 funext fun v402=>iter_raw _ _ _ (T0 a1) _ (fun rec v=>by kernel_rfl) k v402
noncomputable def p (l0:((List Row)×Int)->Option Out) (a1:Arg):Option Out:=l0 (a1.1,(0:Int))
theorem raw_eq (k:Nat) (a1:Arg):@Eq (Option Out) (D.W k a1) (p (r0 k a1) a1):=
 Eq.trans (b:=p (s0 k a1) a1) (by kernel_rfl) (by rw[s0_eq])
theorem ok:Ok prog 181 D.sig:=fd_ok func181 tlOk (by kernel_rfl) (fc slices_Clone_Row.ok (fc impl_ApplyChanges.ok (fc impl_inverse.ok (fn_nil _))))
end impl_committed
namespace impl_undone
abbrev Arg:Type:=(List Tx)×Unit
abbrev Out:Type:=Int×Unit
abbrev ps:PQ:=[(.ro,(.slc tTx))]
noncomputable def D:FD:={ fn:=f249,tl:=TL0,ps:=ps,rs:=[(i64,(roMd i64))],lv:=[(3,[3,6,7,8])],lx:=[(0,[3])] }
noncomputable def sem (a:Arg):Option Out:=@lift Out fun k=>D.W k a
noncomputable def T0 (a1:Arg) (v402:Int×Int):St:={ n:=19,sl:=[(3,.val i64 v402.1),(6,.val (.slc tTx) a1.1),(7,.val i64 (a1.1.length:Int)),(8,.val i64 v402.2)],vr:=[],lent:=[] }
noncomputable def b0 (self:(Int×Int)->Option Out) (e0:Int->Option Out) (a1:Arg) (v402:Int×Int):Option Out:=bif decide (v402.2 < (a1.1.length:Int)) then (if 0<=v402.2 then ((a1.1[v402.2.toNat]?).bind fun x603=>self (w64 (v402.1+(x603.2.1.length:Int)),w64 (v402.2+(1:Int)))) else none) else e0 v402.1
noncomputable abbrev B0 (_:Nat):=b0
noncomputable def q0 (a1:Arg) (z604:Int):Option Out:=some (z604,())
noncomputable abbrev Q0 (_:Nat):=q0
noncomputable def s0 (k:Nat) (a1:Arg):(Int×Int)->Option Out:=fun v402=>D.L k [1,1,0,1,0,0] [3,6,7,8] [] (blockC 0 (seqC (D.N k [1,1,1]) D.K0)) (T0 a1 v402)
noncomputable def r0 (k:Nat) (a1:Arg):(Int×Int)->Option Out:=rawIter (fun w v=>B0 k w (Q0 k a1) a1 v) k
theorem s0_eq (k:Nat) (a1:Arg):s0 k a1=r0 k a1:=
 funext fun v402=>iter_raw _ _ _ (T0 a1) _ (fun rec v=>by kernel_rfl) k v402
noncomputable def p (l0:(Int×Int)->Option Out) (a1:Arg):Option Out:=l0 ((0:Int),(0:Int))
theorem raw_eq (k:Nat) (a1:Arg):@Eq (Option Out) (D.W k a1) (p (r0 k a1) a1):=
 Eq.trans (b:=p (s0 k a1) a1) (by kernel_rfl) (by rw[s0_eq])
theorem ok:Ok prog 249 D.sig:=fd_ok func249 tlOk (by kernel_rfl) (fn_nil _)
end impl_undone
namespace impl_isTx
abbrev Arg:Type:=Int×Unit
abbrev Out:Type:=Bool×Unit
abbrev ps:PQ:=[(.ro,i64)]
noncomputable def D:FD:={ fn:=f271,tl:=TL0,ps:=ps,rs:=[(.bool,(roMd .bool))],gl:=[(214,impl_in.D.sig)] }
noncomputable def sem (a:Arg):Option Out:=@lift Out fun k=>D.W k a
noncomputable def p (a1:Arg):Option Out:=(impl_in.sem (a1.1,(1:Int),(99:Int),())).bind fun r2=>some (r2.1,())
theorem raw_eq (k:Nat) (a1:Arg):@Eq (Option Out) (D.W k a1) (p a1):=by kernel_rfl
theorem ok:Ok prog 271 D.sig:=fd_ok func271 tlOk (by kernel_rfl) (fc impl_in.ok (fn_nil _))
end impl_isTx
namespace impl_singleFault
abbrev Arg:Type:=Change×Unit
abbrev Out:Type:=Int×Unit
abbrev ps:PQ:=[(.ro,tChange)]
noncomputable def D:FD:={ fn:=f246,tl:=TL0,ps:=ps,rs:=[(i64,(roMd i64))],gl:=[(193,impl_changeFault.D.sig)] }
noncomputable def sem (a:Arg):Option Out:=@lift Out fun k=>D.W k a
noncomputable def p (a1:Arg):Option Out:=(impl_changeFault.sem (a1.1,())).bind fun r2=>bif !decide (r2.1=(0:Int)) then (some (r2.1,())) else bif a1.1.1 then (bif a1.1.2.2.1 then (bif (Ty.eq tRow a1.1.2.1 a1.1.2.2.2.1) then (some ((1:Int),())) else some ((0:Int),())) else some ((0:Int),())) else some ((0:Int),())
theorem raw_eq (k:Nat) (a1:Arg):@Eq (Option Out) (D.W k a1) (p a1):=by kernel_rfl
theorem ok:Ok prog 246 D.sig:=fd_ok func246 tlOk (by kernel_rfl) (fc impl_changeFault.ok (fn_nil _))
end impl_singleFault
namespace impl_Change_lock
abbrev Arg:Type:=Change×Unit
abbrev Out:Type:=Key×Unit
abbrev ps:PQ:=[(.ro,tChange)]
noncomputable def D:FD:={ fn:=f248,tl:=TL0,ps:=ps,rs:=[(tKey,(roMd tKey))],gl:=[(198,impl_Change_key.D.sig)],od:=[(1,[0,3,1,2,4,5,6,7])] }
noncomputable def sem (a:Arg):Option Out:=@lift Out fun k=>D.W k a
noncomputable def p (a1:Arg):Option Out:=(impl_Change_key.sem (a1.1,())).bind fun r2=>(impl_Change_key.sem (a1.1,())).bind fun r3=>some ((r2.1.1,r3.1.2.1,()),())
theorem raw_eq (k:Nat) (a1:Arg):@Eq (Option Out) (D.W k a1) (p a1):=by kernel_rfl
theorem ok:Ok prog 248 D.sig:=fd_ok func248 tlOk (by kernel_rfl) (fc impl_Change_key.ok (fn_nil _))
end impl_Change_lock
namespace slices_Index_Key
abbrev Arg:Type:=(List Key)×Key×Unit
abbrev Out:Type:=Int×Unit
abbrev ps:PQ:=[(.ro,(.slc tKey)),(.ro,tKey)]
noncomputable def D:FD:={ fn:=f423,tl:=TL0,ps:=ps,rs:=[(i64,(roMd i64))],lv:=[(2,[0,3,7,8])],lx:=[(0,[])],od:=[(4,[0,1,2,3,4,5])] }
noncomputable def sem (a:Arg):Option Out:=@lift Out fun k=>D.W k a
noncomputable def T0 (a1:Arg) (v402:Int):St:={ n:=19,sl:=[(0,.val (.slc tKey) a1.1),(3,.box tKey (roMd tKey) [] a1.2.1),(7,.val i64 (a1.1.length:Int)),(8,.val i64 v402)],vr:=[],lent:=[] }
noncomputable def b0 (self:Int->Option Out) (e0:(Unit)->Option Out) (a1:Arg) (v402:Int):Option Out:=bif decide (v402 < (a1.1.length:Int)) then (if 0<=v402 then ((a1.1[v402.toNat]?).bind fun x603=>bif (Ty.eq tKey a1.2.1 x603) then (some (v402,())) else self (w64 (v402+(1:Int)))) else none) else e0 ()
noncomputable abbrev B0 (_:Nat):=b0
noncomputable def q0 (a1:Arg) (z604:(Unit)):Option Out:=some ((-1:Int),())
noncomputable abbrev Q0 (_:Nat):=q0
noncomputable def s0 (k:Nat) (a1:Arg):(Int)->Option Out:=fun v402=>D.L k [1,0,1,0,0] [0,3,7,8] [] (blockC 0 (seqC (D.N k [1,1]) D.K0)) (T0 a1 v402)
noncomputable def r0 (k:Nat) (a1:Arg):(Int)->Option Out:=rawIter (fun w v=>B0 k w (Q0 k a1) a1 v) k
theorem s0_eq (k:Nat) (a1:Arg):s0 k a1=r0 k a1:=
 funext fun v402=>iter_raw _ _ _ (T0 a1) _ (fun rec v=>by kernel_rfl) k v402
noncomputable def p (l0:(Int)->Option Out) (a1:Arg):Option Out:=l0 (0:Int)
theorem raw_eq (k:Nat) (a1:Arg):@Eq (Option Out) (D.W k a1) (p (r0 k a1) a1):=
 Eq.trans (b:=p (s0 k a1) a1) (by kernel_rfl) (by rw[s0_eq])
theorem ok:Ok prog 423 D.sig:=fd_ok func423 tlOk (by kernel_rfl) (fn_nil _)
end slices_Index_Key
namespace slices_Contains_Key
abbrev Arg:Type:=(List Key)×Key×Unit
abbrev Out:Type:=Bool×Unit
abbrev ps:PQ:=[(.ro,(.slc tKey)),(.ro,tKey)]
noncomputable def D:FD:={ fn:=f357,tl:=TL0,ps:=ps,rs:=[(.bool,(roMd .bool))],gl:=[(423,slices_Index_Key.D.sig)] }
noncomputable def sem (a:Arg):Option Out:=@lift Out fun k=>D.W k a
noncomputable def p (a1:Arg):Option Out:=(slices_Index_Key.sem (a1.1,a1.2.1,())).bind fun r2=>some (decide ((0:Int)<=r2.1),())
theorem raw_eq (k:Nat) (a1:Arg):@Eq (Option Out) (D.W k a1) (p a1):=by kernel_rfl
theorem ok:Ok prog 357 D.sig:=fd_ok func357 tlOk (by kernel_rfl) (fc slices_Index_Key.ok (fn_nil _))
end slices_Contains_Key
namespace impl_isKey
abbrev Arg:Type:=Int×Int×Unit
abbrev Out:Type:=Bool×Unit
abbrev ps:PQ:=[(.ro,i64),(.ro,i64)]
noncomputable def D:FD:={ fn:=f411,tl:=TL0,ps:=ps,rs:=[(.bool,(roMd .bool))],gl:=[(214,impl_in.D.sig)] }
noncomputable def sem (a:Arg):Option Out:=@lift Out fun k=>D.W k a
noncomputable def p (a1:Arg):Option Out:=(impl_in.sem (a1.1,(0:Int),(3:Int),())).bind fun r2=>bif r2.1 then ((impl_in.sem (a1.2.1,(1:Int),(99:Int),())).bind fun r3=>some (r3.1,())) else some (false,())
theorem raw_eq (k:Nat) (a1:Arg):@Eq (Option Out) (D.W k a1) (p a1):=by kernel_rfl
theorem ok:Ok prog 411 D.sig:=fd_ok func411 tlOk (by kernel_rfl) (fc impl_in.ok (fn_nil _))
end impl_isKey
end OT
