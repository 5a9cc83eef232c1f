/- The proof's parts, merged: Functions  a body that is run on data gives the contract.. No conditions but those that each states. -/
import Derived.Test.YtljankkghppaiaaGreatQc
import Derived.ProofKit
import Derived.Deep.Slices
import Derived.Laws.BitsLemmas
import Derived.Shelf.SlSortCmp.NoneTotal
import Derived.Shelf.SlLaysE0
import Derived.Shelf.RegionOpenPlain
import Derived.WalkKit
import Derived.Deep.LoopGhost
import Derived.Deep.RegionLaw
import Derived.Lib.Walk
import Derived.Sort.WalkB12
import Derived.Lib.SliceRun
import Derived.Shelf.Lays2
import Derived.Shelf.SlGeneric
import Derived.Lib.JoinLaws
import Derived.Lib.AppendZeros
import Derived.Lib.AppendZerosOnto
import Derived.Lib.Overlaps
import Derived.Laws.Externs
import Derived.Laws.IdiomCopy
import Derived.Laws.NewBlocks
set_option linter.unusedVariables false
set_option linter.unusedSimpArgs false
namespace OT
open Go
section
variable {P:Program} {w:World} {A:Cells} {R:Type} {x:R} {E:Env}
theorem init_len:∀ (ps:List (PM×Ty)) (v:(tupT (ps.map (·.2))).den),(initSlots ps v).length=ps.length
 | [],_=>rfl
 | (.ro,t)::ps,v=>by cases t <;> simp[initSlots,init_len ps v.2]
 | (.fix f,t)::ps,v=>by cases t <;> simp[initSlots,init_len ps v.2]
 | (.mutp m,t)::ps,v=>by simp[initSlots,init_len ps v.2]
 | (.muts m,t)::ps,v=>by simp[initSlots,init_len ps v.2]
 | (.eat m,t)::ps,v=>by simp[initSlots,init_len ps v.2]
 | (.eatv m,t)::ps,v=>by simp[initSlots,init_len ps v.2]
theorem args_len:∀ (ps:List (PM×Ty)) {v:(tupT (ps.map (·.2))).den} {xs:List Value} {G:FP},ArgsRel P w A noH ps v xs G->xs.length=ps.length
 | [],_,_,_,h=>by have h:_=[]:=h;rw[h];rfl
 | (pm,t)::ps,_,_,_,h=>by
  obtain ⟨y,ys,F1,F2,rfl,_,_,h2⟩:=h;simp[args_len ps h2]
theorem init_ok:∀ (ps:List (PM×Ty)) {v:(tupT (ps.map (·.2))).den} {xs:List Value} {G:FP},ArgsRel P w A noH ps v xs G->psOk ps=true ->
  ∃ Fi:Nat->FP,(∀ b k,sumF ps.length Fi b k<=G b k)/\∀ i s,(initSlots ps v)[i]?=some s->∃ y,xs[i]?=some y/\(∀ σ a,SlotRel P A σ a w y s (Fi i))/\(∀ t m H v,s=.box t m H v->(i,i,false) ∈ lentOf 0 ps) /\
   ((i,i,true) ∈ lentOf 0 ps->∃ t m H v,s=.own t m H v):=by
 have main:∀ (ps:List (PM×Ty)) (n:Nat) {v:(tupT (ps.map (·.2))).den} {xs:List Value} {G:FP},ArgsRel P w A noH ps v xs G->psOk ps=true ->
   ∃ Fi:Nat->FP,(∀ b k,sumF ps.length Fi b k<=G b k)/\∀ i s,(initSlots ps v)[i]?=some s->∃ y,xs[i]?=some y/\(∀ σ a,SlotRel P A σ a w y s (Fi i))/\(∀ t m H v,s=.box t m H v->(n+i,n+i,false) ∈ lentOf n ps) /\
    ((n+i,n+i,true) ∈ lentOf n ps->∃ t m H v,s=.own t m H v):=by
  have hlt:∀ (ps:List (PM×Ty)) (n j k:Nat) (c:Bool),(j,k,c) ∈ lentOf n ps->n<=j/\j=k:=by
   intro ps
   induction ps with
   | nil=>intro n j k c h;cases h
   | cons p ps ih=>
    intro n j k c h;obtain ⟨pm,t⟩:=p
    cases pm with
    | ro=>have:=ih (n+1) j k c h;omega
    | fix f=>have:=ih (n+1) j k c h;omega
    | eatv m=>have:=ih (n+1) j k c h;omega
    | mutp m=>
     rcases aS.1 h with e | h
     ·injection e with e1 e2;injection e2 with e2 e3;omega
     ·have:=ih (n+1) j k c h;omega
    | eat m=>
     rcases aS.1 h with e | h
     ·injection e with e1 e2;injection e2 with e2 e3;omega
     ·have:=ih (n+1) j k c h;omega
    | muts m=>
     rcases aS.1 h with e | h
     ·injection e with e1 e2;injection e2 with e2 e3;omega
     ·have:=ih (n+1) j k c h;omega
  intro ps
  induction ps with
  | nil=>intro n v xs G h _;exact ⟨fun _ _ _=>0,fun b k=>aW _,fun i s hs=>by cases hs⟩
  | cons p ps ih=>
   intro n v xs G h hp;obtain ⟨pm,t⟩:=p;obtain ⟨y,ys,F1,F2,rfl,hs,ha,hr⟩:=h;have hp':psOk ps=true:=hp;obtain ⟨Fi,g1,g2⟩:=ih (n+1) hr hp'
   obtain ⟨s0,hs0,hrel,hbox,hown⟩:∃ s0,initSlots ((pm,t)::ps) v=s0::initSlots ps v.2/\(∀ σ a,SlotRel P A σ a w y s0 F1)/\(∀ t' m' H' v',s0=.box t' m' H' v'->∃ m,pm=.mutp m\/pm=.eat m)/\((∃ m,pm=.muts m)->∃ t' m H v,s0=.own t' m H v):=by
    cases pm with
    | ro=>
     obtain ⟨cs,h1,h2⟩:=ha
     cases t with
     | ptr e=>
      refine ⟨.cp e v.1,rfl,fun σ a=>?_,(fun _ _ _ _ e=>by cases e),fun ⟨m,e⟩=>by cases e⟩
      have hl:=Ro.length _ h2
      match cs,hl with
      | [u],_=>
       rw[mkV_one _ _ rfl] at h1;subst h1;exact h2
     | _=>exact ⟨.val _ v.1,rfl,fun σ a=>⟨cs,h1,h2⟩,(fun _ _ _ _ e=>by cases e),fun ⟨m,e⟩=>by cases e⟩
    | fix f=>
     obtain ⟨⟨cs,h1,h2⟩,h3⟩:=ha
     cases t with
     | fn=>
      refine ⟨.val .fn (f,v.1.2),rfl,fun σ a=>⟨cs,h1,?_⟩,(fun _ _ _ _ e=>by cases e),fun ⟨m,e⟩=>by cases e⟩
      have e:v.1=(f,v.1.2):=by have:=h3 rfl;rw[<-this]
      rw[<-e];exact h2
     | _=>exact ⟨.dead,rfl,fun σ a=>trivial,(fun _ _ _ _ e=>by cases e),fun ⟨m,e⟩=>by cases e⟩
    | mutp m=>
     obtain ⟨b,o,L,F3,h1,h2,h3,h4,h5,h6⟩:=ha;exact ⟨.box t m [] v.1,rfl,fun σ a=>⟨b,o,L,F3,h1,h2,h3,h4,h5,h6⟩,fun _ _ _ _ _=>⟨m,.inl rfl⟩,fun ⟨m,e⟩=>by cases e⟩
    | eat m=>
     obtain ⟨b,o,L,F3,h1,h2,h3,h4,h5,h6⟩:=ha;exact ⟨.box t m [] v.1,rfl,fun σ a=>⟨b,o,L,F3,h1,h2,h3,h4,h5,h6⟩,fun _ _ _ _ _=>⟨m,.inr rfl⟩,fun ⟨m,e⟩=>by cases e⟩
    | muts m=>
     obtain ⟨cs,h1,h2⟩:=ha;exact ⟨.own t m [] v.1,rfl,fun σ a=>⟨cs,h1,h2⟩,(fun _ _ _ _ e=>by cases e),fun _=>⟨_,_,_,_,rfl⟩⟩
    | eatv m=>
     obtain ⟨H,cs,hH,h1,h2⟩:=ha;obtain rfl:=bJ.1 hH;exact ⟨.own t m [] v.1,rfl,fun σ a=>⟨cs,h1,h2⟩,(fun _ _ _ _ e=>by cases e),fun _=>⟨_,_,_,_,rfl⟩⟩
   refine ⟨fun k=>match k with | 0=>F1 | k+1=>Fi k,fun b k=>?_,fun i s hi=>?_⟩
   ·have:sumF (ps.length+1) (fun k=>match k with | 0=>F1 | k+1=>Fi k) b k=F1 b k+sumF ps.length Fi b k:=by
     rw[iV,sumF_add];congr 1
     ·simp[sumF]
     ·refine gZ (gZ (sumF_congr fun j hj=>?_) b) k;rw[iV]
    show sumF (ps.length+1) _ b k<=G b k;rw[this];have:=hs b k;have:=g1 b k;omega
   ·rw[hs0] at hi
    cases i with
    | zero=>
     injection hi with hi;subst hi;refine ⟨y,rfl,hrel,fun t' m' H' v' e=>?_,fun hm=>?_⟩
     ·obtain ⟨m,rfl | rfl⟩:=hbox t' m' H' v' e
      ·exact bB
      ·exact bB
     ·refine hown ?_
      cases pm with
      | muts m=>exact ⟨m,rfl⟩
      | ro=>have:=hlt ps (n+1) _ _ _ hm;omega
      | fix f=>have:=hlt ps (n+1) _ _ _ hm;omega
      | eatv m=>have:=hlt ps (n+1) _ _ _ hm;omega
      | mutp m=>
       rcases aS.1 hm with e | hm
       ·injection e with e1 e2;injection e2 with e2 e3;cases e3
       ·have:=hlt ps (n+1) _ _ _ hm;omega
      | eat m=>
       rcases aS.1 hm with e | hm
       ·injection e with e1 e2;injection e2 with e2 e3;cases e3
       ·have:=hlt ps (n+1) _ _ _ hm;omega
    | succ i=>
     obtain ⟨y',q1,q2,q3,q4⟩:=g2 i s hi;have hidx:n+1+i=n+(i+1):=by omega
     rw[hidx] at q3 q4;refine ⟨y',q1,q2,fun t' m' H' v' e=>?_,fun hm=>q4 ?_⟩
     ·have:=q3 t' m' H' v' e
      cases pm with
      | ro=>exact this
      | fix f=>exact this
      | eatv m=>exact this
      | mutp m=>exact aR _ this
      | eat m=>exact aR _ this
      | muts m=>exact aR _ this
     ·cases pm with
      | ro=>exact hm
      | fix f=>exact hm
      | eatv m=>exact hm
      | mutp m=>
       rcases aS.1 hm with e | hm
       ·injection e with e1 e2;omega
       ·exact hm
      | eat m=>
       rcases aS.1 hm with e | hm
       ·injection e with e1 e2;omega
       ·exact hm
      | muts m=>
       rcases aS.1 hm with e | hm
       ·injection e with e1 e2;omega
       ·exact hm
 intro ps v xs G h hp;obtain ⟨Fi,g1,g2⟩:=main ps 0 h hp;exact ⟨Fi,g1,fun i s hi=>by simpa using g2 i s hi⟩
theorem lent_idx:∀ (ps:List (PM×Ty)) (n j k:Nat) (c:Bool),(j,k,c) ∈ lentOf n ps->n<=j/\j=k/\j < n+ps.length:=by
 intro ps
 induction ps with
 | nil=>intro n j k c h;cases h
 | cons p ps ih=>
  intro n j k c h;obtain ⟨pm,t⟩:=p;simp only[aP]
  cases pm with
  | ro=>have:=ih (n+1) j k c h;omega
  | fix f=>have:=ih (n+1) j k c h;omega
  | eatv m=>have:=ih (n+1) j k c h;omega
  | mutp m=>
   rcases aS.1 h with e | h
   ·injection e with e1 e2;injection e2 with e2 e3;omega
   ·have:=ih (n+1) j k c h;omega
  | eat m=>
   rcases aS.1 h with e | h
   ·injection e with e1 e2;injection e2 with e2 e3;omega
   ·have:=ih (n+1) j k c h;omega
  | muts m=>
   rcases aS.1 h with e | h
   ·injection e with e1 e2;injection e2 with e2 e3;omega
   ·have:=ih (n+1) j k c h;omega
theorem look_num:∀ (ss:List Slot) (n i:Nat),lookN (numbered n ss) i=if n<=i then ss[i - n]? else none
 | [],n,i=>by simp[numbered,lookN]
 | s::ss,n,i=>by
  simp only[numbered,lookN,look_num ss (n+1) i];by_cases hi:n=i
  ·subst hi;simp
  ·have:Nat.beq n i=false:=by
    cases hb:Nat.beq n i with
    | false=>rfl
    | true=>exact absurd (cJ hb) hi
   simp only[this,aD,aM];by_cases hle:n<=i
   ·rw[aV (by omega),aV hle];have e:i - n=(i - (n+1))+1:=by omega
    rw[e,fE]
   ·rw[aY (by omega),aY hle]
theorem begin_ok {g:Sig} {v:(tupT (g.ps.map (·.2))).den} {xs:List Value} {F0:FP} {n:Nat} (h:ArgsRel P w A noH g.ps v xs F0) (hp:psOk g.ps=true) (hn:g.ps.length<=n) (h1:∀ b i,F0 b i<=1) (h2:∀ b i,1<=F0 b i->¬ A b i) (h3:∀ b i,1<=F0 b i\/A b i->b < w.heap.size) :
  ∃ F,Rel0 P { w0:=w,A0:=A,F0:=F0,args:=xs.toArray } A (initSt g.ps v n) { tmps:=xs.toArray++Array.replicate (n - xs.toArray.size) undef,defers:=[] } w F:=by
 obtain ⟨Fi,g1,g2⟩:=init_ok g.ps h hp;have hlen:=args_len g.ps h;have hil:=init_len g.ps v
 have hget:∀ i,(initSt g.ps v n).get i=if i < n then (match (initSlots g.ps v)[i]? with | some s=>s | none=>.dead) else .dead:=fun i=>by
  unfold St.get initSt;simp only[look_num,aW,aH,Nat.sub_zero];by_cases hi:i < n
  ·rw[aV (by simpa [gI] using hi),aV hi];rfl
  ·rw[aY (by simpa [gI] using hi),aY hi]
 have htmp:∀ i (y:Value),xs[i]?=some y->tmp { tmps:=xs.toArray++Array.replicate (n - xs.toArray.size) undef,defers:=[] } i=y:=fun i y hy=>by
  have hi:=(aJ.1 hy).1;unfold tmp;rw[iS,dQ (by simpa using hi)];simp[hy]
 have hsum:∀ b k,sumF n (fun i=>if i < g.ps.length then Fi i else fun _ _=>0) b k<=F0 b k:=fun b k=>by
  have e:n=g.ps.length+(n - g.ps.length):=by omega
  rw[e,sumF_add];have e1:=gZ (gZ (sumF_congr (n:=g.ps.length) (f:=fun i=>if i < g.ps.length then Fi i else fun _ _=>0) (g:=Fi) (fun j hj=>by simp only[aV hj])) b) k;have e2:=gZ (gZ (sumF_congr (n:=n - g.ps.length) (f:=fun j=>(fun i=>if i < g.ps.length then Fi i else fun _ _=>0) (g.ps.length+j)) (g:=fun _ _ _=>0) (fun j hj=>by simp only;rw[aY (by omega)])) b) k;rw[e1,e2,sumF_zero];exact g1 b k
 refine ⟨fun i=>if i < g.ps.length then Fi i else fun _ _=>0,?_,rfl,fun i hi=>?_,(fun d r p snap hm=>by cases hm),fun b k=>?_,fun b k hp=>?_,fun b k hp=>?_,fun i=>rfl,Ext.refl _ _,fun b k hp=>?_,fun _ _ h=>h,fun _ _ h=>.inl h,fun j k hm=>?_,fun r t m H v' hg hl=>?_,fun j k hm R hR=>?_⟩
 ·simp only[fD,dJ,Array.size_replicate,hlen,initSt];omega
 ·rw[hget];have hi:i < n:=hi;rw[aV hi]
  cases hs:(initSlots g.ps v)[i]? with
  | none=>trivial
  | some s=>
   obtain ⟨y,q1,q2,_⟩:=g2 i s hs;have hlt:i < g.ps.length:=by rw[<-hil];exact (aJ.1 hs).1
   rw[htmp i y q1];simp only[aV hlt];exact q2 _ _
 ·have:=hsum b k;have:=h1 b k;show 0+sumF n _ b k<=1;omega
 ·have hp:1<=0+sumF n (fun i=>if i < g.ps.length then Fi i else fun _ _=>0) b k:=hp;have:=hsum b k;exact h2 b k (by omega)
 ·refine h3 b k (hp.imp (fun hp=>?_) id);have hp:1<=0+sumF n (fun i=>if i < g.ps.length then Fi i else fun _ _=>0) b k:=hp;have:=hsum b k;omega
 ·have hp:1<=0+sumF n (fun i=>if i < g.ps.length then Fi i else fun _ _=>0) b k:=hp;have:=hsum b k;left;show 1<=F0 b k;omega
 ·obtain ⟨_,rfl,hj⟩:=lent_idx g.ps 0 j k false hm;have hj:j < xs.length:=by omega
  rw[htmp j xs[j] (aA hj)];simp[hj]
 ·exfalso;rw[hget] at hg;split at hg
  ·cases hs:(initSlots g.ps v)[r]? with
   | none=>rw[hs] at hg;cases hg
   | some s=>
    rw[hs] at hg;obtain ⟨y,_,_,q3,_⟩:=g2 r s hs;exact hl r (q3 t m H v' hg)
  ·cases hg
 ·obtain ⟨_,rfl,hj⟩:=lent_idx g.ps 0 j k true hm;have hj':j < (initSlots g.ps v).length:=by omega
  have hs:=aA hj';obtain ⟨y,q1,q2,_,q4⟩:=g2 j _ hs;obtain ⟨t,m,H,v',e⟩:=q4 hm;have hjn:j < n:=by omega
  rw[hget,aV hjn,hs] at hR;simp only[e,rootPl,aO] at hR;subst hR;rw[htmp j y q1];have h2:=q2 (initSt g.ps v n) { tmps:=#[],defers:=[] };rw[e] at h2;obtain ⟨cs,c1,c2⟩:=h2;have:=mkV_cells (Rep.length _ c2) (Rep.one _ c2);show mkV t y.cells.toList=_;rw[c1,this,<- c1]
  have hjx:=(aJ.1 q1)
  obtain ⟨hjx,e2⟩:=hjx;simp[hjx,e2]
noncomputable def funOk (P:Program) (E:Env) (fn:Func) (ps:List (PM×Ty)) (rs:List (Ty×Md)) (es:List Nat):Bool:=
 codeOk P E (bodyOf fn)&&rvOk E rs fn.results.toList&&psOk ps&&Nat.ble ps.length fn.ntmps&&decide es.Nodup
theorem sound_of_body (hE:EnvOk P E) {f:FuncId} {fn:Func} (hf:P.funcs[f]?=some fn) (hb:fn.body.isSome=true) {g:Sig} (hh:∀ v H,g.hol v H=true->H=[]) {es fr:List Nat} (hok:funOk P E fn g.ps g.rs es=true) (hF:∀ v out,g.F v=some out->∃ k,bodyK E k fn g.ps g.rs es fr v=some out):Sound P f g:=by
 intro w A F0 v xs hargs h1 h2 h3 out hout;replace hargs:=hargs.none (hh v);obtain ⟨k,hk⟩:=hF v out hout;simp only[funOk,aC,dL,bU] at hok;obtain ⟨⟨⟨⟨hcode,hrv⟩,hps⟩,hnt⟩,hnd⟩:=hok;obtain ⟨c,hc⟩:=fP.1 hb;have hbo:bodyOf fn=c:=by simp[bodyOf,hc]
 rw[hbo] at hcode;obtain ⟨F,hrel⟩:=begin_ok hargs hps hnt h1 h2 h3;unfold bodyK at hk;rw[hbo] at hk;have hxl:=args_len g.ps hargs
 have hend:∀ (a':Act) (w':World) (σ':St),outK g.ps g.rs es fn.results.toList (mvs fr) σ'=some out->RelE P { w0:=w,A0:=A,F0:=F0,args:=xs.toArray } σ' a' w' ->
   a'.defers=[]/\∃ rv,(results fn a'.tmps).run P w'=.ok rv w'/\(∃ rv',Ending.returned rv=.returned rv'/\Ext w w' F0/\∃ (A':Cells) (G GR GM:FP),(∀ b i,A b i->A' b i)/\(∀ b i,A' b i->A b i\/1<=F0 b i\/w.heap.size<=b) /\
    (∀ b i,1<=G b i->1<=F0 b i\/w.heap.size<=b)/\(∀ b i,G b i<=1)/\(∀ b i,1<=G b i->¬ A' b i)/\(∀ b i,1<=G b i\/A' b i->b < w'.heap.size)/\(∀ b i,GR b i+GM b i<=G b i) /\
    RetRel P w' A' (splitR g.rs out).1 rv' GR/\MutsRel P w' A' g.ps (splitR g.rs out).2 xs GM):=by
  intro a' w' σ' ho hr;obtain ⟨A1,F1,hr⟩:=hr;unfold outK at ho;obtain ⟨A2,σ2,X2,F2,vals,L,Fi,pre,r1,r2,r3,r4,r5,r6,r7,r8,r9⟩:=res_ok hE g.rs fn.results.toList 0 hrv hr ho;obtain ⟨vs,us,Gi,m1,m2,m3,m4,m5,m6⟩:=muts_ok r2 0 g.ps es hps hnd (by simp[hxl]) r3;have hpre:pre vs=out:=Option.some.inj m1;have hsp:splitR g.rs out=(L,vs):=by rw[<-hpre,r4]
  have hGR:∀ b i,sumF L.length Fi b i<=X2 b i:=fun b i=>by have:=r8 b i;omega
  have hGM0:∀ b i,sumL Gi us b i<=sumL F2 us b i:=fun b i=>by
   have:∀ l:List Nat,(∀ j ∈ l,j ∈ us)->sumL Gi l b i<=sumL F2 l b i:=by
    intro l
    induction l with
    | nil=>intro _;exact aK _
    | cons j l ih=>
     intro hl;have:=m5 j b i (hl j bB);have:=ih fun j' hj'=>hl j' (aR _ hj');simp only[sumL];omega
   exact this us fun _ h=>h
  have hGM:∀ b i,sumL Gi us b i<=sumF σ2.n F2 b i:=fun b i=>bK (hGM0 b i) (sumL_le us F2 m3 m4 b i);refine ⟨r2.defers,_,results_run (by rw[r6]) r7,_,rfl,r2.ext,?_⟩
  obtain ⟨A3,hA3⟩:∃ A3:Cells,∀ b i,A3 b i↔(A2 b i\/(1<=X2 b i+sumF σ2.n F2 b i/\sumF L.length Fi b i+sumL Gi us b i=0)):=⟨fun b i=>A2 b i\/(1<=X2 b i+sumF σ2.n F2 b i/\sumF L.length Fi b i+sumL Gi us b i=0),fun _ _=>jQ⟩
  have hA23:∀ b i,A2 b i->A3 b i:=fun b i h=>(hA3 b i).2 (.inl h);have htot:∀ b i,X2 b i+sumF σ2.n F2 b i<=1:=fun b i=>r2.tot b i;refine ⟨A3,fun b i=>sumF L.length Fi b i+sumL Gi us b i,sumF L.length Fi,sumL Gi us,fun b i ha=>hA23 b i (r2.a0 b i ha),fun b i ha=>?_,fun b i hp=>?_,fun b i=>?_,fun b i hp ha=>?_,fun b i hp=>?_,fun _ _=>aK _,?_,?_⟩
  ·rcases (hA3 b i).1 ha with ha | ⟨hp,_⟩
   ·exact r2.a1 b i ha
   ·exact .inr (r2.own b i hp)
  ·have hp:1<=sumF L.length Fi b i+sumL Gi us b i:=hp;exact r2.own b i (by have:=hGR b i;have:=hGM b i;omega)
  ·show sumF L.length Fi b i+sumL Gi us b i<=1;have:=hGR b i;have:=hGM b i;have:=htot b i;omega
  ·have hp:1<=sumF L.length Fi b i+sumL Gi us b i:=hp
   rcases (hA3 b i).1 ha with ha | ⟨_,hz⟩
   ·exact r2.dis b i (by have:=hGR b i;have:=hGM b i;omega) ha
   ·omega
  ·rcases hp with hp | ha
   ·have hp:1<=sumF L.length Fi b i+sumL Gi us b i:=hp;exact r2.bnd b i (.inl (by have:=hGR b i;have:=hGM b i;omega))
   ·rcases (hA3 b i).1 ha with ha | ⟨hp,_⟩
    ·exact r2.bnd b i (.inr ha)
    ·exact r2.bnd b i (.inl hp)
  ·rw[hsp]
   have hres:=r9 A3 hA23 (fun b i hx _ hz=>(hA3 b i).2 (.inr ⟨by omega,by
    have:=hGM b i;have:=htot b i;omega⟩))
   show RetRel P w' A3 L _ _
   match L,r5,hres with
   | [],_,_=>trivial
   | [y],hl,hres=>
    match vals,hl with
    | [u],_=>
     obtain ⟨u',cs,e1,e2,e3⟩:=hres 0 y rfl;injection e1 with e1;subst e1;refine ⟨cs,by simpa using e2,e3.le fun b i=>by simp[sumF]⟩
   | y::z::L,hl,hres=>
    refine ⟨vals.toArray,Fi,?_,fun _ _=>aK _,fun j q hq=>?_⟩
    ·rw[dif_neg];simp only[dJ,hl,aP];omega
    ·obtain ⟨u,cs,e1,e2,e3⟩:=hres j q hq;exact ⟨u,cs,by simpa using e1,e2,e3⟩
  ·rw[hsp];refine m6 A3 hA23 fun i b k' hi hp hz=>(hA3 b k').2 (.inr ⟨by have:=le_sumF F2 (m4 i hi) b k';omega,?_⟩);have h4:=le_sumF F2 (m4 i hi) b k';have h5:=htot b k';have h6:=hGR b k'
   have h7:sumL Gi us b k'=0:=by
    rcases bA (sumL Gi us b k') with h0 | h0
    ·exact h0
    ·obtain ⟨j,hj,hpj⟩:=sumL_pos h0;by_cases hij:j=i
     ·subst hij;omega
     ·have:=m5 j b k' hj;have:=le_sumF2 F2 (m4 j hj) (m4 i hi) hij b k';omega
   omega
 refine calls_of_wp hf hc (wp_mono (code_ok hE c hcode hrel hk) fun e a' w' hq=>?_)
 cases e with
 | normal=>obtain ⟨σ',h4,h5⟩:=hq;exact hend a' w' σ' h4 h5
 | ret=>obtain ⟨σ',h4,h5⟩:=hq;exact hend a' w' σ' h4 h5
 | exit j=>obtain ⟨σ',h4,h5⟩:=hq;cases h4
 | _=>exact hq.elim
end
end OT
namespace OT
open Go
def OLD (w:World):Cells:=fun b _=>b < w.heap.size
def argT:Ty->Bool
 | .int _ | .bool | .str | .unit=>true
 | .pair a b=>argT a&&argT b
 | .slc e=>argT e
 | _=>false
def okD:(T:Ty)->T.den->Prop
 | .int k,n=>k.min<=toI k n/\toI k n<=k.max
 | .str,s=>List.length s<=maxLen
 | .pair a b,v=>okD a v.1/\okD b v.2
 | .slc e,v=>List.length v<=maxLen/\∀ x ∈ (v:List e.den),okD e x
 | _,_=>True
def okA:(ps:List (PM×Ty))->(tupT (ps.map (·.2))).den->Prop
 | [],_=>True
 | (_,T)::ps,v=>okD T v.1/\okA ps v.2
section
variable {P:Program} {w:World} {H:Type} {enc:TypeId×Value->H}
theorem cells_sz {T:Ty} {i:TypeId} (h:layB P T (.inl i)=true):P.cellsOf i=T.sz:=by
 obtain ⟨inf,h1,h2,_⟩:=infoOk_some (layB_info h);simp[Program.cellsOf,h1,h2]
theorem add_none {a:Addr} {k:Nat} {u:Value} (h:w.cell? (a.add k)=some u) (hk:k=0\/a.spot=none):a.spot=none:=by
 rcases hk with rfl | hk
 ·unfold Addr.add at h;rw[aV rfl] at h;unfold World.cell? at h;split at h
  ·split at h
   ·cases h
   ·rename_i hs
    cases hsp:a.spot with
    | none=>rfl
    | some s=>rw[hsp] at hs;simp at hs
  ·cases h
 ·exact hk
theorem trod_ro:∀ (T:Ty),argT T=true ->
  (∀ i,layB P T (.inl i)=true->∀ fuel cs x,DataW.trod enc P w 0 (fun _=>true) true fuel i cs=some x->∃ v:T.den,okD T v/\Ro P w (OLD w) T v cs) /\
  (∀ fs off,layB P T (.inr (fs,off))=true->∀ n (cs:List Value),cs.length=off+T.sz->(∀ f ∈ fs,∃ x,DataW.trod enc P w 0 (fun _=>true) true n f.type ((cs.drop f.offset).take (P.cellsOf f.type))=some x)->∃ v:T.den,okD T v/\Ro P w (OLD w) T v (cs.drop off)):=by
 intro T
 induction T with
 | int k=>
  intro _;refine ⟨fun i hl fuel cs x h=>?_,fun fs off hl=>by simp[layB] at hl⟩
  obtain ⟨n,rfl,_,hwf⟩:=DataW.trod_int (lay_int hl) h;simp only[Lit.wf,aC,bU] at hwf
  cases k with
  | u8=>
   have h1:toI .u8 (UInt8.ofInt n)=n:=by
    have:=toI_inI .u8 n (fun _=>by
     have h1:(0:Int)<=n:=hwf.1;have h2:n<=(255:Int):=hwf.2
     omega)
    exact this
   refine ⟨(UInt8.ofInt n:UInt8),?_,?_⟩
   ·show IntKind.u8.min<=toI .u8 (UInt8.ofInt n)/\toI .u8 (UInt8.ofInt n)<=IntKind.u8.max;rw[h1];exact hwf
   ·show [Value.int .u8 n]=[Value.int .u8 (toI .u8 (UInt8.ofInt n))]
    rw[h1]
  | _=>exact ⟨n,hwf,rfl⟩
 | bool=>
  intro _;refine ⟨fun i hl fuel cs x h=>?_,fun fs off hl=>by simp[layB] at hl⟩
  have hu:P.underlying i=some .bool:=by
   simp only[layB,aC] at hl;have h2:=hl.2;split at h2
   ·assumption
   ·cases h2
  obtain ⟨b,rfl,_⟩:=DataW.trod_bool hu h;exact ⟨b,trivial,rfl⟩
 | str=>
  intro _;refine ⟨fun i hl fuel cs x h=>?_,fun fs off hl=>by simp[layB] at hl⟩
  obtain ⟨s,rfl,_,hsm⟩:=DataW.trod_string (lay_str hl) h;exact ⟨s.data.toList,(by show s.data.toList.length<=maxLen;rw[iM];exact hsm),by simp only[Ro]⟩
 | unit=>
  intro _;refine ⟨fun i hl fuel cs x h=>?_,fun fs off hl n cs hlen _=>⟨(),trivial,?_⟩⟩
  ·simp only[layB,aC] at hl;have h2:=hl.2;split at h2
   ·rename_i fs hu;obtain ⟨xs,n,_,_,hlen,_⟩:=DataW.trod_struct hu h
    have hsz:P.cellsOf i=0:=by
     obtain ⟨inf,h1,h3,_⟩:=infoOk_some hl.1;simp[Program.cellsOf,h1,h3,Ty.sz]
    rw[hsz] at hlen;exact ⟨(),trivial,by simp only[Ro];exact bE hlen⟩
   ·cases h2
  ·simp only[Ro];exact dV (by simp only[Ty.sz] at hlen;omega)
 | pair a b iha ihb=>
  intro ha;simp only[argT,aC] at ha
  have hinr:∀ fs off,layB P (.pair a b) (.inr (fs,off))=true->∀ n (cs:List Value),cs.length=off+(Ty.pair a b).sz->(∀ f ∈ fs,∃ x,DataW.trod enc P w 0 (fun _=>true) true n f.type ((cs.drop f.offset).take (P.cellsOf f.type))=some x)->∃ v:(Ty.pair a b).den,okD (.pair a b) v/\Ro P w (OLD w) (.pair a b) v (cs.drop off):=by
   intro fs off hl n cs hlen hf
   cases fs with
   | nil=>simp[layB] at hl
   | cons f r=>
    simp only[layB,aC,dX,dL] at hl;obtain ⟨⟨⟨ho,_⟩,h1⟩,h2⟩:=hl;simp only[Ty.sz] at hlen;obtain ⟨x,hx⟩:=hf f bB;rw[ho,cells_sz h1] at hx;obtain ⟨v1,o1,r1⟩:=(iha ha.1).1 _ h1 _ _ _ hx;obtain ⟨v2,o2,r2⟩:=(ihb ha.2).2 r (off+a.sz) h2 n cs (by omega) (fun f' hf'=>hf f' (aR _ hf'));exact ⟨(v1,v2),⟨o1,o2⟩,r1,by rw[dB];exact r2⟩
  refine ⟨fun i hl fuel cs x h=>?_,hinr⟩
  have hl0:=hl;simp only[layB,aC] at hl;have h2:=hl.2;split at h2
  ·rename_i fs hu;split at h2
   ·rename_i f r hfs
    have h3:layB P (.pair a b) (.inr (f::r,0))=true:=by
     simp only[layB,bD];exact h2
    obtain ⟨xs,n,_,_,hlen,hxl,hfields⟩:=DataW.trod_struct hu h;rw[cells_sz hl0] at hlen
    have:=hinr (f::r) 0 h3 n cs (by omega) (fun f' hf'=>by
     rw[<-hfs] at hf';obtain ⟨j,hj,e⟩:=dH.1 hf';have hj':j < fs.size:=by simpa using hj
     have:=hfields j f' (by rw[cK hj'];simpa using e);rw[this,aA (by omega)]
     exact ⟨_,rfl⟩)
    simpa using this
   ·cases h2
  ·cases h2
 | slc e ih=>
  intro ha;simp only[argT] at ha;refine ⟨fun i hl fuel cs x h=>?_,fun fs off hl=>by simp[layB] at hl⟩
  obtain ⟨el,hu,hsz,hle⟩:=lay_slc hl
  rcases DataW.trod_slice hu h with ⟨rfl,_⟩ | ⟨a,len,cap,elems,rest,n,_,rfl,_,_,hlc,hcm,hel,hels,hrest,_⟩
  ·exact ⟨[],⟨aW _,fun x hx=>by cases hx⟩,none,0,rfl,aK _,fun _=>rfl,fun ad e=>by cases e⟩
  ·rw[cells_sz hle] at hels hrest
   have hcell:∀ k y,(w.cells? 0 (a.add (k*e.sz)) e.sz).bind (DataW.trod enc P w 0 (fun _=>true) true n el)=some y->∃ cs',w.cells? 0 (a.add (k*e.sz)) e.sz=some cs'/\DataW.trod enc P w 0 (fun _=>true) true n el cs'=some y:=fun k y hk=>by
    cases hc:w.cells? 0 (a.add (k*e.sz)) e.sz with
    | none=>rw[hc] at hk;cases hk
    | some cs'=>rw[hc] at hk;exact ⟨cs',rfl,hk⟩
   have hspot:0 < cap->a.spot=none:=fun hpos=>by
    have hfirst:∃ cs',w.cells? 0 (a.add (0*e.sz)) e.sz=some cs':=by
     by_cases hlen:0 < len
     ·have h0:=hels 0 hlen;rw[aA (by omega)] at h0;obtain ⟨cs',h1,_⟩:=hcell 0 _ h0;exact ⟨cs',h1⟩
     ·obtain rfl:len=0:=by omega
      obtain ⟨hr1,hr2⟩:=hrest rfl;have h0:=hr2 0 (by omega);rw[aA (by omega)] at h0;obtain ⟨cs',h1,_⟩:=hcell (0+0) _ h0;exact ⟨cs',by simpa using h1⟩
    obtain ⟨cs',h1⟩:=hfirst;obtain ⟨_,hl1,h2⟩:=World.cells?_some h1;have h3:=h2 0 (by omega);rw[aA (by omega),gA] at h3;have h4:(a.add 0).add 0=a.add 0:=by unfold Addr.add;simp
    rw[h4] at h3;exact add_none h3 (.inl rfl)
   have each:∀ k:Fin len,∃ v:e.den,okD e v/\∃ L:List Value,L.length=e.sz/\(∀ j u,L[j]?=some u->ce w a.block (a.off+k.val*e.sz+j)=some u/\OLD w a.block (a.off+k.val*e.sz+j))/\Ro P w (OLD w) e v L:=fun k=>by
    have h0:=hels k.val k.isLt;rw[aA (by have:=k.isLt;omega)] at h0;obtain ⟨cs',h1,h2⟩:=hcell k.val _ h0;obtain ⟨v,ho,hv⟩:=(ih ha).1 _ hle _ _ _ h2;obtain ⟨_,hl1,h3⟩:=World.cells?_some h1;refine ⟨v,ho,cs',hl1,fun j u hu=>?_,hv⟩
    have hj:=(aJ.1 hu).1;have h4:=h3 j (by omega);rw[hu] at h4;have hsp:=hspot (by have:=k.isLt;omega);obtain ⟨b,off,sp⟩:=a;simp only at hsp;subst hsp;rw[addr_add,addr_add] at h4;have h5:ce w b (off+k.val*e.sz+j)=some u:=cell_ce h4 (Ro.one e hv u (bW hu));exact ⟨h5,ce_lt h5⟩
   obtain ⟨f,hf⟩:=gU each;refine ⟨List.ofFn f,⟨by simp;omega,fun x hx=>?_⟩,some a,cap,by simp,by simpa using hlc,(fun e=>by cases e),fun ad e=>?_⟩
   ·obtain ⟨j,rfl⟩:=List.mem_ofFn.1 hx;exact (hf j).1
   injection e with e;subst e;refine ⟨hspot,fun k y hk=>?_⟩
   rw[List.getElem?_ofFn] at hk;split at hk
   ·rename_i hlt;injection hk with hk;subst hk;exact (hf ⟨k,hlt⟩).2
   ·cases hk
 | _=>intro ha;simp[argT] at ha
theorem arg_val {T:Ty} (ha:argT T=true) {i:TypeId} (hl:layB P T (.inl i)=true) {r:Reach} {b0:Nat} {v:Value} (h:Value.okWide P w r b0 i v):v=mkV T v.cells.toList:=by
 cases T with
 | int k=>
  have hu:=lay_int hl;cases v <;> simp[Value.okWide,Cell.okWide,Cell.ok,hu] at h <;> simp[mkV,isAgg,Value.cells]
 | bool=>
  have hu:P.underlying i=some .bool:=by
   simp only[layB,aC] at hl;have h2:=hl.2;split at h2
   ·assumption
   ·cases h2
  cases v <;> simp[Value.okWide,Cell.okWide,Cell.ok,hu] at h <;> simp[mkV,isAgg,Value.cells]
 | str=>
  have hu:=lay_str hl;cases v <;> simp[Value.okWide,Cell.okWide,Cell.ok,hu] at h <;> simp[mkV,isAgg,Value.cells]
 | slc e=>
  obtain ⟨el,hu,_⟩:=lay_slc hl;cases v <;> simp[Value.okWide,Cell.okWide,Cell.ok,hu] at h <;> simp[mkV,isAgg,Value.cells]
 | unit=>
  simp only[layB,aC] at hl;have h2:=hl.2;split at h2
  ·rename_i fs hu;simp only[Value.okWide,hu] at h;obtain ⟨cs,rfl,_⟩:=h;simp[mkV,isAgg,Value.cells]
  ·cases h2
 | pair a b=>
  simp only[layB,aC] at hl;have h2:=hl.2;split at h2
  ·rename_i fs hu;simp only[Value.okWide,hu] at h;obtain ⟨cs,rfl,_⟩:=h;simp[mkV,isAgg,Value.cells]
  ·cases h2
 | _=>simp[argT] at ha
def roLay (P:Program):List (PM×Ty)->List TypeId->Bool
 | [],[]=>true
 | (.ro,T)::ps,t::ts=>argT T&&layB P T (.inl t)&&P.readableRec t&&Nat.blt t P.types.size&&roLay P ps ts
 | _,_=>false
theorem args_ro:∀ (ps:List (PM×Ty)) (ts:List TypeId) (args:List Value) (ds:List (DataW H)) (p:List MemPlace) {b0:Nat},roLay P ps ts=true->DataW.TrodAll enc P w 0 (fun _=>true) true ts args ds p ->
  (∀ (j:Nat) t v,ts[j]?=some t->args[j]?=some v->Value.okWide P w .any b0 t v)->∃ v,okA ps v/\ArgsRel P w (OLD w) noH ps v args (fun _ _=>0)
 | [],[],args,ds,p,b0,_,h,_=>by
  cases args with
  | nil=>exact ⟨(),trivial,rfl⟩
  | cons _ _=>simp[DataW.TrodAll] at h
 | (.ro,T)::ps,t::ts,args,ds,p,b0,hl,h,hok=>by
  simp only[roLay,aC] at hl
  cases args with
  | nil=>simp[DataW.TrodAll] at h
  | cons v args=>
   cases ds with
   | nil=>simp[DataW.TrodAll] at h
   | cons d ds=>
    obtain ⟨p1,q1,⟨fuel,h1⟩,h2,_⟩:=h;obtain ⟨x,hox,hx⟩:=(trod_ro T hl.1.1.1.1).1 t hl.1.1.1.2 _ _ _ h1;obtain ⟨xs,hoxs,hxs⟩:=args_ro ps ts args ds q1 (b0:=b0) hl.2 h2 (fun j t' v' ht hv=>hok (j+1) t' v' ht hv);exact ⟨(x,xs),⟨hox,hoxs⟩,v,args,fun _ _=>0,fun _ _=>0,rfl,fun _ _=>aK _,⟨_,arg_val hl.1.1.1.1 hl.1.1.1.2 (hok 0 t v rfl rfl),hx⟩,hxs⟩
theorem args_stay (hlo:laidOutB P=true) {W W':World} (hb:RowKit.Below W.heap.size W W') {sp:Nat->Bool}:∀ (ps:List (PM×Ty)) (ts:List TypeId) (args:List Value) (ds:List (DataW H)) (p:List MemPlace),roLay P ps ts=true->DataW.TrodAll enc P W 0 (fun _=>true) true ts args ds p ->
  (∀ x ∈ p,x.block < W.heap.size)->(∀ x ∈ p,sp x.block=true)->DataW.TrodAll enc P W' 0 sp true ts args ds p
 | [],[],args,ds,p,_,h,_,_=>by
  cases args with
  | nil=>
   cases ds with
   | nil=>exact h
   | cons _ _=>simp[DataW.TrodAll] at h
  | cons _ _=>simp[DataW.TrodAll] at h
 | (.ro,T)::ps,t::ts,args,ds,p,hl,h,hlt,hsp=>by
  simp only[roLay,aC] at hl
  cases args with
  | nil=>simp[DataW.TrodAll] at h
  | cons v args=>
   cases ds with
   | nil=>simp[DataW.TrodAll] at h
   | cons d ds=>
    obtain ⟨p1,q1,h1,h2,rfl⟩:=h;have ht:t < P.types.size:=by have:=hl.1.2;rwa [gI] at this
    exact ⟨p1,q1,WideElems.Trod_stays hlo hl.1.1.2 ht h1 (fun x hx=>hb.same (hlt x (List.mem_append_left _ hx))) (fun x hx=>hsp x (List.mem_append_left _ hx)),
     args_stay hlo hb ps ts args ds q1 hl.2 h2 (fun x hx=>hlt x (List.mem_append_right _ hx)) (fun x hx=>hsp x (List.mem_append_right _ hx)),rfl⟩
theorem law_calls {f:FuncId} {cap:Bool} {ps:List (PM×Ty)} {Fn:(tupT (ps.map (·.2))).den->Option (tupT ([((Ty.bool,roMd .bool):Ty×Md)].map (·.1)++mutTys ps)).den} (hs:Sound P f { cap:=cap,ps:=ps,rs:=[(.bool,roMd .bool)],F:=Fn }) (htrue:∀ v,okA ps v->∃ u,Fn v=some (true,u))
  {ts:List TypeId} (hl:roLay P ps ts=true) {args:List Value} {ds:List (DataW H)} {p:List MemPlace} (hA:DataW.TrodAll enc P w 0 (fun _=>true) true ts args ds p) {b0:Nat} (hok:∀ (j:Nat) t v,ts[j]?=some t->args[j]?=some v->Value.okWide P w .any b0 t v) :
  Calls P f args.toArray w fun e W'=>e=.returned (.bool true)/\RowKit.Below w.heap.size w W':=by
 obtain ⟨v,hov,hv⟩:=args_ro ps ts args ds p hl hA hok;obtain ⟨u,hu⟩:=htrue v hov;refine (hs w (OLD w) (fun _ _=>0) v args hv (fun _ _=>aW _) (fun b i h=>by omega) (fun b i h=>?_) _ hu).mono fun e W' h=>?_
 ·rcases h with h | h
  ·omega
  ·exact h
 ·obtain ⟨rv,rfl,hext,A',G,GR,GM,_,_,_,_,_,_,_,hret,_⟩:=h;obtain ⟨cs,h1,h2⟩:=hret;simp only[splitR] at h1 h2;have h2:cs=[.bool true]:=h2;subst h2;exact ⟨by rw[h1];rfl,hext.os,hext.tape,hext.output,hext.size,fun b hb=>hext.obj b hb fun _=>rfl⟩
theorem law_post {C:Checked} {f:Func} {s:ChangeSpec} {W W':World} {args:Array Value} {ds:List (DataW H)} {p:List MemPlace} {apart fresh handsOn:Bool} (hlo:laidOutB P=true) {ps:List (PM×Ty)} {ts:List TypeId} (hts:f.params.toList=ts) (hl:roLay P ps ts=true) {tb:TypeId} (hr:f.resultTypes=#[tb]) (hu:P.underlying tb=some .bool)
  (hvars:s.vars=[]) (hW:DataW.Whole enc P f.params.toList s.vars apart W args.toList ds [] p) (hA:DataW.TrodAll enc P W 0 (fun _=>true) true ts args.toList ds p) (hfn:s.fn H (ds++[])={ results:=[.lit (.bool true)],args:=ds }) (hb:RowKit.Below W.heap.size W W') :
  s.post enc P f apart fresh handsOn false W args (.bool true) W':=by
 have hlt:∀ x ∈ p,x.block < W.heap.size:=fun x hx=>by simpa using hW.lt x hx
 refine ⟨ds,[],p,[],p,[],hW,?_,?_,?_,World.keptBut_mono (fun x hx=>⟨hx,.inr (.inl hx)⟩) (hb.frame (· ∈ p)),fun e=>by cases e⟩
 ·rw[hfn,hr];exact ⟨[],[],RowKit.shut_bool hu true,rfl,rfl⟩
 ·rw[hfn,hts];exact args_stay hlo hb ps ts args.toList ds p hl hA hlt (fun x hx=>by simpa using hlt x hx)
 ·rw[hfn,hvars];rfl
end
end OT
namespace OT
open Go
def tiOk (P:Program) (l:List (Nat×Ty)):Bool:=l.all fun p=>layB P p.2 (.inl p.1)
def eqOkL (P:Program) (l:List (Nat×Ty)):Bool:=l.all fun p=>!(p.2.eqOk&&isAgg p.2)||(eqB P p.2 (.inl p.1)&&(P.eqGuardType P.depth p.1 == false)&&Nat.ble (dep p.2) 10000)
theorem look_mem {α:Type}:∀ {l:List (Nat×α)} {i:Nat} {x:α},lookN l i=some x->(i,x) ∈ l
 | (k,y)::l,i,x,h=>by
  simp only[lookN] at h;split at h
  ·rename_i hk;injection h with h;rw[cJ hk,h];exact bB
  ·exact aR _ (look_mem h)
def FnOk (P:Program) (l:List (Nat×Sig)):Prop:=∀ f g,lookN l f=some g->Sound P f g/\EnterOk P f g.cap
theorem fn_nil (P:Program):FnOk P []:=fun f g h=>by cases h
theorem fn_cons {P:Program} {f:Nat} {g:Sig} {l:List (Nat×Sig)} (h1:Sound P f g) (h2:EnterOk P f g.cap) (h3:FnOk P l):FnOk P ((f,g)::l):=fun f' g' h=>by
 simp only[lookN] at h;split at h
 ·rename_i hk;injection h with h;subst h;rw[<-cJ hk];exact ⟨h1,h2⟩
 ·exact h3 f' g' h
theorem env_ok {P:Program} {E:Env} {tl:List (Nat×Ty)} {gl:List (Nat×Sig)} (h1:E.TI=lookN tl) (h2:E.G=lookN gl) (h3:tiOk P tl=true) (h4:eqOkL P tl=true) (h5:FnOk P gl):EnvOk P E where
 ti i T h:=by rw[h1] at h;exact cC.1 h3 _ (look_mem h)
 eq i T h hq ha:=by
  rw[h1] at h;have:=cC.1 h4 _ (look_mem h);simp only[hq,ha,fQ,aQ,eN,aC,jJ,dL] at this;exact ⟨this.1.1,this.1.2,this.2⟩
 fn f g h:=by rw[h2] at h;exact h5 f g h
def Ok (P:Program) (f:FuncId) (g:Sig):Prop:=Sound P f g/\EnterOk P f g.cap
theorem fc {P:Program} {f:Nat} {g:Sig} {l:List (Nat×Sig)} (h:Ok P f g) (h3:FnOk P l):FnOk P ((f,g)::l):=fn_cons h.1 h.2 h3
def enterB (fn:Func) (cap:Bool):Bool:=!(fn.name == "runtime.NumGoroutine")&&!fn.body.isNone&&Nat.beq fn.nfree (match cap with | true=>1 | false=>0)
noncomputable def okB (P:Program) (E:Env) (fn:Func) (ps:PQ) (rs:RQ) (es:List Nat) (cap:Bool) (tl:TL):Bool:=(tiOk P tl&&eqOkL P tl)&&(enterB fn cap&&funOk P E fn ps rs es)
theorem fn_ok {P:Program} {E:Env} {f:FuncId} {fn:Func} (hf:P.funcs[f]?=some fn) {g:Sig} (hh:∀ v H,g.hol v H=true->H=[]) {es fr:List Nat} {tl:TL} {gl:GL} (h1:E.TI=lookN tl) (h2:E.G=lookN gl) (hok:okB P E fn g.ps g.rs es g.cap tl=true) (hg:FnOk P gl) (hF:∀ v,g.F v=lift fun k=>bodyK E k fn g.ps g.rs es fr v):Ok P f g:=by
 simp only[okB,enterB,aC,cN,dX] at hok;obtain ⟨⟨a1,a2⟩,⟨⟨b1,b2⟩,b3⟩,c⟩:=hok
 have hb:fn.body.isSome=true:=by
  cases h:fn.body with
  | none=>rw[h] at b2;cases b2
  | some _=>rfl
 exact ⟨sound_of_body (env_ok h1 h2 a1 a2 hg) hf hb hh c fun v out h=>lift_some (by rw[<-hF];exact h),fn,hf,b1,b2,b3⟩
structure FD where
 fn:Func
 tl:TL
 ps:PQ
 rs:RQ
 gl:GL:=[]
 es:List Nat:=[]
 fr:List Nat:=[]
 cap:Bool:=false
 fz:List (Nat×Nat×Nat):=[]
 lv:List (Nat×List Nat):=[]
 lx:List (Nat×List Nat):=[]
 lf:List (Nat×List (Nat×Md)):=[]
 od:List (Nat×List Nat):=[]
 ar:List (Nat×List Nat):=[]
 bx:List (Nat×List Nat):=[]
 pd:List (Nat×List Nat):=[]
 er:List (Nat×List (Nat×Nat)):=[]
noncomputable def FD.E (D:FD):Env:={ TI:=lookN D.tl,G:=lookN D.gl,fz:=D.fz,lv:=D.lv,lx:=D.lx,lf:=D.lf,od:=D.od,ar:=D.ar,bx:=D.bx,pd:=D.pd,er:=D.er }
noncomputable def FD.W (D:FD) (k:Nat) (a:(tupT (D.ps.map (·.2))).den):Option (tupT (D.rs.map (·.1)++mutTys D.ps)).den:=bodyK D.E k D.fn D.ps D.rs D.es D.fr a
noncomputable def FD.F (D:FD) (a:(tupT (D.ps.map (·.2))).den):Option (tupT (D.rs.map (·.1)++mutTys D.ps)).den:=lift fun k=>D.W k a
noncomputable def FD.sig (D:FD):Sig:={ cap:=D.cap,ps:=D.ps,rs:=D.rs,F:=D.F }
noncomputable def FD.fin (D:FD):St->Option (tupT (D.rs.map (·.1)++mutTys D.ps)).den:=outK D.ps D.rs D.es D.fn.results.toList (mvs D.fr)
noncomputable def FD.K0 (D:FD):KT (tupT (D.rs.map (·.1)++mutTys D.ps)).den:=endK D.fin
noncomputable def FD.N (D:FD) (k:Nat) (p:List Nat):St->KT (tupT (D.rs.map (·.1)++mutTys D.ps)).den->Option (tupT (D.rs.map (·.1)++mutTys D.ps)).den:=codeK D.E k D.fin (sub p (bodyOf D.fn))
noncomputable def FD.L (D:FD) (k:Nat) (p live:List Nat) (fro:List (Nat×Md)) (K:KT (tupT (D.rs.map (·.1)++mutTys D.ps)).den) (σ:St):Option (tupT (D.rs.map (·.1)++mutTys D.ps)).den:=iterK (D.N k p) (keepF live fro) K k σ
theorem fd_ok {P:Program} {D:FD} {f:FuncId} (hf:P.funcs[f]?=some D.fn) (ht:(tiOk P D.tl&&eqOkL P D.tl)=true) (hok:(enterB D.fn D.cap&&funOk P D.E D.fn D.ps D.rs D.es)=true) (hg:FnOk P D.gl):Ok P f D.sig:=
 fn_ok (hh:=fun _ _ h=>bJ.1 h) (es:=D.es) (fr:=D.fr) (tl:=D.tl) (gl:=D.gl) (E:=D.E) hf rfl rfl (by rw[okB,ht,fF];exact hok) hg fun _=>rfl
end OT
namespace OT
open Go
theorem w64_in {n:Int} (h:-9223372036854775808<=n/\n<=9223372036854775807):w64 n=n:=by
 unfold w64;rw[IntKind.wrap_i64];omega
theorem maxLen_val:maxLen=9223372036854775807:=by simp[maxLen]
theorem rawIter_eq {V R:Type} {B:(V->Option R)->V->Option R} (f:V->R) (I:V->Prop) (μ:V->Nat)
  (h:∀ v,I v->∀ self,B self v=some (f v)\/∃ v',B self v=self v'/\f v'=f v/\I v'/\μ v' < μ v):∀ (k:Nat) (v:V),I v->μ v < k->rawIter B k v=some (f v)
 | 0,v,_,hk=>by omega
 | k+1,v,hI,hk=>by
  show B (rawIter B k) v=some (f v)
  rcases h v hI (rawIter B k) with h1 | ⟨v',h1,h2,h3,h4⟩
  ·exact h1
  ·rw[h1,rawIter_eq f I μ h k v' h3 (by omega),h2]
def allB {α:Type} (e:α->α->Bool) (xs ys:List α):Bool:=(xs.zip ys).all fun p=>e p.1 p.2
theorem allB_drop {α:Type} (e:α->α->Bool) (xs ys:List α) (i:Nat) (hx:i < xs.length) (hy:i < ys.length):allB e (xs.drop i) (ys.drop i)=(e xs[i] ys[i]&&allB e (xs.drop (i+1)) (ys.drop (i+1))):=by
 unfold allB;rw[dA hx,dA hy];simp only[iX,eL]
theorem all_loop {α:Type} {B:(Int->Option (Bool×Unit))->Int->Option (Bool×Unit)} {xs ys:List α} (e:α->α->Bool) (hlen:xs.length=ys.length) (hmax:xs.length<=maxLen)
  (hin:∀ (i:Nat) (hx:i < xs.length) (hy:i < ys.length) self,B self (i:Int)=if e xs[i] ys[i]=true then self (w64 ((i:Int)+1)) else some (false,()))
  (hout:∀ self,B self (xs.length:Int)=some (true,())):∀ k,xs.length < k->rawIter B k 0=some (allB e xs ys,()):=by
 intro k hk
 have h:=rawIter_eq (B:=B) (fun v=>(allB e (xs.drop v.toNat) (ys.drop v.toNat),())) (fun v=>0<=v/\v<=(xs.length:Int)) (fun v=>xs.length - v.toNat) (fun v hv self=>by
  obtain ⟨h0,h1⟩:=hv;obtain ⟨i,rfl⟩:=dE h0;simp only[aI];by_cases hi:i < xs.length
  ·have hy:i < ys.length:=by omega
   rw[allB_drop e xs ys i hi hy,hin i hi hy]
   cases he:e xs[i] ys[i] with
   | true=>
    right;have hw:w64 ((i:Int)+1)=((i+1:Nat):Int):=by rw[w64_in (by rw[maxLen_val] at hmax;omega)];omega
    refine ⟨_,by rw[hw];rfl,by simp,by omega,?_⟩
    simp only[aI];omega
   | false=>left;simp
  ·have hi':i=xs.length:=by omega
   subst hi';left;rw[hout]
   simp[allB]) k 0 ⟨by omega,by omega⟩ (by simpa using hk)
 simpa using h
theorem copy_loop {α:Type} {B:((List α×Int)->Option (List α×Unit))->(List α×Int)->Option (List α×Unit)} {xs:List α} (hmax:xs.length<=maxLen)
  (hin:∀ (i:Nat) (hx:i < xs.length) (acc:List α) self,acc.length=xs.length->B self (acc,(i:Int))=self (acc.set i xs[i],w64 ((i:Int)+1)))
  (hout:∀ acc self,B self (acc,(xs.length:Int))=some (acc,())) (z:α):∀ k,xs.length < k->rawIter B k (List.replicate xs.length z,0)=some (xs,()):=by
 intro k hk;refine rawIter_eq (B:=B) (fun _=>(xs,())) (fun v=>0<=v.2/\v.2<=(xs.length:Int)/\v.1.length=xs.length/\∀ j,j < v.2.toNat->v.1[j]?=xs[j]?) (fun v=>xs.length - v.2.toNat) (fun v hv self=>?_) k _ ⟨by simp,by simp,by simp,by simp⟩ (by simpa using hk);obtain ⟨acc,i⟩:=v;obtain ⟨h0,h1,h2,h3⟩:=hv;simp only at h0 h1 h2 h3;obtain ⟨i,rfl⟩:=dE h0;simp only[aI] at h3 ⊢;by_cases hi:i < xs.length
 ·right;have hw:w64 ((i:Int)+1)=((i+1:Nat):Int):=by rw[w64_in (by rw[maxLen_val] at hmax;omega)];omega
  refine ⟨(acc.set i xs[i],((i+1:Nat):Int)),by rw[hin i hi acc self h2,hw],trivial,⟨by omega,by simp only;omega,by simpa using h2,fun j hj=>?_⟩,?_⟩
  ·simp only[aI] at hj;by_cases hji:j=i
   ·subst hji;simp[h2,hi]
   ·simp only[fB];rw[aY (fun e=>hji e.symm)];exact h3 j (by omega)
  ·simp only[aI];omega
 ·have hi':i=xs.length:=by omega
  subst hi';left;rw[hout]
  have:acc=xs:=fM fun j=>by
   by_cases hj:j < xs.length
   ·exact h3 j hj
   ·rw[cV (by omega),cV (by omega)]
  rw[this]
end OT
namespace OT
open Go
theorem rawIter_succ {V R:Type} (B:(V->Option R)->V->Option R) (k:Nat) (v:V):rawIter B (k+1) v=B (rawIter B k) v:=rfl
def sumW {α:Type} (f:α->Nat):List α->Nat
 | []=>0
 | x::xs=>f x+sumW f xs
theorem sumW_mem {α:Type} (f:α->Nat):∀ (xs:List α) (x:α),x ∈ xs->f x<=sumW f xs
 | y::xs,x,h=>by
  simp only[sumW];rcases aS.1 h with rfl | h
  ·omega
  ·have:=sumW_mem f xs x h;omega
 | [],_,h=>by cases h
theorem sumW_zero {α:Type} (f:α->Nat) (h:∀ x,f x=0):∀ (xs:List α),sumW f xs=0
 | []=>rfl
 | x::xs=>by simp[sumW,h x,sumW_zero f h xs]
theorem sumW_32 {α:Type} (f:α->Nat):∀ (xs:List α),sumW (fun x=>32*(f x+1)) xs=32*(xs.length+sumW f xs)
 | []=>rfl
 | x::xs=>by simp only[sumW,sumW_32 f xs,aP];omega
def zz:(t:Ty)->t.den->Nat
 | .str,v=>List.length v
 | .pair a b,v=>zz a v.1+zz b v.2
 | .slc e,v=>List.length v+sumW (zz e) v
 | _,_=>0
theorem zz_mem {e:Ty} {xs:List e.den} {x:e.den} (h:x ∈ xs):zz e x+1<=zz (.slc e) xs:=by
 have:=sumW_mem (zz e) xs x h;have:1<=xs.length:=List.length_pos_of_mem h;show _<=List.length xs+_;omega
theorem zz_len {e:Ty} (xs:List e.den):xs.length<=zz (.slc e) xs:=Nat.le_add_right _ _
theorem zz_cons {e:Ty} (x:e.den) (xs:List e.den):zz (.slc e) (x::xs)=zz e x+1+zz (.slc e) xs:=by
 show (List.length xs+1)+(zz e x+sumW (zz e) xs)=zz e x+1+(List.length xs+sumW (zz e) xs)
 omega
def lft (n:Int) (z:Nat):Int:=if (z:Int)<=n then n - z else -1
theorem sz_loop {α:Type} {B:((Int×Int)->Option (Int×Unit))->(Int×Int)->Option (Int×Unit)} {xs:List α} (hmax:xs.length<=maxLen) (z:α->Nat)
  (hin:∀ (i:Nat) (hx:i < xs.length) (n:Int) self,0<=n->n<=1048576->B self (n,(i:Int))=if lft n (z xs[i]) < 0 then some (-1,()) else self (lft n (z xs[i]),w64 ((i:Int)+1)))
  (hout:∀ n self,B self (n,(xs.length:Int))=some (n,())) (n:Int) (h0:0<=n) (h1:n<=1048576) :
  ∀ k,xs.length < k->rawIter B k (n,0)=some (lft n (sumW z xs),()):=by
 have main:∀ (m i:Nat) (n:Int),xs.length - i=m->i<=xs.length->0<=n->n<=1048576->∀ k,m < k->rawIter B k (n,(i:Int))=some (lft n (sumW z (xs.drop i)),()):=by
  intro m
  induction m with
  | zero=>
   intro i n hm hi h0 h1 k hk;have hi':i=xs.length:=by omega
   subst hi'
   cases k with
   | zero=>omega
   | succ k=>
    have:rawIter B (k+1) (n,(xs.length:Int))=some (n,()):=hout n _;rw[this];simp[lft,sumW,h0]
  | succ m ih=>
   intro i n hm hi h0 h1 k hk;have hlt:i < xs.length:=by omega
   rw[dA hlt];simp only[sumW]
   cases k with
   | zero=>omega
   | succ k=>
    show B (rawIter B k) _=_;rw[hin i hlt n _ h0 h1];by_cases hz:(z xs[i]:Int)<=n
    ·have e:lft n (z xs[i])=n - (z xs[i]:Int):=aV hz;have hneg:¬ (n - (z xs[i]:Int) < 0):=by omega
     have hw:w64 ((i:Int)+1)=((i+1:Nat):Int):=by rw[w64_in (by rw[maxLen_val] at hmax;omega)];omega
     rw[e,aY hneg,hw,ih (i+1) _ (by omega) (by omega) (by omega) (by omega) k (by omega)];unfold lft;by_cases hc:((sumW z (xs.drop (i+1)):Nat):Int)<=n - (z xs[i]:Int)
     ·rw[aV hc,aV (by omega)];have:n - (z xs[i]:Int) - (sumW z (xs.drop (i+1)):Nat)=n - ((z xs[i]+sumW z (xs.drop (i+1)):Nat):Int):=by omega
      rw[this]
     ·rw[aY hc,aY (by omega)]
    ·have e:lft n (z xs[i])=-1:=aY hz;rw[e,aV (by omega)];unfold lft;rw[aY (by omega)]
 intro k hk
 simpa using main xs.length 0 n (by omega) (by omega) h0 h1 k hk
theorem lft_add {n:Int} {a b:Nat} (h:(a:Int)<=n):lft (n - a) b=lft n (a+b):=by
 unfold lft;by_cases hc:(b:Int)<=n - a
 ·rw[aV hc,aV (by omega)];omega
 ·rw[aY hc,aY (by omega)]
theorem get_self_set {α:Type} (xs:List α) (i:Nat) (a:α) (h:i < xs.length):(xs.set i a)[i]?=some a:=by simp[h]
def BIG:Int:=4611686018427387904
def chain {α:Type} (E:α->Int->α->Int->Prop) (W:α->Nat):List α->Int->List α->Int->Prop
 | [],k,ys,k'=>ys=[]/\k'=k
 | x::xs,k,ys,k'=>∃ y ys' k1,ys=y::ys'/\0<=k/\k+W x<=BIG/\k<=k1/\k1<=k+W x/\E x k y k1/\chain E W xs k1 ys' k'
theorem mark_loop {α:Type} {B:((List α×Int×Int)->Option (Int×List α×Unit))->(List α×Int×Int)->Option (Int×List α×Unit)} {xs:List α} (hmax:xs.length<=maxLen) (E:α->Int->α->Int->Prop) (W:α->Nat)
  (hE:∀ x ∈ xs,∀ k:Int,0<=k->k+W x<=BIG->∃ y k',k<=k'/\k'<=k+W x/\E x k y k')
  (hin:∀ (i:Nat) (acc:List α) (k:Int) self (x y:α) (k':Int),i < acc.length->acc[i]?=some x->0<=k->k+W x<=BIG->k<=k'->k'<=k+W x->E x k y k'->B self (acc,k,(i:Int))=self (acc.set i y,k',w64 ((i:Int)+1)))
  (hout:∀ (acc:List α) (k:Int) self,B self (acc,k,(acc.length:Int))=some (k,acc,())) (k:Int) (h0:0<=k) (h1:k+sumW W xs<=BIG) :
  ∃ ys k',k<=k'/\k'<=k+sumW W xs/\ys.length=xs.length/\chain E W xs k ys k'/\∀ f,xs.length < f->rawIter B f (xs,k,0)=some (k',ys,()):=by
 have main:∀ (rest pre:List α) (k:Int),(pre++rest).length<=maxLen->(∀ x ∈ rest,x ∈ xs)->0<=k->k+sumW W rest<=BIG ->
   ∃ ys k',k<=k'/\k'<=k+sumW W rest/\ys.length=rest.length/\chain E W rest k ys k'/\∀ f,rest.length < f->rawIter B f (pre++rest,k,(pre.length:Int))=some (k',pre++ys,()):=by
  intro rest
  induction rest with
  | nil=>
   intro pre k hm _ h0 h1;refine ⟨[],k,iI _,by simp[sumW],rfl,⟨rfl,rfl⟩,fun f hf=>?_⟩
   cases f with
   | zero=>simp at hf
   | succ f=>
    simp only[cP];exact hout pre k _
  | cons x rest ih=>
   intro pre k hm hx h0 h1;simp only[sumW] at h1;obtain ⟨y,k1,g1,g2,g3⟩:=hE x (hx x bB) k h0 (by omega);obtain ⟨ys,k',i1,i2,i3,i4,i5⟩:=ih (pre++[y]) k1 (by simpa using hm) (fun z hz=>hx z (aR _ hz)) (by omega) (by omega);refine ⟨y::ys,k',by omega,by simp only[sumW];omega,by simp[i3],⟨y,ys,k1,rfl,h0,by omega,g1,g2,g3,i4⟩,fun f hf=>?_⟩
   cases f with
   | zero=>omega
   | succ f=>
    show B (rawIter B f) _=_;have hlen:pre.length < (pre++x::rest).length:=by simp
    rw[hin pre.length (pre++x::rest) k _ x y k1 hlen (by simp) h0 (by omega) g1 g2 g3]
    have hw:w64 ((pre.length:Int)+1)=(((pre++[y]).length:Nat):Int):=by
     have:pre.length+1<=maxLen:=by have:=hm;simp at this;omega
     rw[maxLen_val] at this;rw[w64_in (by omega)];simp
    have hs:(pre++x::rest).set pre.length y=(pre++[y])++rest:=by simp
    rw[hw,hs,i5 f (by simp only[aP] at hf;omega)];simp
 obtain ⟨ys,k',i1,i2,i3,i4,i5⟩:=main xs [] k (by simpa using hmax) (fun x h=>h) h0 h1;exact ⟨ys,k',i1,i2,i3,i4,fun f hf=>by simpa using i5 f hf⟩
theorem held_loop {α:Type} {ys:List α} {B:((Int×Int)->Option (Int×Unit))->(Int×Int)->Option (Int×Unit)} {xs:List α} {k k':Int} (hmax:ys.length<=maxLen) {E:α->Int->α->Int->Prop} {W:α->Nat} (hc:chain E W xs k ys k')
  (hin:∀ (i:Nat) (k:Int) self (x y:α) (k':Int),i < ys.length->ys[i]?=some y->0<=k->k+W x<=BIG->k<=k'->k'<=k+W x->E x k y k'->B self (k,(i:Int))=self (k',w64 ((i:Int)+1)))
  (hout:∀ (k:Int) self,B self (k,(ys.length:Int))=some (k,())):∀ f,ys.length < f->rawIter B f (k,0)=some (k',()):=by
 have main:∀ (xs ys' pre:List α) (k:Int),pre++ys'=ys->chain E W xs k ys' k'->∀ f,ys'.length < f->rawIter B f (k,(pre.length:Int))=some (k',()):=by
  intro xs
  induction xs with
  | nil=>
   intro ys' pre k hp hc f hf;obtain ⟨rfl,rfl⟩:=hc
   cases f with
   | zero=>simp at hf
   | succ f=>
    have:=hout k' (rawIter B f);have e:pre=ys:=by simpa using hp
    subst e;exact this
  | cons x xs ih=>
   intro ys' pre k hp hc f hf;obtain ⟨y,ys2,k1,rfl,c1,c2,c3,c4,c5,c6⟩:=hc
   cases f with
   | zero=>omega
   | succ f=>
    show B (rawIter B f) _=_;have hl:pre.length < ys.length:=by rw[<-hp];simp
    rw[hin pre.length k _ x y k1 hl (by rw[<-hp];simp) c1 c2 c3 c4 c5]
    have hw:w64 ((pre.length:Int)+1)=(((pre++[y]).length:Nat):Int):=by
     have:pre.length+1<=maxLen:=by omega
     rw[maxLen_val] at this;rw[w64_in (by omega)];simp
    rw[hw];exact ih ys2 (pre++[y]) k1 (by rw[<-hp];simp) c6 f (by simp only[aP] at hf;omega)
 intro f hf
 simpa using main xs ys [] k rfl hc f hf
end OT
namespace OT
open Go
def forI {S O α:Type} (f:Nat->S->α->Sum O S) (fin:S->O):Nat->List α->S->O
 | _,[],s=>fin s
 | i,x::xs,s=>match f i s x with
  | .inl o=>o
  | .inr s'=>forI f fin (i+1) xs s'
theorem for_loop {V S O α:Type} {B:(V->Option O)->V->Option O} (xs:List α) (enc:S->Int->V) (f:Nat->S->α->Sum O S) (fin:S->O) (I:Nat->S->Prop) (hmax:xs.length<=maxLen)
  (hin:∀ (i:Nat) (hi:i < xs.length) (s:S) self,I i s->B self (enc s (i:Int))=match f i s xs[i] with | .inl o=>some o | .inr s'=>self (enc s' (w64 ((i:Int)+1))))
  (hI:∀ (i:Nat) (hi:i < xs.length) (s s':S),I i s->f i s xs[i]=.inr s'->I (i+1) s')
  (hout:∀ (s:S) self,I xs.length s->B self (enc s (xs.length:Int))=some (fin s)) (s:S) (h0:I 0 s):∀ k,xs.length < k->rawIter B k (enc s 0)=some (forI f fin 0 xs s):=by
 have main:∀ (m i:Nat) (s:S),xs.length - i=m->i<=xs.length->I i s->∀ k,m < k->rawIter B k (enc s (i:Int))=some (forI f fin i (xs.drop i) s):=by
  intro m
  induction m with
  | zero=>
   intro i s hm hi hs k hk;have hi':i=xs.length:=by omega
   subst hi'
   cases k with
   | zero=>omega
   | succ k=>
    show B (rawIter B k) _=_;rw[hout s _ hs];simp[forI]
  | succ m ih=>
   intro i s hm hi hs k hk;have hlt:i < xs.length:=by omega
   cases k with
   | zero=>omega
   | succ k=>
    show B (rawIter B k) _=_;rw[hin i hlt s _ hs,dA hlt];simp only[forI]
    cases hf:f i s xs[i] with
    | inl o=>rfl
    | inr s'=>
     have hw:w64 ((i:Int)+1)=((i+1:Nat):Int):=by rw[w64_in (by rw[maxLen_val] at hmax;omega)];omega
     simp only[hw];exact ih (i+1) s' (by omega) (by omega) (hI i hlt s s' hs hf) k (by omega)
 intro k hk
 simpa using main xs.length 0 s (by omega) (by omega) h0 k hk
theorem forI_check {O α:Type} (p:α->Bool) (bad:O) (fin:Unit->O):∀ (xs:List α) (i:Nat),forI (fun _ _ x=>if p x then .inr () else .inl bad) fin i xs ()=if xs.all p then fin () else bad
 | [],_=>rfl
 | x::xs,i=>by
  simp only[forI,eL];by_cases h:p x=true
  ·simp[h,forI_check p bad fin xs (i+1)]
  ·simp[h]
def firstF {α:Type} (c:α->Int):List α->Int
 | []=>0
 | x::xs=>if c x=0 then firstF c xs else c x
theorem forI_first {O α:Type} (c:α->Int) (bad:Int->O) (fin:Unit->O):∀ (xs:List α) (i:Nat),forI (fun _ _ x=>if c x=0 then .inr () else .inl (bad (c x))) fin i xs ()=if firstF c xs=0 then fin () else bad (firstF c xs)
 | [],_=>rfl
 | x::xs,i=>by
  simp only[forI,firstF];by_cases h:c x=0
  ·simp[h,forI_first c bad fin xs (i+1)]
  ·simp[h]
theorem both_self {R:Type} (a:Option R):both a a=a:=by simp[both]
theorem nilB_eq {R α:Type} {v:List α} {a b r:Option R} (h1:v=[]->a=r) (h2:b=r):nilB v a b=r:=by
 cases v with
 | nil=>rw[nilB,h1 rfl,h2,both_self]
 | cons _ _=>exact h2
theorem cap_ok {n:Nat} (h:n<=200000000000):n<=CAP:=by simp only[CAP];omega
end OT
namespace OT
open Go
def simpT:Ty->Bool
 | .int _ | .bool | .str | .unit=>true
 | .pair a b=>simpT a&&simpT b
 | _=>false
def encT:(t:Ty)->t.den->List Value
 | .int k,v=>[.int k (toI k v)]
 | .bool,v=>[.bool v]
 | .str,v=>[.string ⟨List.toArray v⟩]
 | .unit,_=>[]
 | .pair a b,v=>encT a v.1++encT b v.2
 | _,_=>[]
section
variable {P:Program} {w:World} {A:Cells}
theorem ro_enc:∀ (t:Ty),simpT t=true->∀ (v:t.den),Ro P w A t v (encT t v):=by
 intro t
 induction t with
 | pair a b iha ihb=>
  intro h v;simp only[simpT,aC] at h;have h1:=iha h.1 v.1;have hl:=Ro.length a h1;show Ro P w A a v.1 ((encT a v.1++encT b v.2).take a.sz)/\Ro P w A b v.2 ((encT a v.1++encT b v.2).drop a.sz);rw[dR (by omega),gY (by omega),dU (by omega),dV (by omega),cH];exact ⟨h1,ihb h.2 v.2⟩
 | int k=>intro _ v;rfl
 | bool=>intro _ v;rfl
 | str=>intro _ v;rfl
 | unit=>intro _ v;rfl
 | _=>intro h;simp[simpT] at h
theorem enc_ro:∀ (t:Ty),simpT t=true->∀ {v:t.den} {cs:List Value},Ro P w A t v cs->cs=encT t v:=by
 intro t
 induction t with
 | pair a b iha ihb=>
  intro h v cs hr;simp only[simpT,aC] at h;have h1:=iha h.1 hr.1;have h2:=ihb h.2 hr.2;rw[<-cO a.sz cs,h1,h2];rfl
 | int k=>intro _ v cs h;exact h
 | bool=>intro _ v cs h;exact h
 | str=>intro _ v cs h;exact h
 | unit=>intro _ v cs h;exact h
 | _=>intro h;simp[simpT] at h
theorem simp_flat:∀ (t:Ty),simpT t=true->t.flat=true:=by
 intro t
 induction t with
 | pair a b iha ihb=>intro h;simp only[simpT,aC] at h;simp only[Ty.flat,iha h.1,ihb h.2,fQ]
 | int k=>intro _;rfl
 | bool=>intro _;rfl
 | str=>intro _;rfl
 | unit=>intro _;rfl
 | _=>intro h;simp[simpT] at h
end
theorem ce_cells {w:World} {b i:Nat} {u:Value} {c:Array Value} {e:TypeId} {fr:Nat×Nat} (h:w.heap[b]?=some (.cells c e fr)) (hu:ce w b i=some u):c[i]?=some u:=by
 unfold ce at hu;simp only[h,World.cell?] at hu
 cases hc:c[i]? with
 | none=>simp[hc] at hu
 | some v=>
  simp only[hc,eE,aD,aM,aB] at hu;rw[(oneV_some hu).1]
theorem ce_of_cells {w:World} {b i:Nat} {u:Value} {c:Array Value} {e:TypeId} {fr:Nat×Nat} (h:w.heap[b]?=some (.cells c e fr)) (hg:c[i]?=some u) (hu:u.oneCell'=true):ce w b i=some u:=by
 refine cell_ce ?_ hu;simp only[World.cell?,h,eE,aD,aM,hg]
end OT
namespace OT
open Go Go.Sort
instance inhDen (e:Ty):Inhabited e.den:=⟨e.zero⟩
noncomputable def sortF (e:Ty) (cs:e.den×e.den×Unit->Option (Int×Unit)) (v:List e.den):Option (List e.den):=open Classical in
 if List.length v<=CAP then (if h:∃ cf:e.den->e.den->Int,(∀ x y,cs (x,y,())=some (cf x y,()))/\SWO (Go.Proofs.ltOf cf) then some (pdq (Go.Proofs.ltOf h.choose) v.toArray 0 v.toArray.size (Lib.bitLen v.toArray.size) true true).toList else none) else none
theorem sortF_eq {e:Ty} {cs:e.den×e.den×Unit->Option (Int×Unit)} {cf:e.den->e.den->Int} (h1:∀ x y,cs (x,y,())=some (cf x y,())) (h2:SWO (Go.Proofs.ltOf cf)) (v:List e.den) (hl:List.length v<=CAP):sortF e cs v=some (pdq (Go.Proofs.ltOf cf) v.toArray 0 v.toArray.size (Lib.bitLen v.toArray.size) true true).toList:=by
 have hex:∃ cf:e.den->e.den->Int,(∀ x y,cs (x,y,())=some (cf x y,()))/\SWO (Go.Proofs.ltOf cf):=⟨cf,h1,h2⟩
 have he:hex.choose=cf:=by
  funext x y;have:=(hex.choose_spec.1 x y).symm.trans (h1 x y);injection this with this;exact dF Prod.fst this
 unfold sortF;rw[aV hl,dif_pos hex,he]
theorem sortF_some {e:Ty} {cs:e.den×e.den×Unit->Option (Int×Unit)} {v r:List e.den} (h:sortF e cs v=some r):∃ cf:e.den->e.den->Int,(∀ x y,cs (x,y,())=some (cf x y,()))/\SWO (Go.Proofs.ltOf cf)/\List.length v<=CAP/\r=(pdq (Go.Proofs.ltOf cf) v.toArray 0 v.toArray.size (Lib.bitLen v.toArray.size) true true).toList:=by
 by_cases hl:List.length v<=CAP
 ·by_cases hex:∃ cf:e.den->e.den->Int,(∀ x y,cs (x,y,())=some (cf x y,()))/\SWO (Go.Proofs.ltOf cf)
  ·obtain ⟨cf,h1,h2⟩:=hex;rw[sortF_eq h1 h2 v hl] at h;injection h with h;exact ⟨cf,h1,h2,hl,h.symm⟩
  ·unfold sortF at h;rw[aV hl,dif_neg hex] at h;cases h
 ·unfold sortF at h;rw[aY hl] at h;cases h
theorem pdq_spec {α:Type} [Inhabited α] {lt:α->α->Bool} (h:SWO lt) (v:List α):(pdq lt v.toArray 0 v.toArray.size (Lib.bitLen v.toArray.size) true true).toList.Perm v/\(pdq lt v.toArray 0 v.toArray.size (Lib.bitLen v.toArray.size) true true).toList.Pairwise fun x y=>lt y x=false:=by
 have hs:=pdq_sorts lt h v.toArray 0 v.toArray.size (Lib.bitLen v.toArray.size) true true (aW _) (aK _) (Or.inl rfl);generalize pdq lt v.toArray 0 v.toArray.size (Lib.bitLen v.toArray.size) true true=p at hs ⊢;obtain ⟨⟨h1,h2,h3⟩,h4⟩:=hs;refine ⟨?_,?_⟩
 ·have e1:p.extract 0 v.toArray.size=p:=by rw[<-h1];exact Array.extract_size ..
  have e2:v.toArray.extract 0 v.toArray.size=v.toArray:=Array.extract_size ..;rw[e1,e2] at h3;exact h3
 ·rw[jD];intro i j hi hj hij;have hj':j < p.size:=by simpa using hj
  have:=h4 i j (aW _) hij (by omega);rw[fZ _ i (by omega),fZ _ j hj'] at this
  simpa using this
section
variable {P:Program}
theorem ext_grow {w w':World} (h:Ext w w' (fun _ _=>0)):∃ q os,w'=grow (w.drewN q) os:=by
 refine ⟨w'.drawn - w.drawn,w'.heap.extract w.heap.size w'.heap.size,?_⟩
 have hh:w'.heap=w.heap++w'.heap.extract w.heap.size w'.heap.size:=by
  apply Array.ext_getElem?;intro i;by_cases hi:i < w.heap.size
  ·rw[h.obj i hi fun _=>rfl,dQ hi]
  ·rw[Array.getElem?_append_right (by omega),Array.getElem?_extract];by_cases hi':i < w'.heap.size
   ·rw[aV (by omega)];congr 1;omega
   ·rw[aY (by omega),dI (by omega)]
 have h1:=h.os;have h2:=h.tape;have h3:=h.output;have h4:=h.drawn
 cases w with
 | mk heap tape drawn os output=>
  cases w' with
  | mk heap' tape' drawn' os' output'=>
   simp only at h1 h2 h3 h4 hh;subst h1;subst h2;subst h3;simp only[grow,World.drewN,World.mk.injEq,dZ,eC];exact ⟨hh,by omega⟩
theorem cmp_lays {e:Ty} (hs:simpT e=true) (ha:isAgg e=true) {g:Nat} {cF:e.den×e.den×Unit->Option (Int×Unit)} (hg:Sound P g { ps:=[(.ro,e),(.ro,e)],rs:=[(.int .i64,roMd (.int .i64))],F:=cF }) {cf:e.den->e.den->Int} (hc:∀ x y,cF (x,y,())=some (cf x y,())) (b size:Nat) (w:World):Go.Proofs.CmpLays P g #[] (encT e) e.sz cf b 0 size w:=by
 intro m os dk _ x y
 have hargs:ArgsRel P (Go.Proofs.sortWorldK (encT e) e.sz w b 0 m dk os) (fun _ _=>False) noH [(.ro,e),(.ro,e)] (x,y,()) [.agg (encT e x).toArray,.agg (encT e y).toArray] (fun _ _=>0):=
  ⟨_,_,fun _ _=>0,fun _ _=>0,rfl,fun _ _=>aK _,⟨encT e x,by simp[mkV,ha],ro_enc e hs x⟩,_,_,fun _ _=>0,fun _ _=>0,rfl,fun _ _=>aK _,⟨encT e y,by simp[mkV,ha],ro_enc e hs y⟩,rfl⟩
 refine (hg _ (fun _ _=>False) (fun _ _=>0) (x,y,()) _ hargs (fun _ _=>aW _) (fun _ _ h=>by omega) (fun _ _ h=>by rcases h with h | h;omega;exact h.elim) (cf x y,()) (hc x y)).mono ?_;rintro ex w' ⟨rv,rfl,hext,A',G,GR,GM,_,_,_,_,_,_,_,hret,_⟩;obtain ⟨cs,h1,h2⟩:=hret;refine ⟨?_,ext_grow hext⟩
 have h2:cs=[.int .i64 (cf x y)]:=h2;rw[h1,h2];rfl
theorem sort_ok {ρ:Go.Shelf.Ren} (L:Go.Proofs.SlLaysF0.n6 P ρ) {e:Ty} (hs:simpT e=true) (ha:isAgg e=true) (hl:layB P e (.inl (ρ.t 24))=true) (h1:1<=e.sz) {g:Nat} {cF:e.den×e.den×Unit->Option (Int×Unit)}
  (hg:Ok P g { ps:=[(.ro,e),(.ro,e)],rs:=[(.int .i64,roMd (.int .i64))],F:=cF }) (he:EnterOk P (ρ.f 6) false) :
  Ok P (ρ.f 6) { ps:=[(.muts (ownMd (.slc e)),.slc e),(.fix g,.fn)],rs:=[],F:=fun v=>(sortF e cF v.1).map fun r=>(r,()) }:=by
 refine ⟨?_,he⟩
 intro w A F0 v xs hargs hle hdis hbnd out hout;obtain ⟨vs,⟨fg,fv⟩,⟨⟩⟩:=v;obtain ⟨x,xs',F1,F2,rfl,hF,⟨cs,rfl,hrep⟩,x2,xs'',F3,F4,rfl,hF2,⟨⟨cs2,rfl,hfn⟩,hfix⟩,hnil⟩:=hargs;have hnil:xs''=[]:=hnil;subst hnil;have hfg:fg=g:=hfix rfl;subst hfg;obtain ⟨caps,rfl,fn,hfn1,hfn2⟩:=hfn
 have hcaps:caps=#[]:=by
  obtain ⟨fn',k1,_,_,k4⟩:=hg.2;have hfn1:P.funcs[fg]?=some fn:=hfn1;rw[hfn1] at k1;injection k1 with k1;subst k1;have k4:fn.nfree=0:=k4
  rcases hfn2 with ⟨_,q⟩ | ⟨q,_⟩
  ·exact q
  ·omega
 subst hcaps;have hx2:mkV .fn [.func (.func fg) #[] #[]]=.func (.func fg) #[] #[]:=rfl;have hout:(sortF e cF vs).map (fun r=>(r,()))=some out:=hout
 cases hsort:sortF e cF vs with
 | none=>rw[hsort] at hout;cases hout
 | some r=>
 rw[hsort] at hout;injection hout with hout;subst hout;obtain ⟨cf,hc,hO,hcap,hr⟩:=sortF_some hsort;have hspec:=pdq_spec hO vs;rw[<-hr] at hspec;have hrep':=hrep;simp only[Rep,hole,bQ,aD,aM,ownMd,mdOf,Md.own,aH] at hrep;obtain ⟨xa,cap,rfl,g2,g3,g4,g5⟩:=hrep;have hv1:mkV (.slc e) [.slice xa (List.length vs) cap]=.slice xa (List.length vs) cap:=rfl;rw[hx2,hv1]
 have hfin:∀ (w':World) (F1':FP),Ext w w' F0->(∀ b i,F1' b i<=F1 b i)->Rep P w' A (.slc e) (ownMd (.slc e)) [] r [.slice xa (List.length vs) cap] F1' ->
   ∃ rv,Ending.returned (.tuple #[])=.returned rv/\Ext w w' F0/\∃ (A':Cells) (G GR GM:FP),(∀ b i,A b i->A' b i)/\(∀ b i,A' b i->A b i\/1<=F0 b i\/w.heap.size<=b)/\(∀ b i,1<=G b i->1<=F0 b i\/w.heap.size<=b)/\(∀ b i,G b i<=1)/\(∀ b i,1<=G b i->¬ A' b i)/\(∀ b i,1<=G b i\/A' b i->b < w'.heap.size)/\(∀ b i,GR b i+GM b i<=G b i) /\
   RetRel P w' A' [] rv GR/\MutsRel P w' A' [(.muts (ownMd (.slc e)),.slc e),(.fix fg,.fn)] (r,()) [.slice xa (List.length vs) cap,.func (.func fg) #[] #[]] GM:=fun w' F1' hext hF1 hrp=>
  ⟨_,rfl,hext,A,F0,fun _ _=>0,F0,fun _ _ h=>h,fun _ _ h=>.inl h,fun _ _ h=>.inl h,hle,hdis,fun b i h=>cL (hbnd b i h) hext.size,fun b i=>by show 0+F0 b i<=F0 b i;omega,trivial,F1',F2,fun b i=>by have:=hF b i;have:=hF1 b i;omega,⟨_,rfl,hrp⟩,trivial⟩
 by_cases h0:List.length vs=0
 ·have hvs:vs=[]:=bE h0
  have hrn:r=[]:=by
   have:=hspec.1.length_eq;exact bE (by omega)
  rw[h0];refine (Go.Proofs.AnyF.slices_SortFunc_none L xa cap (.func (.func fg) #[] #[]) w).mono ?_;rintro ex w' ⟨rfl,hw⟩;rw[hw];rw[h0] at hfin;refine hfin w F1 (Ext.refl _ _) (fun _ _=>aK _) ?_;rw[hrn,<- hvs];have:List.length vs=0:=h0;rw[this] at hrep';exact hrep'
 ·cases xa with
  | none=>have:=g4 rfl;omega
  | some ad=>
   obtain ⟨q1,q2,q3,Fi,q4,q5⟩:=g5 ad rfl;obtain ⟨b,off,sp⟩:=ad;simp only at q1 q2 q3 q4 q5;subst q1;subst q2;obtain ⟨c,el,fr,c1,c2,c3,c4⟩:=q3;have hb:=(bN.1 c1).1;have hsz:vs.toArray.size=List.length vs:=by simp
   have hbl:List.length vs*e.sz<=cap*e.sz:=aX _ g2;have hpos:1<=List.length vs*e.sz:=gK (show 1<=List.length vs by omega) h1
   have hcell:∀ (i:Nat) (y:e.den),vs[i]?=some y->Has w b (i*e.sz) (encT e y):=fun i y hy=>by
    obtain ⟨L0,l1,l2,l3⟩:=q5 i y hy;have:=enc_ro e hs (Rep.flat e (simp_flat e hs) l3);rw[<-this];exact l2
   have hH:Go.Sort.HoldsK (encT e) e.sz w b 0 vs.toArray:=by
    intro j hj;rw[Go.Sort.size_flatK,hsz] at hj;rw[bD,Go.Sort.get_flatK _ _ _ _ (by rw[hsz];exact hj)];have hi:j / e.sz < List.length vs:=by rw[gF h1];exact hj
    have hy:=aA hi;have hm:=iD j h1
    have hel:(encT e (vs[j / e.sz]))[j % e.sz]?=some ((encT e (vs[j / e.sz]))[j % e.sz]!):=by
     have hlen:=Ro.length e (ro_enc (P:=P) (w:=w) (A:=A) e hs (vs[j / e.sz]));rw[aA (by omega),fZ _ _ (by omega)]
    have hce:=hcell _ _ hy _ _ hel;have hdm:j / e.sz*e.sz+j % e.sz=j:=by rw[fN];exact gC j e.sz
    rw[hdm] at hce;have hone:=Ro.one e (ro_enc (P:=P) (w:=w) (A:=A) e hs (vs[j / e.sz])) _ (bW hel);have hcc:=ce_cell hce hone;refine ⟨?_,?_⟩
    ·show _=some (id _);rw[hcc];have:vs.toArray[j / e.sz]! = vs[j / e.sz]:=by rw[fZ _ _ (by rw[hsz];exact hi)];simp
     rw[this];rfl
    ·simp only[World.frozen?,c1];have:=c3 j (by omega);simp only[Bool.and_eq_false_imp,bU,fR,not_and] at this ⊢;intro h
     first | exact this h | (have:=this (by simpa using h);simpa using this)
   have hkit:=Go.Proofs.AnyQ.slices_SortFunc_eq L e.sz (fun w=>by rw[run_isAgg hl,ha]) (fun w=>run_sizeOf hl) (encT e) (fun y=>Ro.length e (ro_enc (P:=P) (w:=w) (A:=A) e hs y)) (fun y u hu=>Ro.one e (ro_enc (P:=P) (w:=w) (A:=A) e hs y) u hu) cf hO fg #[] b 0 cap vs.toArray w
    (fun args w=>enter_run hg.2 args) (cmp_lays hs ha hg.1 hc b _ w) hH hb (by rw[hsz];unfold CAP at hcap;omega)
   rw[hsz] at hkit;refine hkit.mono ?_;rintro ex w' ⟨rfl,n,os,rfl⟩;rw[hsz] at hr;have hrd:(pdq (Go.Proofs.ltOf cf) vs.toArray 0 (List.length vs) (Lib.bitLen (List.length vs)) true true)=r.toArray:=by rw[hr]
   rw[hrd];have hrl:r.length=List.length vs:=hspec.1.length_eq
   have hold:∀ b',b' < w.heap.size->b'≠b->(Go.Proofs.sortWorldK (encT e) e.sz w b 0 n r.toArray os).heap[b']?=w.heap[b']?:=fun b' hb' hne=>by
    simp only[Go.Proofs.sortWorldK,grow,Go.Sort.putRowK,Go.Sort.putRow,Go.Sort.mapBlock,Go.Sort.ahead];rw[dQ (by simpa using hb'),dM,aY (fun e=>hne e.symm)]
   have hnew:(Go.Proofs.sortWorldK (encT e) e.sz w b 0 n r.toArray os).heap[b]?=some (.cells (Go.Sort.putCells id 0 (Go.Sort.flatK (encT e) e.sz r.toArray) c) el fr):=by
    simp only[Go.Proofs.sortWorldK,grow,Go.Sort.putRowK,Go.Sort.putRow,Go.Sort.mapBlock,Go.Sort.ahead];rw[dQ (by simpa using hb),dM,aV rfl,c1];rfl
   have hcs:(Go.Sort.putCells id 0 (Go.Sort.flatK (encT e) e.sz r.toArray) c).size=c.size:=by simp[Go.Sort.putCells]
   have hext:Ext w (Go.Proofs.sortWorldK (encT e) e.sz w b 0 n r.toArray os) F0:=by
    have hown:∀ i,i < cap*e.sz->1<=F0 b i:=fun i hi=>by
     have h3:=hF b i;have h4:=q4 b i;have h5:rng b 0 (cap*e.sz) b i=1:=by simp only[rng];rw[aV ⟨trivial,by omega,by omega⟩]
     omega
    refine ⟨?_,fun b' i hb' hz u hu=>?_,fun b' m hm=>?_,fun b' i hb'=>?_,rfl,rfl,rfl,fun b' hb' hz=>?_,Nat.le_add_right _ _⟩
    ·simp only[Go.Proofs.sortWorldK,grow,Go.Sort.putRowK,Go.Sort.putRow,Go.Sort.mapBlock,Go.Sort.ahead,fD,Array.size_modify];omega
    ·by_cases hbb:b'=b
     ·subst hbb;have hi:¬ i < cap*e.sz:=fun hi=>by have:=hown i hi;omega
      exfalso;have:=ce_cells c1 hu;rw[dI (by omega)] at this;cases this
     ·rw[ce_block (hold b' hb' hbb)];exact hu
    ·by_cases hbb:b'=b
     ·subst hbb;obtain ⟨c',e',f',m1,m2,m3⟩:=hm;rw[c1] at m1;injection m1 with m1;injection m1 with m1 m4 m5;subst m1;subst m4;subst m5;exact ⟨_,_,_,hnew,by rw[hcs];exact m2,m3⟩
     ·have hb':b' < w.heap.size:=hm.lt;exact (own_of_block (hold b' hb' hbb) m).1 hm
    ·by_cases hbb:b'=b
     ·subst hbb;simp only[World.frozen?,hnew,c1]
     ·exact fr_of_block (hold b' hb' hbb) i
    ·by_cases hbb:b'=b
     ·subst hbb;have:=hown 0 (by omega);have:=hz 0;omega
     ·exact hold b' hb' hbb
   refine hfin _ F1 hext (fun _ _=>aK _) ?_;simp only[Rep,hole,bQ,aD,aM,ownMd,mdOf,Md.own,aH];refine ⟨some ⟨b,0,none⟩,cap,by rw[hrl],by rw[hrl];exact g2,g3,(fun e=>by cases e),fun ad e2=>?_⟩
   injection e2 with e2;subst e2;refine ⟨rfl,rfl,⟨_,_,_,hnew,by rw[hcs];exact c2,c3,c4⟩,fun _ _ _=>0,fun b' i=>?_,fun i y hy=>?_⟩
   ·have h3:=q4 b' i
    have h4:sumF (List.length r) (fun _ _ _=>0) b' i=0:=by
     generalize List.length r=nn
     induction nn with
     | zero=>rfl
     | succ nn ih=>simp only[sumF,ih]
    show rng b 0 (cap*e.sz) b' i+sumF (List.length r) (fun _ _ _=>0) b' i<=F1 b' i;rw[h4];omega
   ·refine ⟨encT e y,Ro.length e (ro_enc (P:=P) (w:=w) (A:=A) e hs y),fun j u hu=>?_,?_⟩
    ·have hj:=(aJ.1 hu).1;have hlen:=Ro.length e (ro_enc (P:=P) (w:=w) (A:=A) e hs y);have hi:=(aJ.1 hy).1
     have hij:i*e.sz+j < r.length*e.sz:=by
      have:=aX e.sz (show i+1<=r.length from hi);rw[cD,Nat.one_mul] at this;omega
     have hdiv:(i*e.sz+j) / e.sz=i:=(Go.Sort.blk_iff e.sz i _ h1).1 ⟨by omega,by omega⟩;have hmod:(i*e.sz+j) % e.sz=j:=by rw[Nat.mod_eq_sub_div_mul,hdiv];omega
     have hget:(Go.Sort.putCells id 0 (Go.Sort.flatK (encT e) e.sz r.toArray) c)[i*e.sz+j]?=some u:=by
      have hlt:i*e.sz+j < c.size:=by rw[hrl] at hij;omega
      simp only[Go.Sort.putCells,Array.getElem?_mapIdx,cK hlt,cA,aW,dZ,bD,Nat.sub_zero,Go.Sort.size_flatK,dJ,hij,aH,id];rw[Go.Sort.get_flatK _ _ _ _ (by simpa using hij),hdiv,hmod]
      have hy2:r.toArray[i]! = y:=by
       rw[fZ _ _ (by simpa using hi)];have:=(aJ.1 hy).2
       simpa using this
      rw[hy2,fZ (encT e y) j hj];exact dF some (aJ.1 hu).2
     have hone:=Ro.one e (ro_enc (P:=P) (w:=w) (A:=A) e hs y) _ (bW hu);exact ce_of_cells hnew hget hone
    ·exact Ro.flat e _ (simp_flat e hs) (ro_enc e hs y)
end
end OT
namespace OT
open Go Go.Shelf Go.RowKit Go.Lib Go.Proofs
section
variable {P:Program} {ρ:Ren}
theorem run_clear_k (w:World) (t e ty:TypeId) (z:Value) (ht:P.underlying t=some (.slice e)) (hv:∀ w,(zeroValue e).run P w=.ok z w) (b o n c:Nat) (hn:0 < n)
  (hc:∀ j,j < (Builtin.zeroCells z.cells n).toList.length->(w.cell? ⟨b,o+j,none⟩).isSome=true) (hf:∀ j,j < (Builtin.zeroCells z.cells n).toList.length->w.frozen? ⟨b,o+j,none⟩=false) (h1:∀ v ∈ (Builtin.zeroCells z.cells n).toList,v.oneCell'=true) :
  (Builtin.clear_ #[t] ty #[.slice (some ⟨b,o,none⟩) n c]).run P w=.ok (.tuple #[]) (w.setCells b o (Builtin.zeroCells z.cells n).toList):=by
 have hst:=run_storeCells_cells (P:=P) b o (Builtin.zeroCells z.cells n).toList 0 w (by simpa using hc) (by simpa using hf) h1;simp only[eO] at hst
 obtain ⟨m,rfl⟩:∃ m,n=m+1:=⟨n - 1,by omega⟩
 simp[Builtin.clear_,run_underlying ht,hv,hst]
theorem some_setCells (b:Nat) (vs:List Value) (o:Nat) (w:World) (h:∀ j,j < vs.length->(w.cell? ⟨b,o+j,none⟩).isSome=true) (k:Nat) (hk:(w.cell? ⟨b,k,none⟩).isSome=true):((w.setCells b o vs).cell? ⟨b,k,none⟩).isSome=true:=by
 by_cases hin:o<=k/\k < o+vs.length
 ·have:=World.cell?_setCells_in b vs o w h (k - o) (by omega);rw[show o+(k - o)=k by omega] at this;rw[this];rfl
 ·rw[World.cell?_setCells_out b vs o w ⟨b,k,none⟩ (fun _ _=>by show k < o\/o+vs.length<=k;omega)];exact hk
set_option maxHeartbeats 4000000 in
set_option maxRecDepth 1000000 in
theorem del_calls (L:SlLaysE0.n45 P ρ) (k:Nat) (inf:TypeInfo) (zv:Value) (hi0:P.info? (ρ.t 23)=some inf) (hsk:inf.size=k) (hz:∀ w,(zeroValue (ρ.t 23)).run P w=.ok zv w) (hzk:zv.cells.size=k) (hz1:∀ n,∀ v ∈ (Builtin.zeroCells zv.cells n).toList,v.oneCell'=true)
  (b off n c i j:Nat) (cs:List Value) (w:World) (hcl:cs.length=n*k) (hcs:∀ t v,cs[t]?=some v->w.cell? ⟨b,off+t,none⟩=some v) (hfz:∀ t,t < n*k->w.frozen? ⟨b,off+t,none⟩=false) (h1c:∀ v ∈ cs,v.oneCell'=true)
  (hcap:n<=c) (hm:c<=9223372036854775807) (hij:i < j) (hj:j<=n) :
  Calls P (ρ.f 45) #[.slice (some ⟨b,off,none⟩) n c,.int .i64 i,.int .i64 j] w fun e w'=>e=.returned (.slice (some ⟨b,off,none⟩) (i+(n - j)) c) /\
   w'=(w.drew.setCells b (off+i*k) (cs.drop (j*k))).setCells b (off+(i+(n - j))*k) (Builtin.zeroCells zv.cells (n - (i+(n - j)))).toList:=by
 have mixed:=L.mixed;have t0:=L.t0;have a0:=L.a0;have z0:=L.z0;have v0:=L.v0;have t3:=L.t3;have a3:=L.a3;have z3:=L.z3;have v3:=L.v3;have t4:=L.t4;have a4:=L.a4;have z4:=L.z4;have v4:=L.v4;have t22:=L.t22;have a22:=L.a22;have z22:=L.z22;have v22:=L.v22
 have z23:∀ w,(Go.sizeOf (ρ.t 23)).run P w=.ok k w:=fun w=>by simp[Go.sizeOf,typeInfo,hi0,hsk]
 have hjk:j*k<=n*k:=aX _ hj
 obtain ⟨news,hnews⟩:∃ news,news=cs.drop (j*k):=⟨_,rfl⟩
 have hlen:news.length=(n - j)*k:=by rw[hnews,bM,hcl,fW]
 obtain ⟨A,hA,hsrc⟩:∃ A:Addr,(if c=j then some (⟨b,off,none⟩:Addr) else some ⟨b,off+j*k,none⟩)=some A/\Hid (∀ t u,news[t]?=some u->w.drew.cell? (A.add t)=some u):=by
  by_cases h:c=j
  ·refine ⟨⟨b,off,none⟩,by simp[h],fun t u hu=>?_⟩
   have h0:news.length=0:=by rw[hlen,show n - j=0 by omega,gA]
   rw[List.length_eq_zero_iff.1 h0] at hu;simp at hu
  ·refine ⟨⟨b,off+j*k,none⟩,by simp[h],fun t u hu=>?_⟩
   rw[hnews,bH] at hu;rw[Addr.add_lit,show off+j*k+t=off+(j*k+t) by omega];exact hcs _ u hu
 have s1:Hid (news.length=(n - j)*k):=hlen
 have s2:Hid (∀ u ∈ news,u.oneCell'=true):=by
  intro u hu;rw[hnews] at hu;exact h1c u (dK hu)
 have hsome:∀ t,t < n*k->(w.cell? ⟨b,off+t,none⟩).isSome=true:=fun t ht=>by rw[hcs t _ (aA (by omega))];rfl
 have hij2:i*k+(n - j)*k<=n*k:=by rw[<-cD];exact aX _ (by omega)
 have s3:Hid (∀ t,t < news.length->(w.drew.cell? ⟨b,off+i*k+t,none⟩).isSome=true/\w.drew.frozen? ⟨b,off+i*k+t,none⟩=false):=by
  intro t ht;rw[hlen] at ht;rw[cG];exact ⟨hsome _ (by omega),hfz _ (by omega)⟩
 obtain ⟨W1,hW1⟩:∃ W1,W1=w.drew.setCells b (off+i*k) news:=⟨_,rfl⟩
 have hZ:(Builtin.zeroCells zv.cells (n - (i+(n - j)))).toList.length=(n - (i+(n - j)))*k:=by simp[Builtin.zeroCells,hzk]
 have hnk:(i+(n - j))*k+(n - (i+(n - j)))*k=n*k:=by rw[<-cD];congr 1;omega
 have hcl2:∀ ty,(Builtin.clear_ #[ρ.t 22] ty #[.slice (some ⟨b,off+(i+(n - j))*k,none⟩) (n - (i+(n - j))) (c - (i+(n - j)))]).run P W1=.ok (.tuple #[]) (W1.setCells b (off+(i+(n - j))*k) (Builtin.zeroCells zv.cells (n - (i+(n - j)))).toList):=
  fun ty=>run_clear_k W1 _ _ ty zv t22 hz b (off+(i+(n - j))*k) _ _ (by omega) (fun t ht=>by
   rw[hZ] at ht;rw[hW1,cG]
   exact some_setCells b _ _ _ (fun t ht=>by rw[hlen] at ht;rw[cG];exact hsome _ (by omega)) _ (hsome _ (by omega))) (fun t ht=>by rw[hZ] at ht;rw[hW1,World.frozen?_setCells,cG];exact hfz _ (by omega)) (hz1 _)
 have hW:Hid (W1=w.drew.setCells b (off+i*k) news):=hW1;have hne:¬ (i:Int)=(j:Int):=by omega
 have hic:i<=c:=by omega
 have hjc:j<=c:=by omega
 have hcn:¬ c=i+(n - j):=by omega
 rw[<-hnews,<- hW1]
 obtain ⟨Z,hZd⟩:∃ Z,Z=(Builtin.zeroCells zv.cells (n - (i+(n - j)))).toList:=⟨_,rfl⟩
 rw[<-hZd] at hcl2 ⊢;clear hW1 hnews hlen hsome hcs hfz hcl h1c hZ hZd hz1 hzk;obtain ⟨_,_,FG⟩:=L.f45
 go_enter FG,SlBodyN.n45_ntmps ρ
 go_wp2_with fail
 go_region_law_o (refine step_append_room rfl (.tmp 22) (.tmp 25) (ρ.t 22) rfl (ρ.t 23) inf k t22 hi0 hsk b off i c (by simp[Act.eval,Act.put]) A (n - j) (c - j) news (by simp[Act.eval,Act.put]) s1.out hsrc.out s2.out (by omega) s3.out ?_;rw[<-hW.out])
 go_wp2
 go_ret
 exact ⟨rfl,rfl⟩
set_option maxHeartbeats 4000000 in
set_option maxRecDepth 1000000 in
theorem del_same (L:SlLaysE0.n45 P ρ) (b:Option Addr) (n c i:Nat) (w:World) (hin:i<=n) (hcap:n<=c) (hm:c<=9223372036854775807) (hb:∀ ad,b=some ad->ad.spot=none) (hnone:b=none->c=0) (k:Nat) (z23:∀ w,(Go.sizeOf (ρ.t 23)).run P w=.ok k w) :
  Calls P (ρ.f 45) #[.slice b n c,.int .i64 i,.int .i64 i] w fun e w'=>e=.returned (.slice b n c)/\w'=w:=by
 have mixed:=L.mixed;have t0:=L.t0;have a0:=L.a0;have z0:=L.z0;have v0:=L.v0;have t3:=L.t3;have a3:=L.a3;have z3:=L.z3;have v3:=L.v3;have t4:=L.t4;have a4:=L.a4;have z4:=L.z4;have v4:=L.v4;have t22:=L.t22;have a22:=L.a22;have z22:=L.z22;have v22:=L.v22
 have hic:i<=c:=by omega
 obtain ⟨_,_,FG⟩:=L.f45
 cases b with
 | none=>
  have h0:=hnone rfl;subst h0;have hn0:n=0:=by omega
  subst hn0;have hi0:i=0:=by omega
  subst hi0
  go_enter FG,SlBodyN.n45_ntmps ρ
  go_wp2
  all_goals (go_ret;exact ⟨rfl,rfl⟩)
 | some ad=>
  obtain ⟨b,off,sp⟩:=ad;have:=hb _ rfl;simp only at this;subst this
  go_enter FG,SlBodyN.n45_ntmps ρ
  go_wp2
  all_goals (go_ret;exact ⟨rfl,rfl⟩)
theorem zone (w:World) {e:Ty} {i:TypeId} (hl:layB P e (.inl i)=true) (hz:e.zok=true) {inf:TypeInfo} {zv:Value} (h1:P.info? i=some inf) (h2:inf.zero=some zv):∀ n,∀ v ∈ (Builtin.zeroCells zv.cells n).toList,v.oneCell'=true:=by
 obtain ⟨L,hL⟩:=zok_some e hz;obtain ⟨inf',z',i1,i2,i3,i4,i5,i6⟩:=infoOk_zero (layB_info hl);rw[h1] at i1;injection i1 with i1;subst i1;rw[h2] at i4;injection i4 with i4;subst i4;have hc:=i6 L hL;obtain ⟨r1,_,_⟩:=zc_ok (P:=P) (w:=w) (A:=fun _ _=>True) e hL hl;have hone:=Rep.one _ r1;intro n v hv;refine hone v ?_;rw[<-hc];simp only[Builtin.zeroCells,Array.toList_map,gO,Array.toList_range,dC] at hv;obtain ⟨j,hj,rfl⟩:=hv
 have hpos:0 < zv.cells.size:=by
  rcases bA zv.cells.size with h0 | h0
  ·rw[h0,Nat.mul_zero] at hj;omega
  ·exact h0
 have:=iD j hpos;rw[fZ zv.cells _ this];simp
theorem rep_laid {w w':World} {A:Cells} {F0:FP} {e:Ty} {me:Md} {b cap:Nat} {vs:List e.den} {news:List Value} {Hi:Nat->FP} {F1:FP}
  (hw:Ext w w' (rng b 0 (cap*e.sz))) (hcap:cap<=maxLen) (hown:OwnBlk w' b (cap*e.sz,isU8 e)) (hlen:List.length vs<=cap) (hhas:Has w' b 0 news)
  (hel:∀ (i:Nat) (y:e.den),vs[i]?=some y->Rep P w A e me [] y ((news.drop (i*e.sz)).take e.sz) (Hi i))
  (hF:∀ b' i,rng b 0 (cap*e.sz) b' i+sumF (List.length vs) Hi b' i<=F1 b' i) (hle:∀ b' i,F1 b' i<=F0 b' i) (h1:∀ b i,F0 b i<=1) (hdis:∀ b i,1<=F0 b i->¬ A b i) (hbnd:∀ b i,1<=F0 b i\/A b i->b < w.heap.size) :
  Rep P w' A (.slc e) (.slc true me) [] vs [.slice (some ⟨b,0,none⟩) (List.length vs) cap] F1:=by
 simp only[Rep,hole,bQ,aD,aM,ownMd,mdOf,Md.own,aH,Md.e];refine ⟨some ⟨b,0,none⟩,cap,rfl,hlen,hcap,(fun e=>by cases e),fun ad e2=>?_⟩
 injection e2 with e2;subst e2;refine ⟨rfl,rfl,hown,Hi,hF,fun i y hy=>?_⟩
 have hr:=hel i y hy;have hi:=(aJ.1 hy).1;refine ⟨_,Rep.length _ hr,fun j u hu=>?_,?_⟩
 ·rw[bF] at hu;split at hu
  ·rw[bH] at hu;have:=hhas _ u hu;rw[bD] at this;exact this
  ·cases hu
 ·simp only[eF];refine Rep.mono (P:=P) (fun _ _ h=>h) (fun b' k ha u hu=>hw.cell b' k (hbnd b' k (.inr ha)) ?_ u hu) hw.blk e hr (fun _ _=>aK _) (fun b' k hp u hu=>hw.cell b' k ?_ ?_ u hu)
  ·rcases bA (rng b 0 (cap*e.sz) b' k) with h0 | h0
   ·exact h0
   ·exact absurd ha (hdis b' k (by have:=hF b' k;have:=hle b' k;omega))
  ·exact hbnd b' k (.inl (by have:=le_sumF Hi hi b' k;have:=hF b' k;have:=hle b' k;omega))
  ·rcases bA (rng b 0 (cap*e.sz) b' k) with h0 | h0
   ·exact h0
   ·have:=le_sumF Hi hi b' k;have:=hF b' k;have:=hle b' k;have:=h1 b' k;omega
def delF (e:Ty) (v:List e.den×Int×Int×Unit):Option (List e.den×Unit):=if 0<=v.2.1/\v.2.1<=v.2.2.1/\v.2.2.1<=(v.1.length:Int) then some (v.1.take v.2.1.toNat++v.1.drop v.2.2.1.toNat,()) else none
def delIn (i j:Int) (k:Nat):Bool:=decide (i<=(k:Int))&&decide ((k:Int) < j)
def delH (i j:Int):List Path->Bool
 | []=>true
 | [.idx k::_]=>delIn i j k
 | _=>false
theorem delH_facts {i j:Int} {H:List Path} (h:delH i j H=true):hole H=false/\(j<=i->H=[])/\∀ t:Nat,((t:Int) < i\/j<=(t:Int))->H.filterMap (stripI t)=[]:=by
 unfold delH at h;split at h
 ·exact ⟨rfl,fun _=>rfl,fun _ _=>rfl⟩
 ·rename_i k q;simp only[delIn,aC,bU] at h;refine ⟨rfl,fun hij=>by omega,fun t ht=>?_⟩
  have hne:¬ t=k:=by omega
  simp[stripI,hne]
 ·cases h
theorem delete_ok (L:SlLaysE0.n45 P ρ) {e:Ty} {me:Md} (hl:layB P e (.inl (ρ.t 23))=true) (h1:1<=e.sz) (hzk:e.zok=true) (he:EnterOk P (ρ.f 45) false) :
  Ok P (ρ.f 45) { ps:=[(.eatv (.slc true me),.slc e),(.ro,.int .i64),(.ro,.int .i64)],rs:=[(.slc e,.slc true me)],F:=delF e,hol:=fun v H=>delH v.2.1 v.2.2.1 H }:=by
 refine ⟨?_,he⟩
 intro w A F0 v xs hargs hle hdis hbnd out hout;obtain ⟨vs,i,j,⟨⟩⟩:=v;obtain ⟨x,xs',F1,F2,rfl,hF,⟨H,cs,hH,rfl,hrep⟩,x2,xs2,F3,F4,rfl,hF2,⟨cs2,rfl,hi⟩,x3,xs3,F5,F6,rfl,hF3,⟨cs3,rfl,hj⟩,hnil⟩:=hargs;have hnil:xs3=[]:=hnil;subst hnil;have hrep:Rep P w A (.slc e) (.slc true me) H vs cs F1:=hrep;have hH:delH i j H=true:=hH;obtain ⟨hH1,hH2,hH3⟩:=delH_facts hH;have hi:cs2=[.int .i64 i]:=hi;have hj:cs3=[.int .i64 j]:=hj;subst hi;subst hj;have hout:delF e (vs,i,j,())=some out:=hout;unfold delF at hout;split at hout;rotate_left
 ·cases hout
 rename_i hb;obtain ⟨b1,b2,b3⟩:=hb;simp only at b1 b2 b3 hout;injection hout with hout;subst hout;obtain ⟨ni,rfl⟩:=dE b1;obtain ⟨nj,rfl⟩:=dE (Int.le_trans b1 b2);simp only[aI];have hij:ni<=nj:=by omega
 have hjn:nj<=List.length vs:=by omega
 obtain ⟨inf,zv,i1,i2,i3,i4,i5,_⟩:=infoOk_zero (layB_info hl);have hz:∀ w,(zeroValue (ρ.t 23)).run P w=.ok zv w:=fun w=>by simp[zeroValue,typeInfo,i1,i4]
 have z23:∀ w,(Go.sizeOf (ρ.t 23)).run P w=.ok e.sz w:=fun w=>by simp[Go.sizeOf,typeInfo,i1,i2]
 obtain ⟨xa,cap,olds,Fi,r1,r2,r3,r4,r5,r6,r7,r8⟩:=slc_elemsH hH1 (v:=vs) hrep;obtain ⟨c1,c2,c3,c4⟩:=r8 rfl;subst r1;have hmax:cap<=9223372036854775807:=by unfold maxLen at c2;omega
 have hx:(mkV (.slc e) [.slice xa (List.length vs) cap]::[mkV (.int .i64) [.int .i64 (ni:Int)],mkV (.int .i64) [.int .i64 (nj:Int)]]).toArray=#[.slice xa (List.length vs) cap,.int .i64 ni,.int .i64 nj]:=rfl;show Calls P (ρ.f 45) (mkV (.slc e) [.slice xa (List.length vs) cap]::[mkV (.int .i64) [.int .i64 (ni:Int)],mkV (.int .i64) [.int .i64 (nj:Int)]]).toArray w _;rw[hx]
 have hfin:∀ (w':World) (rv:Value),Ext w w' F0->(∃ cs,rv=mkV (.slc e) cs/\Rep P w' A (.slc e) (.slc true me) [] (vs.take ni++vs.drop nj) cs F1) ->
   ∃ rv',Ending.returned rv=.returned rv'/\Ext w w' F0/\∃ (A':Cells) (G GR GM:FP),(∀ b i,A b i->A' b i)/\(∀ b i,A' b i->A b i\/1<=F0 b i\/w.heap.size<=b)/\(∀ b i,1<=G b i->1<=F0 b i\/w.heap.size<=b)/\(∀ b i,G b i<=1)/\(∀ b i,1<=G b i->¬ A' b i)/\(∀ b i,1<=G b i\/A' b i->b < w'.heap.size)/\(∀ b i,GR b i+GM b i<=G b i) /\
   RetRel P w' A' [⟨.slc e,.slc true me,vs.take ni++vs.drop nj⟩] rv' GR/\MutsRel P w' A' [(.eatv (.slc true me),.slc e),(.ro,.int .i64),(.ro,.int .i64)] () [mkV (.slc e) [.slice xa (List.length vs) cap],mkV (.int .i64) [.int .i64 (ni:Int)],mkV (.int .i64) [.int .i64 (nj:Int)]] GM:=fun w' rv hext hr=>
  ⟨_,rfl,hext,A,F0,F1,fun _ _=>0,fun _ _ h=>h,fun _ _ h=>.inl h,fun _ _ h=>.inl h,hle,hdis,fun b i h=>cL (hbnd b i h) hext.size,fun b i=>by have:=hF b i;show F1 b i+0<=F0 b i;omega,hr,trivial⟩
 by_cases heq:ni=nj
 ·subst heq;refine (del_same L xa (List.length vs) cap ni w hjn c1 hmax (fun ad had=>(c4 ad had).2.1) c3 e.sz z23).mono ?_;rintro ex w' ⟨rfl,rfl⟩;refine hfin _ _ (Ext.refl _ _) ⟨_,(mkV_one _ _ rfl).symm,?_⟩;rw[cO];have hrep':=hrep;rw[hH2 (iI _)] at hrep';exact hrep'
 ·cases xa with
  | none=>have:=c3 rfl;omega
  | some ad=>
   obtain ⟨q1,q2,q3,q4⟩:=c4 ad rfl;obtain ⟨_,d5⟩:=r3 ad rfl;obtain ⟨b,off,sp⟩:=ad;simp only at q1 q2 q3 q4 d5;subst q1;subst q2;have hle1:List.length vs*e.sz<=cap*e.sz:=aX _ c1
   have hcell:∀ t,t < cap*e.sz->(w.cell? ⟨b,t,none⟩).isSome=true:=fun t ht=>by
    obtain ⟨c,e',fr,w1,w2,w3⟩:=q3;unfold World.cell?;simp only[w1,eE,aD,aM];rw[cK (by simp only at w2;omega)];rfl
   have hkit:=del_calls L e.sz inf zv i1 i2 hz i5 (zone w hl hzk i1 i4) b 0 (List.length vs) cap ni nj olds w r4 (fun t u hu=>ce_cell (d5 t u hu) (r5 u (bW hu))) (fun t ht=>by rw[bD];exact q3.frozen (by simp only;omega)) r5 c1 hmax (by omega) hjn;refine hkit.mono ?_;rintro ex w' ⟨rfl,hw⟩;simp only[bD] at hw;have hnew:List.length (vs.take ni++vs.drop nj)=ni+(List.length vs - nj):=by simp;omega
   have m1:ni*e.sz+(List.length vs - nj)*e.sz=(ni+(List.length vs - nj))*e.sz:=by rw[cD]
   have m2:(ni+(List.length vs - nj))*e.sz<=List.length vs*e.sz:=aX _ (by omega);have m3:(olds.drop (nj*e.sz)).length=(List.length vs - nj)*e.sz:=by rw[bM,r4,fW]
   have hZ:(Builtin.zeroCells zv.cells (List.length vs - (ni+(List.length vs - nj)))).toList.length=(List.length vs - (ni+(List.length vs - nj)))*e.sz:=by simp[Builtin.zeroCells,i5]
   have m4:(ni+(List.length vs - nj))*e.sz+(List.length vs - (ni+(List.length vs - nj)))*e.sz=List.length vs*e.sz:=by rw[<-cD];congr 1;omega
   have x1:=ext_setCells (b:=b) (o:=ni*e.sz) (olds.drop (nj*e.sz)) w.drew (ni*e.sz);have x2:=ext_setCells (b:=b) (o:=(ni+(List.length vs - nj))*e.sz) (Builtin.zeroCells zv.cells (List.length vs - (ni+(List.length vs - nj)))).toList (w.drew.setCells b (ni*e.sz) (olds.drop (nj*e.sz))) ((ni+(List.length vs - nj))*e.sz)
   have hx1:∀ b' t,rng b 0 (cap*e.sz) b' t=0->rng b (ni*e.sz) (olds.drop (nj*e.sz)).length b' t=0:=fun b' t h0=>by
    simp only[rng] at h0 ⊢;split at h0
    ·cases h0
    ·rw[aY (by omega)]
   have hx2:∀ b' t,rng b 0 (cap*e.sz) b' t=0->rng b ((ni+(List.length vs - nj))*e.sz) (Builtin.zeroCells zv.cells (List.length vs - (ni+(List.length vs - nj)))).toList.length b' t=0:=fun b' t h0=>by
    simp only[rng] at h0 ⊢;split at h0
    ·cases h0
    ·rw[aY (by omega)]
   have hext:Ext w w' (rng b 0 (cap*e.sz)):=by
    rw[hw];exact (((ext_drew w).mono (fun _ _ _=>rfl)).trans (x1.mono hx1) (fun _ _ _ h=>h)).trans (x2.mono hx2) (fun _ _ _ h=>h)
   refine hfin w' _ (hext.mono fun b' t h0=>by have:=q4 b' t;have:=hF b' t;omega) ⟨[.slice (some ⟨b,0,none⟩) (ni+(List.length vs - nj)) cap],(mkV_one _ _ rfl).symm,?_⟩;rw[<-hnew];refine rep_laid (news:=olds.take (ni*e.sz)++olds.drop (nj*e.sz)) (Hi:=fun t=>if t < ni then Fi t else Fi (nj+(t - ni))) (F0:=F0) hext c2 (hext.blk _ _ q3) (by rw[hnew];omega) ?_ ?_ (fun b' t=>?_) (fun b' t=>by have:=hF b' t;omega) hle hdis hbnd
   ·intro t u hu;rw[bD];have hl1:(olds.take (ni*e.sz)).length=ni*e.sz:=by rw[bS,r4];omega
    rw[hw]
    have hin2:t < (ni+(List.length vs - nj))*e.sz:=by
     have:=(aJ.1 hu).1;rw[aU,hl1,m3] at this;omega
    refine x2.cell b t ?_ ?_ u ?_
    ·have:=x1.size;have hb:=q3.lt;exact cL hb x1.size
    ·simp only[rng];rw[aY (by omega)]
    ·by_cases ht:t < ni*e.sz
     ·rw[bX (by omega),bF,aV ht] at hu;refine x1.cell b t q3.lt ?_ u ?_
      ·simp only[rng];rw[aY (by omega)]
      ·have:=d5 t u hu;rw[bD] at this;exact this
     ·rw[bR (by omega),hl1] at hu;have:=has_setCells (w:=w.drew) (b:=b) (o:=ni*e.sz) (L:=olds.drop (nj*e.sz)) (fun k hk=>by rw[m3] at hk;exact hcell _ (by omega)) (fun u hu=>r5 u (dK hu)) _ u hu;rw[show ni*e.sz+(t - ni*e.sz)=t by omega] at this;exact this
   ·have hl1:(olds.take (ni*e.sz)).length=(vs.take ni).length*e.sz:=by rw[bS,bS,r4,eW (show ni<=List.length vs by omega),eW (aX _ (by omega))]
    have hr:=two_rows (P:=P) (w:=w) (A:=A) (e:=e) (me:=me) (v:=vs.take ni) (y:=vs.drop nj) (Fi:=Fi) (Gi:=fun t=>Fi (nj+t)) hl1 (fun t z hz=>by
      rw[bF] at hz;split at hz
      ·rename_i ht;have:=r6 t z hz;rw[hH3 t (.inl (by omega))] at this;have h6:t*e.sz+e.sz<=ni*e.sz:=by rw[<-eS];exact aX _ (by omega)
       rw[eD,fA,eW (by omega)];exact this
      ·cases hz) (fun t z hz=>by
      rw[bH] at hz;have:=r6 (nj+t) z hz;rw[hH3 (nj+t) (.inr (by omega))] at this;rw[dB,<- cD]
      exact this)
    intro t z hz;have:=hr t z hz;have hl2:(vs.take ni).length=ni:=by simp;omega
    rw[hl2] at this;exact this
   ·rw[hnew];have s1:=two_sums ni (List.length vs - nj) Fi (fun t=>Fi (nj+t)) b' t;have s2:=sumF_add nj (List.length vs - nj) Fi b' t;have s3:=sumF_part (List.length vs) Fi 0 ni (by omega) b' t;have s4:=sumF_add ni (nj - ni) Fi b' t;rw[show ni+(nj - ni)=nj by omega] at s4;rw[show nj+(List.length vs - nj)=List.length vs by omega] at s2;have:=q4 b' t;have e1:sumF (ni+(List.length vs - nj)) (fun t=>if t < ni then Fi t else Fi (nj+(t - ni))) b' t=sumF ni Fi b' t+sumF (List.length vs - nj) (fun t=>Fi (nj+t)) b' t:=s1;omega
end
end OT
namespace OT
open Go Go.Shelf Go.RowKit Go.Lib Go.Proofs
section
variable {P:Program} {ρ:Ren}
theorem wp_copy_k (w:World) {o:Oper} {a:Act} {K:Act->World->Prop} {Q:Exit->Act->World->Prop} (d s:Operand) (t t':TypeId)
  (ho:o.op=.call { callee:=.builtin .copy,args:=#[d,s],argTypes:=#[t,t'] }) (v u:Value) (hd:a.eval d=v) (hs:a.eval s=u) {v':Value} {w':World}
  (hr:(Builtin.copy_ #[t,t'] o.type #[v,u]).run P w=.ok v' w') (h:K (a.put o.dst v') w'):o.wp P a w K Q:=by
 unfold Oper.wp execOp;simp only[ho,resolve,invoke,builtin,Sem.run_bind,Sem.run_pure,Result.andThen_ok,List.map_toArray,cS,fY,hd,hs,hr];exact h
theorem wpList_copy_k (w:World) {ops:Array Oper} {rest:List Oper} {o:Oper} {a:Act} {Q:Exit->Act->World->Prop} (hgd:o.guard=none) (d s:Operand) (t t':TypeId)
  (ho:o.op=.call { callee:=.builtin .copy,args:=#[d,s],argTypes:=#[t,t'] }) (v u:Value) (hd:a.eval d=v) (hs:a.eval s=u) {v':Value} {w':World}
  (hr:(Builtin.copy_ #[t,t'] o.type #[v,u]).run P w=.ok v' w') (h:wpList P ops Q rest (a.put o.dst v') w'):wpList P ops Q (o::rest) a w:=
 wpList_plain hgd fun _ hK=>wp_copy_k w d s t t' ho v u hd hs hr (hK _ _ h)
theorem step_copy_k {ops:Array Oper} {o:Oper} {a:Act} {w:World} {K:Act->World->Prop} {Q:Exit->Act->World->Prop} {E:Prop}
  (hg:o.guard=none) (d x:Operand) (dT sT:TypeId) (hop:o.op=Op.call { callee:=Callee.builtin Builtin.copy,args:=#[d,x],argTypes:=#[dT,sT] })
  (v u:Value) (hd:a.eval d=v) (hx:a.eval x=u) {v':Value} {w':World} (hr:(Builtin.copy_ #[dT,sT] o.type #[v,u]).run P w=.ok v' w') (hK:K (a.put o.dst v') w') :
  if Region.wanted o (yielded ops a.tmps)=true then Oper.wp P o a w K Q else E:=by
 have hw:Region.wanted o (yielded ops a.tmps)=true:=by simp[Region.wanted,hg]
 rw[aV hw];unfold Oper.wp;simp[execOp,hop,resolve,invoke,builtin,hd,hx,hr,Result.andThen];exact hK
theorem run_copy_k (w:World) (dT sT ty elem:TypeId) (inf:TypeInfo) (b o dLen dCap:Nat) (a:Addr) (sLen sCap:Nat) (cs:List Value)
  (hu:P.underlying dT=some (.slice elem)) (hs:P.info? elem=some inf) (hn:cs.length=Nat.min sLen dLen*inf.size)
  (hsrc:∀ j v,cs[j]?=some v->w.cell? (a.add j)=some v) (hc:∀ j,j < cs.length->(w.cell? ⟨b,o+j,none⟩).isSome=true) (hf:∀ j,j < cs.length->w.frozen? ⟨b,o+j,none⟩=false) (h1:∀ v ∈ cs,v.oneCell'=true) :
  (Builtin.copy_ #[dT,sT] ty #[.slice (some ⟨b,o,none⟩) dLen dCap,.slice (some a) sLen sCap]).run P w=.ok (goInt (Nat.min sLen dLen)) (w.setCells b o cs):=by
 have hl:=run_loadCells_list (P:=P) w a cs hsrc;have hst:=run_storeCells_cells (P:=P) b o cs 0 w (by simpa using hc) (by simpa using hf) h1;simp[Builtin.copy_,run_underlying hu,Builtin.lenOf,Builtin.firstCells,Go.sizeOf,typeInfo,hs,<- hn,hl,hst]
structure InsLay (P:Program) (ρ:Ren) (e:Ty):Prop where
 mixed:P.follows .mixedOrders=true
 f22:Bears P (ρ.f 22) (Body2.n22 ρ)
 f29:∃ fn,P.funcs[ρ.f 29]?=some fn/\(fn.name == "runtime.NumGoroutine")=false/\fn.body.isNone=true/\Extern.findNext fn=none/\Extern.find fn=some (Extern.SlicesOverlaps.overlaps #[ρ.t 24,ρ.t 24] #[ρ.t 4])
 l3:layB P (.int .i64) (.inl (ρ.t 3))=true
 l4:layB P .bool (.inl (ρ.t 4))=true
 l24:layB P (.slc e) (.inl (ρ.t 24))=true
 t24:P.underlying (ρ.t 24)=some (TypeDesc.slice (ρ.t 9))
 l9:layB P e (.inl (ρ.t 9))=true
 z3:(P.info? (ρ.t 3)).bind (·.zero)=some (Value.int IntKind.i64 0)
 z4:(P.info? (ρ.t 4)).bind (·.zero)=some (Value.bool false)
 z24:(P.info? (ρ.t 24)).bind (·.zero)=some (Value.slice none 0 0)
theorem run_overlaps_b (w:World) (tS tR e:TypeId) (ht:P.underlying tS=some (.slice e)) (size:Nat) (hz:∀ w,(Go.sizeOf e).run P w=.ok size w)
  (a b:Addr) (la ca lb cb:Nat) (hne:a.block≠b.block) (tA tB:TypeId) (kA kB:Nat)
  (hsa:w.shape? a.block=some (tA,kA)) (hsb:w.shape? b.block=some (tB,kB)) (hkA:kA≠0)
  (hfb:w.frozen? b=false) (hfe:w.frozen? { block:=b.block,off:=kB }=false) :
  (Extern.SlicesOverlaps.overlaps #[tS,tS] #[tR] #[.slice (some a) la ca,.slice (some b) lb cb]).run P w=.ok (.bool false) w:=by
 have hnb:(a.block != b.block)=true:=by simpa using hne
 have hnb':(a.block == b.block)=false:=by simpa using hne
 change Sem.run P (α:=Value) (do
  let some t:=(#[tS,tS]:Array TypeId)[0]? | stuck "slices.overlaps: no parameter types"
  let .slice elem <- underlying t | stuck "slices.overlaps: slice type expected"
  let size <- Go.sizeOf elem
  match (some a:Option Addr),(some b:Option Addr) with
  | some a,some b=>
   if la=0\/lb=0\/size=0 then pure (Value.bool false)
   else if a.block != b.block&&(<- frozen a)&&(<- frozen b) then unsupported .addressObserved
   else do
    if a.block != b.block then do
     noView a;noView b
     if <- mayBeOne a b then return Value.bool ((<- choose (.extern "sameAddr.stringBytes" 2)) == 1)
    pure (Value.bool (a.block == b.block&&a.off < b.off+lb*size&&b.off < a.off+la*size))
  | _,_=>pure (Value.bool false)) w=_
 by_cases h0:la=0\/lb=0\/size=0
 ·simp[run_underlying ht,hz,h0]
 ·cases kA with
  | zero=>exact absurd rfl hkA
  | succ kA=>
   cases hfa:w.frozen? a with
   | true=>simp[run_underlying ht,hz,h0,hnb,hnb',frozen,noView,viewAt,mayBeOne,stringish,shape,Sem.run,hsa,hsb,hfa,hfb,hfe]
   | false=>
    cases hfa2:w.frozen? { block:=a.block,off:=kA+1 } with
    | true=>simp[run_underlying ht,hz,h0,hnb,hnb',frozen,noView,viewAt,mayBeOne,stringish,shape,Sem.run,hsa,hsb,hfa,hfa2,hfb,hfe]
    | false=>simp[run_underlying ht,hz,h0,hnb,hnb',frozen,noView,viewAt,mayBeOne,stringish,shape,Sem.run,hsa,hsb,hfa,hfa2,hfb,hfe]
structure InsFacts (P:Program) (ρ:Ren) (k:Nat) (inf:TypeInfo) (zv:Value):Prop where
 mixed:P.follows .mixedOrders=true
 f22:Bears P (ρ.f 22) (Body2.n22 ρ)
 f29:∃ fn,P.funcs[ρ.f 29]?=some fn/\(fn.name == "runtime.NumGoroutine")=false/\fn.body.isNone=true/\Extern.findNext fn=none/\Extern.find fn=some (Extern.SlicesOverlaps.overlaps #[ρ.t 24,ρ.t 24] #[ρ.t 4])
 t3:P.underlying (ρ.t 3)=some (TypeDesc.int IntKind.i64)
 a3:∀ w,(Go.isAgg (ρ.t 3)).run P w=.ok false w
 z3:∀ w,(Go.sizeOf (ρ.t 3)).run P w=.ok 1 w
 v3:∀ w,(zeroValue (ρ.t 3)).run P w=.ok (Value.int IntKind.i64 0) w
 t4:P.underlying (ρ.t 4)=some (TypeDesc.bool)
 a4:∀ w,(Go.isAgg (ρ.t 4)).run P w=.ok false w
 z4:∀ w,(Go.sizeOf (ρ.t 4)).run P w=.ok 1 w
 v4:∀ w,(zeroValue (ρ.t 4)).run P w=.ok (Value.bool false) w
 t24:P.underlying (ρ.t 24)=some (TypeDesc.slice (ρ.t 9))
 a24:∀ w,(Go.isAgg (ρ.t 24)).run P w=.ok false w
 z24:∀ w,(Go.sizeOf (ρ.t 24)).run P w=.ok 1 w
 v24:∀ w,(zeroValue (ρ.t 24)).run P w=.ok (Value.slice none 0 0) w
 z9:∀ w,(Go.sizeOf (ρ.t 9)).run P w=.ok k w
 i9:P.info? (ρ.t 9)=some inf
 is:inf.size=k
 iz:inf.zero=some zv
 ik:zv.cells.size=k
 hk:1<=k
set_option maxHeartbeats 4000000 in
set_option maxRecDepth 100000 in
theorem ins_shift {k:Nat} {inf:TypeInfo} {zv:Value} (L:InsFacts P ρ k inf zv) (b off n c i vb voff m vc:Nat) (cs vs:List Value) (w:World) (hi:i < n) (hm:0 < m) (hroom:n+m<=c) (hc63:c<=9223372036854775807) (hvb:vb≠b)
  (hcl:cs.length=n*k) (hvl:vs.length=m*k)
  (hcs:∀ j v,cs[j]?=some v->w.cell? ⟨b,off+j,none⟩=some v) (hsp:∀ j,j < (n+m)*k->(w.cell? ⟨b,off+j,none⟩).isSome=true) (hfz:∀ j,j < (n+m)*k->w.frozen? ⟨b,off+j,none⟩=false)
  (hvs:∀ j v,vs[j]?=some v->w.cell? ⟨vb,voff+j,none⟩=some v) (h1c:∀ v ∈ cs,v.oneCell'=true) (h1v:∀ v ∈ vs,v.oneCell'=true)
  (tA tB:TypeId) (kA kB:Nat) (hsa:w.shape? vb=some (tA,kA)) (hsb:w.shape? b=some (tB,kB)) (hkA:kA≠0) (hfe:w.frozen? ⟨b,kB,none⟩=false) :
  Calls P (ρ.f 22) #[.slice (some ⟨b,off,none⟩) n c,.int .i64 i,.slice (some ⟨vb,voff,none⟩) m vc] w fun e w'=>
   e=.returned (.slice (some ⟨b,off,none⟩) (n+m) c)/\w'=(w.drew.setCells b (off+(i+m)*k) (cs.drop (i*k))).setCells b (off+i*k) vs:=by
 have t3:=L.t3;have a3:=L.a3;have z3:=L.z3;have v3:=L.v3;have t4:=L.t4;have a4:=L.a4;have z4:=L.z4;have v4:=L.v4;have z9:=L.z9;have t24:=L.t24;have a24:=L.a24;have z24:=L.z24;have v24:=L.v24
 have u3:=run_underlying L.t3;have u4:=run_underlying L.t4;have u24:=run_underlying L.t24
 have hz1:¬ ((m:Int)=0):=by omega
 have hz2:¬ ((i:Int)=(n:Int)):=by omega
 have hk:=L.hk;have hmk:i*k+m*k=(i+m)*k:=by rw[cD]
 have hnm:n*k+m*k=(n+m)*k:=by rw[cD]
 have hik:i*k < n*k:=iW hi hk;have hmk0:1<=m*k:=gK hm hk
 have hov:∀ lb cb,(callFunc (ρ.f 29) #[.slice (some ⟨vb,voff,none⟩) m vc,.slice (some ⟨b,off+(i+m)*k,none⟩) lb cb]).run P w=.ok (.value (.bool false)) w:=fun lb cb=>by
  obtain ⟨fn,hf,hn1,hn2,hn3,hn4⟩:=L.f29
  rw[run_callFunc_extern hf hn1 hn2 hn3 hn4,
   run_overlaps_b w (ρ.t 24) (ρ.t 4) (ρ.t 9) L.t24 k L.z9 ⟨vb,voff,none⟩ ⟨b,off+(i+m)*k,none⟩ m vc lb cb hvb tA tB kA kB hsa hsb hkA (hfz _ (by omega)) hfe]
  rfl
 have hdl:(cs.drop (i*k)).length=(n - i)*k:=by rw[bM,hcl,fW]
 have mixed:=L.mixed;have hw1:IntKind.i64.wrap ((i:Int)+(m:Int))=(i:Int)+(m:Int):=by rw[IntKind.wrap_i64];omega
 have hb1:(0:Int)<=(i:Int)+(m:Int):=by omega
 have hin:i<=n:=by omega
 have htn:((i:Int)+(m:Int)).toNat=i+m:=by omega
 have hb2:¬ (c=i+m):=by omega
 have hb3:(i:Int)<=(n:Int)+(m:Int):=by omega
 have hb4:¬ (c=i):=by omega
 have hni:(n - i)*k=n*k - i*k:=fW _ _ _
 have hcp1:∀ ty dc sc,(Builtin.copy_ #[(ρ.t 24),(ρ.t 24)] ty #[.slice (some ⟨b,off+(i+m)*k,none⟩) (n+m - (i+m)) dc,.slice (some ⟨b,off+i*k,none⟩) (n+m - i) sc]).run P w.drew=.ok (goInt (Nat.min (n+m - i) (n+m - (i+m)))) (w.drew.setCells b (off+(i+m)*k) (cs.drop (i*k))):=fun ty dc sc=>
  run_copy_k w.drew _ _ ty (ρ.t 9) inf b (off+(i+m)*k) (n+m - (i+m)) dc ⟨b,off+i*k,none⟩ (n+m - i) sc (cs.drop (i*k)) L.t24 L.i9 (by rw[hdl,L.is];congr 1;simp only[iH];split <;> omega)
   (fun j v hj=>by rw[Addr.add_lit,cG];exact hcs (i*k+j) v (by rwa [bH] at hj))
   (fun j hj=>by rw[cG];exact hsp _ (by omega)) (fun j hj=>by rw[cG];exact hfz _ (by omega)) (fun v hv=>h1c v (dK hv))
 obtain ⟨W1,hW1⟩:∃ W1,W1=w.drew.setCells b (off+(i+m)*k) (cs.drop (i*k)):=⟨_,rfl⟩
 have hsp1:∀ t,t < (n+m)*k->(W1.cell? ⟨b,off+t,none⟩).isSome=true:=fun t ht=>by
  rw[hW1];exact some_setCells b _ _ _ (fun j hj=>by rw[cG];exact hsp _ (by omega)) _ (hsp t ht)
 have hcp2:∀ (W:World),(∀ x,W.cell? x=W1.cell? x)->(∀ x,W.frozen? x=W1.frozen? x)->∀ ty dc,(Builtin.copy_ #[(ρ.t 24),(ρ.t 24)] ty #[.slice (some ⟨b,off+i*k,none⟩) (n+m - i) dc,.slice (some ⟨vb,voff,none⟩) m vc]).run P W=.ok (goInt (Nat.min m (n+m - i))) (W.setCells b (off+i*k) vs):=fun W hWc hWf ty dc=>
  run_copy_k W _ _ ty (ρ.t 9) inf b (off+i*k) (n+m - i) dc ⟨vb,voff,none⟩ m vc vs L.t24 L.i9 (by rw[hvl,L.is];congr 1;simp only[iH];split <;> omega)
   (fun j v hj=>by
    rw[Addr.add_lit,hWc,hW1,World.cell?_setCells_out b _ _ _ _ (fun h _=>absurd h hvb)]
    exact hvs j v hj)
   (fun j hj=>by rw[hWc,cG];exact hsp1 _ (by omega)) (fun j hj=>by rw[hWf,hW1,World.frozen?_setCells,cG];exact hfz _ (by omega)) h1v
 rw[<-hW1] at hcp1;obtain ⟨_,_,FG⟩:=L.f22
 go_enter FG,Body2.n22_ntmps ρ
 go_wp2_with (simp only[hov])
 go_region_law_o (refine step_copy_k rfl _ _ (ρ.t 24) (ρ.t 24) rfl _ _ (by simp[Act.eval,Act.put]) (by simp[Act.eval,Act.put]) (hcp1 _ _ _) ?_)
 go_wp2_with (at_builtin;refine wpList_copy_k _ rfl _ _ (ρ.t 24) (ρ.t 24) rfl _ _ rfl rfl (hcp2 _ (fun _=>rfl) (fun _=>rfl) _ _) ?_)
 go_ret
 first | exact ⟨rfl,rfl⟩ | exact ⟨rfl,by rw[hW1]⟩
set_option maxHeartbeats 4000000 in
set_option maxRecDepth 100000 in
theorem ins_end {k:Nat} {inf:TypeInfo} {zv:Value} (L:InsFacts P ρ k inf zv) (base:Option Addr) (n c m vc:Nat) (ya:Option Addr) (w w':World) (v':Value) (hm:0 < m) (hnc:n<=c) (hc63:c<=9223372036854775807) (hnil:base=none->c=0) (hb:∀ ad,base=some ad->ad.spot=none)
  (hrun:∀ ty,(Builtin.append_ #[(ρ.t 24),(ρ.t 24)] ty #[.slice base n c,.slice ya m vc]).run P w=.ok v' w') :
  Calls P (ρ.f 22) #[.slice base n c,.int .i64 n,.slice ya m vc] w fun e w2=>e=.returned v'/\w2=w':=by
 have t3:=L.t3;have a3:=L.a3;have z3:=L.z3;have v3:=L.v3;have t4:=L.t4;have a4:=L.a4;have z4:=L.z4;have v4:=L.v4;have z9:=L.z9;have t24:=L.t24;have a24:=L.a24;have z24:=L.z24;have v24:=L.v24
 have u3:=run_underlying L.t3;have u4:=run_underlying L.t4;have u24:=run_underlying L.t24
 have mixed:=L.mixed;have hz1:¬ ((m:Int)=0):=by omega
 obtain ⟨_,_,FG⟩:=L.f22
 cases base with
 | none=>
  have h0:=hnil rfl;subst h0;have hn0:n=0:=by omega
  subst hn0
  go_enter FG,Body2.n22_ntmps ρ
  go_wp2_with (at_builtin;refine Lib.wpList_append_run _ rfl _ _ _ _ rfl _ _ rfl rfl _ _ (hrun _) ?_)
  go_ret
  exact ⟨rfl,rfl⟩
 | some a=>
  obtain ⟨ab,ao,asp⟩:=a;have:=hb _ rfl;simp only at this;subst this
  go_enter FG,Body2.n22_ntmps ρ
  go_wp2_with (at_builtin;refine Lib.wpList_append_run _ rfl _ _ _ _ rfl _ _ rfl rfl _ _ (hrun _) ?_)
  all_goals (go_ret;exact ⟨rfl,rfl⟩)
set_option maxHeartbeats 4000000 in
set_option maxRecDepth 100000 in
theorem ins_none {k:Nat} {inf:TypeInfo} {zv:Value} (L:InsFacts P ρ k inf zv) (base:Option Addr) (n c i vc:Nat) (ya:Option Addr) (w:World) (hin:i<=n) (hnc:n<=c) (hc63:c<=9223372036854775807) (hnil:base=none->c=0) (hb:∀ ad,base=some ad->ad.spot=none) :
  Calls P (ρ.f 22) #[.slice base n c,.int .i64 i,.slice ya 0 vc] w fun e w2=>e=.returned (.slice base n c)/\w2=w:=by
 have t3:=L.t3;have a3:=L.a3;have z3:=L.z3;have v3:=L.v3;have t4:=L.t4;have a4:=L.a4;have z4:=L.z4;have v4:=L.v4;have z9:=L.z9;have t24:=L.t24;have a24:=L.a24;have z24:=L.z24;have v24:=L.v24
 have u3:=run_underlying L.t3;have u4:=run_underlying L.t4;have u24:=run_underlying L.t24
 have mixed:=L.mixed;have hic:i<=c:=by omega
 obtain ⟨_,_,FG⟩:=L.f22
 cases base with
 | none=>
  have h0:=hnil rfl;subst h0;have hn0:n=0:=by omega
  subst hn0;have hi0:i=0:=by omega
  subst hi0
  go_enter FG,Body2.n22_ntmps ρ
  go_wp2
  all_goals (go_ret;exact ⟨rfl,rfl⟩)
 | some a=>
  obtain ⟨ab,ao,asp⟩:=a;have:=hb _ rfl;simp only at this;subst this
  go_enter FG,Body2.n22_ntmps ρ
  go_wp2
  all_goals (go_ret;exact ⟨rfl,rfl⟩)
set_option maxHeartbeats 4000000 in
set_option maxRecDepth 100000 in
theorem ins_grow {k:Nat} {inf:TypeInfo} {zv:Value} (L:InsFacts P ρ k inf zv) (b off n c i vb voff m vc:Nat) (cs vs:List Value) (w:World) (hi:i < n) (hm:0 < m) (hnc:n<=c) (hroom:c < n+m) (hbig:(n+m)*inf.bytes<=140737488355328) (hbg:n+m<=9223372036854775807)
  (hcl:cs.length=n*k) (hvl:vs.length=m*k)
  (hcs:∀ j v,cs[j]?=some v->w.cell? ⟨b,off+j,none⟩=some v)
  (hvs:∀ j v,vs[j]?=some v->w.cell? ⟨vb,voff+j,none⟩=some v) (h1c:∀ v ∈ cs,v.oneCell'=true) (h1v:∀ v ∈ vs,v.oneCell'=true) :
  Calls P (ρ.f 22) #[.slice (some ⟨b,off,none⟩) n c,.int .i64 i,.slice (some ⟨vb,voff,none⟩) m vc] w fun e w'=>
   e=.returned (.slice (some ⟨w.heap.size,0,none⟩) (n+m) (grownCap w (n+m) c (ρ.t 9))) /\
   w'=(((w.alloc (.cells ((cs.take (i*k)).toArray++Builtin.zeroCells zv.cells (n+m - i)++Builtin.zeroCells zv.cells (grownCap w (n+m) c (ρ.t 9) - (n+m))) (ρ.t 9))).drew.setCells w.heap.size (i*k) vs).drew).setCells w.heap.size ((i+m)*k) (cs.drop (i*k)):=by
 have t3:=L.t3;have a3:=L.a3;have z3:=L.z3;have v3:=L.v3;have t4:=L.t4;have a4:=L.a4;have z4:=L.z4;have v4:=L.v4;have z9:=L.z9;have t24:=L.t24;have a24:=L.a24;have z24:=L.z24;have v24:=L.v24
 have u3:=run_underlying L.t3;have u4:=run_underlying L.t4;have u24:=run_underlying L.t24
 have mixed:=L.mixed;have hk:=L.hk;have hz1:¬ ((m:Int)=0):=by omega
 have hz2:¬ ((i:Int)=(n:Int)):=by omega
 have hz3:(c:Int) < (n:Int)+(m:Int):=by omega
 have hmk:i*k+m*k=(i+m)*k:=by rw[cD]
 have hnm:n*k+m*k=(n+m)*k:=by rw[cD]
 have hikn:i*k < n*k:=iW hi hk;have hmk0:1<=m*k:=gK hm hk;have hbw:b < w.heap.size:=block_lt_of_cell (hcs 0 _ (aA (by omega)));have hvw:vb < w.heap.size:=block_lt_of_cell (hvs 0 _ (aA (by omega)));have hkk:(n:Int)+(m:Int) - (i:Int)=((n+m - i:Nat):Int):=by omega
 have hik:i+(n+m - i)=n+m:=by omega
 have hold:(Builtin.firstCells inf.size i (.slice (some ⟨b,off,none⟩) i c)).run P w.drew=.ok (cs.take (i*k)).toArray w.drew:=by
  rw[L.is]
  exact run_firstCells_some w.drew k i ⟨b,off,none⟩ i c (cs.take (i*k)) (by rw[bS];omega) (fun j v hj=>by
   rw[Addr.add_lit];rw[bF] at hj;split at hj
   ·exact hcs j v hj
   ·cases hj)
 have hb48:(n+m - i)*inf.bytes<=281474976710656:=bK (aX _ (by omega)) (bK hbig (by decide))
 have hrz:∀ ty,(Builtin.append_ #[(ρ.t 24),(ρ.t 3)] ty #[.slice (some ⟨b,off,none⟩) i c,.int .i64 ((n:Int)+(m:Int) - (i:Int))]).run P w =
   .ok (.slice (some ⟨w.heap.size,0,none⟩) (n+m) (grownCap w (n+m) c (ρ.t 9))) (w.drew.alloc (.cells ((cs.take (i*k)).toArray++Builtin.zeroCells zv.cells (n+m - i)++Builtin.zeroCells zv.cells (grownCap w (n+m) c (ρ.t 9) - (n+m))) (ρ.t 9))):=fun ty=>by
  have h:=Lib.run_append_grow_zeros w (ρ.t 24) (ρ.t 3) ty (ρ.t 9) inf _ .i64 .i64 L.t24 L.t3 L.i9 L.iz (some ⟨b,off,none⟩) i c (cs.take (i*k)) hold (n+m - i) (by omega) (by rw[L.is];omega) (by omega) (by omega) hb48 (by rw[hik];exact growslice_fits hroom hbig);rw[hik] at h;rw[hkk];exact h
 obtain ⟨G,hG⟩:∃ G,G=grownCap w (n+m) c (ρ.t 9):=⟨_,rfl⟩
 obtain ⟨ROW,hROW⟩:∃ ROW:Array Value,ROW=(cs.take (i*k)).toArray++Builtin.zeroCells zv.cells (n+m - i)++Builtin.zeroCells zv.cells (G - (n+m)):=⟨_,rfl⟩
 rw[<-hG] at hrz ⊢;rw[<-hROW] at hrz ⊢;have hnmi:(n+m - i)*k=(n+m)*k - i*k:=fW _ _ _
 have hRl:(n+m)*k<=ROW.size:=by
  rw[hROW];have e1:(Builtin.zeroCells zv.cells (n+m - i)).size=(n+m - i)*k:=by simp[Builtin.zeroCells,L.ik]
  have e2:(cs.take (i*k)).length=i*k:=by rw[bS,hcl];omega
  simp only[fD,dJ,e1,e2];omega
 obtain ⟨W1,hW1⟩:∃ W1,W1=w.drew.alloc (.cells ROW (ρ.t 9)):=⟨_,rfl⟩
 rw[<-hW1] at hrz
 have hN:∀ j,j < (n+m)*k->(W1.cell? ⟨w.heap.size,j,none⟩).isSome=true:=fun j hj=>by
  rw[hW1,World.cell?_alloc_at (w:=w.drew) ROW _ w.heap.size j rfl,cK (by omega)];rfl
 have hNf:∀ j,W1.frozen? ⟨w.heap.size,j,none⟩=false:=fun j=>by rw[hW1];exact World.frozen?_alloc_at (w:=w.drew) ROW _ w.heap.size j rfl
 have hOb:∀ j v,w.cell? ⟨b,j,none⟩=some v->W1.cell? ⟨b,j,none⟩=some v:=fun j v h=>by rw[hW1,World.cell?_alloc_past (w:=w.drew) _ b j hbw];exact h
 have hOv:∀ j v,w.cell? ⟨vb,j,none⟩=some v->W1.cell? ⟨vb,j,none⟩=some v:=fun j v h=>by rw[hW1,World.cell?_alloc_past (w:=w.drew) _ vb j hvw];exact h
 have hcpA:∀ (W:World),(∀ x,W.cell? x=W1.cell? x)->(∀ x,W.frozen? x=W1.frozen? x)->∀ ty dc,(Builtin.copy_ #[(ρ.t 24),(ρ.t 24)] ty #[.slice (some ⟨w.heap.size,i*k,none⟩) (n+m - i) dc,.slice (some ⟨vb,voff,none⟩) m vc]).run P W=.ok (goInt (Nat.min m (n+m - i))) (W.setCells w.heap.size (i*k) vs):=fun W hWc hWf ty dc=>
  run_copy_k W _ _ ty (ρ.t 9) inf w.heap.size (i*k) (n+m - i) dc ⟨vb,voff,none⟩ m vc vs L.t24 L.i9 (by rw[hvl,L.is];congr 1;simp only[iH];split <;> omega)
   (fun j v hj=>by rw[Addr.add_lit,hWc];exact hOv _ v (hvs j v hj))
   (fun j hj=>by rw[hWc];exact hN _ (by omega)) (fun j hj=>by rw[hWf];exact hNf _) h1v
 have hGn:n+m<=G:=by rw[hG];exact grownCap_ge w _ _ _
 have hG63:G<=9223372036854775807:=by
  have:=grownCap_le_maxLen w (n+m) c (ρ.t 9) (by unfold maxLen;omega);rw[<-hG] at this;unfold maxLen at this;omega
 have hGi:¬ (G=i):=by omega
 have hGim:¬ (G=i+m):=by omega
 have hci:¬ (c=i):=by omega
 have hbN:b≠w.heap.size:=by omega
 have hni:(n - i)*k=n*k - i*k:=fW _ _ _;have hdl:(cs.drop (i*k)).length=(n - i)*k:=by rw[bM,hcl,fW]
 have hcpB:∀ (W:World),(∀ x,W.cell? x=(W1.setCells w.heap.size (i*k) vs).cell? x)->(∀ x,W.frozen? x=(W1.setCells w.heap.size (i*k) vs).frozen? x)->∀ ty dc sc,(Builtin.copy_ #[(ρ.t 24),(ρ.t 24)] ty #[.slice (some ⟨w.heap.size,(i+m)*k,none⟩) (n+m - (i+m)) dc,.slice (some ⟨b,off+i*k,none⟩) (n - i) sc]).run P W=.ok (goInt (Nat.min (n - i) (n+m - (i+m)))) (W.setCells w.heap.size ((i+m)*k) (cs.drop (i*k))):=fun W hWc hWf ty dc sc=>
  run_copy_k W _ _ ty (ρ.t 9) inf w.heap.size ((i+m)*k) (n+m - (i+m)) dc ⟨b,off+i*k,none⟩ (n - i) sc (cs.drop (i*k)) L.t24 L.i9 (by rw[hdl,L.is];congr 1;simp only[iH];split <;> omega)
   (fun j v hj=>by
    rw[Addr.add_lit,hWc,World.cell?_setCells_out _ _ _ _ _ (fun h _=>absurd h hbN),cG]
    exact hOb _ v (hcs (i*k+j) v (by rwa [bH] at hj)))
   (fun j hj=>by rw[hWc];exact some_setCells _ _ _ _ (fun t ht=>hN _ (by omega)) _ (hN _ (by omega)))
   (fun j hj=>by rw[hWf,World.frozen?_setCells];exact hNf _) (fun v hv=>h1c v (dK hv))
 subst hW1;have hE1:∀ x,((w.alloc (.cells ROW (ρ.t 9))).drew).cell? x=(w.drew.alloc (.cells ROW (ρ.t 9))).cell? x:=fun x=>rfl;have hE2:∀ x,((w.alloc (.cells ROW (ρ.t 9))).drew).frozen? x=(w.drew.alloc (.cells ROW (ρ.t 9))).frozen? x:=fun x=>rfl;have hF1:∀ x,(((w.alloc (.cells ROW (ρ.t 9))).drew.setCells w.heap.size (i*k) vs).drew).cell? x=((w.drew.alloc (.cells ROW (ρ.t 9))).setCells w.heap.size (i*k) vs).cell? x:=fun x=>rfl;have hF2:∀ x,(((w.alloc (.cells ROW (ρ.t 9))).drew.setCells w.heap.size (i*k) vs).drew).frozen? x=((w.drew.alloc (.cells ROW (ρ.t 9))).setCells w.heap.size (i*k) vs).frozen? x:=fun x=>rfl;have hw1:IntKind.i64.wrap ((i:Int)+(m:Int))=(i:Int)+(m:Int):=by rw[IntKind.wrap_i64];omega
 have hb1:(0:Int)<=(i:Int)+(m:Int):=by omega
 have hin:i<=n:=by omega
 have htn:((i:Int)+(m:Int)).toNat=i+m:=by omega
 have hb3:(i:Int)<=(n:Int):=by omega
 clear hkk hik hold hROW hG hRl hb48 hbig;obtain ⟨_,_,FG⟩:=L.f22
 go_enter FG,Body2.n22_ntmps ρ
 go_wp2_with (first
  | (at_builtin;refine Lib.wpList_append_run _ rfl _ _ _ _ rfl _ _ rfl rfl _ _ (hrz _) ?_)
  | (at_builtin;refine wpList_copy_k _ rfl _ _ (ρ.t 24) (ρ.t 24) rfl _ _ rfl rfl (hcpA _ hE1 hE2 _ _) ?_)
  | (at_builtin;refine wpList_copy_k _ rfl _ _ (ρ.t 24) (ρ.t 24) rfl _ _ rfl rfl (hcpB _ (fun _=>rfl) (fun _=>rfl) _ _ _) ?_))
 go_region_law_o (refine step_copy_k rfl _ _ (ρ.t 24) (ρ.t 24) rfl (.slice (some ⟨w.heap.size,(i+m)*k,none⟩) (n+m - (i+m)) (G - (i+m))) (.slice (some ⟨b,off+i*k,none⟩) (n - i) (c - i)) (by simp[Act.eval,Act.put]) (by simp[Act.eval,Act.put]) (hcpB _ hF1 hF2 (ρ.t 3) (G - (i+m)) (c - i)) ?_)
 go_wp2
 go_ret
 exact ⟨rfl,rfl⟩
theorem zero_of {i:TypeId} {v:Value} (h:(P.info? i).bind (·.zero)=some v) (w:World):(zeroValue i).run P w=.ok v w:=by
 cases hi:P.info? i with
 | none=>rw[hi] at h;cases h
 | some inf=>
  rw[hi] at h;simp[zeroValue,typeInfo,hi,show inf.zero=some v from h]
theorem lay_bool {i:TypeId} (h:layB P .bool (.inl i)=true):P.underlying i=some .bool:=by
 simp only[layB,aC] at h;have h2:=h.2;split at h2
 ·assumption
 ·cases h2
theorem InsLay.facts {e:Ty} (L:InsLay P ρ e) (h1:1<=e.sz):∃ inf zv,InsFacts P ρ e.sz inf zv/\inf.bytes<=512:=by
 obtain ⟨inf,zv,i1,i2,i3,i4,i5,_⟩:=infoOk_zero (layB_info L.l9);exact ⟨inf,zv,⟨L.mixed,L.f22,L.f29,lay_int L.l3,fun w=>run_isAgg L.l3,fun w=>run_sizeOf L.l3,zero_of L.z3,lay_bool L.l4,fun w=>run_isAgg L.l4,fun w=>run_sizeOf L.l4,zero_of L.z4,L.t24,fun w=>run_isAgg L.l24,fun w=>run_sizeOf L.l24,zero_of L.z24,fun w=>run_sizeOf L.l9,i1,i2,i4,i5,h1⟩,i3⟩
def insF (e:Ty) (v:List e.den×Int×List e.den×Unit):Option (List e.den×Unit):=if 0<=v.2.1/\v.2.1<=(v.1.length:Int)/\v.1.length+v.2.2.1.length<=CAP then some (v.1.take v.2.1.toNat++v.2.2.1++v.1.drop v.2.1.toNat,()) else none
theorem rep_simp {w':World} {A:Cells} {e:Ty} (hs:simpT e=true) {b cap:Nat} {vs:List e.den} {news:List Value} {F1:FP} (hcap:cap<=maxLen) (hown:OwnBlk w' b (cap*e.sz,isU8 e)) (hlen:List.length vs<=cap) (hhas:Has w' b 0 news)
  (hel:∀ (i:Nat) (y:e.den),vs[i]?=some y->(news.drop (i*e.sz)).take e.sz=encT e y) (hF:∀ b' i,rng b 0 (cap*e.sz) b' i<=F1 b' i) :
  Rep P w' A (.slc e) (ownMd (.slc e)) [] vs [.slice (some ⟨b,0,none⟩) (List.length vs) cap] F1:=by
 simp only[Rep,hole,bQ,aD,aM,ownMd,mdOf,Md.own,aH,Md.e];refine ⟨some ⟨b,0,none⟩,cap,rfl,hlen,hcap,(fun e=>by cases e),fun ad e2=>?_⟩
 injection e2 with e2;subst e2;refine ⟨rfl,rfl,hown,fun _ _ _=>0,fun x i=>by rw[sumF_zero];exact hF x i,fun i y hy=>⟨encT e y,Ro.length e (ro_enc (P:=P) (w:=w') (A:=A) e hs y),fun j u hu=>?_,Ro.flat e _ (simp_flat e hs) (ro_enc e hs y)⟩⟩
 rw[<-hel i y hy,bF] at hu;split at hu
 ·rw[bH] at hu;have:=hhas _ u hu;rw[bD] at this;exact this
 ·cases hu
theorem simp_app {e:Ty} {v y:List e.den} {olds news:List Value} (hl:olds.length=List.length v*e.sz)
  (h1:∀ (i:Nat) (z:e.den),v[i]?=some z->(olds.drop (i*e.sz)).take e.sz=encT e z) (h2:∀ (i:Nat) (z:e.den),y[i]?=some z->(news.drop (i*e.sz)).take e.sz=encT e z) :
  ∀ (i:Nat) (z:e.den),(v++y)[i]?=some z->((olds++news).drop (i*e.sz)).take e.sz=encT e z:=by
 intro i z hz;by_cases hi:i < List.length v
 ·rw[bX hi] at hz;have h6:i*e.sz+e.sz<=List.length v*e.sz:=by rw[<-eS];exact aX _ (by omega)
  rw[dU (by omega),dR (by simp;omega)];exact h1 i z hz
 ·rw[bR (by omega)] at hz;have h6:List.length v*e.sz<=i*e.sz:=aX _ (by omega);rw[gN,dV (by omega),cH,hl,<- fW];exact h2 _ z hz
theorem insert_ok {e:Ty} (L:InsLay P ρ e) (hs:simpT e=true) (hu:isU8 e=false) (h1:1<=e.sz) (he:EnterOk P (ρ.f 22) false) :
  Ok P (ρ.f 22) { ps:=[(.eatv (ownMd (.slc e)),.slc e),(.ro,.int .i64),(.ro,.slc e)],rs:=[(.slc e,ownMd (.slc e))],F:=insF e }:=by
 obtain ⟨inf,zv,LF,hbytes⟩:=L.facts h1;refine ⟨?_,he⟩
 intro w A F0 v xs hargs hle hdis hbnd out hout;obtain ⟨vs,i,ys,⟨⟩⟩:=v;obtain ⟨x,xs',F1,F2,rfl,hF,⟨H,cs,hH,rfl,hrep⟩,x2,xs2,F3,F4,rfl,hF2,⟨cs2,rfl,hi⟩,x3,xs3,F5,F6,rfl,hF3,⟨cs3,rfl,hy⟩,hnil⟩:=hargs;obtain rfl:=bJ.1 hH;have hnil:xs3=[]:=hnil;subst hnil;have hi:cs2=[.int .i64 i]:=hi;subst hi;have hy:Ro P w A (.slc e) ys cs3:=hy;have hout:insF e (vs,i,ys,())=some out:=hout;unfold insF at hout;split at hout;rotate_left
 ·cases hout
 rename_i hb;obtain ⟨b1,b2,b3⟩:=hb;simp only at b1 b2 b3 hout;injection hout with hout;subst hout;obtain ⟨ni,rfl⟩:=dE b1;simp only[aI];have hin:ni<=List.length vs:=by omega
 unfold CAP at b3;obtain ⟨xa,cap,olds,Fi,r1,r2,r3,r4,r5,r6,r7,r8⟩:=slc_elems (v:=vs) hrep;obtain ⟨c1,c2,c3,c4⟩:=r8 rfl;subst r1;have hyr:Rep P w A (.slc e) (roMd (.slc e)) [] ys cs3 (fun _ _=>0):=Ro.rep _ _ (roMd_noOwn _) hy;obtain ⟨ya,ycap,news,Gi,s1,s2,s3,s4,s5,s6,s7,_⟩:=slc_elems (v:=ys) hyr;subst s1;have hmax:cap<=9223372036854775807:=by unfold maxLen at c2;omega
 have hx:(mkV (.slc e) [.slice xa (List.length vs) cap]::[mkV (.int .i64) [.int .i64 (ni:Int)],mkV (.slc e) [.slice ya (List.length ys) ycap]]).toArray=#[.slice xa (List.length vs) cap,.int .i64 ni,.slice ya (List.length ys) ycap]:=rfl;show Calls P (ρ.f 22) (mkV (.slc e) [.slice xa (List.length vs) cap]::[mkV (.int .i64) [.int .i64 (ni:Int)],mkV (.slc e) [.slice ya (List.length ys) ycap]]).toArray w _;rw[hx];have hel1:∀ (t:Nat) (z:e.den),vs[t]?=some z->(olds.drop (t*e.sz)).take e.sz=encT e z:=fun t z hz=>enc_ro e hs (Rep.flat e (simp_flat e hs) (r6 t z hz));have hel2:∀ (t:Nat) (z:e.den),ys[t]?=some z->(news.drop (t*e.sz)).take e.sz=encT e z:=fun t z hz=>enc_ro e hs (Rep.flat e (simp_flat e hs) (s6 t z hz));have hmid:(olds.take (ni*e.sz)).length=(vs.take ni).length*e.sz:=by rw[bS,bS,r4,eW hin,eW (aX _ hin)]
 have hcells:∀ (t:Nat) (z:e.den),(vs.take ni++ys++vs.drop ni)[t]?=some z->((olds.take (ni*e.sz)++news++olds.drop (ni*e.sz)).drop (t*e.sz)).take e.sz=encT e z:=
  simp_app (by rw[aU,aU,hmid,s4,cD]) (simp_app hmid (fun t z hz=>by
   rw[bF] at hz;split at hz
   ·have:=hel1 t z hz;have h6:t*e.sz+e.sz<=ni*e.sz:=by rw[<-eS];exact aX _ (by omega)
    rw[eD,fA,eW (by omega)];exact this
   ·cases hz) hel2) (fun t z hz=>by
   rw[bH] at hz;have:=hel1 (ni+t) z hz;rw[dB,<- cD]
   exact this)
 have hnl:List.length (vs.take ni++ys++vs.drop ni)=List.length vs+List.length ys:=by simp;omega
 have hfin:∀ (w':World) (rv:Value) (GR:FP),Ext w w' F0->(∀ b i,GR b i<=F0 b i\/(w.heap.size<=b/\b < w'.heap.size/\GR b i<=1))->(∃ cs,rv=mkV (.slc e) cs/\Rep P w' A (.slc e) (ownMd (.slc e)) [] (vs.take ni++ys++vs.drop ni) cs GR) ->
   ∃ rv',Ending.returned rv=.returned rv'/\Ext w w' F0/\∃ (A':Cells) (G GR GM:FP),(∀ b i,A b i->A' b i)/\(∀ b i,A' b i->A b i\/1<=F0 b i\/w.heap.size<=b)/\(∀ b i,1<=G b i->1<=F0 b i\/w.heap.size<=b)/\(∀ b i,G b i<=1)/\(∀ b i,1<=G b i->¬ A' b i)/\(∀ b i,1<=G b i\/A' b i->b < w'.heap.size)/\(∀ b i,GR b i+GM b i<=G b i) /\
   RetRel P w' A' [⟨.slc e,ownMd (.slc e),vs.take ni++ys++vs.drop ni⟩] rv' GR/\MutsRel P w' A' [(.eatv (ownMd (.slc e)),.slc e),(.ro,.int .i64),(.ro,.slc e)] () [mkV (.slc e) [.slice xa (List.length vs) cap],mkV (.int .i64) [.int .i64 (ni:Int)],mkV (.slc e) [.slice ya (List.length ys) ycap]] GM:=fun w' rv GR hext hGR hr=>
  ⟨_,rfl,hext,A,GR,GR,fun _ _=>0,fun _ _ h=>h,fun _ _ h=>.inl h,fun b i h=>by
   rcases hGR b i with h2 | h2
   ·exact .inl (by omega)
   ·exact .inr h2.1,fun b i=>by
   rcases hGR b i with h2 | h2
   ·have:=hle b i;omega
   ·exact h2.2.2,fun b i h ha=>by
   rcases hGR b i with h2 | h2
   ·exact hdis b i (by omega) ha
   ·have:=hbnd b i (.inr ha);omega,fun b i h=>by
   rcases h with h | h
   ·rcases hGR b i with h2 | h2
    ·exact cL (hbnd b i (.inl (by omega))) hext.size
    ·exact h2.2.1
   ·exact cL (hbnd b i (.inr h)) hext.size,fun b i=>aK _,hr,trivial⟩
 by_cases hy0:List.length ys=0
 ·have hys:ys=[]:=bE hy0;rw[hy0];refine (ins_none LF xa (List.length vs) cap ni ycap ya w hin c1 hmax c3 (fun ad had=>(c4 ad had).2.1)).mono ?_;rintro ex w' ⟨rfl,rfl⟩;rw[hy0] at hfin;refine hfin _ _ F1 (Ext.refl _ _) (fun b i=>.inl (by have:=hF b i;omega)) ⟨_,(mkV_one _ _ rfl).symm,?_⟩;rw[hys,cP,cO];exact hrep
 ·have hm:0 < List.length ys:=by omega
  cases ya with
  | none=>have:=s2.2 rfl;omega
  | some ad2=>
   obtain ⟨vb,voff,vsp⟩:=ad2;obtain ⟨y1,y2⟩:=s3 _ rfl;have hsp:vsp=none:=y1 (by have:=s2.1;omega);subst hsp;simp only at y2;have hvs:∀ j u,news[j]?=some u->w.cell? ⟨vb,voff+j,none⟩=some u:=fun j u hu2=>ce_cell (y2 j u hu2) (s5 u (bW hu2))
   have hsrc:Src P inf.size (ρ.t 24) (.slice (some ⟨vb,voff,none⟩) (List.length ys) ycap) (List.length ys) news w:=by
    rw[LF.is];exact Src.ofSlice w LF.t24 ⟨vb,voff,none⟩ (List.length ys) ycap news s4 (fun j u hj=>by rw[Addr.add_lit];exact hvs j u hj) s5
   have hbig:(List.length vs+List.length ys)*inf.bytes<=140737488355328:=bK (gK b3 hbytes) (by decide)
   have hgrow:∀ (w':World) (cap':Nat),Ext w w' (fun _ _=>0)->w.heap.size < w'.heap.size->List.length vs+List.length ys<=cap'->cap'<=maxLen->OwnBlk w' w.heap.size (cap'*e.sz,isU8 e)->Has w' w.heap.size 0 (olds.take (ni*e.sz)++news++olds.drop (ni*e.sz)) ->
     ∃ rv',Ending.returned (.slice (some ⟨w.heap.size,0,none⟩) (List.length vs+List.length ys) cap')=.returned rv'/\Ext w w' F0/\∃ (A':Cells) (G GR GM:FP),(∀ b i,A b i->A' b i)/\(∀ b i,A' b i->A b i\/1<=F0 b i\/w.heap.size<=b)/\(∀ b i,1<=G b i->1<=F0 b i\/w.heap.size<=b)/\(∀ b i,G b i<=1)/\(∀ b i,1<=G b i->¬ A' b i)/\(∀ b i,1<=G b i\/A' b i->b < w'.heap.size)/\(∀ b i,GR b i+GM b i<=G b i) /\
   RetRel P w' A' [⟨.slc e,ownMd (.slc e),vs.take ni++ys++vs.drop ni⟩] rv' GR/\MutsRel P w' A' [(.eatv (ownMd (.slc e)),.slc e),(.ro,.int .i64),(.ro,.slc e)] () [mkV (.slc e) [.slice xa (List.length vs) cap],mkV (.int .i64) [.int .i64 (ni:Int)],mkV (.slc e) [.slice (some ⟨vb,voff,none⟩) (List.length ys) ycap]] GM:=fun w' cap' hext hlt hc1 hc2 ho hh=>
    hfin w' _ (rng w.heap.size 0 (cap'*e.sz)) (hext.mono fun _ _ _=>rfl) (fun b i=>by
     simp only[rng];split
     ·rename_i hq;obtain ⟨rfl,_⟩:=hq;exact .inr ⟨aK _,hlt,aK _⟩
     ·exact .inl (aW _)) ⟨_,(mkV_one _ _ rfl).symm,by rw[<-hnl];exact rep_simp hs hc2 ho (by rw[hnl];exact hc1) hh hcells (fun _ _=>aK _)⟩
   have hplace:∀ (w':World) (b:Nat),xa=some ⟨b,0,none⟩->Ext w w' (rng b 0 (cap*e.sz))->List.length vs+List.length ys<=cap->Has w' b 0 (olds.take (ni*e.sz)++news++olds.drop (ni*e.sz)) ->
     ∃ rv',Ending.returned (.slice (some ⟨b,0,none⟩) (List.length vs+List.length ys) cap)=.returned rv'/\Ext w w' F0/\∃ (A':Cells) (G GR GM:FP),(∀ b i,A b i->A' b i)/\(∀ b i,A' b i->A b i\/1<=F0 b i\/w.heap.size<=b)/\(∀ b i,1<=G b i->1<=F0 b i\/w.heap.size<=b)/\(∀ b i,G b i<=1)/\(∀ b i,1<=G b i->¬ A' b i)/\(∀ b i,1<=G b i\/A' b i->b < w'.heap.size)/\(∀ b i,GR b i+GM b i<=G b i) /\
   RetRel P w' A' [⟨.slc e,ownMd (.slc e),vs.take ni++ys++vs.drop ni⟩] rv' GR/\MutsRel P w' A' [(.eatv (ownMd (.slc e)),.slc e),(.ro,.int .i64),(.ro,.slc e)] () [mkV (.slc e) [.slice xa (List.length vs) cap],mkV (.int .i64) [.int .i64 (ni:Int)],mkV (.slc e) [.slice (some ⟨vb,voff,none⟩) (List.length ys) ycap]] GM:=fun w' b hxa hext hc1 hh=>by
    obtain ⟨_,_,q3,q4⟩:=c4 _ hxa;simp only at q3 q4
    exact hfin w' _ (rng b 0 (cap*e.sz)) (hext.mono fun b' i h0=>by have:=q4 b' i;have:=hF b' i;omega) (fun b' i=>.inl (by have:=q4 b' i;have:=hF b' i;omega))
     ⟨_,(mkV_one _ _ rfl).symm,by rw[<-hnl];exact rep_simp hs c2 (hext.blk _ _ q3) (by rw[hnl];exact hc1) hh hcells (fun _ _=>aK _)⟩
   have hk:=h1;have hmk:ni*e.sz+List.length ys*e.sz=(ni+List.length ys)*e.sz:=by rw[cD]
   have hnm:List.length vs*e.sz+List.length ys*e.sz=(List.length vs+List.length ys)*e.sz:=by rw[cD]
   have hmk0:1<=List.length ys*e.sz:=gK hm h1;have hnik:ni*e.sz<=List.length vs*e.sz:=aX _ hin;have hl1:(olds.take (ni*e.sz)).length=ni*e.sz:=by rw[bS,r4];omega
   have hl3:(olds.drop (ni*e.sz)).length=List.length vs*e.sz - ni*e.sz:=by rw[bM,r4]
   have hput:∀ (w1 w2 w3:World) (b:Nat),b < w1.heap.size->Ext w1 w2 (rng b ((ni+List.length ys)*e.sz) (olds.drop (ni*e.sz)).length)->Has w2 b ((ni+List.length ys)*e.sz) (olds.drop (ni*e.sz))->Ext w2 w3 (rng b (ni*e.sz) news.length)->Has w3 b (ni*e.sz) news ->
     Has w1 b 0 (olds.take (ni*e.sz))->Has w3 b 0 (olds.take (ni*e.sz)++news++olds.drop (ni*e.sz)):=fun w1 w2 w3 b hb x1 g1 x2 g2 g0 t u hu2=>by
    rw[bD];by_cases ht:t < ni*e.sz
    ·rw[bL,bX (by omega)] at hu2;have h5:=g0 t u hu2;rw[bD] at h5;exact x2.cell b t (cL hb x1.size) (by simp only[rng];rw[aY (by omega)]) u (x1.cell b t hb (by simp only[rng];rw[aY (by omega)]) u h5)
    ·by_cases ht2:t < (ni+List.length ys)*e.sz
     ·rw[bX (by rw[aU,hl1,s4];omega),bR (by omega),hl1] at hu2;have h5:=g2 _ u hu2;rw[show ni*e.sz+(t - ni*e.sz)=t by omega] at h5;exact h5
     ·rw[bR (by rw[aU,hl1,s4];omega),aU,hl1,s4] at hu2;have h5:=g1 _ u hu2;rw[show (ni+List.length ys)*e.sz+(t - (ni*e.sz+List.length ys*e.sz))=t by omega] at h5;exact x2.cell b t (cL hb x1.size) (by simp only[rng,s4];rw[aY (by omega)]) u h5
   have hold1:∀ u ∈ olds.drop (ni*e.sz),u.oneCell'=true:=fun u hu2=>r5 u (dK hu2);by_cases hend:ni=List.length vs
   ·have htk:olds.take (ni*e.sz)=olds:=by rw[hend,<- r4];simp
    have hdr:olds.drop (ni*e.sz)=[]:=by rw[hend,<- r4];simp
    rw[htk,hdr,cP] at hgrow hplace;by_cases hroom:List.length vs+List.length ys<=cap
    ·cases xa with
     | none=>have:=c3 rfl;omega
     | some ad=>
      obtain ⟨q1,q2,q3,q4⟩:=c4 ad rfl;obtain ⟨_,d5⟩:=r3 ad rfl;obtain ⟨b,off,sp⟩:=ad;simp only at q1 q2 q3 q4 d5;subst q1;subst q2;have hfit:(List.length vs+List.length ys)*e.sz<=cap*e.sz:=aX _ hroom
      have hcell:∀ j,j < cap*e.sz->(w.cell? ⟨b,j,none⟩).isSome=true:=fun j hj=>by
       obtain ⟨c,e',fr,w1,w2,w3⟩:=q3;unfold World.cell?;simp only[w1,eE,aD,aM];rw[cK (by simp only at w2;omega)];rfl
      have hrun:∀ ty,_:=fun ty=>run_append_room_src (P:=P) w (ρ.t 24) (ρ.t 24) ty (ρ.t 9) inf LF.t24 LF.i9 b 0 (List.length vs) cap (.slice (some ⟨vb,voff,none⟩) (List.length ys) ycap) (List.length ys) news hsrc hroom
       (fun j hj=>by rw[LF.is,bD];exact hcell _ (by omega)) (fun j hj=>by rw[LF.is,bD];exact q3.frozen (by simp only;omega))
      rw[hend];refine (ins_end LF (some ⟨b,0,none⟩) (List.length vs) cap (List.length ys) ycap (some ⟨vb,voff,none⟩) w _ _ hm c1 hmax (fun e=>by cases e) (fun ad had=>by injection had with had;subst had;rfl) hrun).mono ?_;rintro ex w' ⟨rfl,rfl⟩;rw[LF.is,bD];have hext:=ext_setCells (b:=b) (o:=List.length vs*e.sz) news w (List.length vs*e.sz)
      have:=hplace _ b rfl (hext.mono fun b' t h0=>by
       simp only[rng] at h0 ⊢;split at h0
       ·cases h0
       ·rw[aY (by omega)]) hroom (fun t u hu2=>by
       rw[bD];by_cases ht:t < olds.length
       ·rw[bX ht] at hu2;have h5:=d5 t u hu2;rw[bD] at h5;exact hext.cell b t q3.lt (by simp only[rng];rw[aY (by omega)]) u h5
       ·rw[bR (by omega)] at hu2;have h5:=has_setCells (w:=w) (b:=b) (o:=List.length vs*e.sz) (L:=news) (fun k hk=>hcell _ (by omega)) s5 _ u hu2;rw[show List.length vs*e.sz+(t - olds.length)=t by omega] at h5
        exact h5)
      rw[hend] at this;exact this
    ·have hb2:∀ ad,xa=some ad->ad.spot=none:=fun ad had=>(c4 ad had).2.1
     have hbase:(Builtin.firstCells inf.size (List.length vs) (.slice xa (List.length vs) cap)).run P w.drew=.ok olds.toArray w.drew:=by
      cases xa with
      | none=>
       have h0:=r2.2 rfl;have:olds=[]:=bE (by rw[r4,h0,gA]);subst this;exact run_firstCells_none w.drew inf.size (List.length vs) (List.length vs) cap
      | some ad=>
       obtain ⟨_,d4,_,_⟩:=c4 ad rfl;obtain ⟨_,d5⟩:=r3 ad rfl;obtain ⟨b,off,sp⟩:=ad;simp only at d4 d5;subst d4;exact run_firstCells_some w.drew inf.size (List.length vs) ⟨b,off,none⟩ (List.length vs) cap olds (by rw[LF.is];exact r4) (fun j u hu2=>by rw[addr_add];exact ce_cell (d5 j u hu2) (r5 u (bW hu2)))
     have hrun:∀ ty,_:=fun ty=>run_append_grow_src (P:=P) w (ρ.t 24) (ρ.t 24) ty (ρ.t 9) inf zv LF.t24 LF.i9 LF.iz xa (List.length vs) cap olds hbase (.slice (some ⟨vb,voff,none⟩) (List.length ys) ycap) (List.length ys) news hsrc (by omega) (by omega) (growslice_fits (by omega) hbig);rw[hend];refine (ins_end LF xa (List.length vs) cap (List.length ys) ycap (some ⟨vb,voff,none⟩) w _ _ hm c1 hmax c3 hb2 hrun).mono ?_;rintro ex w' ⟨rfl,rfl⟩;have hge:=grownCap_ge w (List.length vs+List.length ys) cap (ρ.t 9);have hgm:=grownCap_le_maxLen w (List.length vs+List.length ys) cap (ρ.t 9) (by simp only[maxLen];omega)
     have hsz:((olds++news).toArray++Builtin.zeroCells zv.cells (grownCap w (List.length vs+List.length ys) cap (ρ.t 9) - (List.length vs+List.length ys))).size=grownCap w (List.length vs+List.length ys) cap (ρ.t 9)*e.sz:=by
      rw[fD,size_zeroCells,LF.ik,dJ,aU,r4,s4,<- cD,<- cD];congr 1;omega
     have hown:=own_alloc w.drew ((olds++news).toArray++Builtin.zeroCells zv.cells (grownCap w (List.length vs+List.length ys) cap (ρ.t 9) - (List.length vs+List.length ys))) (ρ.t 9) (0,0) (isU8 e) (.inr (aK _));rw[hsz] at hown
     have:=hgrow _ _ ((ext_drew w).trans (ext_alloc w.drew _) (fun _ _ _ _=>rfl)) (by simp[World.alloc]) hge hgm hown (has_alloc w.drew _ (ρ.t 9) (0,0) (fun j u hu2=>by
      have hlt:=(aJ.1 hu2).1;rw[bD,dQ (by simpa using hlt)]
      simpa using hu2) (fun u hu2=>by
      rcases cM.1 hu2 with h | h
      ·exact r5 u h
      ·exact s5 u h))
     rw[hend] at this;exact this
   ·have hlt:ni < List.length vs:=by omega
    cases xa with
    | none=>have:=c3 rfl;omega
    | some ad=>
     obtain ⟨q1,q2,q3,q4⟩:=c4 ad rfl;obtain ⟨_,d5⟩:=r3 ad rfl;obtain ⟨b,off,sp⟩:=ad;simp only at q1 q2 q3 q4 d5;subst q1;subst q2;have hcs:∀ j u,olds[j]?=some u->w.cell? ⟨b,0+j,none⟩=some u:=fun j u hu2=>ce_cell (d5 j u hu2) (r5 u (bW hu2))
     have hg0:Has w b 0 (olds.take (ni*e.sz)):=fun t u hu2=>by
      rw[bF] at hu2;split at hu2
      ·exact d5 t u hu2
      ·cases hu2
     by_cases hroom:List.length vs+List.length ys<=cap
     ·have hfit:(List.length vs+List.length ys)*e.sz<=cap*e.sz:=aX _ hroom;obtain ⟨c,e',fr,w1,w2,w3,w4⟩:=q3
      have q3:OwnBlk w b (cap*e.sz,isU8 e):=⟨c,e',fr,w1,w2,w3,w4⟩
      simp only at w2 w3 w4
      have hcell:∀ j,j < cap*e.sz->(w.cell? ⟨b,j,none⟩).isSome=true:=fun j hj=>by
       unfold World.cell?;simp only[w1,eE,aD,aM];rw[cK (by omega)];rfl
      have hnews0:0 < news.length:=by omega
      have hy1:=y2 0 _ (aA hnews0);have hy2:=hvs 0 _ (aA hnews0);obtain ⟨a',cap',g1,g2,g3,g4⟩:=hy;injection g1 with g1 _;injection g1 with g1 _ _;subst g1;obtain ⟨Ly,l1,l2,_⟩:=(g4 _ rfl).2 0 _ (aA hm)
      have hA:A vb voff:=by
       have:=(l2 0 _ (aA (by omega))).2
       simpa using this
      have hvb:vb≠b:=fun e0=>by
       subst e0;have:=ce_cells w1 hy1;have hlt2:=(bN.1 this).1;have h5:=q4 vb (voff+0);have h6:rng vb 0 (cap*e.sz) vb (voff+0)=1:=by simp only[rng];rw[aV ⟨trivial,by omega,by omega⟩]
       have h7:=hF vb (voff+0);exact hdis vb voff (by rw[eO] at h5 h6 h7;omega) hA
      obtain ⟨tA,kA,hsa,hkA⟩:∃ tA kA,w.shape? vb=some (tA,kA)/\kA≠0:=by
       unfold World.cell? at hy2;unfold World.shape?;split at hy2
       ·rename_i heq;split at hy2
        ·cases hy2
        ·simp only at heq;simp only[heq];refine ⟨_,_,rfl,fun h0=>?_⟩
         have:=(bN.1 hy2).1;omega
       ·cases hy2
      have hfe:w.frozen? ⟨b,cap*e.sz,none⟩=false:=by
       simp only[World.frozen?,w1];have:=w4 hu;simp only[gE,fR];omega
      refine (ins_shift LF b 0 (List.length vs) cap ni vb voff (List.length ys) ycap olds news w hlt hm hroom hmax hvb r4 s4 hcs (fun j hj=>by rw[bD];exact hcell _ (by omega)) (fun j hj=>by rw[bD];exact q3.frozen (by simp only;omega)) hvs r5 s5 tA e' kA (cap*e.sz) hsa (by simp only[World.shape?,w1,w2]) hkA hfe).mono ?_;rintro ex w' ⟨rfl,hw⟩;simp only[bD] at hw;have x1:=ext_setCells (b:=b) (o:=(ni+List.length ys)*e.sz) (olds.drop (ni*e.sz)) w.drew ((ni+List.length ys)*e.sz);have x2:=ext_setCells (b:=b) (o:=ni*e.sz) news (w.drew.setCells b ((ni+List.length ys)*e.sz) (olds.drop (ni*e.sz))) (ni*e.sz);rw[<-hw] at x2;have hsome1:∀ j,j < (olds.drop (ni*e.sz)).length->(w.drew.cell? ⟨b,(ni+List.length ys)*e.sz+j,none⟩).isSome=true:=fun j hj=>hcell _ (by omega);refine hplace w' b rfl ?_ hroom (hput w.drew _ w' b q3.lt x1 (has_setCells hsome1 hold1) x2 ?_ hg0)
      ·refine (((ext_drew w).mono (fun _ _ _=>rfl)).trans (x1.mono (fun b' t h0=>?_)) (fun _ _ _ h=>h)).trans (x2.mono (fun b' t h0=>?_)) (fun _ _ _ h=>h)
       ·simp only[rng] at h0 ⊢;split at h0
        ·cases h0
        ·rw[aY (by omega)]
       ·simp only[rng] at h0 ⊢;split at h0
        ·cases h0
        ·rw[aY (by omega)]
      ·rw[hw];exact has_setCells (fun j hj=>some_setCells b _ _ _ hsome1 _ (hcell _ (by omega))) s5
     ·refine (ins_grow LF b 0 (List.length vs) cap ni vb voff (List.length ys) ycap olds news w hlt hm c1 (by omega) hbig (by omega) r4 s4 hcs hvs r5 s5).mono ?_;rintro ex w' ⟨rfl,hw⟩;have hge:=grownCap_ge w (List.length vs+List.length ys) cap (ρ.t 9);have hgm:=grownCap_le_maxLen w (List.length vs+List.length ys) cap (ρ.t 9) (by simp only[maxLen];omega)
      obtain ⟨G,hG⟩:∃ G,G=grownCap w (List.length vs+List.length ys) cap (ρ.t 9):=⟨_,rfl⟩
      rw[<-hG] at hw hge hgm ⊢
      obtain ⟨ROW,hROW⟩:∃ ROW:Array Value,ROW=(olds.take (ni*e.sz)).toArray++Builtin.zeroCells zv.cells (List.length vs+List.length ys - ni)++Builtin.zeroCells zv.cells (G - (List.length vs+List.length ys)):=⟨_,rfl⟩
      rw[<-hROW] at hw
      have hsz:ROW.size=G*e.sz:=by
       rw[hROW,fD,fD,size_zeroCells,size_zeroCells,LF.ik,dJ,hl1,<- cD,<- cD];congr 1;omega
      have hfit:(List.length vs+List.length ys)*e.sz<=G*e.sz:=aX _ hge;have hown:=own_alloc w ROW (ρ.t 9) (0,0) (isU8 e) (.inr (aK _));rw[hsz] at hown
      have hcell:∀ j,j < G*e.sz->((w.alloc (.cells ROW (ρ.t 9))).drew.cell? ⟨w.heap.size,j,none⟩).isSome=true:=fun j hj=>by
       have:=World.cell?_alloc_at (w:=w) ROW (ρ.t 9) w.heap.size j rfl;show ((w.alloc (.cells ROW (ρ.t 9))).cell? _).isSome=true;rw[this,cK (by omega)];rfl
      have x0:Ext w (w.alloc (.cells ROW (ρ.t 9))).drew (fun _ _=>0):=(ext_alloc w _).trans (ext_drew _) (fun _ _ _ _=>rfl);have x1:=ext_setCells (b:=w.heap.size) (o:=ni*e.sz) news (w.alloc (.cells ROW (ρ.t 9))).drew (ni*e.sz);have x2:=ext_setCells (b:=w.heap.size) (o:=(ni+List.length ys)*e.sz) (olds.drop (ni*e.sz)) ((w.alloc (.cells ROW (ρ.t 9))).drew.setCells w.heap.size (ni*e.sz) news).drew ((ni+List.length ys)*e.sz);rw[<-hw] at x2;have hno:∀ (o n b' t:Nat),b' < w.heap.size->rng w.heap.size o n b' t=0:=fun o n b' t hb'=>by simp only[rng];rw[aY (by omega)]
      have x12:Ext w w' (fun _ _=>0):=((x0.trans x1 (fun b' t hb' _=>hno _ _ _ _ hb')).trans (ext_drew _) (fun _ _ _ _=>rfl)).trans x2 (fun b' t hb' _=>hno _ _ _ _ hb')
      have g0:Has (w.alloc (.cells ROW (ρ.t 9))).drew w.heap.size 0 (olds.take (ni*e.sz)):=has_alloc w ROW (ρ.t 9) (0,0) (fun j u hu2=>by
       have hlt2:=(aJ.1 hu2).1;rw[hROW,bD,Array.append_assoc,dQ (by simpa using hlt2)]
       simpa using hu2) (fun u hu2=>r5 u (eG hu2))
      have hlts:w.heap.size < (w.alloc (.cells ROW (ρ.t 9))).drew.heap.size:=by show w.heap.size < (w.heap.push _).size;rw[Array.size_push];omega
      have g1:=has_setCells (w:=(w.alloc (.cells ROW (ρ.t 9))).drew) (b:=w.heap.size) (o:=ni*e.sz) (L:=news) (fun j hj=>hcell _ (by omega)) s5;have g2:=has_setCells (w:=((w.alloc (.cells ROW (ρ.t 9))).drew.setCells w.heap.size (ni*e.sz) news).drew) (b:=w.heap.size) (o:=(ni+List.length ys)*e.sz) (L:=olds.drop (ni*e.sz)) (fun j hj=>some_setCells w.heap.size _ _ _ (fun j hj=>hcell _ (by omega)) _ (hcell _ (by omega))) hold1;rw[<-hw] at g2;have hx1:w.heap.size < ((w.alloc (.cells ROW (ρ.t 9))).drew.setCells w.heap.size (ni*e.sz) news).drew.heap.size:=cL hlts x1.size;refine hgrow w' G x12 (cL hx1 x2.size) hge hgm (x2.blk _ _ ((ext_drew _).blk _ _ (x1.blk _ _ hown))) (fun t u hu2=>?_);rw[bD];by_cases ht:t < ni*e.sz
      ·rw[bL,bX (by omega)] at hu2;have h5:=g0 t u hu2;rw[bD] at h5;exact x2.cell _ t hx1 (by simp only[rng];rw[aY (by omega)]) u (x1.cell _ t hlts (by simp only[rng];rw[aY (by omega)]) u h5)
      ·by_cases ht2:t < (ni+List.length ys)*e.sz
       ·rw[bX (by rw[aU,hl1,s4];omega),bR (by omega),hl1] at hu2;have h5:=g1 _ u hu2;rw[show ni*e.sz+(t - ni*e.sz)=t by omega] at h5;exact x2.cell _ t hx1 (by simp only[rng];rw[aY (by omega)]) u h5
       ·rw[bR (by rw[aU,hl1,s4];omega),aU,hl1,s4] at hu2;have h5:=g2 _ u hu2;rw[show (ni+List.length ys)*e.sz+(t - (ni*e.sz+List.length ys*e.sz))=t by omega] at h5;exact h5
end
end OT
