/- The proof's parts, merged: Functions  a body that is run on data gives the contract.. No conditions but those that each states. -/
import Derived.Test.YtljankkghppaiaaGreatYc
import Derived.ProofKit
import Derived.Deep.Slices
import Derived.Laws.BitsLemmas
import Derived.Shelf.SlSortCmp.NoneTotal
import Derived.Shelf.SlLaysE0
import Derived.Shelf.RegionOpenPlain
import Derived.WalkKit
import Derived.Deep.LoopGhost
import Derived.Deep.RegionLaw
import Derived.Lib.Walk
import Derived.Sort.WalkB12
import Derived.Lib.SliceRun
import Derived.Shelf.Lays2
import Derived.Shelf.SlGeneric
import Derived.Lib.JoinLaws
import Derived.Lib.AppendZeros
import Derived.Lib.AppendZerosOnto
import Derived.Lib.Overlaps
import Derived.Laws.Externs
import Derived.Laws.IdiomCopy
import Derived.Laws.NewBlocks
set_option linter.unusedVariables false
set_option linter.unusedSimpArgs false
namespace OT
open Go
section
variable {P:Program} {w:World} {A:Cells} {R:Type} {x:R} {E:Env}
theorem vB:∀ (ps:List (PM×Ty)) (v:(c8 (ps.map (·.2))).den),(il ps v).length=ps.length
 | [],_=>rfl
 | (.ro,t)::ps,v=>by cases t <;> simp[il,vB ps v.2]
 | (.fix f,t)::ps,v=>by cases t <;> simp[il,vB ps v.2]
 | (.py m,t)::ps,v=>by simp[il,vB ps v.2]
 | (.nO m,t)::ps,v=>by simp[il,vB ps v.2]
 | (.sB m,t)::ps,v=>by simp[il,vB ps v.2]
 | (.nc m,t)::ps,v=>by simp[il,vB ps v.2]
theorem Fq:∀ (ps:List (PM×Ty)) {v:(c8 (ps.map (·.2))).den} {xs:List Value} {G:FP},oY P w A Kw ps v xs G->xs.length=ps.length
 | [],_,_,_,h=>by have h:_=[]:=h;rw[h];rfl
 | (pm,t)::ps,_,_,_,h=>by
  obtain ⟨y,ys,F1,F2,rfl,_,_,h2⟩:=h;simp[Fq ps h2]
theorem Wj:∀ (ps:List (PM×Ty)) {v:(c8 (ps.map (·.2))).den} {xs:List Value} {G:FP},oY P w A Kw ps v xs G->Fo ps=true ->
  ∃ Fi:Nat->FP,(∀ b k,ba ps.length Fi b k<=G b k)/\∀ i s,(il ps v)[i]?=some s->∃ y,xs[i]?=some y/\(∀ σ a,cu P A σ a w y s (Fi i))/\(∀ t m H v,s=.box t m H v->(i,i,false) ∈ tX 0 ps) /\
   ((i,i,true) ∈ tX 0 ps->∃ t m H v,s=.own t m H v):=by
 have main:∀ (ps:List (PM×Ty)) (n:Nat) {v:(c8 (ps.map (·.2))).den} {xs:List Value} {G:FP},oY P w A Kw ps v xs G->Fo ps=true ->
   ∃ Fi:Nat->FP,(∀ b k,ba ps.length Fi b k<=G b k)/\∀ i s,(il ps v)[i]?=some s->∃ y,xs[i]?=some y/\(∀ σ a,cu P A σ a w y s (Fi i))/\(∀ t m H v,s=.box t m H v->(n+i,n+i,false) ∈ tX n ps) /\
    ((n+i,n+i,true) ∈ tX n ps->∃ t m H v,s=.own t m H v):=by
  have aj:∀ (ps:List (PM×Ty)) (n j k:Nat) (c:Bool),(j,k,c) ∈ tX n ps->n<=j/\j=k:=by
   intro ps
   induction ps with
   | nil=>intro n j k c h;cases h
   | cons p ps ih=>
    intro n j k c h;obtain ⟨pm,t⟩:=p
    cases pm with
    | ro=>have:=ih (n+1) j k c h;omega
    | fix f=>have:=ih (n+1) j k c h;omega
    | nc m=>have:=ih (n+1) j k c h;omega
    | py m=>
     rcases aY.1 h with e | h
     ·injection e with e1 e2;injection e2 with e2 e3;omega
     ·have:=ih (n+1) j k c h;omega
    | sB m=>
     rcases aY.1 h with e | h
     ·injection e with e1 e2;injection e2 with e2 e3;omega
     ·have:=ih (n+1) j k c h;omega
    | nO m=>
     rcases aY.1 h with e | h
     ·injection e with e1 e2;injection e2 with e2 e3;omega
     ·have:=ih (n+1) j k c h;omega
  intro ps
  induction ps with
  | nil=>intro n v xs G h _;exact ⟨fun _ _ _=>0,fun b k=>aW _,fun i s hs=>by cases hs⟩
  | cons p ps ih=>
   intro n v xs G h hp;obtain ⟨pm,t⟩:=p;obtain ⟨y,ys,F1,F2,rfl,hs,ha,hr⟩:=h;have ZU:Fo ps=true:=hp;obtain ⟨Fi,g1,g2⟩:=ih (n+1) hr ZU
   obtain ⟨s0,hs0,Tq,SZ,fu⟩:∃ s0,il ((pm,t)::ps) v=s0::il ps v.2/\(∀ σ a,cu P A σ a w y s0 F1)/\(∀ t' m' H' v',s0=.box t' m' H' v'->∃ m,pm=.py m\/pm=.sB m)/\((∃ m,pm=.nO m)->∃ t' m H v,s0=.own t' m H v):=by
    cases pm with
    | ro=>
     obtain ⟨cs,h1,h2⟩:=ha
     cases t with
     | ptr e=>
      refine ⟨.cp e v.1,rfl,fun σ a=>?_,(fun _ _ _ _ e=>by cases e),fun ⟨m,e⟩=>by cases e⟩
      have hl:=Ro.length _ h2
      match cs,hl with
      | [u],_=>
       rw[df _ _ rfl] at h1;subst h1;exact h2
     | _=>exact ⟨.val _ v.1,rfl,fun σ a=>⟨cs,h1,h2⟩,(fun _ _ _ _ e=>by cases e),fun ⟨m,e⟩=>by cases e⟩
    | fix f=>
     obtain ⟨⟨cs,h1,h2⟩,h3⟩:=ha
     cases t with
     | fn=>
      refine ⟨.val .fn (f,v.1.2),rfl,fun σ a=>⟨cs,h1,?_⟩,(fun _ _ _ _ e=>by cases e),fun ⟨m,e⟩=>by cases e⟩
      have e:v.1=(f,v.1.2):=by have:=h3 rfl;rw[<-this]
      rw[<-e];exact h2
     | _=>exact ⟨.dead,rfl,fun σ a=>trivial,(fun _ _ _ _ e=>by cases e),fun ⟨m,e⟩=>by cases e⟩
    | py m=>
     obtain ⟨b,o,L,F3,h1,h2,h3,h4,h5,h6⟩:=ha;exact ⟨.box t m [] v.1,rfl,fun σ a=>⟨b,o,L,F3,h1,h2,h3,h4,h5,h6⟩,fun _ _ _ _ _=>⟨m,.inl rfl⟩,fun ⟨m,e⟩=>by cases e⟩
    | sB m=>
     obtain ⟨b,o,L,F3,h1,h2,h3,h4,h5,h6⟩:=ha;exact ⟨.box t m [] v.1,rfl,fun σ a=>⟨b,o,L,F3,h1,h2,h3,h4,h5,h6⟩,fun _ _ _ _ _=>⟨m,.inr rfl⟩,fun ⟨m,e⟩=>by cases e⟩
    | nO m=>
     obtain ⟨cs,h1,h2⟩:=ha;exact ⟨.own t m [] v.1,rfl,fun σ a=>⟨cs,h1,h2⟩,(fun _ _ _ _ e=>by cases e),fun _=>⟨_,_,_,_,rfl⟩⟩
    | nc m=>
     obtain ⟨H,cs,hH,h1,h2⟩:=ha;obtain rfl:=bN.1 hH;exact ⟨.own t m [] v.1,rfl,fun σ a=>⟨cs,h1,h2⟩,(fun _ _ _ _ e=>by cases e),fun _=>⟨_,_,_,_,rfl⟩⟩
   refine ⟨fun k=>match k with | 0=>F1 | k+1=>Fi k,fun b k=>?_,fun i s hi=>?_⟩
   ·have:ba (ps.length+1) (fun k=>match k with | 0=>F1 | k+1=>Fi k) b k=F1 b k+ba ps.length Fi b k:=by
     rw[jB,sM];congr 1
     ·simp[ba]
     ·refine iE (iE (qw fun j hj=>?_) b) k;rw[jB]
    show ba (ps.length+1) _ b k<=G b k;rw[this];have:=hs b k;have:=g1 b k;omega
   ·rw[hs0] at hi
    cases i with
    | zero=>
     injection hi with hi;subst hi;refine ⟨y,rfl,Tq,fun t' m' H' v' e=>?_,fun hm=>?_⟩
     ·obtain ⟨m,rfl | rfl⟩:=SZ t' m' H' v' e
      ·exact bG
      ·exact bG
     ·refine fu ?_
      cases pm with
      | nO m=>exact ⟨m,rfl⟩
      | ro=>have:=aj ps (n+1) _ _ _ hm;omega
      | fix f=>have:=aj ps (n+1) _ _ _ hm;omega
      | nc m=>have:=aj ps (n+1) _ _ _ hm;omega
      | py m=>
       rcases aY.1 hm with e | hm
       ·injection e with e1 e2;injection e2 with e2 e3;cases e3
       ·have:=aj ps (n+1) _ _ _ hm;omega
      | sB m=>
       rcases aY.1 hm with e | hm
       ·injection e with e1 e2;injection e2 with e2 e3;cases e3
       ·have:=aj ps (n+1) _ _ _ hm;omega
    | succ i=>
     obtain ⟨y',q1,q2,q3,q4⟩:=g2 i s hi;have Tr:n+1+i=n+(i+1):=by omega
     rw[Tr] at q3 q4;refine ⟨y',q1,q2,fun t' m' H' v' e=>?_,fun hm=>q4 ?_⟩
     ·have:=q3 t' m' H' v' e
      cases pm with
      | ro=>exact this
      | fix f=>exact this
      | nc m=>exact this
      | py m=>exact aZ _ this
      | sB m=>exact aZ _ this
      | nO m=>exact aZ _ this
     ·cases pm with
      | ro=>exact hm
      | fix f=>exact hm
      | nc m=>exact hm
      | py m=>
       rcases aY.1 hm with e | hm
       ·injection e with e1 e2;omega
       ·exact hm
      | sB m=>
       rcases aY.1 hm with e | hm
       ·injection e with e1 e2;omega
       ·exact hm
      | nO m=>
       rcases aY.1 hm with e | hm
       ·injection e with e1 e2;omega
       ·exact hm
 intro ps v xs G h hp;obtain ⟨Fi,g1,g2⟩:=main ps 0 h hp;exact ⟨Fi,g1,fun i s hi=>by simpa using g2 i s hi⟩
theorem KX:∀ (ps:List (PM×Ty)) (n j k:Nat) (c:Bool),(j,k,c) ∈ tX n ps->n<=j/\j=k/\j < n+ps.length:=by
 intro ps
 induction ps with
 | nil=>intro n j k c h;cases h
 | cons p ps ih=>
  intro n j k c h;obtain ⟨pm,t⟩:=p;simp only[aP]
  cases pm with
  | ro=>have:=ih (n+1) j k c h;omega
  | fix f=>have:=ih (n+1) j k c h;omega
  | nc m=>have:=ih (n+1) j k c h;omega
  | py m=>
   rcases aY.1 h with e | h
   ·injection e with e1 e2;injection e2 with e2 e3;omega
   ·have:=ih (n+1) j k c h;omega
  | sB m=>
   rcases aY.1 h with e | h
   ·injection e with e1 e2;injection e2 with e2 e3;omega
   ·have:=ih (n+1) j k c h;omega
  | nO m=>
   rcases aY.1 h with e | h
   ·injection e with e1 e2;injection e2 with e2 e3;omega
   ·have:=ih (n+1) j k c h;omega
theorem KY:∀ (ss:List Slot) (n i:Nat),m9 (y6 n ss) i=if n<=i then ss[i - n]? else none
 | [],n,i=>by simp[y6,m9]
 | s::ss,n,i=>by
  simp only[y6,m9,KY ss (n+1) i];by_cases hi:n=i
  ·subst hi;simp
  ·have:Nat.beq n i=false:=by
    cases hb:Nat.beq n i with
    | false=>rfl
    | true=>exact absurd (cL hb) hi
   simp only[this,aG,aL];by_cases hle:n<=i
   ·rw[aU (by omega),aU hle];have e:i - n=(i - (n+1))+1:=by omega
    rw[e,fJ]
   ·rw[bA (by omega),bA hle]
theorem Ts {g:sC} {v:(c8 (g.ps.map (·.2))).den} {xs:List Value} {F0:FP} {n:Nat} (h:oY P w A Kw g.ps v xs F0) (hp:Fo g.ps=true) (hn:g.ps.length<=n) (h1:∀ b i,F0 b i<=1) (h2:∀ b i,1<=F0 b i->¬ A b i) (h3:∀ b i,1<=F0 b i\/A b i->b < w.heap.size) :
  ∃ F,du P { w0:=w,A0:=A,F0:=F0,args:=xs.toArray } A (AU g.ps v n) { tmps:=xs.toArray++Array.replicate (n - xs.toArray.size) undef,defers:=[] } w F:=by
 obtain ⟨Fi,g1,g2⟩:=Wj g.ps h hp;have hlen:=Fq g.ps h;have U5:=vB g.ps v
 have ua:∀ i,(AU g.ps v n).get i=if i < n then (match (il g.ps v)[i]? with | some s=>s | none=>.dead) else .dead:=fun i=>by
  unfold St.get AU;simp only[KY,aW,aI,Nat.sub_zero];by_cases hi:i < n
  ·rw[aU (by simpa [gR] using hi),aU hi];rfl
  ·rw[bA (by simpa [gR] using hi),bA hi]
 have Tt:∀ i (y:Value),xs[i]?=some y->tmp { tmps:=xs.toArray++Array.replicate (n - xs.toArray.size) undef,defers:=[] } i=y:=fun i y hy=>by
  have hi:=(aM.1 hy).1;unfold tmp;rw[iY,dW (by simpa using hi)];simp[hy]
 have mA:∀ b k,ba n (fun i=>if i < g.ps.length then Fi i else fun _ _=>0) b k<=F0 b k:=fun b k=>by
  have e:n=g.ps.length+(n - g.ps.length):=by omega
  rw[e,sM];have e1:=iE (iE (qw (n:=g.ps.length) (f:=fun i=>if i < g.ps.length then Fi i else fun _ _=>0) (g:=Fi) (fun j hj=>by simp only[aU hj])) b) k;have e2:=iE (iE (qw (n:=n - g.ps.length) (f:=fun j=>(fun i=>if i < g.ps.length then Fi i else fun _ _=>0) (g.ps.length+j)) (g:=fun _ _ _=>0) (fun j hj=>by simp only;rw[bA (by omega)])) b) k;rw[e1,e2,nf];exact g1 b k
 refine ⟨fun i=>if i < g.ps.length then Fi i else fun _ _=>0,?_,rfl,fun i hi=>?_,(fun d r p snap hm=>by cases hm),fun b k=>?_,fun b k hp=>?_,fun b k hp=>?_,fun i=>rfl,Ext.refl _ _,fun b k hp=>?_,fun _ _ h=>h,fun _ _ h=>.inl h,fun j k hm=>?_,fun r t m H v' hg hl=>?_,fun j k hm R hR=>?_⟩
 ·simp only[fI,dM,Array.size_replicate,hlen,AU];omega
 ·rw[ua];have hi:i < n:=hi;rw[aU hi]
  cases hs:(il g.ps v)[i]? with
  | none=>trivial
  | some s=>
   obtain ⟨y,q1,q2,_⟩:=g2 i s hs;have aj:i < g.ps.length:=by rw[<-U5];exact (aM.1 hs).1
   rw[Tt i y q1];simp only[aU aj];exact q2 _ _
 ·have:=mA b k;have:=h1 b k;show 0+ba n _ b k<=1;omega
 ·have hp:1<=0+ba n (fun i=>if i < g.ps.length then Fi i else fun _ _=>0) b k:=hp;have:=mA b k;exact h2 b k (by omega)
 ·refine h3 b k (hp.imp (fun hp=>?_) id);have hp:1<=0+ba n (fun i=>if i < g.ps.length then Fi i else fun _ _=>0) b k:=hp;have:=mA b k;omega
 ·have hp:1<=0+ba n (fun i=>if i < g.ps.length then Fi i else fun _ _=>0) b k:=hp;have:=mA b k;left;show 1<=F0 b k;omega
 ·obtain ⟨_,rfl,hj⟩:=KX g.ps 0 j k false hm;have hj:j < xs.length:=by omega
  rw[Tt j xs[j] (aA hj)];simp[hj]
 ·exfalso;rw[ua] at hg;split at hg
  ·cases hs:(il g.ps v)[r]? with
   | none=>rw[hs] at hg;cases hg
   | some s=>
    rw[hs] at hg;obtain ⟨y,_,_,q3,_⟩:=g2 r s hs;exact hl r (q3 t m H v' hg)
  ·cases hg
 ·obtain ⟨_,rfl,hj⟩:=KX g.ps 0 j k true hm;have vM:j < (il g.ps v).length:=by omega
  have hs:=aA vM;obtain ⟨y,q1,q2,_,q4⟩:=g2 j _ hs;obtain ⟨t,m,H,v',e⟩:=q4 hm;have Vj:j < n:=by omega
  rw[ua,aU Vj,hs] at hR;simp only[e,c_,aR] at hR;subst hR;rw[Tt j y q1];have h2:=q2 (AU g.ps v n) { tmps:=#[],defers:=[] };rw[e] at h2;obtain ⟨cs,c1,c2⟩:=h2;have:=lQ (an.length _ c2) (an.one _ c2);show cg t y.cells.toList=_;rw[c1,this,<- c1]
  have XB:=(aM.1 q1)
  obtain ⟨XB,e2⟩:=XB;simp[XB,e2]
noncomputable def JC (P:Program) (E:Env) (fn:Func) (ps:List (PM×Ty)) (rs:List (Ty×Md)) (es:List Nat):Bool:=
 codeOk P E (CW fn)&&Fm E rs fn.results.toList&&Fo ps&&Nat.ble ps.length fn.ntmps&&decide es.Nodup
theorem Jm (hE:sQ P E) {f:FuncId} {fn:Func} (hf:P.funcs[f]?=some fn) (hb:fn.body.isSome=true) {g:sC} (hh:∀ v H,g.Cw v H=true->H=[]) {es fr:List Nat} (bc:JC P E fn g.ps g.rs es=true) (hF:∀ v out,g.F v=some out->∃ k,Jv E k fn g.ps g.rs es fr v=some out):Sound P f g:=by
 intro w A F0 v xs lc h1 h2 h3 out ld;replace lc:=lc.none (hh v);obtain ⟨k,hk⟩:=hF v out ld;simp only[JC,aF,dP,bO] at bc;obtain ⟨⟨⟨⟨Vk,GK⟩,ui⟩,UV⟩,sF⟩:=bc;obtain ⟨c,hc⟩:=fW.1 hb;have QG:CW fn=c:=by simp[CW,hc]
 rw[QG] at Vk;obtain ⟨F,Tq⟩:=Ts lc ui UV h1 h2 h3;unfold Jv at hk;rw[QG] at hk;have RB:=Fq g.ps lc
 have xU:∀ (a':Act) (w':World) (σ':St),J0 g.ps g.rs es fn.results.toList (UF fr) σ'=some out->Dd P { w0:=w,A0:=A,F0:=F0,args:=xs.toArray } σ' a' w' ->
   a'.defers=[]/\∃ rv,(results fn a'.tmps).run P w'=.ok rv w'/\(∃ z8,Ending.returned rv=.returned z8/\Ext w w' F0/\∃ (A':Cells) (G GR GM:FP),(∀ b i,A b i->A' b i)/\(∀ b i,A' b i->A b i\/1<=F0 b i\/w.heap.size<=b) /\
    (∀ b i,1<=G b i->1<=F0 b i\/w.heap.size<=b)/\(∀ b i,G b i<=1)/\(∀ b i,1<=G b i->¬ A' b i)/\(∀ b i,1<=G b i\/A' b i->b < w'.heap.size)/\(∀ b i,GR b i+GM b i<=G b i) /\
    mT P w' A' (lK g.rs out).1 z8 GR/\m8 P w' A' g.ps (lK g.rs out).2 xs GM):=by
  intro a' w' σ' ho hr;obtain ⟨A1,F1,hr⟩:=hr;unfold J0 at ho;obtain ⟨A2,ly,X2,F2,BK,L,Fi,pre,r1,r2,r3,r4,r5,r6,r7,r8,r9⟩:=Xy hE g.rs fn.results.toList 0 GK hr ho;obtain ⟨vs,us,Gi,m1,m2,m3,m4,m5,m6⟩:=Wi r2 0 g.ps es ui sF (by simp[RB]) r3;have aau:pre vs=out:=Option.some.inj m1;have oc:lK g.rs out=(L,vs):=by rw[<-aau,r4]
  have EI:∀ b i,ba L.length Fi b i<=X2 b i:=fun b i=>by have:=r8 b i;omega
  have aav:∀ b i,ol Gi us b i<=ol F2 us b i:=fun b i=>by
   have:∀ l:List Nat,(∀ j ∈ l,j ∈ us)->ol Gi l b i<=ol F2 l b i:=by
    intro l
    induction l with
    | nil=>intro _;exact aN _
    | cons j l ih=>
     intro hl;have:=m5 j b i (hl j bG);have:=ih fun j' vM=>hl j' (aZ _ vM);simp only[ol];omega
   exact this us fun _ h=>h
  have RD:∀ b i,ol Gi us b i<=ba ly.n F2 b i:=fun b i=>bJ (aav b i) (NV us F2 m3 m4 b i);refine ⟨r2.defers,_,MC (by rw[r6]) r7,_,rfl,r2.ext,?_⟩
  obtain ⟨A3,qF⟩:∃ A3:Cells,∀ b i,A3 b i↔(A2 b i\/(1<=X2 b i+ba ly.n F2 b i/\ba L.length Fi b i+ol Gi us b i=0)):=⟨fun b i=>A2 b i\/(1<=X2 b i+ba ly.n F2 b i/\ba L.length Fi b i+ol Gi us b i=0),fun _ _=>jT⟩
  have Tu:∀ b i,A2 b i->A3 b i:=fun b i h=>(qF b i).2 (.inl h);have po:∀ b i,X2 b i+ba ly.n F2 b i<=1:=fun b i=>r2.o5 b i;refine ⟨A3,fun b i=>ba L.length Fi b i+ol Gi us b i,ba L.length Fi,ol Gi us,fun b i ha=>Tu b i (r2.a0 b i ha),fun b i ha=>?_,fun b i hp=>?_,fun b i=>?_,fun b i hp ha=>?_,fun b i hp=>?_,fun _ _=>aN _,?_,?_⟩
  ·rcases (qF b i).1 ha with ha | ⟨hp,_⟩
   ·exact r2.a1 b i ha
   ·exact .inr (r2.own b i hp)
  ·have hp:1<=ba L.length Fi b i+ol Gi us b i:=hp;exact r2.own b i (by have:=EI b i;have:=RD b i;omega)
  ·show ba L.length Fi b i+ol Gi us b i<=1;have:=EI b i;have:=RD b i;have:=po b i;omega
  ·have hp:1<=ba L.length Fi b i+ol Gi us b i:=hp
   rcases (qF b i).1 ha with ha | ⟨_,hz⟩
   ·exact r2.pW b i (by have:=EI b i;have:=RD b i;omega) ha
   ·omega
  ·rcases hp with hp | ha
   ·have hp:1<=ba L.length Fi b i+ol Gi us b i:=hp;exact r2.kO b i (.inl (by have:=EI b i;have:=RD b i;omega))
   ·rcases (qF b i).1 ha with ha | ⟨hp,_⟩
    ·exact r2.kO b i (.inr ha)
    ·exact r2.kO b i (.inl hp)
  ·rw[oc]
   have KZ:=r9 A3 Tu (fun b i hx _ hz=>(qF b i).2 (.inr ⟨by omega,by
    have:=RD b i;have:=po b i;omega⟩))
   show mT P w' A3 L _ _
   match L,r5,KZ with
   | [],_,_=>trivial
   | [y],hl,KZ=>
    match BK,hl with
    | [u],_=>
     obtain ⟨u',cs,e1,e2,e3⟩:=KZ 0 y rfl;injection e1 with e1;subst e1;refine ⟨cs,by simpa using e2,e3.le fun b i=>by simp[ba]⟩
   | y::z::L,hl,KZ=>
    refine ⟨BK.toArray,Fi,?_,fun _ _=>aN _,fun j q hq=>?_⟩
    ·rw[dif_neg];simp only[dM,hl,aP];omega
    ·obtain ⟨u,cs,e1,e2,e3⟩:=KZ j q hq;exact ⟨u,cs,by simpa using e1,e2,e3⟩
  ·rw[oc];refine m6 A3 Tu fun i b k' hi hp hz=>(qF b k').2 (.inr ⟨by have:=c7 F2 (m4 i hi) b k';omega,?_⟩);have h4:=c7 F2 (m4 i hi) b k';have h5:=po b k';have h6:=EI b k'
   have h7:ol Gi us b k'=0:=by
    rcases bF (ol Gi us b k') with h0 | h0
    ·exact h0
    ·obtain ⟨j,hj,U8⟩:=KS h0;by_cases oD:j=i
     ·subst oD;omega
     ·have:=m5 j b k' hj;have:=tY F2 (m4 j hj) (m4 i hi) oD b k';omega
   omega
 refine calls_of_wp hf hc (wp_mono (Wh hE c Vk Tq hk) fun e a' w' hq=>?_)
 cases e with
 | normal=>obtain ⟨σ',h4,h5⟩:=hq;exact xU a' w' σ' h4 h5
 | ret=>obtain ⟨σ',h4,h5⟩:=hq;exact xU a' w' σ' h4 h5
 | exit j=>obtain ⟨σ',h4,h5⟩:=hq;cases h4
 | _=>exact hq.elim
end
end OT
namespace OT
open Go
def K1 (w:World):Cells:=fun b _=>b < w.heap.size
def AA:Ty->Bool
 | .int _ | .bool | .str | .unit=>true
 | .pair a b=>AA a&&AA b
 | .U e=>AA e
 | _=>false
def sG:(T:Ty)->T.den->Prop
 | .int k,n=>k.min<=pJ k n/\pJ k n<=k.max
 | .str,s=>List.length s<=maxLen
 | .pair a b,v=>sG a v.1/\sG b v.2
 | .U e,v=>List.length v<=maxLen/\∀ x ∈ (v:List e.den),sG e x
 | _,_=>True
def RF:(ps:List (PM×Ty))->(c8 (ps.map (·.2))).den->Prop
 | [],_=>True
 | (_,T)::ps,v=>sG T v.1/\RF ps v.2
section
variable {P:Program} {w:World} {H:Type} {enc:TypeId×Value->H}
theorem Fs {T:Ty} {i:TypeId} (h:bd P T (.inl i)=true):P.cellsOf i=T.sz:=by
 obtain ⟨inf,h1,h2,_⟩:=lz (lR h);simp[Program.cellsOf,h1,h2]
theorem Tv {a:Addr} {k:Nat} {u:Value} (h:w.cell? (a.add k)=some u) (hk:k=0\/a.spot=none):a.spot=none:=by
 rcases hk with rfl | hk
 ·unfold Addr.add at h;rw[aU rfl] at h;unfold World.cell? at h;split at h
  ·split at h
   ·cases h
   ·rename_i hs
    cases oc:a.spot with
    | none=>rfl
    | some s=>rw[oc] at hs;simp at hs
  ·cases h
 ·exact hk
theorem Wk:∀ (T:Ty),AA T=true ->
  (∀ i,bd P T (.inl i)=true->∀ fuel cs x,DataW.trod enc P w 0 (fun _=>true) true fuel i cs=some x->∃ v:T.den,sG T v/\Ro P w (K1 w) T v cs) /\
  (∀ fs off,bd P T (.inr (fs,off))=true->∀ n (cs:List Value),cs.length=off+T.sz->(∀ f ∈ fs,∃ x,DataW.trod enc P w 0 (fun _=>true) true n f.type ((cs.drop f.offset).take (P.cellsOf f.type))=some x)->∃ v:T.den,sG T v/\Ro P w (K1 w) T v (cs.drop off)):=by
 intro T
 induction T with
 | int k=>
  intro _;refine ⟨fun i hl fuel cs x h=>?_,fun fs off hl=>by simp[bd] at hl⟩
  obtain ⟨n,rfl,_,RG⟩:=DataW.trod_int (pB hl) h;simp only[Lit.wf,aF,bO] at RG
  cases k with
  | u8=>
   have h1:pJ .u8 (UInt8.ofInt n)=n:=by
    have:=HQ .u8 n (fun _=>by
     have h1:(0:Int)<=n:=RG.1;have h2:n<=(255:Int):=RG.2
     omega)
    exact this
   refine ⟨(UInt8.ofInt n:UInt8),?_,?_⟩
   ·show IntKind.u8.min<=pJ .u8 (UInt8.ofInt n)/\pJ .u8 (UInt8.ofInt n)<=IntKind.u8.max;rw[h1];exact RG
   ·show [Value.int .u8 n]=[Value.int .u8 (pJ .u8 (UInt8.ofInt n))]
    rw[h1]
  | _=>exact ⟨n,RG,rfl⟩
 | bool=>
  intro _;refine ⟨fun i hl fuel cs x h=>?_,fun fs off hl=>by simp[bd] at hl⟩
  have hu:P.underlying i=some .bool:=by
   simp only[bd,aF] at hl;have h2:=hl.2;split at h2
   ·assumption
   ·cases h2
  obtain ⟨b,rfl,_⟩:=DataW.trod_bool hu h;exact ⟨b,trivial,rfl⟩
 | str=>
  intro _;refine ⟨fun i hl fuel cs x h=>?_,fun fs off hl=>by simp[bd] at hl⟩
  obtain ⟨s,rfl,_,RH⟩:=DataW.trod_string (m7 hl) h;exact ⟨s.data.toList,(by show s.data.toList.length<=maxLen;rw[iV];exact RH),by simp only[Ro]⟩
 | unit=>
  intro _;refine ⟨fun i hl fuel cs x h=>?_,fun fs off hl n cs hlen _=>⟨(),trivial,?_⟩⟩
  ·simp only[bd,aF] at hl;have h2:=hl.2;split at h2
   ·rename_i fs hu;obtain ⟨xs,n,_,_,hlen,_⟩:=DataW.trod_struct hu h
    have kt:P.cellsOf i=0:=by
     obtain ⟨inf,h1,h3,_⟩:=lz hl.1;simp[Program.cellsOf,h1,h3,Ty.sz]
    rw[kt] at hlen;exact ⟨(),trivial,by simp only[Ro];exact bH hlen⟩
   ·cases h2
  ·simp only[Ro];exact dN (by simp only[Ty.sz] at hlen;omega)
 | pair a b kN kE=>
  intro ha;simp only[AA,aF] at ha
  have XC:∀ fs off,bd P (.pair a b) (.inr (fs,off))=true->∀ n (cs:List Value),cs.length=off+(Ty.pair a b).sz->(∀ f ∈ fs,∃ x,DataW.trod enc P w 0 (fun _=>true) true n f.type ((cs.drop f.offset).take (P.cellsOf f.type))=some x)->∃ v:(Ty.pair a b).den,sG (.pair a b) v/\Ro P w (K1 w) (.pair a b) v (cs.drop off):=by
   intro fs off hl n cs hlen hf
   cases fs with
   | nil=>simp[bd] at hl
   | cons f r=>
    simp only[bd,aF,eI,dP] at hl;obtain ⟨⟨⟨ho,_⟩,h1⟩,h2⟩:=hl;simp only[Ty.sz] at hlen;obtain ⟨x,hx⟩:=hf f bG;rw[ho,Fs h1] at hx;obtain ⟨v1,o1,r1⟩:=(kN ha.1).1 _ h1 _ _ _ hx;obtain ⟨v2,o2,r2⟩:=(kE ha.2).2 r (off+a.sz) h2 n cs (by omega) (fun f' Vl=>hf f' (aZ _ Vl));exact ⟨(v1,v2),⟨o1,o2⟩,r1,by rw[dA];exact r2⟩
  refine ⟨fun i hl fuel cs x h=>?_,XC⟩
  have Z5:=hl;simp only[bd,aF] at hl;have h2:=hl.2;split at h2
  ·rename_i fs hu;split at h2
   ·rename_i f r De
    have h3:bd P (.pair a b) (.inr (f::r,0))=true:=by
     simp only[bd,bE];exact h2
    obtain ⟨xs,n,_,_,hlen,RB,Wl⟩:=DataW.trod_struct hu h;rw[Fs Z5] at hlen
    have:=XC (f::r) 0 h3 n cs (by omega) (fun f' Vl=>by
     rw[<-De] at Vl;obtain ⟨j,hj,e⟩:=dD.1 Vl;have vM:j < fs.size:=by simpa using hj
     have:=Wl j f' (by rw[cN vM];simpa using e);rw[this,aA (by omega)]
     exact ⟨_,rfl⟩)
    simpa using this
   ·cases h2
  ·cases h2
 | U e ih=>
  intro ha;simp only[AA] at ha;refine ⟨fun i hl fuel cs x h=>?_,fun fs off hl=>by simp[bd] at hl⟩
  obtain ⟨el,hu,kt,hle⟩:=tG hl
  rcases DataW.trod_slice hu h with ⟨rfl,_⟩ | ⟨a,len,cap,elems,rest,n,_,rfl,_,_,Z0,hcm,ox,Tw,qk,_⟩
  ·exact ⟨[],⟨aW _,fun x hx=>by cases hx⟩,none,0,rfl,aN _,fun _=>rfl,fun ad e=>by cases e⟩
  ·rw[Fs hle] at Tw qk
   have mS:∀ k y,(w.cells? 0 (a.add (k*e.sz)) e.sz).bind (DataW.trod enc P w 0 (fun _=>true) true n el)=some y->∃ br,w.cells? 0 (a.add (k*e.sz)) e.sz=some br/\DataW.trod enc P w 0 (fun _=>true) true n el br=some y:=fun k y hk=>by
    cases hc:w.cells? 0 (a.add (k*e.sz)) e.sz with
    | none=>rw[hc] at hk;cases hk
    | some br=>rw[hc] at hk;exact ⟨br,rfl,hk⟩
   have Vm:0 < cap->a.spot=none:=fun Dg=>by
    have Kt:∃ br,w.cells? 0 (a.add (0*e.sz)) e.sz=some br:=by
     by_cases hlen:0 < len
     ·have h0:=Tw 0 hlen;rw[aA (by omega)] at h0;obtain ⟨br,h1,_⟩:=mS 0 _ h0;exact ⟨br,h1⟩
     ·obtain rfl:len=0:=by omega
      obtain ⟨t8,vd⟩:=qk rfl;have h0:=vd 0 (by omega);rw[aA (by omega)] at h0;obtain ⟨br,h1,_⟩:=mS (0+0) _ h0;exact ⟨br,by simpa using h1⟩
    obtain ⟨br,h1⟩:=Kt;obtain ⟨_,uj,h2⟩:=World.cells?_some h1;have h3:=h2 0 (by omega);rw[aA (by omega),gG] at h3;have h4:(a.add 0).add 0=a.add 0:=by unfold Addr.add;simp
    rw[h4] at h3;exact Tv h3 (.inl rfl)
   have each:∀ k:Fin len,∃ v:e.den,sG e v/\∃ L:List Value,L.length=e.sz/\(∀ j u,L[j]?=some u->ce w a.block (a.off+k.val*e.sz+j)=some u/\K1 w a.block (a.off+k.val*e.sz+j))/\Ro P w (K1 w) e v L:=fun k=>by
    have h0:=Tw k.val k.isLt;rw[aA (by have:=k.isLt;omega)] at h0;obtain ⟨br,h1,h2⟩:=mS k.val _ h0;obtain ⟨v,ho,hv⟩:=(ih ha).1 _ hle _ _ _ h2;obtain ⟨_,uj,h3⟩:=World.cells?_some h1;refine ⟨v,ho,br,uj,fun j u hu=>?_,hv⟩
    have hj:=(aM.1 hu).1;have h4:=h3 j (by omega);rw[hu] at h4;have oc:=Vm (by have:=k.isLt;omega);obtain ⟨b,off,sp⟩:=a;simp only at oc;subst oc;rw[pz,pz] at h4;have h5:ce w b (off+k.val*e.sz+j)=some u:=Ea h4 (Ro.one e hv u (cB hu));exact ⟨h5,wk h5⟩
   obtain ⟨f,hf⟩:=hY each;refine ⟨List.ofFn f,⟨by simp;omega,fun x hx=>?_⟩,some a,cap,by simp,by simpa using Z0,(fun e=>by cases e),fun ad e=>?_⟩
   ·obtain ⟨j,rfl⟩:=List.mem_ofFn.1 hx;exact (hf j).1
   injection e with e;subst e;refine ⟨Vm,fun k y hk=>?_⟩
   rw[List.getElem?_ofFn] at hk;split at hk
   ·rename_i aj;injection hk with hk;subst hk;exact (hf ⟨k,aj⟩).2
   ·cases hk
 | _=>intro ha;simp[AA] at ha
theorem arg_val {T:Ty} (ha:AA T=true) {i:TypeId} (hl:bd P T (.inl i)=true) {r:Reach} {b0:Nat} {v:Value} (h:Value.okWide P w r b0 i v):v=cg T v.cells.toList:=by
 cases T with
 | int k=>
  have hu:=pB hl;cases v <;> simp[Value.okWide,Cell.okWide,Cell.ok,hu] at h <;> simp[cg,isAgg,Value.cells]
 | bool=>
  have hu:P.underlying i=some .bool:=by
   simp only[bd,aF] at hl;have h2:=hl.2;split at h2
   ·assumption
   ·cases h2
  cases v <;> simp[Value.okWide,Cell.okWide,Cell.ok,hu] at h <;> simp[cg,isAgg,Value.cells]
 | str=>
  have hu:=m7 hl;cases v <;> simp[Value.okWide,Cell.okWide,Cell.ok,hu] at h <;> simp[cg,isAgg,Value.cells]
 | U e=>
  obtain ⟨el,hu,_⟩:=tG hl;cases v <;> simp[Value.okWide,Cell.okWide,Cell.ok,hu] at h <;> simp[cg,isAgg,Value.cells]
 | unit=>
  simp only[bd,aF] at hl;have h2:=hl.2;split at h2
  ·rename_i fs hu;simp only[Value.okWide,hu] at h;obtain ⟨cs,rfl,_⟩:=h;simp[cg,isAgg,Value.cells]
  ·cases h2
 | pair a b=>
  simp only[bd,aF] at hl;have h2:=hl.2;split at h2
  ·rename_i fs hu;simp only[Value.okWide,hu] at h;obtain ⟨cs,rfl,_⟩:=h;simp[cg,isAgg,Value.cells]
  ·cases h2
 | _=>simp[AA] at ha
def z_ (P:Program):List (PM×Ty)->List TypeId->Bool
 | [],[]=>true
 | (.ro,T)::ps,t::ts=>AA T&&bd P T (.inl t)&&P.readableRec t&&Nat.blt t P.types.size&&z_ P ps ts
 | _,_=>false
theorem NW:∀ (ps:List (PM×Ty)) (ts:List TypeId) (args:List Value) (ds:List (DataW H)) (p:List MemPlace) {b0:Nat},z_ P ps ts=true->DataW.TrodAll enc P w 0 (fun _=>true) true ts args ds p ->
  (∀ (j:Nat) t v,ts[j]?=some t->args[j]?=some v->Value.okWide P w .any b0 t v)->∃ v,RF ps v/\oY P w (K1 w) Kw ps v args (fun _ _=>0)
 | [],[],args,ds,p,b0,_,h,_=>by
  cases args with
  | nil=>exact ⟨(),trivial,rfl⟩
  | cons _ _=>simp[DataW.TrodAll] at h
 | (.ro,T)::ps,t::ts,args,ds,p,b0,hl,h,bc=>by
  simp only[z_,aF] at hl
  cases args with
  | nil=>simp[DataW.TrodAll] at h
  | cons v args=>
   cases ds with
   | nil=>simp[DataW.TrodAll] at h
   | cons d ds=>
    obtain ⟨p1,q1,⟨fuel,h1⟩,h2,_⟩:=h;obtain ⟨x,hox,hx⟩:=(Wk T hl.1.1.1.1).1 t hl.1.1.1.2 _ _ _ h1;obtain ⟨xs,aaw,hxs⟩:=NW ps ts args ds q1 (b0:=b0) hl.2 h2 (fun j t' v' ht hv=>bc (j+1) t' v' ht hv);exact ⟨(x,xs),⟨hox,aaw⟩,v,args,fun _ _=>0,fun _ _=>0,rfl,fun _ _=>aN _,⟨_,arg_val hl.1.1.1.1 hl.1.1.1.2 (bc 0 t v rfl rfl),hx⟩,hxs⟩
theorem IN (vf:laidOutB P=true) {W W':World} (hb:RowKit.Below W.heap.size W W') {sp:Nat->Bool}:∀ (ps:List (PM×Ty)) (ts:List TypeId) (args:List Value) (ds:List (DataW H)) (p:List MemPlace),z_ P ps ts=true->DataW.TrodAll enc P W 0 (fun _=>true) true ts args ds p ->
  (∀ x ∈ p,x.block < W.heap.size)->(∀ x ∈ p,sp x.block=true)->DataW.TrodAll enc P W' 0 sp true ts args ds p
 | [],[],args,ds,p,_,h,_,_=>by
  cases args with
  | nil=>
   cases ds with
   | nil=>exact h
   | cons _ _=>simp[DataW.TrodAll] at h
  | cons _ _=>simp[DataW.TrodAll] at h
 | (.ro,T)::ps,t::ts,args,ds,p,hl,h,aj,oc=>by
  simp only[z_,aF] at hl
  cases args with
  | nil=>simp[DataW.TrodAll] at h
  | cons v args=>
   cases ds with
   | nil=>simp[DataW.TrodAll] at h
   | cons d ds=>
    obtain ⟨p1,q1,h1,h2,rfl⟩:=h;have ht:t < P.types.size:=by have:=hl.1.2;rwa [gR] at this
    exact ⟨p1,q1,WideElems.Trod_stays vf hl.1.1.2 ht h1 (fun x hx=>hb.same (aj x (List.mem_append_left _ hx))) (fun x hx=>oc x (List.mem_append_left _ hx)),
     IN vf hb ps ts args ds q1 hl.2 h2 (fun x hx=>aj x (List.mem_append_right _ hx)) (fun x hx=>oc x (List.mem_append_right _ hx)),rfl⟩
theorem RI {f:FuncId} {cap:Bool} {ps:List (PM×Ty)} {Fn:(c8 (ps.map (·.2))).den->Option (c8 ([((Ty.bool,az .bool):Ty×Md)].map (·.1)++lJ ps)).den} (hs:Sound P f { cap:=cap,ps:=ps,rs:=[(.bool,az .bool)],F:=Fn }) (O5:∀ v,RF ps v->∃ u,Fn v=some (true,u))
  {ts:List TypeId} (hl:z_ P ps ts=true) {args:List Value} {ds:List (DataW H)} {p:List MemPlace} (hA:DataW.TrodAll enc P w 0 (fun _=>true) true ts args ds p) {b0:Nat} (bc:∀ (j:Nat) t v,ts[j]?=some t->args[j]?=some v->Value.okWide P w .any b0 t v) :
  Calls P f args.toArray w fun e W'=>e=.returned (.bool true)/\RowKit.Below w.heap.size w W':=by
 obtain ⟨v,Ra,hv⟩:=NW ps ts args ds p hl hA bc;obtain ⟨u,hu⟩:=O5 v Ra;refine (hs w (K1 w) (fun _ _=>0) v args hv (fun _ _=>aW _) (fun b i h=>by omega) (fun b i h=>?_) _ hu).mono fun e W' h=>?_
 ·rcases h with h | h
  ·omega
  ·exact h
 ·obtain ⟨rv,rfl,dm,A',G,GR,GM,_,_,_,_,_,_,_,tN,_⟩:=h;obtain ⟨cs,h1,h2⟩:=tN;simp only[lK] at h1 h2;have h2:cs=[.bool true]:=h2;subst h2;exact ⟨by rw[h1];rfl,dm.os,dm.tape,dm.output,dm.size,fun b hb=>dm.obj b hb fun _=>rfl⟩
theorem Tz {C:Checked} {f:Func} {s:ChangeSpec} {W W':World} {args:Array Value} {ds:List (DataW H)} {p:List MemPlace} {apart fresh handsOn:Bool} (vf:laidOutB P=true) {ps:List (PM×Ty)} {ts:List TypeId} (hts:f.params.toList=ts) (hl:z_ P ps ts=true) {tb:TypeId} (hr:f.resultTypes=#[tb]) (hu:P.underlying tb=some .bool)
  (Y2:s.vars=[]) (hW:DataW.Whole enc P f.params.toList s.vars apart W args.toList ds [] p) (hA:DataW.TrodAll enc P W 0 (fun _=>true) true ts args.toList ds p) (RJ:s.fn H (ds++[])={ results:=[.lit (.bool true)],args:=ds }) (hb:RowKit.Below W.heap.size W W') :
  s.post enc P f apart fresh handsOn false W args (.bool true) W':=by
 have aj:∀ x ∈ p,x.block < W.heap.size:=fun x hx=>by simpa using hW.lt x hx
 refine ⟨ds,[],p,[],p,[],hW,?_,?_,?_,World.keptBut_mono (fun x hx=>⟨hx,.inr (.inl hx)⟩) (hb.frame (· ∈ p)),fun e=>by cases e⟩
 ·rw[RJ,hr];exact ⟨[],[],RowKit.shut_bool hu true,rfl,rfl⟩
 ·rw[RJ,hts];exact IN vf hb ps ts args.toList ds p hl hA aj (fun x hx=>by simpa using aj x hx)
 ·rw[RJ,Y2];rfl
end
end OT
namespace OT
open Go
def O6 (P:Program) (l:List (Nat×Ty)):Bool:=l.all fun p=>bd P p.2 (.inl p.1)
def JD (P:Program) (l:List (Nat×Ty)):Bool:=l.all fun p=>!(p.2.of&&isAgg p.2)||(qH P p.2 (.inl p.1)&&(P.eqGuardType P.depth p.1 == false)&&Nat.ble (dep p.2) 10000)
theorem Ft {α:Type}:∀ {l:List (Nat×α)} {i:Nat} {x:α},m9 l i=some x->(i,x) ∈ l
 | (k,y)::l,i,x,h=>by
  simp only[m9] at h;split at h
  ·rename_i hk;injection h with h;rw[cL hk,h];exact bG
  ·exact aZ _ (Ft h)
def Dq (P:Program) (l:List (Nat×sC)):Prop:=∀ f g,m9 l f=some g->Sound P f g/\tH P f g.cap
theorem ak (P:Program):Dq P []:=fun f g h=>by cases h
theorem Wm {P:Program} {f:Nat} {g:sC} {l:List (Nat×sC)} (h1:Sound P f g) (h2:tH P f g.cap) (h3:Dq P l):Dq P ((f,g)::l):=fun f' g' h=>by
 simp only[m9] at h;split at h
 ·rename_i hk;injection h with h;subst h;rw[<-cL hk];exact ⟨h1,h2⟩
 ·exact h3 f' g' h
theorem XD {P:Program} {E:Env} {tl:List (Nat×Ty)} {gl:List (Nat×sC)} (h1:E.TI=m9 tl) (h2:E.G=m9 gl) (h3:O6 P tl=true) (h4:JD P tl=true) (h5:Dq P gl):sQ P E where
 ti i T h:=by rw[h1] at h;exact cC.1 h3 _ (Ft h)
 eq i T h hq ha:=by
  rw[h1] at h;have:=cC.1 h4 _ (Ft h);simp only[hq,ha,fX,aO,dX,aF,jN,dP] at this;exact ⟨this.1.1,this.1.2,this.2⟩
 fn f g h:=by rw[h2] at h;exact h5 f g h
def Ok (P:Program) (f:FuncId) (g:sC):Prop:=Sound P f g/\tH P f g.cap
theorem fc {P:Program} {f:Nat} {g:sC} {l:List (Nat×sC)} (h:Ok P f g) (h3:Dq P l):Dq P ((f,g)::l):=Wm h.1 h.2 h3
def K3 (fn:Func) (cap:Bool):Bool:=!(fn.name == "runtime.NumGoroutine")&&!fn.body.isNone&&Nat.beq fn.nfree (match cap with | true=>1 | false=>0)
noncomputable def okB (P:Program) (E:Env) (fn:Func) (ps:PQ) (rs:RQ) (es:List Nat) (cap:Bool) (tl:TL):Bool:=(O6 P tl&&JD P tl)&&(K3 fn cap&&JC P E fn ps rs es)
theorem Y3 {P:Program} {E:Env} {f:FuncId} {fn:Func} (hf:P.funcs[f]?=some fn) {g:sC} (hh:∀ v H,g.Cw v H=true->H=[]) {es fr:List Nat} {tl:TL} {gl:GL} (h1:E.TI=m9 tl) (h2:E.G=m9 gl) (bc:okB P E fn g.ps g.rs es g.cap tl=true) (hg:Dq P gl) (hF:∀ v,g.F v=lift fun k=>Jv E k fn g.ps g.rs es fr v):Ok P f g:=by
 simp only[okB,K3,aF,cM,eI] at bc;obtain ⟨⟨a1,a2⟩,⟨⟨b1,b2⟩,b3⟩,c⟩:=bc
 have hb:fn.body.isSome=true:=by
  cases h:fn.body with
  | none=>rw[h] at b2;cases b2
  | some _=>rfl
 exact ⟨Jm (XD h1 h2 a1 a2 hg) hf hb hh c fun v out h=>Qx (by rw[<-hF];exact h),fn,hf,b1,b2,b3⟩
structure FD where
 fn:Func
 tl:TL
 ps:PQ
 rs:RQ
 gl:GL:=[]
 es:List Nat:=[]
 fr:List Nat:=[]
 cap:Bool:=false
 fz:List (Nat×Nat×Nat):=[]
 lv:List (Nat×List Nat):=[]
 lx:List (Nat×List Nat):=[]
 lf:List (Nat×List (Nat×Md)):=[]
 od:List (Nat×List Nat):=[]
 ar:List (Nat×List Nat):=[]
 bx:List (Nat×List Nat):=[]
 pd:List (Nat×List Nat):=[]
 er:List (Nat×List (Nat×Nat)):=[]
noncomputable def FD.E (D:FD):Env:={ TI:=m9 D.tl,G:=m9 D.gl,fz:=D.fz,lv:=D.lv,lx:=D.lx,lf:=D.lf,od:=D.od,ar:=D.ar,bx:=D.bx,pd:=D.pd,er:=D.er }
noncomputable def FD.W (D:FD) (k:Nat) (a:(c8 (D.ps.map (·.2))).den):Option (c8 (D.rs.map (·.1)++lJ D.ps)).den:=Jv D.E k D.fn D.ps D.rs D.es D.fr a
noncomputable def FD.F (D:FD) (a:(c8 (D.ps.map (·.2))).den):Option (c8 (D.rs.map (·.1)++lJ D.ps)).den:=lift fun k=>D.W k a
noncomputable def FD.sig (D:FD):sC:={ cap:=D.cap,ps:=D.ps,rs:=D.rs,F:=D.F }
noncomputable def FD.fin (D:FD):St->Option (c8 (D.rs.map (·.1)++lJ D.ps)).den:=J0 D.ps D.rs D.es D.fn.results.toList (UF D.fr)
noncomputable def FD.K0 (D:FD):KT (c8 (D.rs.map (·.1)++lJ D.ps)).den:=WJ D.fin
noncomputable def FD.N (D:FD) (k:Nat) (p:List Nat):St->KT (c8 (D.rs.map (·.1)++lJ D.ps)).den->Option (c8 (D.rs.map (·.1)++lJ D.ps)).den:=tP D.E k D.fin (sub p (CW D.fn))
noncomputable def FD.L (D:FD) (k:Nat) (p live:List Nat) (yZ:List (Nat×Md)) (K:KT (c8 (D.rs.map (·.1)++lJ D.ps)).den) (σ:St):Option (c8 (D.rs.map (·.1)++lJ D.ps)).den:=Bl (D.N k p) (ey live yZ) K k σ
theorem aw {P:Program} {D:FD} {f:FuncId} (hf:P.funcs[f]?=some D.fn) (ht:(O6 P D.tl&&JD P D.tl)=true) (bc:(K3 D.fn D.cap&&JC P D.E D.fn D.ps D.rs D.es)=true) (hg:Dq P D.gl):Ok P f D.sig:=
 Y3 (hh:=fun _ _ h=>bN.1 h) (es:=D.es) (fr:=D.fr) (tl:=D.tl) (gl:=D.gl) (E:=D.E) hf rfl rfl (by rw[okB,ht,eG];exact bc) hg fun _=>rfl
end OT
namespace OT
open Go
theorem bt {n:Int} (h:-9223372036854775808<=n/\n<=9223372036854775807):af n=n:=by
 unfold af;rw[IntKind.wrap_i64];omega
theorem ai:maxLen=9223372036854775807:=by simp[maxLen]
theorem uG {V R:Type} {B:(V->Option R)->V->Option R} (f:V->R) (I:V->Prop) (μ:V->Nat)
  (h:∀ v,I v->∀ self,B self v=some (f v)\/∃ v',B self v=self v'/\f v'=f v/\I v'/\μ v' < μ v):∀ (k:Nat) (v:V),I v->μ v < k->aq B k v=some (f v)
 | 0,v,_,hk=>by omega
 | k+1,v,hI,hk=>by
  show B (aq B k) v=some (f v)
  rcases h v hI (aq B k) with h1 | ⟨v',h1,h2,h3,h4⟩
  ·exact h1
  ·rw[h1,uG f I μ h k v' h3 (by omega),h2]
def qz {α:Type} (e:α->α->Bool) (xs ys:List α):Bool:=(xs.zip ys).all fun p=>e p.1 p.2
theorem RK {α:Type} (e:α->α->Bool) (xs ys:List α) (i:Nat) (hx:i < xs.length) (hy:i < ys.length):qz e (xs.drop i) (ys.drop i)=(e xs[i] ys[i]&&qz e (xs.drop (i+1)) (ys.drop (i+1))):=by
 unfold qz;rw[cZ hx,cZ hy];simp only[hJ,eF]
theorem qX {α:Type} {B:(Int->Option (Bool×Unit))->Int->Option (Bool×Unit)} {xs ys:List α} (e:α->α->Bool) (hlen:xs.length=ys.length) (un:xs.length<=maxLen)
  (jd:∀ (i:Nat) (hx:i < xs.length) (hy:i < ys.length) self,B self (i:Int)=if e xs[i] ys[i]=true then self (af ((i:Int)+1)) else some (false,()))
  (ld:∀ self,B self (xs.length:Int)=some (true,())):∀ k,xs.length < k->aq B k 0=some (qz e xs ys,()):=by
 intro k hk
 have h:=uG (B:=B) (fun v=>(qz e (xs.drop v.toNat) (ys.drop v.toNat),())) (fun v=>0<=v/\v<=(xs.length:Int)) (fun v=>xs.length - v.toNat) (fun v hv self=>by
  obtain ⟨h0,h1⟩:=hv;obtain ⟨i,rfl⟩:=dJ h0;simp only[aH];by_cases hi:i < xs.length
  ·have hy:i < ys.length:=by omega
   rw[RK e xs ys i hi hy,jd i hi hy]
   cases he:e xs[i] ys[i] with
   | true=>
    right;have hw:af ((i:Int)+1)=((i+1:Nat):Int):=by rw[bt (by rw[ai] at un;omega)];omega
    refine ⟨_,by rw[hw];rfl,by simp,by omega,?_⟩
    simp only[aH];omega
   | false=>left;simp
  ·have k8:i=xs.length:=by omega
   subst k8;left;rw[ld]
   simp[qz]) k 0 ⟨by omega,by omega⟩ (by simpa using hk)
 simpa using h
theorem uo {α:Type} {B:((List α×Int)->Option (List α×Unit))->(List α×Int)->Option (List α×Unit)} {xs:List α} (un:xs.length<=maxLen)
  (jd:∀ (i:Nat) (hx:i < xs.length) (acc:List α) self,acc.length=xs.length->B self (acc,(i:Int))=self (acc.set i xs[i],af ((i:Int)+1)))
  (ld:∀ acc self,B self (acc,(xs.length:Int))=some (acc,())) (z:α):∀ k,xs.length < k->aq B k (List.replicate xs.length z,0)=some (xs,()):=by
 intro k hk;refine uG (B:=B) (fun _=>(xs,())) (fun v=>0<=v.2/\v.2<=(xs.length:Int)/\v.1.length=xs.length/\∀ j,j < v.2.toNat->v.1[j]?=xs[j]?) (fun v=>xs.length - v.2.toNat) (fun v hv self=>?_) k _ ⟨by simp,by simp,by simp,by simp⟩ (by simpa using hk);obtain ⟨acc,i⟩:=v;obtain ⟨h0,h1,h2,h3⟩:=hv;simp only at h0 h1 h2 h3;obtain ⟨i,rfl⟩:=dJ h0;simp only[aH] at h3 ⊢;by_cases hi:i < xs.length
 ·right;have hw:af ((i:Int)+1)=((i+1:Nat):Int):=by rw[bt (by rw[ai] at un;omega)];omega
  refine ⟨(acc.set i xs[i],((i+1:Nat):Int)),by rw[jd i hi acc self h2,hw],trivial,⟨by omega,by simp only;omega,by simpa using h2,fun j hj=>?_⟩,?_⟩
  ·simp only[aH] at hj;by_cases mZ:j=i
   ·subst mZ;simp[h2,hi]
   ·simp only[fH];rw[bA (fun e=>mZ e.symm)];exact h3 j (by omega)
  ·simp only[aH];omega
 ·have k8:i=xs.length:=by omega
  subst k8;left;rw[ld]
  have:acc=xs:=fQ fun j=>by
   by_cases hj:j < xs.length
   ·exact h3 j hj
   ·rw[cW (by omega),cW (by omega)]
  rw[this]
end OT
namespace OT
open Go
theorem Dr {V R:Type} (B:(V->Option R)->V->Option R) (k:Nat) (v:V):aq B (k+1) v=B (aq B k) v:=rfl
def pp {α:Type} (f:α->Nat):List α->Nat
 | []=>0
 | x::xs=>f x+pp f xs
theorem K4 {α:Type} (f:α->Nat):∀ (xs:List α) (x:α),x ∈ xs->f x<=pp f xs
 | y::xs,x,h=>by
  simp only[pp];rcases aY.1 h with rfl | h
  ·omega
  ·have:=K4 f xs x h;omega
 | [],_,h=>by cases h
theorem xH {α:Type} (f:α->Nat) (h:∀ x,f x=0):∀ (xs:List α),pp f xs=0
 | []=>rfl
 | x::xs=>by simp[pp,h x,xH f h xs]
def zz:(t:Ty)->t.den->Nat
 | .str,v=>List.length v
 | .pair a b,v=>zz a v.1+zz b v.2
 | .U e,v=>List.length v+pp (zz e) v
 | _,_=>0
theorem tr {e:Ty} {xs:List e.den} {x:e.den} (h:x ∈ xs):zz e x+1<=zz (.U e) xs:=by
 have:=K4 (zz e) xs x h;have:1<=xs.length:=List.length_pos_of_mem h;show _<=List.length xs+_;omega
theorem mp {e:Ty} (xs:List e.den):xs.length<=zz (.U e) xs:=Nat.le_add_right _ _
theorem Ei {e:Ty} (x:e.den) (xs:List e.den):zz (.U e) (x::xs)=zz e x+1+zz (.U e) xs:=by
 show (List.length xs+1)+(zz e x+pp (zz e) xs)=zz e x+1+(List.length xs+pp (zz e) xs)
 omega
def ef (n:Int) (z:Nat):Int:=if (z:Int)<=n then n - z else -1
theorem Ej {α:Type} {B:((Int×Int)->Option (Int×Unit))->(Int×Int)->Option (Int×Unit)} {xs:List α} (un:xs.length<=maxLen) (z:α->Nat)
  (jd:∀ (i:Nat) (hx:i < xs.length) (n:Int) self,0<=n->n<=1048576->B self (n,(i:Int))=if ef n (z xs[i]) < 0 then some (-1,()) else self (ef n (z xs[i]),af ((i:Int)+1)))
  (ld:∀ n self,B self (n,(xs.length:Int))=some (n,())) (n:Int) (h0:0<=n) (h1:n<=1048576) :
  ∀ k,xs.length < k->aq B k (n,0)=some (ef n (pp z xs),()):=by
 have main:∀ (m i:Nat) (n:Int),xs.length - i=m->i<=xs.length->0<=n->n<=1048576->∀ k,m < k->aq B k (n,(i:Int))=some (ef n (pp z (xs.drop i)),()):=by
  intro m
  induction m with
  | zero=>
   intro i n hm hi h0 h1 k hk;have k8:i=xs.length:=by omega
   subst k8
   cases k with
   | zero=>omega
   | succ k=>
    have:aq B (k+1) (n,(xs.length:Int))=some (n,()):=ld n _;rw[this];simp[ef,pp,h0]
  | succ m ih=>
   intro i n hm hi h0 h1 k hk;have aj:i < xs.length:=by omega
   rw[cZ aj];simp only[pp]
   cases k with
   | zero=>omega
   | succ k=>
    show B (aq B k) _=_;rw[jd i aj n _ h0 h1];by_cases hz:(z xs[i]:Int)<=n
    ·have e:ef n (z xs[i])=n - (z xs[i]:Int):=aU hz;have aax:¬ (n - (z xs[i]:Int) < 0):=by omega
     have hw:af ((i:Int)+1)=((i+1:Nat):Int):=by rw[bt (by rw[ai] at un;omega)];omega
     rw[e,bA aax,hw,ih (i+1) _ (by omega) (by omega) (by omega) (by omega) k (by omega)];unfold ef;by_cases hc:((pp z (xs.drop (i+1)):Nat):Int)<=n - (z xs[i]:Int)
     ·rw[aU hc,aU (by omega)];have:n - (z xs[i]:Int) - (pp z (xs.drop (i+1)):Nat)=n - ((z xs[i]+pp z (xs.drop (i+1)):Nat):Int):=by omega
      rw[this]
     ·rw[bA hc,bA (by omega)]
    ·have e:ef n (z xs[i])=-1:=bA hz;rw[e,aU (by omega)];unfold ef;rw[bA (by omega)]
 intro k hk
 simpa using main xs.length 0 n (by omega) (by omega) h0 h1 k hk
theorem Ek {n:Int} {a b:Nat} (h:(a:Int)<=n):ef (n - a) b=ef n (a+b):=by
 unfold ef;by_cases hc:(b:Int)<=n - a
 ·rw[aU hc,aU (by omega)];omega
 ·rw[bA hc,bA (by omega)]
end OT
namespace OT
open Go
def bn {S O α:Type} (f:Nat->S->α->Sum O S) (fin:S->O):Nat->List α->S->O
 | _,[],s=>fin s
 | i,x::xs,s=>match f i s x with
  | .inl o=>o
  | .inr s'=>bn f fin (i+1) xs s'
theorem b9 {V S O α:Type} {B:(V->Option O)->V->Option O} (xs:List α) (enc:S->Int->V) (f:Nat->S->α->Sum O S) (fin:S->O) (I:Nat->S->Prop) (un:xs.length<=maxLen)
  (jd:∀ (i:Nat) (hi:i < xs.length) (s:S) self,I i s->B self (enc s (i:Int))=match f i s xs[i] with | .inl o=>some o | .inr s'=>self (enc s' (af ((i:Int)+1))))
  (hI:∀ (i:Nat) (hi:i < xs.length) (s s':S),I i s->f i s xs[i]=.inr s'->I (i+1) s')
  (ld:∀ (s:S) self,I xs.length s->B self (enc s (xs.length:Int))=some (fin s)) (s:S) (h0:I 0 s):∀ k,xs.length < k->aq B k (enc s 0)=some (bn f fin 0 xs s):=by
 have main:∀ (m i:Nat) (s:S),xs.length - i=m->i<=xs.length->I i s->∀ k,m < k->aq B k (enc s (i:Int))=some (bn f fin i (xs.drop i) s):=by
  intro m
  induction m with
  | zero=>
   intro i s hm hi hs k hk;have k8:i=xs.length:=by omega
   subst k8
   cases k with
   | zero=>omega
   | succ k=>
    show B (aq B k) _=_;rw[ld s _ hs];simp[bn]
  | succ m ih=>
   intro i s hm hi hs k hk;have aj:i < xs.length:=by omega
   cases k with
   | zero=>omega
   | succ k=>
    show B (aq B k) _=_;rw[jd i aj s _ hs,cZ aj];simp only[bn]
    cases hf:f i s xs[i] with
    | inl o=>rfl
    | inr s'=>
     have hw:af ((i:Int)+1)=((i+1:Nat):Int):=by rw[bt (by rw[ai] at un;omega)];omega
     simp only[hw];exact ih (i+1) s' (by omega) (by omega) (hI i aj s s' hs hf) k (by omega)
 intro k hk
 simpa using main xs.length 0 s (by omega) (by omega) h0 k hk
theorem rE {O α:Type} (p:α->Bool) (bad:O) (fin:Unit->O):∀ (xs:List α) (i:Nat),bn (fun _ _ x=>if p x then .inr () else .inl bad) fin i xs ()=if xs.all p then fin () else bad
 | [],_=>rfl
 | x::xs,i=>by
  simp only[bn,eF];by_cases h:p x=true
  ·simp[h,rE p bad fin xs (i+1)]
  ·simp[h]
def mU {α:Type} (c:α->Int):List α->Int
 | []=>0
 | x::xs=>if c x=0 then mU c xs else c x
theorem uH {O α:Type} (c:α->Int) (bad:Int->O) (fin:Unit->O):∀ (xs:List α) (i:Nat),bn (fun _ _ x=>if c x=0 then .inr () else .inl (bad (c x))) fin i xs ()=if mU c xs=0 then fin () else bad (mU c xs)
 | [],_=>rfl
 | x::xs,i=>by
  simp only[bn,mU];by_cases h:c x=0
  ·simp[h,uH c bad fin xs (i+1)]
  ·simp[h]
theorem RL {R:Type} (a:Option R):both a a=a:=by simp[both]
theorem HY {R α:Type} {v:List α} {a b r:Option R} (h1:v=[]->a=r) (h2:b=r):Bi v a b=r:=by
 cases v with
 | nil=>rw[Bi,h1 rfl,h2,RL]
 | cons _ _=>exact h2
theorem da {n:Nat} (h:n<=200000000000):n<=bz:=by simp only[bz];omega
end OT
namespace OT
open Go
def sS:Ty->Bool
 | .int _ | .bool | .str | .unit=>true
 | .pair a b=>sS a&&sS b
 | _=>false
def nk:(t:Ty)->t.den->List Value
 | .int k,v=>[.int k (pJ k v)]
 | .bool,v=>[.bool v]
 | .str,v=>[.string ⟨List.toArray v⟩]
 | .unit,_=>[]
 | .pair a b,v=>nk a v.1++nk b v.2
 | _,_=>[]
section
variable {P:Program} {w:World} {A:Cells}
theorem tt:∀ (t:Ty),sS t=true->∀ (v:t.den),Ro P w A t v (nk t v):=by
 intro t
 induction t with
 | pair a b kN kE=>
  intro h v;simp only[sS,aF] at h;have h1:=kN h.1 v.1;have hl:=Ro.length a h1;show Ro P w A a v.1 ((nk a v.1++nk b v.2).take a.sz)/\Ro P w A b v.2 ((nk a v.1++nk b v.2).drop a.sz);rw[dH (by omega),iD (by omega),dI (by omega),dN (by omega),bP];exact ⟨h1,kE h.2 v.2⟩
 | int k=>intro _ v;rfl
 | bool=>intro _ v;rfl
 | str=>intro _ v;rfl
 | unit=>intro _ v;rfl
 | _=>intro h;simp[sS] at h
theorem K5:∀ (t:Ty),sS t=true->∀ {v:t.den} {cs:List Value},Ro P w A t v cs->cs=nk t v:=by
 intro t
 induction t with
 | pair a b kN kE=>
  intro h v cs hr;simp only[sS,aF] at h;have h1:=kN h.1 hr.1;have h2:=kE h.2 hr.2;rw[<-cQ a.sz cs,h1,h2];rfl
 | int k=>intro _ v cs h;exact h
 | bool=>intro _ v cs h;exact h
 | str=>intro _ v cs h;exact h
 | unit=>intro _ v cs h;exact h
 | _=>intro h;simp[sS] at h
theorem xI:∀ (t:Ty),sS t=true->t.flat=true:=by
 intro t
 induction t with
 | pair a b kN kE=>intro h;simp only[sS,aF] at h;simp only[Ty.flat,kN h.1,kE h.2,fX]
 | int k=>intro _;rfl
 | bool=>intro _;rfl
 | str=>intro _;rfl
 | unit=>intro _;rfl
 | _=>intro h;simp[sS] at h
end
theorem K6 {w:World} {b i:Nat} {u:Value} {c:Array Value} {e:TypeId} {fr:Nat×Nat} (h:w.heap[b]?=some (.cells c e fr)) (hu:ce w b i=some u):c[i]?=some u:=by
 unfold ce at hu;simp only[h,World.cell?] at hu
 cases hc:c[i]? with
 | none=>simp[hc] at hu
 | some v=>
  simp only[hc,eP,aG,aL,aB] at hu;rw[(CX hu).1]
theorem MD {w:World} {b i:Nat} {u:Value} {c:Array Value} {e:TypeId} {fr:Nat×Nat} (h:w.heap[b]?=some (.cells c e fr)) (hg:c[i]?=some u) (hu:u.oneCell'=true):ce w b i=some u:=by
 refine Ea ?_ hu;simp only[World.cell?,h,eP,aG,aL,hg]
end OT
namespace OT
open Go Go.Sort
instance abb (e:Ty):Inhabited e.den:=⟨e.zero⟩
noncomputable def xm (e:Ty) (cs:e.den×e.den×Unit->Option (Int×Unit)) (v:List e.den):Option (List e.den):=open Classical in
 if List.length v<=bz then (if h:∃ cf:e.den->e.den->Int,(∀ x y,cs (x,y,())=some (cf x y,()))/\SWO (Go.Proofs.ltOf cf) then some (pdq (Go.Proofs.ltOf h.choose) v.toArray 0 v.toArray.size (Lib.bitLen v.toArray.size) true true).toList else none) else none
theorem K7 {e:Ty} {cs:e.den×e.den×Unit->Option (Int×Unit)} {cf:e.den->e.den->Int} (h1:∀ x y,cs (x,y,())=some (cf x y,())) (h2:SWO (Go.Proofs.ltOf cf)) (v:List e.den) (hl:List.length v<=bz):xm e cs v=some (pdq (Go.Proofs.ltOf cf) v.toArray 0 v.toArray.size (Lib.bitLen v.toArray.size) true true).toList:=by
 have hex:∃ cf:e.den->e.den->Int,(∀ x y,cs (x,y,())=some (cf x y,()))/\SWO (Go.Proofs.ltOf cf):=⟨cf,h1,h2⟩
 have he:hex.choose=cf:=by
  funext x y;have:=(hex.choose_spec.1 x y).symm.trans (h1 x y);injection this with this;exact dB Prod.fst this
 unfold xm;rw[aU hl,dif_pos hex,he]
theorem O7 {e:Ty} {cs:e.den×e.den×Unit->Option (Int×Unit)} {v r:List e.den} (h:xm e cs v=some r):∃ cf:e.den->e.den->Int,(∀ x y,cs (x,y,())=some (cf x y,()))/\SWO (Go.Proofs.ltOf cf)/\List.length v<=bz/\r=(pdq (Go.Proofs.ltOf cf) v.toArray 0 v.toArray.size (Lib.bitLen v.toArray.size) true true).toList:=by
 by_cases hl:List.length v<=bz
 ·by_cases hex:∃ cf:e.den->e.den->Int,(∀ x y,cs (x,y,())=some (cf x y,()))/\SWO (Go.Proofs.ltOf cf)
  ·obtain ⟨cf,h1,h2⟩:=hex;rw[K7 h1 h2 v hl] at h;injection h with h;exact ⟨cf,h1,h2,hl,h.symm⟩
  ·unfold xm at h;rw[aU hl,dif_neg hex] at h;cases h
 ·unfold xm at h;rw[bA hl] at h;cases h
theorem K8 {α:Type} [Inhabited α] {lt:α->α->Bool} (h:SWO lt) (v:List α):(pdq lt v.toArray 0 v.toArray.size (Lib.bitLen v.toArray.size) true true).toList.Perm v/\(pdq lt v.toArray 0 v.toArray.size (Lib.bitLen v.toArray.size) true true).toList.Pairwise fun x y=>lt y x=false:=by
 have hs:=pdq_sorts lt h v.toArray 0 v.toArray.size (Lib.bitLen v.toArray.size) true true (aW _) (aN _) (Or.inl rfl);generalize pdq lt v.toArray 0 v.toArray.size (Lib.bitLen v.toArray.size) true true=p at hs ⊢;obtain ⟨⟨h1,h2,h3⟩,h4⟩:=hs;refine ⟨?_,?_⟩
 ·have e1:p.extract 0 v.toArray.size=p:=by rw[<-h1];exact Array.extract_size ..
  have e2:v.toArray.extract 0 v.toArray.size=v.toArray:=Array.extract_size ..;rw[e1,e2] at h3;exact h3
 ·rw[eA];intro i j hi hj oD;have vM:j < p.size:=by simpa using hj
  have:=h4 i j (aW _) oD (by omega);rw[gF _ i (by omega),gF _ j vM] at this
  simpa using this
section
variable {P:Program}
theorem TA {w w':World} (h:Ext w w' (fun _ _=>0)):∃ q os,w'=grow (w.drewN q) os:=by
 refine ⟨w'.drawn - w.drawn,w'.heap.extract w.heap.size w'.heap.size,?_⟩
 have hh:w'.heap=w.heap++w'.heap.extract w.heap.size w'.heap.size:=by
  apply Array.ext_getElem?;intro i;by_cases hi:i < w.heap.size
  ·rw[h.obj i hi fun _=>rfl,dW hi]
  ·rw[Array.getElem?_append_right (by omega),Array.getElem?_extract];by_cases k8:i < w'.heap.size
   ·rw[aU (by omega)];congr 1;omega
   ·rw[bA (by omega),dL (by omega)]
 have h1:=h.os;have h2:=h.tape;have h3:=h.output;have h4:=h.drawn
 cases w with
 | mk heap tape drawn os output=>
  cases w' with
  | mk abf abg abc os' aa_=>
   simp only at h1 h2 h3 h4 hh;subst h1;subst h2;subst h3;simp only[grow,World.drewN,World.mk.injEq,dY,eJ];exact ⟨hh,by omega⟩
theorem TB {e:Ty} (hs:sS e=true) (ha:isAgg e=true) {g:Nat} {cF:e.den×e.den×Unit->Option (Int×Unit)} (hg:Sound P g { ps:=[(.ro,e),(.ro,e)],rs:=[(.int .i64,az (.int .i64))],F:=cF }) {cf:e.den->e.den->Int} (hc:∀ x y,cF (x,y,())=some (cf x y,())) (b size:Nat) (w:World):Go.Proofs.CmpLays P g #[] (nk e) e.sz cf b 0 size w:=by
 intro m os dk _ x y
 have lc:oY P (Go.Proofs.sortWorldK (nk e) e.sz w b 0 m dk os) (fun _ _=>False) Kw [(.ro,e),(.ro,e)] (x,y,()) [.agg (nk e x).toArray,.agg (nk e y).toArray] (fun _ _=>0):=
  ⟨_,_,fun _ _=>0,fun _ _=>0,rfl,fun _ _=>aN _,⟨nk e x,by simp[cg,ha],tt e hs x⟩,_,_,fun _ _=>0,fun _ _=>0,rfl,fun _ _=>aN _,⟨nk e y,by simp[cg,ha],tt e hs y⟩,rfl⟩
 refine (hg _ (fun _ _=>False) (fun _ _=>0) (x,y,()) _ lc (fun _ _=>aW _) (fun _ _ h=>by omega) (fun _ _ h=>by rcases h with h | h;omega;exact h.elim) (cf x y,()) (hc x y)).mono ?_;rintro ex w' ⟨rv,rfl,dm,A',G,GR,GM,_,_,_,_,_,_,_,tN,_⟩;obtain ⟨cs,h1,h2⟩:=tN;refine ⟨?_,TA dm⟩
 have h2:cs=[.int .i64 (cf x y)]:=h2;rw[h1,h2];rfl
theorem Wn {ρ:Go.Shelf.Ren} (L:Go.Proofs.SlLaysF0.n6 P ρ) {e:Ty} (hs:sS e=true) (ha:isAgg e=true) (hl:bd P e (.inl (ρ.t 24))=true) (h1:1<=e.sz) {g:Nat} {cF:e.den×e.den×Unit->Option (Int×Unit)}
  (hg:Ok P g { ps:=[(.ro,e),(.ro,e)],rs:=[(.int .i64,az (.int .i64))],F:=cF }) (he:tH P (ρ.f 6) false) :
  Ok P (ρ.f 6) { ps:=[(.nO (am (.U e)),.U e),(.fix g,.fn)],rs:=[],F:=fun v=>(xm e cF v.1).map fun r=>(r,()) }:=by
 refine ⟨?_,he⟩
 intro w A F0 v xs lc hle t7 zB out ld;obtain ⟨vs,⟨fg,fv⟩,⟨⟩⟩:=v;obtain ⟨x,Kv,F1,F2,rfl,hF,⟨cs,rfl,fa⟩,x2,aay,F3,F4,rfl,KG,⟨⟨c9,rfl,RJ⟩,aaz⟩,qW⟩:=lc;have qW:aay=[]:=qW;subst qW;have hfg:fg=g:=aaz rfl;subst hfg;obtain ⟨xO,rfl,fn,TC,aaA⟩:=RJ
 have Y4:xO=#[]:=by
  obtain ⟨fn',k1,_,_,k4⟩:=hg.2;have TC:P.funcs[fg]?=some fn:=TC;rw[TC] at k1;injection k1 with k1;subst k1;have k4:fn.nfree=0:=k4
  rcases aaA with ⟨_,q⟩ | ⟨q,_⟩
  ·exact q
  ·omega
 subst Y4;have Rp:cg .fn [.func (.func fg) #[] #[]]=.func (.func fg) #[] #[]:=rfl;have ld:(xm e cF vs).map (fun r=>(r,()))=some out:=ld
 cases O8:xm e cF vs with
 | none=>rw[O8] at ld;cases ld
 | some r=>
 rw[O8] at ld;injection ld with ld;subst ld;obtain ⟨cf,hc,hO,k_,hr⟩:=O7 O8;have O9:=K8 hO vs;rw[<-hr] at O9;have Bt:=fa;simp only[an,hole,bT,aG,aL,am,sK,Md.own,aI] at fa;obtain ⟨xa,cap,rfl,g2,g3,g4,g5⟩:=fa;have Gq:cg (.U e) [.slice xa (List.length vs) cap]=.slice xa (List.length vs) cap:=rfl;rw[Rp,Gq]
 have w_:∀ (w':World) (Vn:FP),Ext w w' F0->(∀ b i,Vn b i<=F1 b i)->an P w' A (.U e) (am (.U e)) [] r [.slice xa (List.length vs) cap] Vn ->
   ∃ rv,Ending.returned (.tuple #[])=.returned rv/\Ext w w' F0/\∃ (A':Cells) (G GR GM:FP),(∀ b i,A b i->A' b i)/\(∀ b i,A' b i->A b i\/1<=F0 b i\/w.heap.size<=b)/\(∀ b i,1<=G b i->1<=F0 b i\/w.heap.size<=b)/\(∀ b i,G b i<=1)/\(∀ b i,1<=G b i->¬ A' b i)/\(∀ b i,1<=G b i\/A' b i->b < w'.heap.size)/\(∀ b i,GR b i+GM b i<=G b i) /\
   mT P w' A' [] rv GR/\m8 P w' A' [(.nO (am (.U e)),.U e),(.fix fg,.fn)] (r,()) [.slice xa (List.length vs) cap,.func (.func fg) #[] #[]] GM:=fun w' Vn dm Gh Vo=>
  ⟨_,rfl,dm,A,F0,fun _ _=>0,F0,fun _ _ h=>h,fun _ _ h=>.inl h,fun _ _ h=>.inl h,hle,t7,fun b i h=>cP (zB b i h) dm.size,fun b i=>by show 0+F0 b i<=F0 b i;omega,trivial,Vn,F2,fun b i=>by have:=hF b i;have:=Gh b i;omega,⟨_,rfl,Vo⟩,trivial⟩
 by_cases h0:List.length vs=0
 ·have Ds:vs=[]:=bH h0
  have hrn:r=[]:=by
   have:=O9.1.length_eq;exact bH (by omega)
  rw[h0];refine (Go.Proofs.AnyF.slices_SortFunc_none L xa cap (.func (.func fg) #[] #[]) w).mono ?_;rintro ex w' ⟨rfl,hw⟩;rw[hw];rw[h0] at w_;refine w_ w F1 (Ext.refl _ _) (fun _ _=>aN _) ?_;rw[hrn,<- Ds];have:List.length vs=0:=h0;rw[this] at Bt;exact Bt
 ·cases xa with
  | none=>have:=g4 rfl;omega
  | some ad=>
   obtain ⟨q1,q2,q3,Fi,q4,q5⟩:=g5 ad rfl;obtain ⟨b,off,sp⟩:=ad;simp only at q1 q2 q3 q4 q5;subst q1;subst q2;obtain ⟨c,el,fr,c1,c2,c3,c4⟩:=q3;have hb:=(bR.1 c1).1;have kt:vs.toArray.size=List.length vs:=by simp
   have yk:List.length vs*e.sz<=cap*e.sz:=bD _ g2;have Dg:1<=List.length vs*e.sz:=gT (show 1<=List.length vs by omega) h1
   have mS:∀ (i:Nat) (y:e.den),vs[i]?=some y->Has w b (i*e.sz) (nk e y):=fun i y hy=>by
    obtain ⟨L0,l1,l2,l3⟩:=q5 i y hy;have:=K5 e hs (an.flat e (xI e hs) l3);rw[<-this];exact l2
   have hH:Go.Sort.HoldsK (nk e) e.sz w b 0 vs.toArray:=by
    intro j hj;rw[Go.Sort.size_flatK,kt] at hj;rw[bE,Go.Sort.get_flatK _ _ _ _ (by rw[kt];exact hj)];have hi:j / e.sz < List.length vs:=by rw[gL h1];exact hj
    have hy:=aA hi;have hm:=iP j h1
    have ox:(nk e (vs[j / e.sz]))[j % e.sz]?=some ((nk e (vs[j / e.sz]))[j % e.sz]!):=by
     have hlen:=Ro.length e (tt (P:=P) (w:=w) (A:=A) e hs (vs[j / e.sz]));rw[aA (by omega),gF _ _ (by omega)]
    have hce:=mS _ _ hy _ _ ox;have hdm:j / e.sz*e.sz+j % e.sz=j:=by rw[fR];exact gI j e.sz
    rw[hdm] at hce;have mQ:=Ro.one e (tt (P:=P) (w:=w) (A:=A) e hs (vs[j / e.sz])) _ (cB ox);have GN:=qR hce mQ;refine ⟨?_,?_⟩
    ·show _=some (id _);rw[GN];have:vs.toArray[j / e.sz]! = vs[j / e.sz]:=by rw[gF _ _ (by rw[kt];exact hi)];simp
     rw[this];rfl
    ·simp only[World.frozen?,c1];have:=c3 j (by omega);simp only[Bool.and_eq_false_imp,bO,eY,not_and] at this ⊢;intro h
     first | exact this h | (have:=this (by simpa using h);simpa using this)
   have O_:=Go.Proofs.AnyQ.slices_SortFunc_eq L e.sz (fun w=>by rw[vN hl,ha]) (fun w=>run_sizeOf hl) (nk e) (fun y=>Ro.length e (tt (P:=P) (w:=w) (A:=A) e hs y)) (fun y u hu=>Ro.one e (tt (P:=P) (w:=w) (A:=A) e hs y) u hu) cf hO fg #[] b 0 cap vs.toArray w
    (fun args w=>Dl hg.2 args) (TB hs ha hg.1 hc b _ w) hH hb (by rw[kt];unfold bz at k_;omega)
   rw[kt] at O_;refine O_.mono ?_;rintro ex w' ⟨rfl,n,os,rfl⟩;rw[kt] at hr;have z6:(pdq (Go.Proofs.ltOf cf) vs.toArray 0 (List.length vs) (Lib.bitLen (List.length vs)) true true)=r.toArray:=by rw[hr]
   rw[z6];have uS:r.length=List.length vs:=O9.1.length_eq
   have hold:∀ b',b' < w.heap.size->b'≠b->(Go.Proofs.sortWorldK (nk e) e.sz w b 0 n r.toArray os).heap[b']?=w.heap[b']?:=fun b' qI fw=>by
    simp only[Go.Proofs.sortWorldK,grow,Go.Sort.putRowK,Go.Sort.putRow,Go.Sort.mapBlock,Go.Sort.ahead];rw[dW (by simpa using qI),dQ,bA (fun e=>fw e.symm)]
   have tM:(Go.Proofs.sortWorldK (nk e) e.sz w b 0 n r.toArray os).heap[b]?=some (.cells (Go.Sort.putCells id 0 (Go.Sort.flatK (nk e) e.sz r.toArray) c) el fr):=by
    simp only[Go.Proofs.sortWorldK,grow,Go.Sort.putRowK,Go.Sort.putRow,Go.Sort.mapBlock,Go.Sort.ahead];rw[dW (by simpa using hb),dQ,aU rfl,c1];rfl
   have oG:(Go.Sort.putCells id 0 (Go.Sort.flatK (nk e) e.sz r.toArray) c).size=c.size:=by simp[Go.Sort.putCells]
   have dm:Ext w (Go.Proofs.sortWorldK (nk e) e.sz w b 0 n r.toArray os) F0:=by
    have fu:∀ i,i < cap*e.sz->1<=F0 b i:=fun i hi=>by
     have h3:=hF b i;have h4:=q4 b i;have h5:b_ b 0 (cap*e.sz) b i=1:=by simp only[b_];rw[aU ⟨trivial,by omega,by omega⟩]
     omega
    refine ⟨?_,fun b' i qI hz u hu=>?_,fun b' m hm=>?_,fun b' i qI=>?_,rfl,rfl,rfl,fun b' qI hz=>?_,Nat.le_add_right _ _⟩
    ·simp only[Go.Proofs.sortWorldK,grow,Go.Sort.putRowK,Go.Sort.putRow,Go.Sort.mapBlock,Go.Sort.ahead,fI,Array.size_modify];omega
    ·by_cases yg:b'=b
     ·subst yg;have hi:¬ i < cap*e.sz:=fun hi=>by have:=fu i hi;omega
      exfalso;have:=K6 c1 hu;rw[dL (by omega)] at this;cases this
     ·rw[wX (hold b' qI yg)];exact hu
    ·by_cases yg:b'=b
     ·subst yg;obtain ⟨c',e',f',m1,m2,m3⟩:=hm;rw[c1] at m1;injection m1 with m1;injection m1 with m1 m4 m5;subst m1;subst m4;subst m5;exact ⟨_,_,_,tM,by rw[oG];exact m2,m3⟩
     ·have qI:b' < w.heap.size:=hm.lt;exact (wm (hold b' qI yg) m).1 hm
    ·by_cases yg:b'=b
     ·subst yg;simp only[World.frozen?,tM,c1]
     ·exact xl (hold b' qI yg) i
    ·by_cases yg:b'=b
     ·subst yg;have:=fu 0 (by omega);have:=hz 0;omega
     ·exact hold b' qI yg
   refine w_ _ F1 dm (fun _ _=>aN _) ?_;simp only[an,hole,bT,aG,aL,am,sK,Md.own,aI];refine ⟨some ⟨b,0,none⟩,cap,by rw[uS],by rw[uS];exact g2,g3,(fun e=>by cases e),fun ad e2=>?_⟩
   injection e2 with e2;subst e2;refine ⟨rfl,rfl,⟨_,_,_,tM,by rw[oG];exact c2,c3,c4⟩,fun _ _ _=>0,fun b' i=>?_,fun i y hy=>?_⟩
   ·have h3:=q4 b' i
    have h4:ba (List.length r) (fun _ _ _=>0) b' i=0:=by
     generalize List.length r=nn
     induction nn with
     | zero=>rfl
     | succ nn ih=>simp only[ba,ih]
    show b_ b 0 (cap*e.sz) b' i+ba (List.length r) (fun _ _ _=>0) b' i<=F1 b' i;rw[h4];omega
   ·refine ⟨nk e y,Ro.length e (tt (P:=P) (w:=w) (A:=A) e hs y),fun j u hu=>?_,?_⟩
    ·have hj:=(aM.1 hu).1;have hlen:=Ro.length e (tt (P:=P) (w:=w) (A:=A) e hs y);have hi:=(aM.1 hy).1
     have oD:i*e.sz+j < r.length*e.sz:=by
      have:=bD e.sz (show i+1<=r.length from hi);rw[cI,Nat.one_mul] at this;omega
     have hdiv:(i*e.sz+j) / e.sz=i:=(Go.Sort.blk_iff e.sz i _ h1).1 ⟨by omega,by omega⟩;have S_:(i*e.sz+j) % e.sz=j:=by rw[Nat.mod_eq_sub_div_mul,hdiv];omega
     have ua:(Go.Sort.putCells id 0 (Go.Sort.flatK (nk e) e.sz r.toArray) c)[i*e.sz+j]?=some u:=by
      have aj:i*e.sz+j < c.size:=by rw[uS] at oD;omega
      simp only[Go.Sort.putCells,Array.getElem?_mapIdx,cN aj,cD,aW,dY,bE,Nat.sub_zero,Go.Sort.size_flatK,dM,oD,aI,id];rw[Go.Sort.get_flatK _ _ _ _ (by simpa using oD),hdiv,S_]
      have IP:r.toArray[i]! = y:=by
       rw[gF _ _ (by simpa using hi)];have:=(aM.1 hy).2
       simpa using this
      rw[IP,gF (nk e y) j hj];exact dB some (aM.1 hu).2
     have mQ:=Ro.one e (tt (P:=P) (w:=w) (A:=A) e hs y) _ (cB hu);exact MD tM ua mQ
    ·exact Ro.flat e _ (xI e hs) (tt e hs y)
end
end OT
namespace OT
open Go Go.Shelf Go.RowKit Go.Lib Go.Proofs
section
variable {P:Program} {ρ:Ren}
theorem ME (w:World) (t e ty:TypeId) (z:Value) (ht:P.underlying t=some (.slice e)) (hv:∀ w,(zeroValue e).run P w=.ok z w) (b o n c:Nat) (hn:0 < n)
  (hc:∀ j,j < (Builtin.zeroCells z.cells n).toList.length->(w.cell? ⟨b,o+j,none⟩).isSome=true) (hf:∀ j,j < (Builtin.zeroCells z.cells n).toList.length->w.frozen? ⟨b,o+j,none⟩=false) (h1:∀ v ∈ (Builtin.zeroCells z.cells n).toList,v.oneCell'=true) :
  (Builtin.clear_ #[t] ty #[.slice (some ⟨b,o,none⟩) n c]).run P w=.ok (.tuple #[]) (w.setCells b o (Builtin.zeroCells z.cells n).toList):=by
 have c6:=run_storeCells_cells (P:=P) b o (Builtin.zeroCells z.cells n).toList 0 w (by simpa using hc) (by simpa using hf) h1;simp only[cY] at c6
 obtain ⟨m,rfl⟩:∃ m,n=m+1:=⟨n - 1,by omega⟩
 simp[Builtin.clear_,run_underlying ht,hv,c6]
theorem tu (b:Nat) (vs:List Value) (o:Nat) (w:World) (h:∀ j,j < vs.length->(w.cell? ⟨b,o+j,none⟩).isSome=true) (k:Nat) (hk:(w.cell? ⟨b,k,none⟩).isSome=true):((w.setCells b o vs).cell? ⟨b,k,none⟩).isSome=true:=by
 by_cases jd:o<=k/\k < o+vs.length
 ·have:=World.cell?_setCells_in b vs o w h (k - o) (by omega);rw[show o+(k - o)=k by omega] at this;rw[this];rfl
 ·rw[World.cell?_setCells_out b vs o w ⟨b,k,none⟩ (fun _ _=>by show k < o\/o+vs.length<=k;omega)];exact hk
set_option maxHeartbeats 4000000 in
set_option maxRecDepth 1000000 in
theorem RM (L:SlLaysE0.n45 P ρ) (k:Nat) (inf:TypeInfo) (zv:Value) (NX:P.info? (ρ.t 23)=some inf) (hsk:inf.size=k) (hz:∀ w,(zeroValue (ρ.t 23)).run P w=.ok zv w) (EB:zv.cells.size=k) (wT:∀ n,∀ v ∈ (Builtin.zeroCells zv.cells n).toList,v.oneCell'=true)
  (b off n c i j:Nat) (cs:List Value) (w:World) (vh:cs.length=n*k) (oG:∀ t v,cs[t]?=some v->w.cell? ⟨b,off+t,none⟩=some v) (IQ:∀ t,t < n*k->w.frozen? ⟨b,off+t,none⟩=false) (NY:∀ v ∈ cs,v.oneCell'=true)
  (k_:n<=c) (hm:c<=9223372036854775807) (oD:i < j) (hj:j<=n) :
  Calls P (ρ.f 45) #[.slice (some ⟨b,off,none⟩) n c,.int .i64 i,.int .i64 j] w fun e w'=>e=.returned (.slice (some ⟨b,off,none⟩) (i+(n - j)) c) /\
   w'=(w.drew.setCells b (off+i*k) (cs.drop (j*k))).setCells b (off+(i+(n - j))*k) (Builtin.zeroCells zv.cells (n - (i+(n - j)))).toList:=by
 have mixed:=L.mixed;have t0:=L.t0;have a0:=L.a0;have z0:=L.z0;have v0:=L.v0;have t3:=L.t3;have a3:=L.a3;have z3:=L.z3;have v3:=L.v3;have t4:=L.t4;have a4:=L.a4;have z4:=L.z4;have v4:=L.v4;have t22:=L.t22;have a22:=L.a22;have z22:=L.z22;have v22:=L.v22
 have z23:∀ w,(Go.sizeOf (ρ.t 23)).run P w=.ok k w:=fun w=>by simp[Go.sizeOf,typeInfo,NX,hsk]
 have Xm:j*k<=n*k:=bD _ hj
 obtain ⟨news,GO⟩:∃ news,news=cs.drop (j*k):=⟨_,rfl⟩
 have hlen:news.length=(n - j)*k:=by rw[GO,bI,vh,gD]
 obtain ⟨A,hA,HZ⟩:∃ A:Addr,(if c=j then some (⟨b,off,none⟩:Addr) else some ⟨b,off+j*k,none⟩)=some A/\Hid (∀ t u,news[t]?=some u->w.drew.cell? (A.add t)=some u):=by
  by_cases h:c=j
  ·refine ⟨⟨b,off,none⟩,by simp[h],fun t u hu=>?_⟩
   have h0:news.length=0:=by rw[hlen,show n - j=0 by omega,gG]
   rw[List.length_eq_zero_iff.1 h0] at hu;simp at hu
  ·refine ⟨⟨b,off+j*k,none⟩,by simp[h],fun t u hu=>?_⟩
   rw[GO,bM] at hu;rw[Addr.add_lit,show off+j*k+t=off+(j*k+t) by omega];exact oG _ u hu
 have s1:Hid (news.length=(n - j)*k):=hlen
 have s2:Hid (∀ u ∈ news,u.oneCell'=true):=by
  intro u hu;rw[GO] at hu;exact NY u (dG hu)
 have Eg:∀ t,t < n*k->(w.cell? ⟨b,off+t,none⟩).isSome=true:=fun t ht=>by rw[oG t _ (aA (by omega))];rfl
 have abr:i*k+(n - j)*k<=n*k:=by rw[<-cI];exact bD _ (by omega)
 have s3:Hid (∀ t,t < news.length->(w.drew.cell? ⟨b,off+i*k+t,none⟩).isSome=true/\w.drew.frozen? ⟨b,off+i*k+t,none⟩=false):=by
  intro t ht;rw[hlen] at ht;rw[cE];exact ⟨Eg _ (by omega),IQ _ (by omega)⟩
 obtain ⟨W1,wU⟩:∃ W1,W1=w.drew.setCells b (off+i*k) news:=⟨_,rfl⟩
 have hZ:(Builtin.zeroCells zv.cells (n - (i+(n - j)))).toList.length=(n - (i+(n - j)))*k:=by simp[Builtin.zeroCells,EB]
 have hnk:(i+(n - j))*k+(n - (i+(n - j)))*k=n*k:=by rw[<-cI];congr 1;omega
 have aaB:∀ ty,(Builtin.clear_ #[ρ.t 22] ty #[.slice (some ⟨b,off+(i+(n - j))*k,none⟩) (n - (i+(n - j))) (c - (i+(n - j)))]).run P W1=.ok (.tuple #[]) (W1.setCells b (off+(i+(n - j))*k) (Builtin.zeroCells zv.cells (n - (i+(n - j)))).toList):=
  fun ty=>ME W1 _ _ ty zv t22 hz b (off+(i+(n - j))*k) _ _ (by omega) (fun t ht=>by
   rw[hZ] at ht;rw[wU,cE]
   exact tu b _ _ _ (fun t ht=>by rw[hlen] at ht;rw[cE];exact Eg _ (by omega)) _ (Eg _ (by omega))) (fun t ht=>by rw[hZ] at ht;rw[wU,World.frozen?_setCells,cE];exact IQ _ (by omega)) (wT _)
 have hW:Hid (W1=w.drew.setCells b (off+i*k) news):=wU;have fw:¬ (i:Int)=(j:Int):=by omega
 have hic:i<=c:=by omega
 have hjc:j<=c:=by omega
 have hcn:¬ c=i+(n - j):=by omega
 rw[<-GO,<- wU]
 obtain ⟨Z,hZd⟩:∃ Z,Z=(Builtin.zeroCells zv.cells (n - (i+(n - j)))).toList:=⟨_,rfl⟩
 rw[<-hZd] at aaB ⊢;clear wU GO hlen Eg oG IQ vh NY hZ hZd wT EB;obtain ⟨_,_,FG⟩:=L.f45
 go_enter FG,SlBodyN.n45_ntmps ρ
 go_wp2_with fail
 go_region_law_o (refine step_append_room rfl (.tmp 22) (.tmp 25) (ρ.t 22) rfl (ρ.t 23) inf k t22 NX hsk b off i c (by simp[Act.eval,Act.put]) A (n - j) (c - j) news (by simp[Act.eval,Act.put]) s1.out HZ.out s2.out (by omega) s3.out ?_;rw[<-hW.out])
 go_wp2
 go_ret
 exact ⟨rfl,rfl⟩
set_option maxHeartbeats 4000000 in
set_option maxRecDepth 1000000 in
theorem TD (L:SlLaysE0.n45 P ρ) (b:Option Addr) (n c i:Nat) (w:World) (jd:i<=n) (k_:n<=c) (hm:c<=9223372036854775807) (hb:∀ ad,b=some ad->ad.spot=none) (F_:b=none->c=0) (k:Nat) (z23:∀ w,(Go.sizeOf (ρ.t 23)).run P w=.ok k w) :
  Calls P (ρ.f 45) #[.slice b n c,.int .i64 i,.int .i64 i] w fun e w'=>e=.returned (.slice b n c)/\w'=w:=by
 have mixed:=L.mixed;have t0:=L.t0;have a0:=L.a0;have z0:=L.z0;have v0:=L.v0;have t3:=L.t3;have a3:=L.a3;have z3:=L.z3;have v3:=L.v3;have t4:=L.t4;have a4:=L.a4;have z4:=L.z4;have v4:=L.v4;have t22:=L.t22;have a22:=L.a22;have z22:=L.z22;have v22:=L.v22
 have hic:i<=c:=by omega
 obtain ⟨_,_,FG⟩:=L.f45
 cases b with
 | none=>
  have h0:=F_ rfl;subst h0;have zm:n=0:=by omega
  subst zm;have NX:i=0:=by omega
  subst NX
  go_enter FG,SlBodyN.n45_ntmps ρ
  go_wp2
  all_goals (go_ret;exact ⟨rfl,rfl⟩)
 | some ad=>
  obtain ⟨b,off,sp⟩:=ad;have:=hb _ rfl;simp only at this;subst this
  go_enter FG,SlBodyN.n45_ntmps ρ
  go_wp2
  all_goals (go_ret;exact ⟨rfl,rfl⟩)
theorem aaC (w:World) {e:Ty} {i:TypeId} (hl:bd P e (.inl i)=true) (hz:e.uR=true) {inf:TypeInfo} {zv:Value} (h1:P.info? i=some inf) (h2:inf.zero=some zv):∀ n,∀ v ∈ (Builtin.zeroCells zv.cells n).toList,v.oneCell'=true:=by
 obtain ⟨L,hL⟩:=uh e hz;obtain ⟨abs,z',i1,i2,i3,i4,i5,i6⟩:=vg (lR hl);rw[h1] at i1;injection i1 with i1;subst i1;rw[h2] at i4;injection i4 with i4;subst i4;have hc:=i6 L hL;obtain ⟨r1,_,_⟩:=zU (P:=P) (w:=w) (A:=fun _ _=>True) e hL hl;have mQ:=an.one _ r1;intro n v hv;refine mQ v ?_;rw[<-hc];simp only[Builtin.zeroCells,Array.toList_map,fT,Array.toList_range,dF] at hv;obtain ⟨j,hj,rfl⟩:=hv
 have Dg:0 < zv.cells.size:=by
  rcases bF zv.cells.size with h0 | h0
  ·rw[h0,Nat.mul_zero] at hj;omega
  ·exact h0
 have:=iP j Dg;rw[gF zv.cells _ this];simp
theorem TE {w w':World} {A:Cells} {F0:FP} {e:Ty} {me:Md} {b cap:Nat} {vs:List e.den} {news:List Value} {Hi:Nat->FP} {F1:FP}
  (hw:Ext w w' (b_ b 0 (cap*e.sz))) (k_:cap<=maxLen) (fu:gc w' b (cap*e.sz,wY e)) (hlen:List.length vs<=cap) (xS:Has w' b 0 news)
  (ox:∀ (i:Nat) (y:e.den),vs[i]?=some y->an P w A e me [] y ((news.drop (i*e.sz)).take e.sz) (Hi i))
  (hF:∀ b' i,b_ b 0 (cap*e.sz) b' i+ba (List.length vs) Hi b' i<=F1 b' i) (hle:∀ b' i,F1 b' i<=F0 b' i) (h1:∀ b i,F0 b i<=1) (t7:∀ b i,1<=F0 b i->¬ A b i) (zB:∀ b i,1<=F0 b i\/A b i->b < w.heap.size) :
  an P w' A (.U e) (.U true me) [] vs [.slice (some ⟨b,0,none⟩) (List.length vs) cap] F1:=by
 simp only[an,hole,bT,aG,aL,am,sK,Md.own,aI,Md.e];refine ⟨some ⟨b,0,none⟩,cap,rfl,hlen,k_,(fun e=>by cases e),fun ad e2=>?_⟩
 injection e2 with e2;subst e2;refine ⟨rfl,rfl,fu,Hi,hF,fun i y hy=>?_⟩
 have hr:=ox i y hy;have hi:=(aM.1 hy).1;refine ⟨_,an.length _ hr,fun j u hu=>?_,?_⟩
 ·rw[bK] at hu;split at hu
  ·rw[bM] at hu;have:=xS _ u hu;rw[bE] at this;exact this
  ·cases hu
 ·simp only[eQ];refine an.mono (P:=P) (fun _ _ h=>h) (fun b' k ha u hu=>hw.cell b' k (zB b' k (.inr ha)) ?_ u hu) hw.tQ e hr (fun _ _=>aN _) (fun b' k hp u hu=>hw.cell b' k ?_ ?_ u hu)
  ·rcases bF (b_ b 0 (cap*e.sz) b' k) with h0 | h0
   ·exact h0
   ·exact absurd ha (t7 b' k (by have:=hF b' k;have:=hle b' k;omega))
  ·exact zB b' k (.inl (by have:=c7 Hi hi b' k;have:=hF b' k;have:=hle b' k;omega))
  ·rcases bF (b_ b 0 (cap*e.sz) b' k) with h0 | h0
   ·exact h0
   ·have:=c7 Hi hi b' k;have:=hF b' k;have:=hle b' k;have:=h1 b' k;omega
def K9 (e:Ty) (v:List e.den×Int×Int×Unit):Option (List e.den×Unit):=if 0<=v.2.1/\v.2.1<=v.2.2.1/\v.2.2.1<=(v.1.length:Int) then some (v.1.take v.2.1.toNat++v.1.drop v.2.2.1.toNat,()) else none
def BM (i j:Int) (k:Nat):Bool:=decide (i<=(k:Int))&&decide ((k:Int) < j)
def H6 (i j:Int):List Path->Bool
 | []=>true
 | [.idx k::_]=>BM i j k
 | _=>false
theorem Pa {i j:Int} {H:List Path} (h:H6 i j H=true):hole H=false/\(j<=i->H=[])/\∀ t:Nat,((t:Int) < i\/j<=(t:Int))->H.filterMap (kZ t)=[]:=by
 unfold H6 at h;split at h
 ·exact ⟨rfl,fun _=>rfl,fun _ _=>rfl⟩
 ·rename_i k q;simp only[BM,aF,bO] at h;refine ⟨rfl,fun oD=>by omega,fun t ht=>?_⟩
  have fw:¬ t=k:=by omega
  simp[kZ,fw]
 ·cases h
theorem IR (L:SlLaysE0.n45 P ρ) {e:Ty} {me:Md} (hl:bd P e (.inl (ρ.t 23))=true) (h1:1<=e.sz) (EB:e.uR=true) (he:tH P (ρ.f 45) false) :
  Ok P (ρ.f 45) { ps:=[(.nc (.U true me),.U e),(.ro,.int .i64),(.ro,.int .i64)],rs:=[(.U e,.U true me)],F:=K9 e,Cw:=fun v H=>H6 v.2.1 v.2.2.1 H }:=by
 refine ⟨?_,he⟩
 intro w A F0 v xs lc hle t7 zB out ld;obtain ⟨vs,i,j,⟨⟩⟩:=v;obtain ⟨x,Kv,F1,F2,rfl,hF,⟨H,cs,hH,rfl,fa⟩,x2,xs2,F3,F4,rfl,KG,⟨c9,rfl,hi⟩,x3,XE,F5,F6,rfl,hF3,⟨IG,rfl,hj⟩,qW⟩:=lc;have qW:XE=[]:=qW;subst qW;have fa:an P w A (.U e) (.U true me) H vs cs F1:=fa;have hH:H6 i j H=true:=hH;obtain ⟨hH1,hH2,C3⟩:=Pa hH;have hi:c9=[.int .i64 i]:=hi;have hj:IG=[.int .i64 j]:=hj;subst hi;subst hj;have ld:K9 e (vs,i,j,())=some out:=ld;unfold K9 at ld;split at ld;rotate_left
 ·cases ld
 rename_i hb;obtain ⟨b1,b2,b3⟩:=hb;simp only at b1 b2 b3 ld;injection ld with ld;subst ld;obtain ⟨ni,rfl⟩:=dJ b1;obtain ⟨nj,rfl⟩:=dJ (Int.le_trans b1 b2);simp only[aH];have oD:ni<=nj:=by omega
 have Vj:nj<=List.length vs:=by omega
 obtain ⟨inf,zv,i1,i2,i3,i4,i5,_⟩:=vg (lR hl);have hz:∀ w,(zeroValue (ρ.t 23)).run P w=.ok zv w:=fun w=>by simp[zeroValue,typeInfo,i1,i4]
 have z23:∀ w,(Go.sizeOf (ρ.t 23)).run P w=.ok e.sz w:=fun w=>by simp[Go.sizeOf,typeInfo,i1,i2]
 obtain ⟨xa,cap,ez,Fi,r1,r2,r3,r4,r5,r6,r7,r8⟩:=Gv hH1 (v:=vs) fa;obtain ⟨c1,c2,c3,c4⟩:=r8 rfl;subst r1;have un:cap<=9223372036854775807:=by unfold maxLen at c2;omega
 have hx:(cg (.U e) [.slice xa (List.length vs) cap]::[cg (.int .i64) [.int .i64 (ni:Int)],cg (.int .i64) [.int .i64 (nj:Int)]]).toArray=#[.slice xa (List.length vs) cap,.int .i64 ni,.int .i64 nj]:=rfl;show Calls P (ρ.f 45) (cg (.U e) [.slice xa (List.length vs) cap]::[cg (.int .i64) [.int .i64 (ni:Int)],cg (.int .i64) [.int .i64 (nj:Int)]]).toArray w _;rw[hx]
 have w_:∀ (w':World) (rv:Value),Ext w w' F0->(∃ cs,rv=cg (.U e) cs/\an P w' A (.U e) (.U true me) [] (vs.take ni++vs.drop nj) cs F1) ->
   ∃ z8,Ending.returned rv=.returned z8/\Ext w w' F0/\∃ (A':Cells) (G GR GM:FP),(∀ b i,A b i->A' b i)/\(∀ b i,A' b i->A b i\/1<=F0 b i\/w.heap.size<=b)/\(∀ b i,1<=G b i->1<=F0 b i\/w.heap.size<=b)/\(∀ b i,G b i<=1)/\(∀ b i,1<=G b i->¬ A' b i)/\(∀ b i,1<=G b i\/A' b i->b < w'.heap.size)/\(∀ b i,GR b i+GM b i<=G b i) /\
   mT P w' A' [⟨.U e,.U true me,vs.take ni++vs.drop nj⟩] z8 GR/\m8 P w' A' [(.nc (.U true me),.U e),(.ro,.int .i64),(.ro,.int .i64)] () [cg (.U e) [.slice xa (List.length vs) cap],cg (.int .i64) [.int .i64 (ni:Int)],cg (.int .i64) [.int .i64 (nj:Int)]] GM:=fun w' rv dm hr=>
  ⟨_,rfl,dm,A,F0,F1,fun _ _=>0,fun _ _ h=>h,fun _ _ h=>.inl h,fun _ _ h=>.inl h,hle,t7,fun b i h=>cP (zB b i h) dm.size,fun b i=>by have:=hF b i;show F1 b i+0<=F0 b i;omega,hr,trivial⟩
 by_cases heq:ni=nj
 ·subst heq;refine (TD L xa (List.length vs) cap ni w Vj c1 un (fun ad fm=>(c4 ad fm).2.1) c3 e.sz z23).mono ?_;rintro ex w' ⟨rfl,rfl⟩;refine w_ _ _ (Ext.refl _ _) ⟨_,(df _ _ rfl).symm,?_⟩;rw[cQ];have Bt:=fa;rw[hH2 (gE _)] at Bt;exact Bt
 ·cases xa with
  | none=>have:=c3 rfl;omega
  | some ad=>
   obtain ⟨q1,q2,q3,q4⟩:=c4 ad rfl;obtain ⟨_,d5⟩:=r3 ad rfl;obtain ⟨b,off,sp⟩:=ad;simp only at q1 q2 q3 q4 d5;subst q1;subst q2;have abt:List.length vs*e.sz<=cap*e.sz:=bD _ c1
   have mS:∀ t,t < cap*e.sz->(w.cell? ⟨b,t,none⟩).isSome=true:=fun t ht=>by
    obtain ⟨c,e',fr,w1,w2,w3⟩:=q3;unfold World.cell?;simp only[w1,eP,aG,aL];rw[cN (by simp only at w2;omega)];rfl
   have O_:=RM L e.sz inf zv i1 i2 hz i5 (aaC w hl EB i1 i4) b 0 (List.length vs) cap ni nj ez w r4 (fun t u hu=>qR (d5 t u hu) (r5 u (cB hu))) (fun t ht=>by rw[bE];exact q3.frozen (by simp only;omega)) r5 c1 un (by omega) Vj;refine O_.mono ?_;rintro ex w' ⟨rfl,hw⟩;simp only[bE] at hw;have tM:List.length (vs.take ni++vs.drop nj)=ni+(List.length vs - nj):=by simp;omega
   have m1:ni*e.sz+(List.length vs - nj)*e.sz=(ni+(List.length vs - nj))*e.sz:=by rw[cI]
   have m2:(ni+(List.length vs - nj))*e.sz<=List.length vs*e.sz:=bD _ (by omega);have m3:(ez.drop (nj*e.sz)).length=(List.length vs - nj)*e.sz:=by rw[bI,r4,gD]
   have hZ:(Builtin.zeroCells zv.cells (List.length vs - (ni+(List.length vs - nj)))).toList.length=(List.length vs - (ni+(List.length vs - nj)))*e.sz:=by simp[Builtin.zeroCells,i5]
   have m4:(ni+(List.length vs - nj))*e.sz+(List.length vs - (ni+(List.length vs - nj)))*e.sz=List.length vs*e.sz:=by rw[<-cI];congr 1;omega
   have x1:=k9 (b:=b) (o:=ni*e.sz) (ez.drop (nj*e.sz)) w.drew (ni*e.sz);have x2:=k9 (b:=b) (o:=(ni+(List.length vs - nj))*e.sz) (Builtin.zeroCells zv.cells (List.length vs - (ni+(List.length vs - nj)))).toList (w.drew.setCells b (ni*e.sz) (ez.drop (nj*e.sz))) ((ni+(List.length vs - nj))*e.sz)
   have IL:∀ b' t,b_ b 0 (cap*e.sz) b' t=0->b_ b (ni*e.sz) (ez.drop (nj*e.sz)).length b' t=0:=fun b' t h0=>by
    simp only[b_] at h0 ⊢;split at h0
    ·cases h0
    ·rw[bA (by omega)]
   have Rp:∀ b' t,b_ b 0 (cap*e.sz) b' t=0->b_ b ((ni+(List.length vs - nj))*e.sz) (Builtin.zeroCells zv.cells (List.length vs - (ni+(List.length vs - nj)))).toList.length b' t=0:=fun b' t h0=>by
    simp only[b_] at h0 ⊢;split at h0
    ·cases h0
    ·rw[bA (by omega)]
   have dm:Ext w w' (b_ b 0 (cap*e.sz)):=by
    rw[hw];exact (((ug w).mono (fun _ _ _=>rfl)).trans (x1.mono IL) (fun _ _ _ h=>h)).trans (x2.mono Rp) (fun _ _ _ h=>h)
   refine w_ w' _ (dm.mono fun b' t h0=>by have:=q4 b' t;have:=hF b' t;omega) ⟨[.slice (some ⟨b,0,none⟩) (ni+(List.length vs - nj)) cap],(df _ _ rfl).symm,?_⟩;rw[<-tM];refine TE (news:=ez.take (ni*e.sz)++ez.drop (nj*e.sz)) (Hi:=fun t=>if t < ni then Fi t else Fi (nj+(t - ni))) (F0:=F0) dm c2 (dm.tQ _ _ q3) (by rw[tM];omega) ?_ ?_ (fun b' t=>?_) (fun b' t=>by have:=hF b' t;omega) hle t7 zB
   ·intro t u hu;rw[bE];have uj:(ez.take (ni*e.sz)).length=ni*e.sz:=by rw[bQ,r4];omega
    rw[hw]
    have S5:t < (ni+(List.length vs - nj))*e.sz:=by
     have:=(aM.1 hu).1;rw[aS,uj,m3] at this;omega
    refine x2.cell b t ?_ ?_ u ?_
    ·have:=x1.size;have hb:=q3.lt;exact cP hb x1.size
    ·simp only[b_];rw[bA (by omega)]
    ·by_cases ht:t < ni*e.sz
     ·rw[bW (by omega),bK,aU ht] at hu;refine x1.cell b t q3.lt ?_ u ?_
      ·simp only[b_];rw[bA (by omega)]
      ·have:=d5 t u hu;rw[bE] at this;exact this
     ·rw[bV (by omega),uj] at hu;have:=oH (w:=w.drew) (b:=b) (o:=ni*e.sz) (L:=ez.drop (nj*e.sz)) (fun k hk=>by rw[m3] at hk;exact mS _ (by omega)) (fun u hu=>r5 u (dG hu)) _ u hu;rw[show ni*e.sz+(t - ni*e.sz)=t by omega] at this;exact this
   ·have uj:(ez.take (ni*e.sz)).length=(vs.take ni).length*e.sz:=by rw[bQ,bQ,r4,fD (show ni<=List.length vs by omega),fD (bD _ (by omega))]
    have hr:=Fc (P:=P) (w:=w) (A:=A) (e:=e) (me:=me) (v:=vs.take ni) (y:=vs.drop nj) (Fi:=Fi) (Gi:=fun t=>Fi (nj+t)) uj (fun t z hz=>by
      rw[bK] at hz;split at hz
      ·rename_i ht;have:=r6 t z hz;rw[C3 t (.inl (by omega))] at this;have h6:t*e.sz+e.sz<=ni*e.sz:=by rw[<-fA];exact bD _ (by omega)
       rw[eO,fG,fD (by omega)];exact this
      ·cases hz) (fun t z hz=>by
      rw[bM] at hz;have:=r6 (nj+t) z hz;rw[C3 (nj+t) (.inr (by omega))] at this;rw[dA,<- cI]
      exact this)
    intro t z hz;have:=hr t z hz;have to:(vs.take ni).length=ni:=by simp;omega
    rw[to] at this;exact this
   ·rw[tM];have s1:=Fe ni (List.length vs - nj) Fi (fun t=>Fi (nj+t)) b' t;have s2:=sM nj (List.length vs - nj) Fi b' t;have s3:=Is (List.length vs) Fi 0 ni (by omega) b' t;have s4:=sM ni (nj - ni) Fi b' t;rw[show ni+(nj - ni)=nj by omega] at s4;rw[show nj+(List.length vs - nj)=List.length vs by omega] at s2;have:=q4 b' t;have e1:ba (ni+(List.length vs - nj)) (fun t=>if t < ni then Fi t else Fi (nj+(t - ni))) b' t=ba ni Fi b' t+ba (List.length vs - nj) (fun t=>Fi (nj+t)) b' t:=s1;omega
end
end OT
namespace OT
open Go Go.Shelf Go.RowKit Go.Lib Go.Proofs
section
variable {P:Program} {ρ:Ren}
theorem RN (w:World) {o:Oper} {a:Act} {K:Act->World->Prop} {Q:Exit->Act->World->Prop} (d s:Operand) (t t':TypeId)
  (ho:o.op=.call { callee:=.builtin .copy,args:=#[d,s],argTypes:=#[t,t'] }) (v u:Value) (hd:a.eval d=v) (hs:a.eval s=u) {v':Value} {w':World}
  (hr:(Builtin.copy_ #[t,t'] o.type #[v,u]).run P w=.ok v' w') (h:K (a.put o.dst v') w'):o.wp P a w K Q:=by
 unfold Oper.wp execOp;simp only[ho,resolve,invoke,builtin,Sem.run_bind,Sem.run_pure,Result.andThen_ok,List.map_toArray,cR,fS,hd,hs,hr];exact h
theorem xV (w:World) {ops:Array Oper} {rest:List Oper} {o:Oper} {a:Act} {Q:Exit->Act->World->Prop} (Xq:o.guard=none) (d s:Operand) (t t':TypeId)
  (ho:o.op=.call { callee:=.builtin .copy,args:=#[d,s],argTypes:=#[t,t'] }) (v u:Value) (hd:a.eval d=v) (hs:a.eval s=u) {v':Value} {w':World}
  (hr:(Builtin.copy_ #[t,t'] o.type #[v,u]).run P w=.ok v' w') (h:wpList P ops Q rest (a.put o.dst v') w'):wpList P ops Q (o::rest) a w:=
 wpList_plain Xq fun _ hK=>RN w d s t t' ho v u hd hs hr (hK _ _ h)
theorem EJ {ops:Array Oper} {o:Oper} {a:Act} {w:World} {K:Act->World->Prop} {Q:Exit->Act->World->Prop} {E:Prop}
  (hg:o.guard=none) (d x:Operand) (dT sT:TypeId) (Kp:o.op=Op.call { callee:=Callee.builtin Builtin.copy,args:=#[d,x],argTypes:=#[dT,sT] })
  (v u:Value) (hd:a.eval d=v) (hx:a.eval x=u) {v':Value} {w':World} (hr:(Builtin.copy_ #[dT,sT] o.type #[v,u]).run P w=.ok v' w') (hK:K (a.put o.dst v') w') :
  if Region.wanted o (yielded ops a.tmps)=true then Oper.wp P o a w K Q else E:=by
 have hw:Region.wanted o (yielded ops a.tmps)=true:=by simp[Region.wanted,hg]
 rw[aU hw];unfold Oper.wp;simp[execOp,Kp,resolve,invoke,builtin,hd,hx,hr,Result.andThen];exact hK
theorem yt (w:World) (dT sT ty elem:TypeId) (inf:TypeInfo) (b o TF aaD:Nat) (a:Addr) (TG aaE:Nat) (cs:List Value)
  (hu:P.underlying dT=some (.slice elem)) (hs:P.info? elem=some inf) (hn:cs.length=Nat.min TG TF*inf.size)
  (HZ:∀ j v,cs[j]?=some v->w.cell? (a.add j)=some v) (hc:∀ j,j < cs.length->(w.cell? ⟨b,o+j,none⟩).isSome=true) (hf:∀ j,j < cs.length->w.frozen? ⟨b,o+j,none⟩=false) (h1:∀ v ∈ cs,v.oneCell'=true) :
  (Builtin.copy_ #[dT,sT] ty #[.slice (some ⟨b,o,none⟩) TF aaD,.slice (some a) TG aaE]).run P w=.ok (goInt (Nat.min TG TF)) (w.setCells b o cs):=by
 have hl:=run_loadCells_list (P:=P) w a cs HZ;have c6:=run_storeCells_cells (P:=P) b o cs 0 w (by simpa using hc) (by simpa using hf) h1;simp[Builtin.copy_,run_underlying hu,Builtin.lenOf,Builtin.firstCells,Go.sizeOf,typeInfo,hs,<- hn,hl,c6]
structure GP (P:Program) (ρ:Ren) (e:Ty):Prop where
 mixed:P.follows .mixedOrders=true
 f22:Bears P (ρ.f 22) (Body2.n22 ρ)
 f29:∃ fn,P.funcs[ρ.f 29]?=some fn/\(fn.name == "runtime.NumGoroutine")=false/\fn.body.isNone=true/\Extern.findNext fn=none/\Extern.find fn=some (Extern.SlicesOverlaps.overlaps #[ρ.t 24,ρ.t 24] #[ρ.t 4])
 l3:bd P (.int .i64) (.inl (ρ.t 3))=true
 l4:bd P .bool (.inl (ρ.t 4))=true
 l24:bd P (.U e) (.inl (ρ.t 24))=true
 t24:P.underlying (ρ.t 24)=some (TypeDesc.slice (ρ.t 9))
 l9:bd P e (.inl (ρ.t 9))=true
 z3:(P.info? (ρ.t 3)).bind (·.zero)=some (Value.int IntKind.i64 0)
 z4:(P.info? (ρ.t 4)).bind (·.zero)=some (Value.bool false)
 z24:(P.info? (ρ.t 24)).bind (·.zero)=some (Value.slice none 0 0)
theorem H7 (w:World) (tS tR e:TypeId) (ht:P.underlying tS=some (.slice e)) (size:Nat) (hz:∀ w,(Go.sizeOf e).run P w=.ok size w)
  (a b:Addr) (la ca lb cb:Nat) (fw:a.block≠b.block) (tA tB:TypeId) (kA kB:Nat)
  (K_:w.shape? a.block=some (tA,kA)) (J4:w.shape? b.block=some (tB,kB)) (RP:kA≠0)
  (XF:w.frozen? b=false) (La:w.frozen? { block:=b.block,off:=kB }=false) :
  (Extern.SlicesOverlaps.overlaps #[tS,tS] #[tR] #[.slice (some a) la ca,.slice (some b) lb cb]).run P w=.ok (.bool false) w:=by
 have XG:(a.block != b.block)=true:=by simpa using fw
 have TH:(a.block == b.block)=false:=by simpa using fw
 change Sem.run P (α:=Value) (do
  let some t:=(#[tS,tS]:Array TypeId)[0]? | stuck "slices.overlaps: no parameter types"
  let .slice elem <- underlying t | stuck "slices.overlaps: slice type expected"
  let size <- Go.sizeOf elem
  match (some a:Option Addr),(some b:Option Addr) with
  | some a,some b=>
   if la=0\/lb=0\/size=0 then pure (Value.bool false)
   else if a.block != b.block&&(<- frozen a)&&(<- frozen b) then unsupported .addressObserved
   else do
    if a.block != b.block then do
     noView a;noView b
     if <- mayBeOne a b then return Value.bool ((<- choose (.extern "sameAddr.stringBytes" 2)) == 1)
    pure (Value.bool (a.block == b.block&&a.off < b.off+lb*size&&b.off < a.off+la*size))
  | _,_=>pure (Value.bool false)) w=_
 by_cases h0:la=0\/lb=0\/size=0
 ·simp[run_underlying ht,hz,h0]
 ·cases kA with
  | zero=>exact absurd rfl RP
  | succ kA=>
   cases XH:w.frozen? a with
   | true=>simp[run_underlying ht,hz,h0,XG,TH,frozen,noView,viewAt,mayBeOne,stringish,shape,Sem.run,K_,J4,XH,XF,La]
   | false=>
    cases XI:w.frozen? { block:=a.block,off:=kA+1 } with
    | true=>simp[run_underlying ht,hz,h0,XG,TH,frozen,noView,viewAt,mayBeOne,stringish,shape,Sem.run,K_,J4,XH,XI,XF,La]
    | false=>simp[run_underlying ht,hz,h0,XG,TH,frozen,noView,viewAt,mayBeOne,stringish,shape,Sem.run,K_,J4,XH,XI,XF,La]
structure zC (P:Program) (ρ:Ren) (k:Nat) (inf:TypeInfo) (zv:Value):Prop where
 mixed:P.follows .mixedOrders=true
 f22:Bears P (ρ.f 22) (Body2.n22 ρ)
 f29:∃ fn,P.funcs[ρ.f 29]?=some fn/\(fn.name == "runtime.NumGoroutine")=false/\fn.body.isNone=true/\Extern.findNext fn=none/\Extern.find fn=some (Extern.SlicesOverlaps.overlaps #[ρ.t 24,ρ.t 24] #[ρ.t 4])
 t3:P.underlying (ρ.t 3)=some (TypeDesc.int IntKind.i64)
 a3:∀ w,(Go.isAgg (ρ.t 3)).run P w=.ok false w
 z3:∀ w,(Go.sizeOf (ρ.t 3)).run P w=.ok 1 w
 v3:∀ w,(zeroValue (ρ.t 3)).run P w=.ok (Value.int IntKind.i64 0) w
 t4:P.underlying (ρ.t 4)=some (TypeDesc.bool)
 a4:∀ w,(Go.isAgg (ρ.t 4)).run P w=.ok false w
 z4:∀ w,(Go.sizeOf (ρ.t 4)).run P w=.ok 1 w
 v4:∀ w,(zeroValue (ρ.t 4)).run P w=.ok (Value.bool false) w
 t24:P.underlying (ρ.t 24)=some (TypeDesc.slice (ρ.t 9))
 a24:∀ w,(Go.isAgg (ρ.t 24)).run P w=.ok false w
 z24:∀ w,(Go.sizeOf (ρ.t 24)).run P w=.ok 1 w
 v24:∀ w,(zeroValue (ρ.t 24)).run P w=.ok (Value.slice none 0 0) w
 z9:∀ w,(Go.sizeOf (ρ.t 9)).run P w=.ok k w
 i9:P.info? (ρ.t 9)=some inf
 is:inf.size=k
 iz:inf.zero=some zv
 ik:zv.cells.size=k
 hk:1<=k
set_option maxHeartbeats 4000000 in
set_option maxRecDepth 100000 in
theorem RR {k:Nat} {inf:TypeInfo} {zv:Value} (L:zC P ρ k inf zv) (b off n c i vb pq m vc:Nat) (cs vs:List Value) (w:World) (hi:i < n) (hm:0 < m) (oI:n+m<=c) (XJ:c<=9223372036854775807) (Vp:vb≠b)
  (vh:cs.length=n*k) (zb:vs.length=m*k)
  (oG:∀ j v,cs[j]?=some v->w.cell? ⟨b,off+j,none⟩=some v) (oc:∀ j,j < (n+m)*k->(w.cell? ⟨b,off+j,none⟩).isSome=true) (IQ:∀ j,j < (n+m)*k->w.frozen? ⟨b,off+j,none⟩=false)
  (Ds:∀ j v,vs[j]?=some v->w.cell? ⟨vb,pq+j,none⟩=some v) (NY:∀ v ∈ cs,v.oneCell'=true) (XK:∀ v ∈ vs,v.oneCell'=true)
  (tA tB:TypeId) (kA kB:Nat) (K_:w.shape? vb=some (tA,kA)) (J4:w.shape? b=some (tB,kB)) (RP:kA≠0) (La:w.frozen? ⟨b,kB,none⟩=false) :
  Calls P (ρ.f 22) #[.slice (some ⟨b,off,none⟩) n c,.int .i64 i,.slice (some ⟨vb,pq,none⟩) m vc] w fun e w'=>
   e=.returned (.slice (some ⟨b,off,none⟩) (n+m) c)/\w'=(w.drew.setCells b (off+(i+m)*k) (cs.drop (i*k))).setCells b (off+i*k) vs:=by
 have t3:=L.t3;have a3:=L.a3;have z3:=L.z3;have v3:=L.v3;have t4:=L.t4;have a4:=L.a4;have z4:=L.z4;have v4:=L.v4;have z9:=L.z9;have t24:=L.t24;have a24:=L.a24;have z24:=L.z24;have v24:=L.v24
 have u3:=run_underlying L.t3;have u4:=run_underlying L.t4;have XL:=run_underlying L.t24
 have wT:¬ ((m:Int)=0):=by omega
 have A5:¬ ((i:Int)=(n:Int)):=by omega
 have hk:=L.hk;have hmk:i*k+m*k=(i+m)*k:=by rw[cI]
 have hnm:n*k+m*k=(n+m)*k:=by rw[cI]
 have GQ:i*k < n*k:=jC hi hk;have XM:1<=m*k:=gT hm hk
 have Ra:∀ lb cb,(callFunc (ρ.f 29) #[.slice (some ⟨vb,pq,none⟩) m vc,.slice (some ⟨b,off+(i+m)*k,none⟩) lb cb]).run P w=.ok (.value (.bool false)) w:=fun lb cb=>by
  obtain ⟨fn,hf,Iy,EA,hn3,hn4⟩:=L.f29
  rw[run_callFunc_extern hf Iy EA hn3 hn4,
   H7 w (ρ.t 24) (ρ.t 4) (ρ.t 9) L.t24 k L.z9 ⟨vb,pq,none⟩ ⟨b,off+(i+m)*k,none⟩ m vc lb cb Vp tA tB kA kB K_ J4 RP (IQ _ (by omega)) La]
  rfl
 have Rz:(cs.drop (i*k)).length=(n - i)*k:=by rw[bI,vh,gD]
 have mixed:=L.mixed;have wo:IntKind.i64.wrap ((i:Int)+(m:Int))=(i:Int)+(m:Int):=by rw[IntKind.wrap_i64];omega
 have QD:(0:Int)<=(i:Int)+(m:Int):=by omega
 have jd:i<=n:=by omega
 have RS:((i:Int)+(m:Int)).toNat=i+m:=by omega
 have Ny:¬ (c=i+m):=by omega
 have hb3:(i:Int)<=(n:Int)+(m:Int):=by omega
 have hb4:¬ (c=i):=by omega
 have W6:(n - i)*k=n*k - i*k:=gD _ _ _
 have XN:∀ ty dc sc,(Builtin.copy_ #[(ρ.t 24),(ρ.t 24)] ty #[.slice (some ⟨b,off+(i+m)*k,none⟩) (n+m - (i+m)) dc,.slice (some ⟨b,off+i*k,none⟩) (n+m - i) sc]).run P w.drew=.ok (goInt (Nat.min (n+m - i) (n+m - (i+m)))) (w.drew.setCells b (off+(i+m)*k) (cs.drop (i*k))):=fun ty dc sc=>
  yt w.drew _ _ ty (ρ.t 9) inf b (off+(i+m)*k) (n+m - (i+m)) dc ⟨b,off+i*k,none⟩ (n+m - i) sc (cs.drop (i*k)) L.t24 L.i9 (by rw[Rz,L.is];congr 1;simp only[iS];split <;> omega)
   (fun j v hj=>by rw[Addr.add_lit,cE];exact oG (i*k+j) v (by rwa [bM] at hj))
   (fun j hj=>by rw[cE];exact oc _ (by omega)) (fun j hj=>by rw[cE];exact IQ _ (by omega)) (fun v hv=>NY v (dG hv))
 obtain ⟨W1,wU⟩:∃ W1,W1=w.drew.setCells b (off+(i+m)*k) (cs.drop (i*k)):=⟨_,rfl⟩
 have aaF:∀ t,t < (n+m)*k->(W1.cell? ⟨b,off+t,none⟩).isSome=true:=fun t ht=>by
  rw[wU];exact tu b _ _ _ (fun j hj=>by rw[cE];exact oc _ (by omega)) _ (oc t ht)
 have aaG:∀ (W:World),(∀ x,W.cell? x=W1.cell? x)->(∀ x,W.frozen? x=W1.frozen? x)->∀ ty dc,(Builtin.copy_ #[(ρ.t 24),(ρ.t 24)] ty #[.slice (some ⟨b,off+i*k,none⟩) (n+m - i) dc,.slice (some ⟨vb,pq,none⟩) m vc]).run P W=.ok (goInt (Nat.min m (n+m - i))) (W.setCells b (off+i*k) vs):=fun W IS RU ty dc=>
  yt W _ _ ty (ρ.t 9) inf b (off+i*k) (n+m - i) dc ⟨vb,pq,none⟩ m vc vs L.t24 L.i9 (by rw[zb,L.is];congr 1;simp only[iS];split <;> omega)
   (fun j v hj=>by
    rw[Addr.add_lit,IS,wU,World.cell?_setCells_out b _ _ _ _ (fun h _=>absurd h Vp)]
    exact Ds j v hj)
   (fun j hj=>by rw[IS,cE];exact aaF _ (by omega)) (fun j hj=>by rw[RU,wU,World.frozen?_setCells,cE];exact IQ _ (by omega)) XK
 rw[<-wU] at XN;obtain ⟨_,_,FG⟩:=L.f22
 go_enter FG,Body2.n22_ntmps ρ
 go_wp2_with (simp only[Ra])
 go_region_law_o (refine EJ rfl _ _ (ρ.t 24) (ρ.t 24) rfl _ _ (by simp[Act.eval,Act.put]) (by simp[Act.eval,Act.put]) (XN _ _ _) ?_)
 go_wp2_with (at_builtin;refine xV _ rfl _ _ (ρ.t 24) (ρ.t 24) rfl _ _ rfl rfl (aaG _ (fun _=>rfl) (fun _=>rfl) _ _) ?_)
 go_ret
 first | exact ⟨rfl,rfl⟩ | exact ⟨rfl,by rw[wU]⟩
set_option maxHeartbeats 4000000 in
set_option maxRecDepth 100000 in
theorem NZ {k:Nat} {inf:TypeInfo} {zv:Value} (L:zC P ρ k inf zv) (base:Option Addr) (n c m vc:Nat) (ya:Option Addr) (w w':World) (v':Value) (hm:0 < m) (hnc:n<=c) (XJ:c<=9223372036854775807) (qW:base=none->c=0) (hb:∀ ad,base=some ad->ad.spot=none)
  (f_:∀ ty,(Builtin.append_ #[(ρ.t 24),(ρ.t 24)] ty #[.slice base n c,.slice ya m vc]).run P w=.ok v' w') :
  Calls P (ρ.f 22) #[.slice base n c,.int .i64 n,.slice ya m vc] w fun e w2=>e=.returned v'/\w2=w':=by
 have t3:=L.t3;have a3:=L.a3;have z3:=L.z3;have v3:=L.v3;have t4:=L.t4;have a4:=L.a4;have z4:=L.z4;have v4:=L.v4;have z9:=L.z9;have t24:=L.t24;have a24:=L.a24;have z24:=L.z24;have v24:=L.v24
 have u3:=run_underlying L.t3;have u4:=run_underlying L.t4;have XL:=run_underlying L.t24
 have mixed:=L.mixed;have wT:¬ ((m:Int)=0):=by omega
 obtain ⟨_,_,FG⟩:=L.f22
 cases base with
 | none=>
  have h0:=qW rfl;subst h0;have zm:n=0:=by omega
  subst zm
  go_enter FG,Body2.n22_ntmps ρ
  go_wp2_with (at_builtin;refine Lib.wpList_append_run _ rfl _ _ _ _ rfl _ _ rfl rfl _ _ (f_ _) ?_)
  go_ret
  exact ⟨rfl,rfl⟩
 | some a=>
  obtain ⟨ab,ao,asp⟩:=a;have:=hb _ rfl;simp only at this;subst this
  go_enter FG,Body2.n22_ntmps ρ
  go_wp2_with (at_builtin;refine Lib.wpList_append_run _ rfl _ _ _ _ rfl _ _ rfl rfl _ _ (f_ _) ?_)
  all_goals (go_ret;exact ⟨rfl,rfl⟩)
set_option maxHeartbeats 4000000 in
set_option maxRecDepth 100000 in
theorem TJ {k:Nat} {inf:TypeInfo} {zv:Value} (L:zC P ρ k inf zv) (base:Option Addr) (n c i vc:Nat) (ya:Option Addr) (w:World) (jd:i<=n) (hnc:n<=c) (XJ:c<=9223372036854775807) (qW:base=none->c=0) (hb:∀ ad,base=some ad->ad.spot=none) :
  Calls P (ρ.f 22) #[.slice base n c,.int .i64 i,.slice ya 0 vc] w fun e w2=>e=.returned (.slice base n c)/\w2=w:=by
 have t3:=L.t3;have a3:=L.a3;have z3:=L.z3;have v3:=L.v3;have t4:=L.t4;have a4:=L.a4;have z4:=L.z4;have v4:=L.v4;have z9:=L.z9;have t24:=L.t24;have a24:=L.a24;have z24:=L.z24;have v24:=L.v24
 have u3:=run_underlying L.t3;have u4:=run_underlying L.t4;have XL:=run_underlying L.t24
 have mixed:=L.mixed;have hic:i<=c:=by omega
 obtain ⟨_,_,FG⟩:=L.f22
 cases base with
 | none=>
  have h0:=qW rfl;subst h0;have zm:n=0:=by omega
  subst zm;have NX:i=0:=by omega
  subst NX
  go_enter FG,Body2.n22_ntmps ρ
  go_wp2
  all_goals (go_ret;exact ⟨rfl,rfl⟩)
 | some a=>
  obtain ⟨ab,ao,asp⟩:=a;have:=hb _ rfl;simp only at this;subst this
  go_enter FG,Body2.n22_ntmps ρ
  go_wp2
  all_goals (go_ret;exact ⟨rfl,rfl⟩)
set_option maxHeartbeats 4000000 in
set_option maxRecDepth 100000 in
theorem TK {k:Nat} {inf:TypeInfo} {zv:Value} (L:zC P ρ k inf zv) (b off n c i vb pq m vc:Nat) (cs vs:List Value) (w:World) (hi:i < n) (hm:0 < m) (hnc:n<=c) (oI:c < n+m) (H8:(n+m)*inf.bytes<=140737488355328) (hbg:n+m<=9223372036854775807)
  (vh:cs.length=n*k) (zb:vs.length=m*k)
  (oG:∀ j v,cs[j]?=some v->w.cell? ⟨b,off+j,none⟩=some v)
  (Ds:∀ j v,vs[j]?=some v->w.cell? ⟨vb,pq+j,none⟩=some v) (NY:∀ v ∈ cs,v.oneCell'=true) (XK:∀ v ∈ vs,v.oneCell'=true) :
  Calls P (ρ.f 22) #[.slice (some ⟨b,off,none⟩) n c,.int .i64 i,.slice (some ⟨vb,pq,none⟩) m vc] w fun e w'=>
   e=.returned (.slice (some ⟨w.heap.size,0,none⟩) (n+m) (grownCap w (n+m) c (ρ.t 9))) /\
   w'=(((w.alloc (.cells ((cs.take (i*k)).toArray++Builtin.zeroCells zv.cells (n+m - i)++Builtin.zeroCells zv.cells (grownCap w (n+m) c (ρ.t 9) - (n+m))) (ρ.t 9))).drew.setCells w.heap.size (i*k) vs).drew).setCells w.heap.size ((i+m)*k) (cs.drop (i*k)):=by
 have t3:=L.t3;have a3:=L.a3;have z3:=L.z3;have v3:=L.v3;have t4:=L.t4;have a4:=L.a4;have z4:=L.z4;have v4:=L.v4;have z9:=L.z9;have t24:=L.t24;have a24:=L.a24;have z24:=L.z24;have v24:=L.v24
 have u3:=run_underlying L.t3;have u4:=run_underlying L.t4;have XL:=run_underlying L.t24
 have mixed:=L.mixed;have hk:=L.hk;have wT:¬ ((m:Int)=0):=by omega
 have A5:¬ ((i:Int)=(n:Int)):=by omega
 have XO:(c:Int) < (n:Int)+(m:Int):=by omega
 have hmk:i*k+m*k=(i+m)*k:=by rw[cI]
 have hnm:n*k+m*k=(n+m)*k:=by rw[cI]
 have abu:i*k < n*k:=jC hi hk;have XM:1<=m*k:=gT hm hk;have hbw:b < w.heap.size:=block_lt_of_cell (oG 0 _ (aA (by omega)));have hvw:vb < w.heap.size:=block_lt_of_cell (Ds 0 _ (aA (by omega)));have C_:(n:Int)+(m:Int) - (i:Int)=((n+m - i:Nat):Int):=by omega
 have GQ:i+(n+m - i)=n+m:=by omega
 have hold:(Builtin.firstCells inf.size i (.slice (some ⟨b,off,none⟩) i c)).run P w.drew=.ok (cs.take (i*k)).toArray w.drew:=by
  rw[L.is]
  exact run_firstCells_some w.drew k i ⟨b,off,none⟩ i c (cs.take (i*k)) (by rw[bQ];omega) (fun j v hj=>by
   rw[Addr.add_lit];rw[bK] at hj;split at hj
   ·exact oG j v hj
   ·cases hj)
 have XP:(n+m - i)*inf.bytes<=281474976710656:=bJ (bD _ (by omega)) (bJ H8 (by decide))
 have Vq:∀ ty,(Builtin.append_ #[(ρ.t 24),(ρ.t 3)] ty #[.slice (some ⟨b,off,none⟩) i c,.int .i64 ((n:Int)+(m:Int) - (i:Int))]).run P w =
   .ok (.slice (some ⟨w.heap.size,0,none⟩) (n+m) (grownCap w (n+m) c (ρ.t 9))) (w.drew.alloc (.cells ((cs.take (i*k)).toArray++Builtin.zeroCells zv.cells (n+m - i)++Builtin.zeroCells zv.cells (grownCap w (n+m) c (ρ.t 9) - (n+m))) (ρ.t 9))):=fun ty=>by
  have h:=Lib.run_append_grow_zeros w (ρ.t 24) (ρ.t 3) ty (ρ.t 9) inf _ .i64 .i64 L.t24 L.t3 L.i9 L.iz (some ⟨b,off,none⟩) i c (cs.take (i*k)) hold (n+m - i) (by omega) (by rw[L.is];omega) (by omega) (by omega) XP (by rw[GQ];exact growslice_fits oI H8);rw[GQ] at h;rw[C_];exact h
 obtain ⟨G,hG⟩:∃ G,G=grownCap w (n+m) c (ρ.t 9):=⟨_,rfl⟩
 obtain ⟨qY,Fu⟩:∃ qY:Array Value,qY=(cs.take (i*k)).toArray++Builtin.zeroCells zv.cells (n+m - i)++Builtin.zeroCells zv.cells (G - (n+m)):=⟨_,rfl⟩
 rw[<-hG] at Vq ⊢;rw[<-Fu] at Vq ⊢;have abv:(n+m - i)*k=(n+m)*k - i*k:=gD _ _ _
 have hRl:(n+m)*k<=qY.size:=by
  rw[Fu];have e1:(Builtin.zeroCells zv.cells (n+m - i)).size=(n+m - i)*k:=by simp[Builtin.zeroCells,L.ik]
  have e2:(cs.take (i*k)).length=i*k:=by rw[bQ,vh];omega
  simp only[fI,dM,e1,e2];omega
 obtain ⟨W1,wU⟩:∃ W1,W1=w.drew.alloc (.cells qY (ρ.t 9)):=⟨_,rfl⟩
 rw[<-wU] at Vq
 have hN:∀ j,j < (n+m)*k->(W1.cell? ⟨w.heap.size,j,none⟩).isSome=true:=fun j hj=>by
  rw[wU,World.cell?_alloc_at (w:=w.drew) qY _ w.heap.size j rfl,cN (by omega)];rfl
 have hNf:∀ j,W1.frozen? ⟨w.heap.size,j,none⟩=false:=fun j=>by rw[wU];exact World.frozen?_alloc_at (w:=w.drew) qY _ w.heap.size j rfl
 have hOb:∀ j v,w.cell? ⟨b,j,none⟩=some v->W1.cell? ⟨b,j,none⟩=some v:=fun j v h=>by rw[wU,World.cell?_alloc_past (w:=w.drew) _ b j hbw];exact h
 have hOv:∀ j v,w.cell? ⟨vb,j,none⟩=some v->W1.cell? ⟨vb,j,none⟩=some v:=fun j v h=>by rw[wU,World.cell?_alloc_past (w:=w.drew) _ vb j hvw];exact h
 have aaH:∀ (W:World),(∀ x,W.cell? x=W1.cell? x)->(∀ x,W.frozen? x=W1.frozen? x)->∀ ty dc,(Builtin.copy_ #[(ρ.t 24),(ρ.t 24)] ty #[.slice (some ⟨w.heap.size,i*k,none⟩) (n+m - i) dc,.slice (some ⟨vb,pq,none⟩) m vc]).run P W=.ok (goInt (Nat.min m (n+m - i))) (W.setCells w.heap.size (i*k) vs):=fun W IS RU ty dc=>
  yt W _ _ ty (ρ.t 9) inf w.heap.size (i*k) (n+m - i) dc ⟨vb,pq,none⟩ m vc vs L.t24 L.i9 (by rw[zb,L.is];congr 1;simp only[iS];split <;> omega)
   (fun j v hj=>by rw[Addr.add_lit,IS];exact hOv _ v (Ds j v hj))
   (fun j hj=>by rw[IS];exact hN _ (by omega)) (fun j hj=>by rw[RU];exact hNf _) XK
 have hGn:n+m<=G:=by rw[hG];exact grownCap_ge w _ _ _
 have abw:G<=9223372036854775807:=by
  have:=grownCap_le_maxLen w (n+m) c (ρ.t 9) (by unfold maxLen;omega);rw[<-hG] at this;unfold maxLen at this;omega
 have UI:¬ (G=i):=by omega
 have abx:¬ (G=i+m):=by omega
 have hci:¬ (c=i):=by omega
 have hbN:b≠w.heap.size:=by omega
 have W6:(n - i)*k=n*k - i*k:=gD _ _ _;have Rz:(cs.drop (i*k)).length=(n - i)*k:=by rw[bI,vh,gD]
 have XQ:∀ (W:World),(∀ x,W.cell? x=(W1.setCells w.heap.size (i*k) vs).cell? x)->(∀ x,W.frozen? x=(W1.setCells w.heap.size (i*k) vs).frozen? x)->∀ ty dc sc,(Builtin.copy_ #[(ρ.t 24),(ρ.t 24)] ty #[.slice (some ⟨w.heap.size,(i+m)*k,none⟩) (n+m - (i+m)) dc,.slice (some ⟨b,off+i*k,none⟩) (n - i) sc]).run P W=.ok (goInt (Nat.min (n - i) (n+m - (i+m)))) (W.setCells w.heap.size ((i+m)*k) (cs.drop (i*k))):=fun W IS RU ty dc sc=>
  yt W _ _ ty (ρ.t 9) inf w.heap.size ((i+m)*k) (n+m - (i+m)) dc ⟨b,off+i*k,none⟩ (n - i) sc (cs.drop (i*k)) L.t24 L.i9 (by rw[Rz,L.is];congr 1;simp only[iS];split <;> omega)
   (fun j v hj=>by
    rw[Addr.add_lit,IS,World.cell?_setCells_out _ _ _ _ _ (fun h _=>absurd h hbN),cE]
    exact hOb _ v (oG (i*k+j) v (by rwa [bM] at hj)))
   (fun j hj=>by rw[IS];exact tu _ _ _ _ (fun t ht=>hN _ (by omega)) _ (hN _ (by omega)))
   (fun j hj=>by rw[RU,World.frozen?_setCells];exact hNf _) (fun v hv=>NY v (dG hv))
 subst wU;have hE1:∀ x,((w.alloc (.cells qY (ρ.t 9))).drew).cell? x=(w.drew.alloc (.cells qY (ρ.t 9))).cell? x:=fun x=>rfl;have hE2:∀ x,((w.alloc (.cells qY (ρ.t 9))).drew).frozen? x=(w.drew.alloc (.cells qY (ρ.t 9))).frozen? x:=fun x=>rfl;have Gh:∀ x,(((w.alloc (.cells qY (ρ.t 9))).drew.setCells w.heap.size (i*k) vs).drew).cell? x=((w.drew.alloc (.cells qY (ρ.t 9))).setCells w.heap.size (i*k) vs).cell? x:=fun x=>rfl;have KG:∀ x,(((w.alloc (.cells qY (ρ.t 9))).drew.setCells w.heap.size (i*k) vs).drew).frozen? x=((w.drew.alloc (.cells qY (ρ.t 9))).setCells w.heap.size (i*k) vs).frozen? x:=fun x=>rfl;have wo:IntKind.i64.wrap ((i:Int)+(m:Int))=(i:Int)+(m:Int):=by rw[IntKind.wrap_i64];omega
 have QD:(0:Int)<=(i:Int)+(m:Int):=by omega
 have jd:i<=n:=by omega
 have RS:((i:Int)+(m:Int)).toNat=i+m:=by omega
 have hb3:(i:Int)<=(n:Int):=by omega
 clear C_ GQ hold Fu hG hRl XP H8;obtain ⟨_,_,FG⟩:=L.f22
 go_enter FG,Body2.n22_ntmps ρ
 go_wp2_with (first
  | (at_builtin;refine Lib.wpList_append_run _ rfl _ _ _ _ rfl _ _ rfl rfl _ _ (Vq _) ?_)
  | (at_builtin;refine xV _ rfl _ _ (ρ.t 24) (ρ.t 24) rfl _ _ rfl rfl (aaH _ hE1 hE2 _ _) ?_)
  | (at_builtin;refine xV _ rfl _ _ (ρ.t 24) (ρ.t 24) rfl _ _ rfl rfl (XQ _ (fun _=>rfl) (fun _=>rfl) _ _ _) ?_))
 go_region_law_o (refine EJ rfl _ _ (ρ.t 24) (ρ.t 24) rfl (.slice (some ⟨w.heap.size,(i+m)*k,none⟩) (n+m - (i+m)) (G - (i+m))) (.slice (some ⟨b,off+i*k,none⟩) (n - i) (c - i)) (by simp[Act.eval,Act.put]) (by simp[Act.eval,Act.put]) (XQ _ Gh KG (ρ.t 3) (G - (i+m)) (c - i)) ?_)
 go_wp2
 go_ret
 exact ⟨rfl,rfl⟩
theorem H9 {i:TypeId} {v:Value} (h:(P.info? i).bind (·.zero)=some v) (w:World):(zeroValue i).run P w=.ok v w:=by
 cases hi:P.info? i with
 | none=>rw[hi] at h;cases h
 | some inf=>
  rw[hi] at h;simp[zeroValue,typeInfo,hi,show inf.zero=some v from h]
theorem TM {i:TypeId} (h:bd P .bool (.inl i)=true):P.underlying i=some .bool:=by
 simp only[bd,aF] at h;have h2:=h.2;split at h2
 ·assumption
 ·cases h2
theorem GP.facts {e:Ty} (L:GP P ρ e) (h1:1<=e.sz):∃ inf zv,zC P ρ e.sz inf zv/\inf.bytes<=512:=by
 obtain ⟨inf,zv,i1,i2,i3,i4,i5,_⟩:=vg (lR L.l9);exact ⟨inf,zv,⟨L.mixed,L.f22,L.f29,pB L.l3,fun w=>vN L.l3,fun w=>run_sizeOf L.l3,H9 L.z3,TM L.l4,fun w=>vN L.l4,fun w=>run_sizeOf L.l4,H9 L.z4,L.t24,fun w=>vN L.l24,fun w=>run_sizeOf L.l24,H9 L.z24,fun w=>run_sizeOf L.l9,i1,i2,i4,i5,h1⟩,i3⟩
def Pb (e:Ty) (v:List e.den×Int×List e.den×Unit):Option (List e.den×Unit):=if 0<=v.2.1/\v.2.1<=(v.1.length:Int)/\v.1.length+v.2.2.1.length<=bz then some (v.1.take v.2.1.toNat++v.2.2.1++v.1.drop v.2.1.toNat,()) else none
theorem Lb {w':World} {A:Cells} {e:Ty} (hs:sS e=true) {b cap:Nat} {vs:List e.den} {news:List Value} {F1:FP} (k_:cap<=maxLen) (fu:gc w' b (cap*e.sz,wY e)) (hlen:List.length vs<=cap) (xS:Has w' b 0 news)
  (ox:∀ (i:Nat) (y:e.den),vs[i]?=some y->(news.drop (i*e.sz)).take e.sz=nk e y) (hF:∀ b' i,b_ b 0 (cap*e.sz) b' i<=F1 b' i) :
  an P w' A (.U e) (am (.U e)) [] vs [.slice (some ⟨b,0,none⟩) (List.length vs) cap] F1:=by
 simp only[an,hole,bT,aG,aL,am,sK,Md.own,aI,Md.e];refine ⟨some ⟨b,0,none⟩,cap,rfl,hlen,k_,(fun e=>by cases e),fun ad e2=>?_⟩
 injection e2 with e2;subst e2;refine ⟨rfl,rfl,fu,fun _ _ _=>0,fun x i=>by rw[nf];exact hF x i,fun i y hy=>⟨nk e y,Ro.length e (tt (P:=P) (w:=w') (A:=A) e hs y),fun j u hu=>?_,Ro.flat e _ (xI e hs) (tt e hs y)⟩⟩
 rw[<-ox i y hy,bK] at hu;split at hu
 ·rw[bM] at hu;have:=xS _ u hu;rw[bE] at this;exact this
 ·cases hu
theorem Lc {e:Ty} {v y:List e.den} {ez news:List Value} (hl:ez.length=List.length v*e.sz)
  (h1:∀ (i:Nat) (z:e.den),v[i]?=some z->(ez.drop (i*e.sz)).take e.sz=nk e z) (h2:∀ (i:Nat) (z:e.den),y[i]?=some z->(news.drop (i*e.sz)).take e.sz=nk e z) :
  ∀ (i:Nat) (z:e.den),(v++y)[i]?=some z->((ez++news).drop (i*e.sz)).take e.sz=nk e z:=by
 intro i z hz;by_cases hi:i < List.length v
 ·rw[bW hi] at hz;have h6:i*e.sz+e.sz<=List.length v*e.sz:=by rw[<-fA];exact bD _ (by omega)
  rw[dI (by omega),dH (by simp;omega)];exact h1 i z hz
 ·rw[bV (by omega)] at hz;have h6:List.length v*e.sz<=i*e.sz:=bD _ (by omega);rw[gV,dN (by omega),bP,hl,<- gD];exact h2 _ z hz
theorem RV {e:Ty} (L:GP P ρ e) (hs:sS e=true) (hu:wY e=false) (h1:1<=e.sz) (he:tH P (ρ.f 22) false) :
  Ok P (ρ.f 22) { ps:=[(.nc (am (.U e)),.U e),(.ro,.int .i64),(.ro,.U e)],rs:=[(.U e,am (.U e))],F:=Pb e }:=by
 obtain ⟨inf,zv,LF,Km⟩:=L.facts h1;refine ⟨?_,he⟩
 intro w A F0 v xs lc hle t7 zB out ld;obtain ⟨vs,i,ys,⟨⟩⟩:=v;obtain ⟨x,Kv,F1,F2,rfl,hF,⟨H,cs,hH,rfl,fa⟩,x2,xs2,F3,F4,rfl,KG,⟨c9,rfl,hi⟩,x3,XE,F5,F6,rfl,hF3,⟨IG,rfl,hy⟩,qW⟩:=lc;obtain rfl:=bN.1 hH;have qW:XE=[]:=qW;subst qW;have hi:c9=[.int .i64 i]:=hi;subst hi;have hy:Ro P w A (.U e) ys IG:=hy;have ld:Pb e (vs,i,ys,())=some out:=ld;unfold Pb at ld;split at ld;rotate_left
 ·cases ld
 rename_i hb;obtain ⟨b1,b2,b3⟩:=hb;simp only at b1 b2 b3 ld;injection ld with ld;subst ld;obtain ⟨ni,rfl⟩:=dJ b1;simp only[aH];have jd:ni<=List.length vs:=by omega
 unfold bz at b3;obtain ⟨xa,cap,ez,Fi,r1,r2,r3,r4,r5,r6,r7,r8⟩:=xC (v:=vs) fa;obtain ⟨c1,c2,c3,c4⟩:=r8 rfl;subst r1;have hyr:an P w A (.U e) (az (.U e)) [] ys IG (fun _ _=>0):=Ro.rep _ _ (gm _) hy;obtain ⟨ya,vC,news,Gi,s1,s2,s3,s4,s5,s6,s7,_⟩:=xC (v:=ys) hyr;subst s1;have un:cap<=9223372036854775807:=by unfold maxLen at c2;omega
 have hx:(cg (.U e) [.slice xa (List.length vs) cap]::[cg (.int .i64) [.int .i64 (ni:Int)],cg (.U e) [.slice ya (List.length ys) vC]]).toArray=#[.slice xa (List.length vs) cap,.int .i64 ni,.slice ya (List.length ys) vC]:=rfl;show Calls P (ρ.f 22) (cg (.U e) [.slice xa (List.length vs) cap]::[cg (.int .i64) [.int .i64 (ni:Int)],cg (.U e) [.slice ya (List.length ys) vC]]).toArray w _;rw[hx];have XR:∀ (t:Nat) (z:e.den),vs[t]?=some z->(ez.drop (t*e.sz)).take e.sz=nk e z:=fun t z hz=>K5 e hs (an.flat e (xI e hs) (r6 t z hz));have OV:∀ (t:Nat) (z:e.den),ys[t]?=some z->(news.drop (t*e.sz)).take e.sz=nk e z:=fun t z hz=>K5 e hs (an.flat e (xI e hs) (s6 t z hz));have XS:(ez.take (ni*e.sz)).length=(vs.take ni).length*e.sz:=by rw[bQ,bQ,r4,fD jd,fD (bD _ jd)]
 have xB:∀ (t:Nat) (z:e.den),(vs.take ni++ys++vs.drop ni)[t]?=some z->((ez.take (ni*e.sz)++news++ez.drop (ni*e.sz)).drop (t*e.sz)).take e.sz=nk e z:=
  Lc (by rw[aS,aS,XS,s4,cI]) (Lc XS (fun t z hz=>by
   rw[bK] at hz;split at hz
   ·have:=XR t z hz;have h6:t*e.sz+e.sz<=ni*e.sz:=by rw[<-fA];exact bD _ (by omega)
    rw[eO,fG,fD (by omega)];exact this
   ·cases hz) OV) (fun t z hz=>by
   rw[bM] at hz;have:=XR (ni+t) z hz;rw[dA,<- cI]
   exact this)
 have CD:List.length (vs.take ni++ys++vs.drop ni)=List.length vs+List.length ys:=by simp;omega
 have w_:∀ (w':World) (rv:Value) (GR:FP),Ext w w' F0->(∀ b i,GR b i<=F0 b i\/(w.heap.size<=b/\b < w'.heap.size/\GR b i<=1))->(∃ cs,rv=cg (.U e) cs/\an P w' A (.U e) (am (.U e)) [] (vs.take ni++ys++vs.drop ni) cs GR) ->
   ∃ z8,Ending.returned rv=.returned z8/\Ext w w' F0/\∃ (A':Cells) (G GR GM:FP),(∀ b i,A b i->A' b i)/\(∀ b i,A' b i->A b i\/1<=F0 b i\/w.heap.size<=b)/\(∀ b i,1<=G b i->1<=F0 b i\/w.heap.size<=b)/\(∀ b i,G b i<=1)/\(∀ b i,1<=G b i->¬ A' b i)/\(∀ b i,1<=G b i\/A' b i->b < w'.heap.size)/\(∀ b i,GR b i+GM b i<=G b i) /\
   mT P w' A' [⟨.U e,am (.U e),vs.take ni++ys++vs.drop ni⟩] z8 GR/\m8 P w' A' [(.nc (am (.U e)),.U e),(.ro,.int .i64),(.ro,.U e)] () [cg (.U e) [.slice xa (List.length vs) cap],cg (.int .i64) [.int .i64 (ni:Int)],cg (.U e) [.slice ya (List.length ys) vC]] GM:=fun w' rv GR dm EI hr=>
  ⟨_,rfl,dm,A,GR,GR,fun _ _=>0,fun _ _ h=>h,fun _ _ h=>.inl h,fun b i h=>by
   rcases EI b i with h2 | h2
   ·exact .inl (by omega)
   ·exact .inr h2.1,fun b i=>by
   rcases EI b i with h2 | h2
   ·have:=hle b i;omega
   ·exact h2.2.2,fun b i h ha=>by
   rcases EI b i with h2 | h2
   ·exact t7 b i (by omega) ha
   ·have:=zB b i (.inr ha);omega,fun b i h=>by
   rcases h with h | h
   ·rcases EI b i with h2 | h2
    ·exact cP (zB b i (.inl (by omega))) dm.size
    ·exact h2.2.1
   ·exact cP (zB b i (.inr h)) dm.size,fun b i=>aN _,hr,trivial⟩
 by_cases Q_:List.length ys=0
 ·have hys:ys=[]:=bH Q_;rw[Q_];refine (TJ LF xa (List.length vs) cap ni vC ya w jd c1 un c3 (fun ad fm=>(c4 ad fm).2.1)).mono ?_;rintro ex w' ⟨rfl,rfl⟩;rw[Q_] at w_;refine w_ _ _ F1 (Ext.refl _ _) (fun b i=>.inl (by have:=hF b i;omega)) ⟨_,(df _ _ rfl).symm,?_⟩;rw[hys,cH,cQ];exact fa
 ·have hm:0 < List.length ys:=by omega
  cases ya with
  | none=>have:=s2.2 rfl;omega
  | some wl=>
   obtain ⟨vb,pq,vsp⟩:=wl;obtain ⟨y1,y2⟩:=s3 _ rfl;have oc:vsp=none:=y1 (by have:=s2.1;omega);subst oc;simp only at y2;have Ds:∀ j u,news[j]?=some u->w.cell? ⟨vb,pq+j,none⟩=some u:=fun j u mC=>qR (y2 j u mC) (s5 u (cB mC))
   have HZ:Src P inf.size (ρ.t 24) (.slice (some ⟨vb,pq,none⟩) (List.length ys) vC) (List.length ys) news w:=by
    rw[LF.is];exact Src.ofSlice w LF.t24 ⟨vb,pq,none⟩ (List.length ys) vC news s4 (fun j u hj=>by rw[Addr.add_lit];exact Ds j u hj) s5
   have H8:(List.length vs+List.length ys)*inf.bytes<=140737488355328:=bJ (gT b3 Km) (by decide)
   have Pc:∀ (w':World) (cap':Nat),Ext w w' (fun _ _=>0)->w.heap.size < w'.heap.size->List.length vs+List.length ys<=cap'->cap'<=maxLen->gc w' w.heap.size (cap'*e.sz,wY e)->Has w' w.heap.size 0 (ez.take (ni*e.sz)++news++ez.drop (ni*e.sz)) ->
     ∃ z8,Ending.returned (.slice (some ⟨w.heap.size,0,none⟩) (List.length vs+List.length ys) cap')=.returned z8/\Ext w w' F0/\∃ (A':Cells) (G GR GM:FP),(∀ b i,A b i->A' b i)/\(∀ b i,A' b i->A b i\/1<=F0 b i\/w.heap.size<=b)/\(∀ b i,1<=G b i->1<=F0 b i\/w.heap.size<=b)/\(∀ b i,G b i<=1)/\(∀ b i,1<=G b i->¬ A' b i)/\(∀ b i,1<=G b i\/A' b i->b < w'.heap.size)/\(∀ b i,GR b i+GM b i<=G b i) /\
   mT P w' A' [⟨.U e,am (.U e),vs.take ni++ys++vs.drop ni⟩] z8 GR/\m8 P w' A' [(.nc (am (.U e)),.U e),(.ro,.int .i64),(.ro,.U e)] () [cg (.U e) [.slice xa (List.length vs) cap],cg (.int .i64) [.int .i64 (ni:Int)],cg (.U e) [.slice (some ⟨vb,pq,none⟩) (List.length ys) vC]] GM:=fun w' cap' dm aj zV vQ ho hh=>
    w_ w' _ (b_ w.heap.size 0 (cap'*e.sz)) (dm.mono fun _ _ _=>rfl) (fun b i=>by
     simp only[b_];split
     ·rename_i hq;obtain ⟨rfl,_⟩:=hq;exact .inr ⟨aN _,aj,aN _⟩
     ·exact .inl (aW _)) ⟨_,(df _ _ rfl).symm,by rw[<-CD];exact Lb hs vQ ho (by rw[CD];exact zV) hh xB (fun _ _=>aN _)⟩
   have xz:∀ (w':World) (b:Nat),xa=some ⟨b,0,none⟩->Ext w w' (b_ b 0 (cap*e.sz))->List.length vs+List.length ys<=cap->Has w' b 0 (ez.take (ni*e.sz)++news++ez.drop (ni*e.sz)) ->
     ∃ z8,Ending.returned (.slice (some ⟨b,0,none⟩) (List.length vs+List.length ys) cap)=.returned z8/\Ext w w' F0/\∃ (A':Cells) (G GR GM:FP),(∀ b i,A b i->A' b i)/\(∀ b i,A' b i->A b i\/1<=F0 b i\/w.heap.size<=b)/\(∀ b i,1<=G b i->1<=F0 b i\/w.heap.size<=b)/\(∀ b i,G b i<=1)/\(∀ b i,1<=G b i->¬ A' b i)/\(∀ b i,1<=G b i\/A' b i->b < w'.heap.size)/\(∀ b i,GR b i+GM b i<=G b i) /\
   mT P w' A' [⟨.U e,am (.U e),vs.take ni++ys++vs.drop ni⟩] z8 GR/\m8 P w' A' [(.nc (am (.U e)),.U e),(.ro,.int .i64),(.ro,.U e)] () [cg (.U e) [.slice xa (List.length vs) cap],cg (.int .i64) [.int .i64 (ni:Int)],cg (.U e) [.slice (some ⟨vb,pq,none⟩) (List.length ys) vC]] GM:=fun w' b xA dm zV hh=>by
    obtain ⟨_,_,q3,q4⟩:=c4 _ xA;simp only at q3 q4
    exact w_ w' _ (b_ b 0 (cap*e.sz)) (dm.mono fun b' i h0=>by have:=q4 b' i;have:=hF b' i;omega) (fun b' i=>.inl (by have:=q4 b' i;have:=hF b' i;omega))
     ⟨_,(df _ _ rfl).symm,by rw[<-CD];exact Lb hs c2 (dm.tQ _ _ q3) (by rw[CD];exact zV) hh xB (fun _ _=>aN _)⟩
   have hk:=h1;have hmk:ni*e.sz+List.length ys*e.sz=(ni+List.length ys)*e.sz:=by rw[cI]
   have hnm:List.length vs*e.sz+List.length ys*e.sz=(List.length vs+List.length ys)*e.sz:=by rw[cI]
   have XM:1<=List.length ys*e.sz:=gT hm h1;have aby:ni*e.sz<=List.length vs*e.sz:=bD _ jd;have uj:(ez.take (ni*e.sz)).length=ni*e.sz:=by rw[bQ,r4];omega
   have Nz:(ez.drop (ni*e.sz)).length=List.length vs*e.sz - ni*e.sz:=by rw[bI,r4]
   have ue:∀ (w1 w2 w3:World) (b:Nat),b < w1.heap.size->Ext w1 w2 (b_ b ((ni+List.length ys)*e.sz) (ez.drop (ni*e.sz)).length)->Has w2 b ((ni+List.length ys)*e.sz) (ez.drop (ni*e.sz))->Ext w2 w3 (b_ b (ni*e.sz) news.length)->Has w3 b (ni*e.sz) news ->
     Has w1 b 0 (ez.take (ni*e.sz))->Has w3 b 0 (ez.take (ni*e.sz)++news++ez.drop (ni*e.sz)):=fun w1 w2 w3 b hb x1 g1 x2 g2 g0 t u mC=>by
    rw[bE];by_cases ht:t < ni*e.sz
    ·rw[bL,bW (by omega)] at mC;have h5:=g0 t u mC;rw[bE] at h5;exact x2.cell b t (cP hb x1.size) (by simp only[b_];rw[bA (by omega)]) u (x1.cell b t hb (by simp only[b_];rw[bA (by omega)]) u h5)
    ·by_cases UU:t < (ni+List.length ys)*e.sz
     ·rw[bW (by rw[aS,uj,s4];omega),bV (by omega),uj] at mC;have h5:=g2 _ u mC;rw[show ni*e.sz+(t - ni*e.sz)=t by omega] at h5;exact h5
     ·rw[bV (by rw[aS,uj,s4];omega),aS,uj,s4] at mC;have h5:=g1 _ u mC;rw[show (ni+List.length ys)*e.sz+(t - (ni*e.sz+List.length ys*e.sz))=t by omega] at h5;exact x2.cell b t (cP hb x1.size) (by simp only[b_,s4];rw[bA (by omega)]) u h5
   have Vr:∀ u ∈ ez.drop (ni*e.sz),u.oneCell'=true:=fun u mC=>r5 u (dG mC);by_cases xU:ni=List.length vs
   ·have ng:ez.take (ni*e.sz)=ez:=by rw[xU,<- r4];simp
    have zR:ez.drop (ni*e.sz)=[]:=by rw[xU,<- r4];simp
    rw[ng,zR,cH] at Pc xz;by_cases oI:List.length vs+List.length ys<=cap
    ·cases xa with
     | none=>have:=c3 rfl;omega
     | some ad=>
      obtain ⟨q1,q2,q3,q4⟩:=c4 ad rfl;obtain ⟨_,d5⟩:=r3 ad rfl;obtain ⟨b,off,sp⟩:=ad;simp only at q1 q2 q3 q4 d5;subst q1;subst q2;have zo:(List.length vs+List.length ys)*e.sz<=cap*e.sz:=bD _ oI
      have mS:∀ j,j < cap*e.sz->(w.cell? ⟨b,j,none⟩).isSome=true:=fun j hj=>by
       obtain ⟨c,e',fr,w1,w2,w3⟩:=q3;unfold World.cell?;simp only[w1,eP,aG,aL];rw[cN (by simp only at w2;omega)];rfl
      have f_:∀ ty,_:=fun ty=>run_append_room_src (P:=P) w (ρ.t 24) (ρ.t 24) ty (ρ.t 9) inf LF.t24 LF.i9 b 0 (List.length vs) cap (.slice (some ⟨vb,pq,none⟩) (List.length ys) vC) (List.length ys) news HZ oI
       (fun j hj=>by rw[LF.is,bE];exact mS _ (by omega)) (fun j hj=>by rw[LF.is,bE];exact q3.frozen (by simp only;omega))
      rw[xU];refine (NZ LF (some ⟨b,0,none⟩) (List.length vs) cap (List.length ys) vC (some ⟨vb,pq,none⟩) w _ _ hm c1 un (fun e=>by cases e) (fun ad fm=>by injection fm with fm;subst fm;rfl) f_).mono ?_;rintro ex w' ⟨rfl,rfl⟩;rw[LF.is,bE];have dm:=k9 (b:=b) (o:=List.length vs*e.sz) news w (List.length vs*e.sz)
      have:=xz _ b rfl (dm.mono fun b' t h0=>by
       simp only[b_] at h0 ⊢;split at h0
       ·cases h0
       ·rw[bA (by omega)]) oI (fun t u mC=>by
       rw[bE];by_cases ht:t < ez.length
       ·rw[bW ht] at mC;have h5:=d5 t u mC;rw[bE] at h5;exact dm.cell b t q3.lt (by simp only[b_];rw[bA (by omega)]) u h5
       ·rw[bV (by omega)] at mC;have h5:=oH (w:=w) (b:=b) (o:=List.length vs*e.sz) (L:=news) (fun k hk=>mS _ (by omega)) s5 _ u mC;rw[show List.length vs*e.sz+(t - ez.length)=t by omega] at h5
        exact h5)
      rw[xU] at this;exact this
    ·have Ny:∀ ad,xa=some ad->ad.spot=none:=fun ad fm=>(c4 ad fm).2.1
     have OU:(Builtin.firstCells inf.size (List.length vs) (.slice xa (List.length vs) cap)).run P w.drew=.ok ez.toArray w.drew:=by
      cases xa with
      | none=>
       have h0:=r2.2 rfl;have:ez=[]:=bH (by rw[r4,h0,gG]);subst this;exact run_firstCells_none w.drew inf.size (List.length vs) (List.length vs) cap
      | some ad=>
       obtain ⟨_,d4,_,_⟩:=c4 ad rfl;obtain ⟨_,d5⟩:=r3 ad rfl;obtain ⟨b,off,sp⟩:=ad;simp only at d4 d5;subst d4;exact run_firstCells_some w.drew inf.size (List.length vs) ⟨b,off,none⟩ (List.length vs) cap ez (by rw[LF.is];exact r4) (fun j u mC=>by rw[pz];exact qR (d5 j u mC) (r5 u (cB mC)))
     have f_:∀ ty,_:=fun ty=>run_append_grow_src (P:=P) w (ρ.t 24) (ρ.t 24) ty (ρ.t 9) inf zv LF.t24 LF.i9 LF.iz xa (List.length vs) cap ez OU (.slice (some ⟨vb,pq,none⟩) (List.length ys) vC) (List.length ys) news HZ (by omega) (by omega) (growslice_fits (by omega) H8);rw[xU];refine (NZ LF xa (List.length vs) cap (List.length ys) vC (some ⟨vb,pq,none⟩) w _ _ hm c1 un c3 Ny f_).mono ?_;rintro ex w' ⟨rfl,rfl⟩;have Di:=grownCap_ge w (List.length vs+List.length ys) cap (ρ.t 9);have NP:=grownCap_le_maxLen w (List.length vs+List.length ys) cap (ρ.t 9) (by simp only[maxLen];omega)
     have kt:((ez++news).toArray++Builtin.zeroCells zv.cells (grownCap w (List.length vs+List.length ys) cap (ρ.t 9) - (List.length vs+List.length ys))).size=grownCap w (List.length vs+List.length ys) cap (ρ.t 9)*e.sz:=by
      rw[fI,size_zeroCells,LF.ik,dM,aS,r4,s4,<- cI,<- cI];congr 1;omega
     have fu:=vO w.drew ((ez++news).toArray++Builtin.zeroCells zv.cells (grownCap w (List.length vs+List.length ys) cap (ρ.t 9) - (List.length vs+List.length ys))) (ρ.t 9) (0,0) (wY e) (.inr (aN _));rw[kt] at fu
     have:=Pc _ _ ((ug w).trans (nG w.drew _) (fun _ _ _ _=>rfl)) (by simp[World.alloc]) Di NP fu (vP w.drew _ (ρ.t 9) (0,0) (fun j u mC=>by
      have aj:=(aM.1 mC).1;rw[bE,dW (by simpa using aj)]
      simpa using mC) (fun u mC=>by
      rcases cJ.1 mC with h | h
      ·exact r5 u h
      ·exact s5 u h))
     rw[xU] at this;exact this
   ·have aj:ni < List.length vs:=by omega
    cases xa with
    | none=>have:=c3 rfl;omega
    | some ad=>
     obtain ⟨q1,q2,q3,q4⟩:=c4 ad rfl;obtain ⟨_,d5⟩:=r3 ad rfl;obtain ⟨b,off,sp⟩:=ad;simp only at q1 q2 q3 q4 d5;subst q1;subst q2;have oG:∀ j u,ez[j]?=some u->w.cell? ⟨b,0+j,none⟩=some u:=fun j u mC=>qR (d5 j u mC) (r5 u (cB mC))
     have QL:Has w b 0 (ez.take (ni*e.sz)):=fun t u mC=>by
      rw[bK] at mC;split at mC
      ·exact d5 t u mC
      ·cases mC
     by_cases oI:List.length vs+List.length ys<=cap
     ·have zo:(List.length vs+List.length ys)*e.sz<=cap*e.sz:=bD _ oI;obtain ⟨c,e',fr,w1,w2,w3,w4⟩:=q3
      have q3:gc w b (cap*e.sz,wY e):=⟨c,e',fr,w1,w2,w3,w4⟩
      simp only at w2 w3 w4
      have mS:∀ j,j < cap*e.sz->(w.cell? ⟨b,j,none⟩).isSome=true:=fun j hj=>by
       unfold World.cell?;simp only[w1,eP,aG,aL];rw[cN (by omega)];rfl
      have RW:0 < news.length:=by omega
      have hy1:=y2 0 _ (aA RW);have IP:=Ds 0 _ (aA RW);obtain ⟨a',cap',g1,g2,g3,g4⟩:=hy;injection g1 with g1 _;injection g1 with g1 _ _;subst g1;obtain ⟨Ly,l1,l2,_⟩:=(g4 _ rfl).2 0 _ (aA hm)
      have hA:A vb pq:=by
       have:=(l2 0 _ (aA (by omega))).2
       simpa using this
      have Vp:vb≠b:=fun e0=>by
       subst e0;have:=K6 w1 hy1;have ru:=(bR.1 this).1;have h5:=q4 vb (pq+0);have h6:b_ vb 0 (cap*e.sz) vb (pq+0)=1:=by simp only[b_];rw[aU ⟨trivial,by omega,by omega⟩]
       have h7:=hF vb (pq+0);exact t7 vb pq (by rw[cY] at h5 h6 h7;omega) hA
      obtain ⟨tA,kA,K_,RP⟩:∃ tA kA,w.shape? vb=some (tA,kA)/\kA≠0:=by
       unfold World.cell? at IP;unfold World.shape?;split at IP
       ·rename_i heq;split at IP
        ·cases IP
        ·simp only at heq;simp only[heq];refine ⟨_,_,rfl,fun h0=>?_⟩
         have:=(bR.1 IP).1;omega
       ·cases IP
      have La:w.frozen? ⟨b,cap*e.sz,none⟩=false:=by
       simp only[World.frozen?,w1];have:=w4 hu;simp only[gK,eY];omega
      refine (RR LF b 0 (List.length vs) cap ni vb pq (List.length ys) vC ez news w aj hm oI un Vp r4 s4 oG (fun j hj=>by rw[bE];exact mS _ (by omega)) (fun j hj=>by rw[bE];exact q3.frozen (by simp only;omega)) Ds r5 s5 tA e' kA (cap*e.sz) K_ (by simp only[World.shape?,w1,w2]) RP La).mono ?_;rintro ex w' ⟨rfl,hw⟩;simp only[bE] at hw;have x1:=k9 (b:=b) (o:=(ni+List.length ys)*e.sz) (ez.drop (ni*e.sz)) w.drew ((ni+List.length ys)*e.sz);have x2:=k9 (b:=b) (o:=ni*e.sz) news (w.drew.setCells b ((ni+List.length ys)*e.sz) (ez.drop (ni*e.sz))) (ni*e.sz);rw[<-hw] at x2;have RX:∀ j,j < (ez.drop (ni*e.sz)).length->(w.drew.cell? ⟨b,(ni+List.length ys)*e.sz+j,none⟩).isSome=true:=fun j hj=>mS _ (by omega);refine xz w' b rfl ?_ oI (ue w.drew _ w' b q3.lt x1 (oH RX Vr) x2 ?_ QL)
      ·refine (((ug w).mono (fun _ _ _=>rfl)).trans (x1.mono (fun b' t h0=>?_)) (fun _ _ _ h=>h)).trans (x2.mono (fun b' t h0=>?_)) (fun _ _ _ h=>h)
       ·simp only[b_] at h0 ⊢;split at h0
        ·cases h0
        ·rw[bA (by omega)]
       ·simp only[b_] at h0 ⊢;split at h0
        ·cases h0
        ·rw[bA (by omega)]
      ·rw[hw];exact oH (fun j hj=>tu b _ _ _ RX _ (mS _ (by omega))) s5
     ·refine (TK LF b 0 (List.length vs) cap ni vb pq (List.length ys) vC ez news w aj hm c1 (by omega) H8 (by omega) r4 s4 oG Ds r5 s5).mono ?_;rintro ex w' ⟨rfl,hw⟩;have Di:=grownCap_ge w (List.length vs+List.length ys) cap (ρ.t 9);have NP:=grownCap_le_maxLen w (List.length vs+List.length ys) cap (ρ.t 9) (by simp only[maxLen];omega)
      obtain ⟨G,hG⟩:∃ G,G=grownCap w (List.length vs+List.length ys) cap (ρ.t 9):=⟨_,rfl⟩
      rw[<-hG] at hw Di NP ⊢
      obtain ⟨qY,Fu⟩:∃ qY:Array Value,qY=(ez.take (ni*e.sz)).toArray++Builtin.zeroCells zv.cells (List.length vs+List.length ys - ni)++Builtin.zeroCells zv.cells (G - (List.length vs+List.length ys)):=⟨_,rfl⟩
      rw[<-Fu] at hw
      have kt:qY.size=G*e.sz:=by
       rw[Fu,fI,fI,size_zeroCells,size_zeroCells,LF.ik,dM,uj,<- cI,<- cI];congr 1;omega
      have zo:(List.length vs+List.length ys)*e.sz<=G*e.sz:=bD _ Di;have fu:=vO w qY (ρ.t 9) (0,0) (wY e) (.inr (aN _));rw[kt] at fu
      have mS:∀ j,j < G*e.sz->((w.alloc (.cells qY (ρ.t 9))).drew.cell? ⟨w.heap.size,j,none⟩).isSome=true:=fun j hj=>by
       have:=World.cell?_alloc_at (w:=w) qY (ρ.t 9) w.heap.size j rfl;show ((w.alloc (.cells qY (ρ.t 9))).cell? _).isSome=true;rw[this,cN (by omega)];rfl
      have x0:Ext w (w.alloc (.cells qY (ρ.t 9))).drew (fun _ _=>0):=(nG w _).trans (ug _) (fun _ _ _ _=>rfl);have x1:=k9 (b:=w.heap.size) (o:=ni*e.sz) news (w.alloc (.cells qY (ρ.t 9))).drew (ni*e.sz);have x2:=k9 (b:=w.heap.size) (o:=(ni+List.length ys)*e.sz) (ez.drop (ni*e.sz)) ((w.alloc (.cells qY (ρ.t 9))).drew.setCells w.heap.size (ni*e.sz) news).drew ((ni+List.length ys)*e.sz);rw[<-hw] at x2;have qt:∀ (o n b' t:Nat),b' < w.heap.size->b_ w.heap.size o n b' t=0:=fun o n b' t qI=>by simp only[b_];rw[bA (by omega)]
      have XT:Ext w w' (fun _ _=>0):=((x0.trans x1 (fun b' t qI _=>qt _ _ _ _ qI)).trans (ug _) (fun _ _ _ _=>rfl)).trans x2 (fun b' t qI _=>qt _ _ _ _ qI)
      have g0:Has (w.alloc (.cells qY (ρ.t 9))).drew w.heap.size 0 (ez.take (ni*e.sz)):=vP w qY (ρ.t 9) (0,0) (fun j u mC=>by
       have ru:=(aM.1 mC).1;rw[Fu,bE,Array.append_assoc,dW (by simpa using ru)]
       simpa using mC) (fun u mC=>r5 u (dZ mC))
      have XU:w.heap.size < (w.alloc (.cells qY (ρ.t 9))).drew.heap.size:=by show w.heap.size < (w.heap.push _).size;rw[Array.size_push];omega
      have g1:=oH (w:=(w.alloc (.cells qY (ρ.t 9))).drew) (b:=w.heap.size) (o:=ni*e.sz) (L:=news) (fun j hj=>mS _ (by omega)) s5;have g2:=oH (w:=((w.alloc (.cells qY (ρ.t 9))).drew.setCells w.heap.size (ni*e.sz) news).drew) (b:=w.heap.size) (o:=(ni+List.length ys)*e.sz) (L:=ez.drop (ni*e.sz)) (fun j hj=>tu w.heap.size _ _ _ (fun j hj=>mS _ (by omega)) _ (mS _ (by omega))) Vr;rw[<-hw] at g2;have IL:w.heap.size < ((w.alloc (.cells qY (ρ.t 9))).drew.setCells w.heap.size (ni*e.sz) news).drew.heap.size:=cP XU x1.size;refine Pc w' G XT (cP IL x2.size) Di NP (x2.tQ _ _ ((ug _).tQ _ _ (x1.tQ _ _ fu))) (fun t u mC=>?_);rw[bE];by_cases ht:t < ni*e.sz
      ·rw[bL,bW (by omega)] at mC;have h5:=g0 t u mC;rw[bE] at h5;exact x2.cell _ t IL (by simp only[b_];rw[bA (by omega)]) u (x1.cell _ t XU (by simp only[b_];rw[bA (by omega)]) u h5)
      ·by_cases UU:t < (ni+List.length ys)*e.sz
       ·rw[bW (by rw[aS,uj,s4];omega),bV (by omega),uj] at mC;have h5:=g1 _ u mC;rw[show ni*e.sz+(t - ni*e.sz)=t by omega] at h5;exact x2.cell _ t IL (by simp only[b_];rw[bA (by omega)]) u h5
       ·rw[bV (by rw[aS,uj,s4];omega),aS,uj,s4] at mC;have h5:=g2 _ u mC;rw[show (ni+List.length ys)*e.sz+(t - (ni*e.sz+List.length ys*e.sz))=t by omega] at h5;exact h5
end
end OT
