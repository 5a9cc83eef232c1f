/- The proof's parts, merged: Functions  a body that is run on data gives the contract.. No conditions but those that each states. -/
import Derived.Test.YtmkdchoeffoafaaGreatXc
import Derived.ProofKit
import Derived.Deep.Slices
import Derived.Laws.BitsLemmas
import Derived.Shelf.SlSortCmp.NoneTotal
import Derived.Shelf.SlLaysE0
import Derived.Shelf.RegionOpenPlain
import Derived.WalkKit
import Derived.Deep.LoopGhost
import Derived.Deep.RegionLaw
import Derived.Lib.Walk
import Derived.Sort.WalkB12
import Derived.Lib.SliceRun
import Derived.Shelf.Lays2
import Derived.Shelf.SlGeneric
import Derived.Lib.JoinLaws
import Derived.Lib.AppendZeros
import Derived.Lib.AppendZerosOnto
import Derived.Lib.Overlaps
import Derived.Laws.Externs
import Derived.Laws.IdiomCopy
import Derived.Laws.NewBlocks
set_option linter.unusedVariables false
set_option linter.unusedSimpArgs false
namespace OT
open Go
section
variable {P:Program} {w:World} {A:Cells} {R:Type} {x:R} {E:Env}
theorem vR:∀ (ps:List (PM×Ty)) (v:(dn (ps.map (·.2))).den),(iq ps v).length=ps.length
 | [],_=>rfl
 | (.ro,t)::ps,v=>by cases t <;> simp[iq,vR ps v.2]
 | (.fix f,t)::ps,v=>by cases t <;> simp[iq,vR ps v.2]
 | (.pt m m',t)::ps,v=>by simp[iq,vR ps v.2]
 | (.kY m,t)::ps,v=>by simp[iq,vR ps v.2]
 | (.sP m,t)::ps,v=>by simp[iq,vR ps v.2]
 | (.nc m,t)::ps,v=>by simp[iq,vR ps v.2]
theorem FQ:∀ (ps:List (PM×Ty)) {v:(dn (ps.map (·.2))).den} {xs:List Value} {G:FP},oZ P w A K6 ps v xs G->xs.length=ps.length
 | [],_,_,_,h=>by have h:_=[]:=h;rw[h];rfl
 | (pm,t)::ps,_,_,_,h=>by
  obtain ⟨y,ys,F1,F2,rfl,_,_,h2⟩:=h;simp[FQ ps h2]
theorem Xn:∀ (ps:List (PM×Ty)) {v:(dn (ps.map (·.2))).den} {xs:List Value} {G:FP},oZ P w A K6 ps v xs G->FO ps=true ->
  ∃ Fi:Nat->FP,(∀ b k,a_ ps.length Fi b k<=G b k)/\∀ i s,(iq ps v)[i]?=some s->∃ y,xs[i]?=some y/\(∀ σ a,cv P A σ a w y s (Fi i))/\(∀ t m H v,s=.box t m H v->(i,i,false) ∈ ui 0 ps) /\
   ((i,i,true) ∈ ui 0 ps->∃ t m H v,s=.own t m H v):=by
 have main:∀ (ps:List (PM×Ty)) (n:Nat) {v:(dn (ps.map (·.2))).den} {xs:List Value} {G:FP},oZ P w A K6 ps v xs G->FO ps=true ->
   ∃ Fi:Nat->FP,(∀ b k,a_ ps.length Fi b k<=G b k)/\∀ i s,(iq ps v)[i]?=some s->∃ y,xs[i]?=some y/\(∀ σ a,cv P A σ a w y s (Fi i))/\(∀ t m H v,s=.box t m H v->(n+i,n+i,false) ∈ ui n ps) /\
    ((n+i,n+i,true) ∈ ui n ps->∃ t m H v,s=.own t m H v):=by
  have am:∀ (ps:List (PM×Ty)) (n j k:Nat) (c:Bool),(j,k,c) ∈ ui n ps->n<=j/\j=k:=by
   intro ps
   induction ps with
   | nil=>intro n j k c h;cases h
   | cons p ps ih=>
    intro n j k c h;obtain ⟨pm,t⟩:=p
    cases pm with
    | ro=>have:=ih (n+1) j k c h;omega
    | fix f=>have:=ih (n+1) j k c h;omega
    | nc m=>have:=ih (n+1) j k c h;omega
    | pt m m'=>
     rcases aX.1 h with e | h
     ·injection e with e1 e2;injection e2 with e2 e3;omega
     ·have:=ih (n+1) j k c h;omega
    | sP m=>
     rcases aX.1 h with e | h
     ·injection e with e1 e2;injection e2 with e2 e3;omega
     ·have:=ih (n+1) j k c h;omega
    | kY m=>
     rcases aX.1 h with e | h
     ·injection e with e1 e2;injection e2 with e2 e3;omega
     ·have:=ih (n+1) j k c h;omega
  intro ps
  induction ps with
  | nil=>intro n v xs G h _;exact ⟨λ_ _ _=>0,λb k=>aY _,λi s hs=>by cases hs⟩
  | cons p ps ih=>
   intro n v xs G h hp;obtain ⟨pm,t⟩:=p;obtain ⟨y,ys,F1,F2,rfl,hs,ha,hr⟩:=h;have hp':FO ps=true:=hp;obtain ⟨Fi,g1,g2⟩:=ih (n+1) hr hp'
   obtain ⟨s0,hs0,Ug,TQ,fa⟩:∃ s0,iq ((pm,t)::ps) v=s0::iq ps v.2/\(∀ σ a,cv P A σ a w y s0 F1)/\(∀ t' m' H' v',s0=.box t' m' H' v'->∃ m,(∃ m',pm=.pt m m')\/pm=.sP m)/\((∃ m,pm=.kY m)->∃ t' m H v,s0=.own t' m H v):=by
    cases pm with
    | ro=>
     obtain ⟨cs,h1,h2⟩:=ha
     cases t with
     | ptr e=>
      refine ⟨.cp e v.1,rfl,λσ a=>?_,(λ_ _ _ _ e=>by cases e),λ⟨m,e⟩=>by cases e⟩
      have hl:=Ro.length _ h2
      match cs,hl with
      | [u],_=>
       rw[db _ _ rfl] at h1;subst h1;exact h2
     | _=>exact ⟨.val _ v.1,rfl,λσ a=>⟨cs,h1,h2⟩,(λ_ _ _ _ e=>by cases e),λ⟨m,e⟩=>by cases e⟩
    | fix f=>
     obtain ⟨⟨cs,h1,h2⟩,h3⟩:=ha
     cases t with
     | fn=>
      refine ⟨.val .fn (f,v.1.2),rfl,λσ a=>⟨cs,h1,?_⟩,(λ_ _ _ _ e=>by cases e),λ⟨m,e⟩=>by cases e⟩
      have e:v.1=(f,v.1.2):=by have:=h3 rfl;rw[<-this]
      rw[<-e];exact h2
     | _=>exact ⟨.dead,rfl,λσ a=>trivial,(λ_ _ _ _ e=>by cases e),λ⟨m,e⟩=>by cases e⟩
    | pt m m'=>
     obtain ⟨b,o,L,F3,h1,h2,h3,h4,h5,h6⟩:=ha;exact ⟨.box t m [] v.1,rfl,λσ a=>⟨b,o,L,F3,h1,h2,h3,h4,h5,h6⟩,λ_ _ _ _ _=>⟨m,.inl ⟨m',rfl⟩⟩,λ⟨m,e⟩=>by cases e⟩
    | sP m=>
     obtain ⟨b,o,L,F3,h1,h2,h3,h4,h5,h6⟩:=ha;exact ⟨.box t m [] v.1,rfl,λσ a=>⟨b,o,L,F3,h1,h2,h3,h4,h5,h6⟩,λ_ _ _ _ _=>⟨m,.inr rfl⟩,λ⟨m,e⟩=>by cases e⟩
    | kY m=>
     obtain ⟨cs,h1,h2⟩:=ha;exact ⟨.own t m [] v.1,rfl,λσ a=>⟨cs,h1,h2⟩,(λ_ _ _ _ e=>by cases e),λ_=>⟨_,_,_,_,rfl⟩⟩
    | nc m=>
     obtain ⟨H,cs,hH,h1,h2⟩:=ha;obtain rfl:=bN.1 hH;exact ⟨.own t m [] v.1,rfl,λσ a=>⟨cs,h1,h2⟩,(λ_ _ _ _ e=>by cases e),λ_=>⟨_,_,_,_,rfl⟩⟩
   refine ⟨λk=>match k with | 0=>F1 | k+1=>Fi k,λb k=>?_,λi s hi=>?_⟩
   ·have:a_ (ps.length+1) (λk=>match k with | 0=>F1 | k+1=>Fi k) b k=F1 b k+a_ ps.length Fi b k:=by
     rw[jE,sY];congr 1
     ·simp[a_]
     ·refine iI (iI (qv λj hj=>?_) b) k;rw[jE]
    show a_ (ps.length+1) _ b k<=G b k;rw[this];have:=hs b k;have:=g1 b k;omega
   ·rw[hs0] at hi
    cases i with
    | zero=>
     injection hi with hi;subst hi;refine ⟨y,rfl,Ug,λt' m' H' v' e=>?_,λhm=>?_⟩
     ·obtain ⟨m,⟨_,rfl⟩ | rfl⟩:=TQ t' m' H' v' e
      ·exact bG
      ·exact bG
     ·refine fa ?_
      cases pm with
      | kY m=>exact ⟨m,rfl⟩
      | ro=>have:=am ps (n+1) _ _ _ hm;omega
      | fix f=>have:=am ps (n+1) _ _ _ hm;omega
      | nc m=>have:=am ps (n+1) _ _ _ hm;omega
      | pt m m'=>
       rcases aX.1 hm with e | hm
       ·injection e with e1 e2;injection e2 with e2 e3;cases e3
       ·have:=am ps (n+1) _ _ _ hm;omega
      | sP m=>
       rcases aX.1 hm with e | hm
       ·injection e with e1 e2;injection e2 with e2 e3;cases e3
       ·have:=am ps (n+1) _ _ _ hm;omega
    | succ i=>
     obtain ⟨y',q1,q2,q3,q4⟩:=g2 i s hi;have Uh:n+1+i=n+(i+1):=by omega
     rw[Uh] at q3 q4;refine ⟨y',q1,q2,λt' m' H' v' e=>?_,λhm=>q4 ?_⟩
     ·have:=q3 t' m' H' v' e
      cases pm with
      | ro=>exact this
      | fix f=>exact this
      | nc m=>exact this
      | pt m m'=>exact aW _ this
      | sP m=>exact aW _ this
      | kY m=>exact aW _ this
     ·cases pm with
      | ro=>exact hm
      | fix f=>exact hm
      | nc m=>exact hm
      | pt m m'=>
       rcases aX.1 hm with e | hm
       ·injection e with e1 e2;omega
       ·exact hm
      | sP m=>
       rcases aX.1 hm with e | hm
       ·injection e with e1 e2;omega
       ·exact hm
      | kY m=>
       rcases aX.1 hm with e | hm
       ·injection e with e1 e2;omega
       ·exact hm
 intro ps v xs G h hp;obtain ⟨Fi,g1,g2⟩:=main ps 0 h hp;exact ⟨Fi,g1,λi s hi=>by simpa using g2 i s hi⟩
theorem Lx:∀ (ps:List (PM×Ty)) (n j k:Nat) (c:Bool),(j,k,c) ∈ ui n ps->n<=j/\j=k/\j < n+ps.length:=by
 intro ps
 induction ps with
 | nil=>intro n j k c h;cases h
 | cons p ps ih=>
  intro n j k c h;obtain ⟨pm,t⟩:=p;simp only[aO]
  cases pm with
  | ro=>have:=ih (n+1) j k c h;omega
  | fix f=>have:=ih (n+1) j k c h;omega
  | nc m=>have:=ih (n+1) j k c h;omega
  | pt m m'=>
   rcases aX.1 h with e | h
   ·injection e with e1 e2;injection e2 with e2 e3;omega
   ·have:=ih (n+1) j k c h;omega
  | sP m=>
   rcases aX.1 h with e | h
   ·injection e with e1 e2;injection e2 with e2 e3;omega
   ·have:=ih (n+1) j k c h;omega
  | kY m=>
   rcases aX.1 h with e | h
   ·injection e with e1 e2;injection e2 with e2 e3;omega
   ·have:=ih (n+1) j k c h;omega
theorem LA:∀ (ss:List Slot) (n i:Nat),m9 (zA n ss) i=if n<=i then ss[i - n]? else none
 | [],n,i=>by simp[zA,m9]
 | s::ss,n,i=>by
  simp only[zA,m9,LA ss (n+1) i];by_cases hi:n=i
  ·subst hi;simp
  ·have:Nat.beq n i=false:=by
    cases hb:Nat.beq n i with
    | false=>rfl
    | true=>exact absurd (cL hb) hi
   simp only[this,aF,aL];by_cases hle:n<=i
   ·rw[aV (by omega),aV hle];have e:i - n=(i - (n+1))+1:=by omega
    rw[e,fM]
   ·rw[bB (by omega),bB hle]
theorem Ui {g:sQ} {v:(dn (g.ps.map (·.2))).den} {xs:List Value} {F0:FP} {n:Nat} (h:oZ P w A K6 g.ps v xs F0) (hp:FO g.ps=true) (hn:g.ps.length<=n) (h1:∀ b i,F0 b i<=1) (h2:∀ b i,1<=F0 b i->¬ A b i) (h3:∀ b i,1<=F0 b i\/A b i->b < w.heap.size) (FR:vG P w F0) :
  ∃ F,dt P { w0:=w,A0:=A,F0:=F0,args:=xs.toArray } A (Bu g.ps v n) { tmps:=xs.toArray++Array.replicate (n - xs.toArray.size) undef,defers:=[] } w F:=by
 obtain ⟨Fi,g1,g2⟩:=Xn g.ps h hp;have hlen:=FQ g.ps h;have V5:=vR g.ps v
 have uq:∀ i,(Bu g.ps v n).get i=if i < n then (match (iq g.ps v)[i]? with | some s=>s | none=>.dead) else .dead:=λi=>by
  unfold St.get Bu;simp only[LA,aY,aI,Nat.sub_zero];by_cases hi:i < n
  ·rw[aV (by simpa [gU] using hi),aV hi];rfl
  ·rw[bB (by simpa [gU] using hi),bB hi]
 have Uj:∀ i (y:Value),xs[i]?=some y->tmp { tmps:=xs.toArray++Array.replicate (n - xs.toArray.size) undef,defers:=[] } i=y:=λi y hy=>by
  have hi:=(aM.1 hy).1;unfold tmp;rw[jB,dI (by simpa using hi)];simp[hy]
 have mc:∀ b k,a_ n (λi=>if i < g.ps.length then Fi i else λ_ _=>0) b k<=F0 b k:=λb k=>by
  have e:n=g.ps.length+(n - g.ps.length):=by omega
  rw[e,sY];have e1:=iI (iI (qv (n:=g.ps.length) (f:=λi=>if i < g.ps.length then Fi i else λ_ _=>0) (g:=Fi) (λj hj=>by simp only[aV hj])) b) k;have e2:=iI (iI (qv (n:=n - g.ps.length) (f:=λj=>(λi=>if i < g.ps.length then Fi i else λ_ _=>0) (g.ps.length+j)) (g:=λ_ _ _=>0) (λj hj=>by simp only;rw[bB (by omega)])) b) k;rw[e1,e2,mK];exact g1 b k
 refine ⟨λi=>if i < g.ps.length then Fi i else λ_ _=>0,?_,rfl,λi hi=>?_,(λd r p snap hm=>by cases hm),λb k=>?_,λb k hp=>?_,λb k hp=>?_,λi=>rfl,Ext.refl _ _,λb k hp=>?_,λ_ _ h=>h,λ_ _ h=>.inl h,λj k hm=>?_,λr t m H v' hg hl=>?_,λj k hm R hR=>?_,FR⟩
 ·simp only[fD,dQ,Array.size_replicate,hlen,Bu];omega
 ·rw[uq];have hi:i < n:=hi;rw[aV hi]
  cases hs:(iq g.ps v)[i]? with
  | none=>trivial
  | some s=>
   obtain ⟨y,q1,q2,_⟩:=g2 i s hs;have am:i < g.ps.length:=by rw[<-V5];exact (aM.1 hs).1
   rw[Uj i y q1];simp only[aV am];exact q2 _ _
 ·have:=mc b k;have:=h1 b k;show 0+a_ n _ b k<=1;omega
 ·have hp:1<=0+a_ n (λi=>if i < g.ps.length then Fi i else λ_ _=>0) b k:=hp;have:=mc b k;exact h2 b k (by omega)
 ·refine h3 b k (hp.imp (λhp=>?_) id);have hp:1<=0+a_ n (λi=>if i < g.ps.length then Fi i else λ_ _=>0) b k:=hp;have:=mc b k;omega
 ·have hp:1<=0+a_ n (λi=>if i < g.ps.length then Fi i else λ_ _=>0) b k:=hp;have:=mc b k;left;show 1<=F0 b k;omega
 ·obtain ⟨_,rfl,hj⟩:=Lx g.ps 0 j k false hm;have hj:j < xs.length:=by omega
  rw[Uj j xs[j] (aB hj)];simp[hj]
 ·exfalso;rw[uq] at hg;split at hg
  ·cases hs:(iq g.ps v)[r]? with
   | none=>rw[hs] at hg;cases hg
   | some s=>
    rw[hs] at hg;obtain ⟨y,_,_,q3,_⟩:=g2 r s hs;exact hl r (q3 t m H v' hg)
  ·cases hg
 ·obtain ⟨_,rfl,hj⟩:=Lx g.ps 0 j k true hm;have v_:j < (iq g.ps v).length:=by omega
  have hs:=aB v_;obtain ⟨y,q1,q2,_,q4⟩:=g2 j _ hs;obtain ⟨t,m,H,v',e⟩:=q4 hm;have Wi:j < n:=by omega
  rw[uq,aV Wi,hs] at hR;simp only[e,c9,aP] at hR;subst hR;rw[Uj j y q1];have h2:=q2 (Bu g.ps v n) { tmps:=#[],defers:=[] };rw[e] at h2;obtain ⟨cs,c1,c2⟩:=h2;have:=lh (ap.length _ c2) (ap.one _ c2);show ci t y.cells.toList=_;rw[c1,this,<- c1]
  have YO:=(aM.1 q1)
  obtain ⟨YO,e2⟩:=YO;simp[YO,e2]
noncomputable def J_ (P:Program) (E:Env) (fn:Func) (ps:List (PM×Ty)) (rs:List (Ty×Md)) (es:List Nat):Bool:=
 codeOk P E (Dp fn)&&FN E rs fn.results.toList&&FO ps&&Nat.ble ps.length fn.ntmps&&decide es.Nodup
theorem JV (hE:sq P E) {f:FuncId} {fn:Func} (hf:P.funcs[f]?=some fn) (hb:fn.body.isSome=true) {g:sQ} (hh:∀ v H,g.CZ v H=true->H=[]) {es fr:List Nat} (bc:J_ P E fn g.ps g.rs es=true) (hF:∀ v out,g.F v=some out->∃ k,J3 E k fn g.ps g.rs es fr v=some out):Sound P f g:=by
 intro w A F0 v xs lj h1 h2 h3 FR out kf;replace lj:=lj.none (hh v);obtain ⟨k,hk⟩:=hF v out kf;simp only[J_,aE,dU,bM] at bc;obtain ⟨⟨⟨⟨Wj,Ha⟩,uy⟩,VV⟩,sU⟩:=bc;obtain ⟨c,hc⟩:=fZ.1 hb;have Rr:Dp fn=c:=by simp[Dp,hc]
 rw[Rr] at Wj;obtain ⟨F,Ug⟩:=Ui lj uy VV h1 h2 h3 FR;unfold J3 at hk;rw[Rr] at hk;have hxl:=FQ g.ps lj
 have yA:∀ (a':Act) (w':World) (σ':St),Kx g.ps g.rs es fn.results.toList (VF fr) σ'=some out->DE P { w0:=w,A0:=A,F0:=F0,args:=xs.toArray } σ' a' w' ->
   a'.defers=[]/\∃ rv,(results fn a'.tmps).run P w'=.ok rv w'/\(∃ AI,Ending.returned rv=.returned AI/\Ext w w' F0/\∃ (A':Cells) (G GR GM:FP),(∀ b i,A b i->A' b i)/\(∀ b i,A' b i->A b i\/1<=F0 b i\/w.heap.size<=b) /\
    (∀ b i,1<=G b i->1<=F0 b i\/w.heap.size<=b)/\(∀ b i,G b i<=1)/\(∀ b i,1<=G b i->¬ A' b i)/\(∀ b i,1<=G b i\/A' b i->b < w'.heap.size)/\(∀ b i,GR b i+GM b i<=G b i) /\
    mS P w' A' (lD g.rs out).1 AI GR/\m8 P w' A' g.ps (lD g.rs out).2 xs GM):=by
  intro a' w' σ' ho hr;obtain ⟨A1,F1,hr⟩:=hr;unfold Kx at ho;obtain ⟨A2,kW,X2,F2,Ck,L,Fi,pre,r1,r2,r3,r4,r5,r6,r7,r8,r9⟩:=YL hE g.rs fn.results.toList 0 Ha hr ho;obtain ⟨vs,us,Gi,m1,m2,m3,m4,m5,m6⟩:=Xm r2 0 g.ps es uy sU (by simp[hxl]) r3;have abl:pre vs=out:=Option.some.inj m1;have n8:lD g.rs out=(L,vs):=by rw[<-abl,r4]
  have E2:∀ b i,a_ L.length Fi b i<=X2 b i:=λb i=>by have:=r8 b i;omega
  have abm:∀ b i,of Gi us b i<=of F2 us b i:=λb i=>by
   have:∀ l:List Nat,(∀ j ∈ l,j ∈ us)->of Gi l b i<=of F2 l b i:=by
    intro l
    induction l with
    | nil=>intro _;exact aN _
    | cons j l ih=>
     intro hl;have:=m5 j b i (hl j bG);have:=ih λj' v_=>hl j' (aW _ v_);simp only[of];omega
   exact this us λ_ h=>h
  have Sk:∀ b i,of Gi us b i<=a_ kW.n F2 b i:=λb i=>bO (abm b i) (OA us F2 m3 m4 b i);refine ⟨r2.defers,_,Nf (by rw[r6]) r7,_,rfl,r2.ext,?_⟩
  obtain ⟨A3,qK⟩:∃ A3:Cells,∀ b i,A3 b i↔(A2 b i\/(1<=X2 b i+a_ kW.n F2 b i/\a_ L.length Fi b i+of Gi us b i=0)):=⟨λb i=>A2 b i\/(1<=X2 b i+a_ kW.n F2 b i/\a_ L.length Fi b i+of Gi us b i=0),λ_ _=>jX⟩
  have Uk:∀ b i,A2 b i->A3 b i:=λb i h=>(qK b i).2 (.inl h);have pe:∀ b i,X2 b i+a_ kW.n F2 b i<=1:=λb i=>r2.o5 b i;refine ⟨A3,λb i=>a_ L.length Fi b i+of Gi us b i,a_ L.length Fi,of Gi us,λb i ha=>Uk b i (r2.a0 b i ha),λb i ha=>?_,λb i hp=>?_,λb i=>?_,λb i hp ha=>?_,λb i hp=>?_,λ_ _=>aN _,?_,?_⟩
  ·rcases (qK b i).1 ha with ha | ⟨hp,_⟩
   ·exact r2.a1 b i ha
   ·exact .inr (r2.own b i hp)
  ·have hp:1<=a_ L.length Fi b i+of Gi us b i:=hp;exact r2.own b i (by have:=E2 b i;have:=Sk b i;omega)
  ·show a_ L.length Fi b i+of Gi us b i<=1;have:=E2 b i;have:=Sk b i;have:=pe b i;omega
  ·have hp:1<=a_ L.length Fi b i+of Gi us b i:=hp
   rcases (qK b i).1 ha with ha | ⟨_,hz⟩
   ·exact r2.pW b i (by have:=E2 b i;have:=Sk b i;omega) ha
   ·omega
  ·rcases hp with hp | ha
   ·have hp:1<=a_ L.length Fi b i+of Gi us b i:=hp;exact r2.kP b i (.inl (by have:=E2 b i;have:=Sk b i;omega))
   ·rcases (qK b i).1 ha with ha | ⟨hp,_⟩
    ·exact r2.kP b i (.inr ha)
    ·exact r2.kP b i (.inl hp)
  ·rw[n8]
   have LB:=r9 A3 Uk (λb i hx _ hz=>(qK b i).2 (.inr ⟨by omega,by
    have:=Sk b i;have:=pe b i;omega⟩))
   show mS P w' A3 L _ _
   match L,r5,LB with
   | [],_,_=>trivial
   | [y],hl,LB=>
    match Ck,hl with
    | [u],_=>
     obtain ⟨u',cs,e1,e2,e3⟩:=LB 0 y rfl;injection e1 with e1;subst e1;refine ⟨cs,by simpa using e2,e3.le λb i=>by simp[a_]⟩
   | y::z::L,hl,LB=>
    refine ⟨Ck.toArray,Fi,?_,λ_ _=>aN _,λj q hq=>?_⟩
    ·rw[dif_neg];simp only[dQ,hl,aO];omega
    ·obtain ⟨u,cs,e1,e2,e3⟩:=LB j q hq;exact ⟨u,cs,by simpa using e1,e2,e3⟩
  ·rw[n8];refine m6 A3 Uk λi b k' hi hp hz=>(qK b k').2 (.inr ⟨by have:=cy F2 (m4 i hi) b k';omega,?_⟩);have h4:=cy F2 (m4 i hi) b k';have h5:=pe b k';have h6:=E2 b k'
   have h7:of Gi us b k'=0:=by
    rcases bF (of Gi us b k') with h0 | h0
    ·exact h0
    ·obtain ⟨j,hj,V8⟩:=Lt h0;by_cases oE:j=i
     ·subst oE;omega
     ·have:=m5 j b k' hj;have:=uj F2 (m4 j hj) (m4 i hi) oE b k';omega
   omega
 refine calls_of_wp hf hc (wp_mono (Xl hE c Wj Ug hk) λe a' w' hq=>?_)
 cases e with
 | normal=>obtain ⟨σ',h4,h5⟩:=hq;exact yA a' w' σ' h4 h5
 | ret=>obtain ⟨σ',h4,h5⟩:=hq;exact yA a' w' σ' h4 h5
 | exit j=>obtain ⟨σ',h4,h5⟩:=hq;cases h4
 | _=>exact hq.elim
end
end OT
namespace OT
open Go
def LC (w:World):Cells:=λb _=>b < w.heap.size
def Be:Ty->Bool
 | .int _ | .bool | .str | .unit=>true
 | .pair a b=>Be a&&Be b
 | .U e=>Be e
 | _=>false
def sH:(T:Ty)->T.den->Prop
 | .int k,n=>k.min<=pG k n/\pG k n<=k.max
 | .str,s=>List.length s<=maxLen
 | .pair a b,v=>sH a v.1/\sH b v.2
 | .U e,v=>List.length v<=maxLen/\∀ x ∈ (v:List e.den),sH e x
 | _,_=>True
def Sl:(ps:List (PM×Ty))->(dn (ps.map (·.2))).den->Prop
 | [],_=>True
 | (_,T)::ps,v=>sH T v.1/\Sl ps v.2
section
variable {P:Program} {w:World} {H:Type} {enc:TypeId×Value->H}
theorem FS {T:Ty} {i:TypeId} (h:be P T (.inl i)=true):P.cellsOf i=T.sz:=by
 obtain ⟨inf,h1,h2,_⟩:=ly (lH h);simp[Program.cellsOf,h1,h2]
theorem Ul {a:Addr} {k:Nat} {u:Value} (h:w.cell? (a.add k)=some u) (hk:k=0\/a.spot=none):a.spot=none:=by
 rcases hk with rfl | hk
 ·unfold Addr.add at h;rw[aV rfl] at h;unfold World.cell? at h;split at h
  ·split at h
   ·cases h
   ·rename_i hs
    cases n8:a.spot with
    | none=>rfl
    | some s=>rw[n8] at hs;simp at hs
  ·cases h
 ·exact hk
theorem Xo:∀ (T:Ty),Be T=true ->
  (∀ i,be P T (.inl i)=true->∀ fuel cs x,DataW.trod enc P w 0 (λ_=>true) true fuel i cs=some x->∃ v:T.den,sH T v/\Ro P w (LC w) T v cs) /\
  (∀ fs off,be P T (.inr (fs,off))=true->∀ n (cs:List Value),cs.length=off+T.sz->(∀ f ∈ fs,∃ x,DataW.trod enc P w 0 (λ_=>true) true n f.type ((cs.drop f.offset).take (P.cellsOf f.type))=some x)->∃ v:T.den,sH T v/\Ro P w (LC w) T v (cs.drop off)):=by
 intro T
 induction T with
 | int k=>
  intro _;refine ⟨λi hl fuel cs x h=>?_,λfs off hl=>by simp[be] at hl⟩
  obtain ⟨n,rfl,_,Sm⟩:=DataW.trod_int (pw hl) h;simp only[Lit.wf,aE,bM] at Sm
  cases k with
  | u8=>
   have h1:pG .u8 (UInt8.ofInt n)=n:=by
    have:=Ik .u8 n (λ_=>by
     have h1:(0:Int)<=n:=Sm.1;have h2:n<=(255:Int):=Sm.2
     omega)
    exact this
   refine ⟨(UInt8.ofInt n:UInt8),?_,?_⟩
   ·show IntKind.u8.min<=pG .u8 (UInt8.ofInt n)/\pG .u8 (UInt8.ofInt n)<=IntKind.u8.max;rw[h1];exact Sm
   ·show [Value.int .u8 n]=[Value.int .u8 (pG .u8 (UInt8.ofInt n))]
    rw[h1]
  | _=>exact ⟨n,Sm,rfl⟩
 | bool=>
  intro _;refine ⟨λi hl fuel cs x h=>?_,λfs off hl=>by simp[be] at hl⟩
  have hu:P.underlying i=some .bool:=by
   simp only[be,aE] at hl;have h2:=hl.2;split at h2
   ·assumption
   ·cases h2
  obtain ⟨b,rfl,_⟩:=DataW.trod_bool hu h;exact ⟨b,trivial,rfl⟩
 | str=>
  intro _;refine ⟨λi hl fuel cs x h=>?_,λfs off hl=>by simp[be] at hl⟩
  obtain ⟨s,rfl,_,Sn⟩:=DataW.trod_string (m7 hl) h;exact ⟨s.data.toList,(by show s.data.toList.length<=maxLen;rw[iX];exact Sn),by simp only[Ro]⟩
 | unit=>
  intro _;refine ⟨λi hl fuel cs x h=>?_,λfs off hl n cs hlen _=>⟨(),trivial,?_⟩⟩
  ·simp only[be,aE] at hl;have h2:=hl.2;split at h2
   ·rename_i fs hu;obtain ⟨xs,n,_,_,hlen,_⟩:=DataW.trod_struct hu h
    have ko:P.cellsOf i=0:=by
     obtain ⟨inf,h1,h3,_⟩:=ly hl.1;simp[Program.cellsOf,h1,h3,Ty.sz]
    rw[ko] at hlen;exact ⟨(),trivial,by simp only[Ro];exact bH hlen⟩
   ·cases h2
  ·simp only[Ro];exact dR (by simp only[Ty.sz] at hlen;omega)
 | pair a b kO kD=>
  intro ha;simp only[Be,aE] at ha
  have YP:∀ fs off,be P (.pair a b) (.inr (fs,off))=true->∀ n (cs:List Value),cs.length=off+(Ty.pair a b).sz->(∀ f ∈ fs,∃ x,DataW.trod enc P w 0 (λ_=>true) true n f.type ((cs.drop f.offset).take (P.cellsOf f.type))=some x)->∃ v:(Ty.pair a b).den,sH (.pair a b) v/\Ro P w (LC w) (.pair a b) v (cs.drop off):=by
   intro fs off hl n cs hlen hf
   cases fs with
   | nil=>simp[be] at hl
   | cons f r=>
    simp only[be,aE,eJ,dU] at hl;obtain ⟨⟨⟨ho,_⟩,h1⟩,h2⟩:=hl;simp only[Ty.sz] at hlen;obtain ⟨x,hx⟩:=hf f bG;rw[ho,FS h1] at hx;obtain ⟨v1,o1,r1⟩:=(kO ha.1).1 _ h1 _ _ _ hx;obtain ⟨v2,o2,r2⟩:=(kD ha.2).2 r (off+a.sz) h2 n cs (by omega) (λf' Wk=>hf f' (aW _ Wk));exact ⟨(v1,v2),⟨o1,o2⟩,r1,by rw[dA];exact r2⟩
  refine ⟨λi hl fuel cs x h=>?_,YP⟩
  have hl0:=hl;simp only[be,aE] at hl;have h2:=hl.2;split at h2
  ·rename_i fs hu;split at h2
   ·rename_i f r DF
    have h3:be P (.pair a b) (.inr (f::r,0))=true:=by
     simp only[be,bE];exact h2
    obtain ⟨xs,n,_,_,hlen,hxl,Xp⟩:=DataW.trod_struct hu h;rw[FS hl0] at hlen
    have:=YP (f::r) 0 h3 n cs (by omega) (λf' Wk=>by
     rw[<-DF] at Wk;obtain ⟨j,hj,e⟩:=dC.1 Wk;have v_:j < fs.size:=by simpa using hj
     have:=Xp j f' (by rw[cN v_];simpa using e);rw[this,aB (by omega)]
     exact ⟨_,rfl⟩)
    simpa using this
   ·cases h2
  ·cases h2
 | U e ih=>
  intro ha;simp only[Be] at ha;refine ⟨λi hl fuel cs x h=>?_,λfs off hl=>by simp[be] at hl⟩
  obtain ⟨el,hu,ko,hle⟩:=tT hl
  rcases DataW.trod_slice hu h with ⟨rfl,_⟩ | ⟨a,len,cap,elems,rest,n,_,rfl,_,_,hlc,hcm,pH,Um,qi,_⟩
  ·exact ⟨[],⟨aY _,λx hx=>by cases hx⟩,none,0,rfl,aN _,λ_=>rfl,λad e=>by cases e⟩
  ·rw[FS hle] at Um qi
   have mR:∀ k y,(w.cells? 0 (a.add (k*e.sz)) e.sz).bind (DataW.trod enc P w 0 (λ_=>true) true n el)=some y->∃ br,w.cells? 0 (a.add (k*e.sz)) e.sz=some br/\DataW.trod enc P w 0 (λ_=>true) true n el br=some y:=λk y hk=>by
    cases hc:w.cells? 0 (a.add (k*e.sz)) e.sz with
    | none=>rw[hc] at hk;cases hk
    | some br=>rw[hc] at hk;exact ⟨br,rfl,hk⟩
   have Wl:0 < cap->a.spot=none:=λDH=>by
    have K3:∃ br,w.cells? 0 (a.add (0*e.sz)) e.sz=some br:=by
     by_cases hlen:0 < len
     ·have h0:=Um 0 hlen;rw[aB (by omega)] at h0;obtain ⟨br,h1,_⟩:=mR 0 _ h0;exact ⟨br,h1⟩
     ·obtain rfl:len=0:=by omega
      obtain ⟨un,vt⟩:=qi rfl;have h0:=vt 0 (by omega);rw[aB (by omega)] at h0;obtain ⟨br,h1,_⟩:=mR (0+0) _ h0;exact ⟨br,by simpa using h1⟩
    obtain ⟨br,h1⟩:=K3;obtain ⟨_,uz,h2⟩:=World.cells?_some h1;have h3:=h2 0 (by omega);rw[aB (by omega),gJ] at h3;have h4:(a.add 0).add 0=a.add 0:=by unfold Addr.add;simp
    rw[h4] at h3;exact Ul h3 (.inl rfl)
   have each:∀ k:Fin len,∃ v:e.den,sH e v/\∃ L:List Value,L.length=e.sz/\(∀ j u,L[j]?=some u->ce w a.block (a.off+k.val*e.sz+j)=some u/\LC w a.block (a.off+k.val*e.sz+j))/\Ro P w (LC w) e v L:=λk=>by
    have h0:=Um k.val k.isLt;rw[aB (by have:=k.isLt;omega)] at h0;obtain ⟨br,h1,h2⟩:=mR k.val _ h0;obtain ⟨v,ho,hv⟩:=(ih ha).1 _ hle _ _ _ h2;obtain ⟨_,uz,h3⟩:=World.cells?_some h1;refine ⟨v,ho,br,uz,λj u hu=>?_,hv⟩
    have hj:=(aM.1 hu).1;have h4:=h3 j (by omega);rw[hu] at h4;have n8:=Wl (by have:=k.isLt;omega);obtain ⟨b,off,sp⟩:=a;simp only at n8;subst n8;rw[pu,pu] at h4;have h5:ce w b (off+k.val*e.sz+j)=some u:=Ey h4 (Ro.one e hv u (cA hu));exact ⟨h5,wH h5⟩
   obtain ⟨f,hf⟩:=iC each;refine ⟨List.ofFn f,⟨by simp;omega,λx hx=>?_⟩,some a,cap,by simp,by simpa using hlc,(λe=>by cases e),λad e=>?_⟩
   ·obtain ⟨j,rfl⟩:=List.mem_ofFn.1 hx;exact (hf j).1
   injection e with e;subst e;refine ⟨Wl,λk y hk=>?_⟩
   rw[List.getElem?_ofFn] at hk;split at hk
   ·rename_i am;injection hk with hk;subst hk;exact (hf ⟨k,am⟩).2
   ·cases hk
 | _=>intro ha;simp[Be] at ha
theorem arg_val {T:Ty} (ha:Be T=true) {i:TypeId} (hl:be P T (.inl i)=true) {r:Reach} {b0:Nat} {v:Value} (h:Value.okWide P w r b0 i v):v=ci T v.cells.toList:=by
 cases T with
 | int k=>
  have hu:=pw hl;cases v <;> simp[Value.okWide,Cell.okWide,Cell.ok,hu] at h <;> simp[ci,isAgg,Value.cells]
 | bool=>
  have hu:P.underlying i=some .bool:=by
   simp only[be,aE] at hl;have h2:=hl.2;split at h2
   ·assumption
   ·cases h2
  cases v <;> simp[Value.okWide,Cell.okWide,Cell.ok,hu] at h <;> simp[ci,isAgg,Value.cells]
 | str=>
  have hu:=m7 hl;cases v <;> simp[Value.okWide,Cell.okWide,Cell.ok,hu] at h <;> simp[ci,isAgg,Value.cells]
 | U e=>
  obtain ⟨el,hu,_⟩:=tT hl;cases v <;> simp[Value.okWide,Cell.okWide,Cell.ok,hu] at h <;> simp[ci,isAgg,Value.cells]
 | unit=>
  simp only[be,aE] at hl;have h2:=hl.2;split at h2
  ·rename_i fs hu;simp only[Value.okWide,hu] at h;obtain ⟨cs,rfl,_⟩:=h;simp[ci,isAgg,Value.cells]
  ·cases h2
 | pair a b=>
  simp only[be,aE] at hl;have h2:=hl.2;split at h2
  ·rename_i fs hu;simp only[Value.okWide,hu] at h;obtain ⟨cs,rfl,_⟩:=h;simp[ci,isAgg,Value.cells]
  ·cases h2
 | _=>simp[Be] at ha
def AJ (P:Program):List (PM×Ty)->List TypeId->Bool
 | [],[]=>true
 | (.ro,T)::ps,t::ts=>Be T&&be P T (.inl t)&&P.readableRec t&&Nat.blt t P.types.size&&AJ P ps ts
 | _,_=>false
theorem OB:∀ (ps:List (PM×Ty)) (ts:List TypeId) (args:List Value) (ds:List (DataW H)) (p:List MemPlace) {b0:Nat},AJ P ps ts=true->DataW.TrodAll enc P w 0 (λ_=>true) true ts args ds p ->
  (∀ (j:Nat) t v,ts[j]?=some t->args[j]?=some v->Value.okWide P w .any b0 t v)->∃ v,Sl ps v/\oZ P w (LC w) K6 ps v args (λ_ _=>0)
 | [],[],args,ds,p,b0,_,h,_=>by
  cases args with
  | nil=>exact ⟨(),trivial,rfl⟩
  | cons _ _=>simp[DataW.TrodAll] at h
 | (.ro,T)::ps,t::ts,args,ds,p,b0,hl,h,bc=>by
  simp only[AJ,aE] at hl
  cases args with
  | nil=>simp[DataW.TrodAll] at h
  | cons v args=>
   cases ds with
   | nil=>simp[DataW.TrodAll] at h
   | cons d ds=>
    obtain ⟨p1,q1,⟨fuel,h1⟩,h2,_⟩:=h;obtain ⟨x,hox,hx⟩:=(Xo T hl.1.1.1.1).1 t hl.1.1.1.2 _ _ _ h1;obtain ⟨xs,abn,hxs⟩:=OB ps ts args ds q1 (b0:=b0) hl.2 h2 (λj t' v' ht hv=>bc (j+1) t' v' ht hv);exact ⟨(x,xs),⟨hox,abn⟩,v,args,λ_ _=>0,λ_ _=>0,rfl,λ_ _=>aN _,⟨_,arg_val hl.1.1.1.1 hl.1.1.1.2 (bc 0 t v rfl rfl),hx⟩,hxs⟩
theorem Jl (vv:laidOutB P=true) {W W':World} (hb:RowKit.Below W.heap.size W W') {sp:Nat->Bool}:∀ (ps:List (PM×Ty)) (ts:List TypeId) (args:List Value) (ds:List (DataW H)) (p:List MemPlace),AJ P ps ts=true->DataW.TrodAll enc P W 0 (λ_=>true) true ts args ds p ->
  (∀ x ∈ p,x.block < W.heap.size)->(∀ x ∈ p,sp x.block=true)->DataW.TrodAll enc P W' 0 sp true ts args ds p
 | [],[],args,ds,p,_,h,_,_=>by
  cases args with
  | nil=>
   cases ds with
   | nil=>exact h
   | cons _ _=>simp[DataW.TrodAll] at h
  | cons _ _=>simp[DataW.TrodAll] at h
 | (.ro,T)::ps,t::ts,args,ds,p,hl,h,am,n8=>by
  simp only[AJ,aE] at hl
  cases args with
  | nil=>simp[DataW.TrodAll] at h
  | cons v args=>
   cases ds with
   | nil=>simp[DataW.TrodAll] at h
   | cons d ds=>
    obtain ⟨p1,q1,h1,h2,rfl⟩:=h;have ht:t < P.types.size:=by have:=hl.1.2;rwa [gU] at this
    exact ⟨p1,q1,WideElems.Trod_stays vv hl.1.1.2 ht h1 (λx hx=>hb.same (am x (List.mem_append_left _ hx))) (λx hx=>n8 x (List.mem_append_left _ hx)),
     Jl vv hb ps ts args ds q1 hl.2 h2 (λx hx=>am x (List.mem_append_right _ hx)) (λx hx=>n8 x (List.mem_append_right _ hx)),rfl⟩
theorem So {f:FuncId} {cap:Bool} {ps:List (PM×Ty)} {Fn:(dn (ps.map (·.2))).den->Option (dn ([((Ty.bool,ax .bool):Ty×Md)].map (·.1)++lC ps)).den} (hs:Sound P f { cap:=cap,ps:=ps,rs:=[(.bool,ax .bool)],F:=Fn }) (PO:∀ v,Sl ps v->∃ u,Fn v=some (true,u))
  {ts:List TypeId} (hl:AJ P ps ts=true) {args:List Value} {ds:List (DataW H)} {p:List MemPlace} (hA:DataW.TrodAll enc P w 0 (λ_=>true) true ts args ds p) {b0:Nat} (bc:∀ (j:Nat) t v,ts[j]?=some t->args[j]?=some v->Value.okWide P w .any b0 t v) (ht:vG P w λ_ _=>0) :
  Calls P f args.toArray w λe W'=>e=.returned (.bool true)/\RowKit.Below w.heap.size w W':=by
 obtain ⟨v,RU,hv⟩:=OB ps ts args ds p hl hA bc;obtain ⟨u,hu⟩:=PO v RU;refine (hs w (LC w) (λ_ _=>0) v args hv (λ_ _=>aY _) (λb i h=>by omega) (λb i h=>?_) ht _ hu).mono λe W' h=>?_
 ·rcases h with h | h
  ·omega
  ·exact h
 ·obtain ⟨rv,rfl,dr,A',G,GR,GM,_,_,_,_,_,_,_,t8,_⟩:=h;obtain ⟨cs,h1,h2⟩:=t8;simp only[lD] at h1 h2;have h2:cs=[.bool true]:=h2;subst h2;exact ⟨by rw[h1];rfl,dr.os,dr.tape,dr.output,dr.size,λb hb=>dr.obj b hb λ_=>rfl⟩
theorem Un {C:Checked} {f:Func} {s:ChangeSpec} {W W':World} {args:Array Value} {ds:List (DataW H)} {p:List MemPlace} {apart fresh handsOn:Bool} (vv:laidOutB P=true) {ps:List (PM×Ty)} {ts:List TypeId} (hts:f.params.toList=ts) (hl:AJ P ps ts=true) {tb:TypeId} (hr:f.resultTypes=#[tb]) (hu:P.underlying tb=some .bool)
  (aae:s.vars=[]) (hW:DataW.Whole enc P f.params.toList s.vars apart W args.toList ds [] p) (hA:DataW.TrodAll enc P W 0 (λ_=>true) true ts args.toList ds p) (Sp:s.fn H (ds++[])={ results:=[.lit (.bool true)],args:=ds }) (hb:RowKit.Below W.heap.size W W') :
  s.post enc P f apart fresh handsOn false W args (.bool true) W':=by
 have am:∀ x ∈ p,x.block < W.heap.size:=λx hx=>by simpa using hW.lt x hx
 refine ⟨ds,[],p,[],p,[],hW,?_,?_,?_,World.keptBut_mono (λx hx=>⟨hx,.inr (.inl hx)⟩) (hb.frame (· ∈ p)),λe=>by cases e⟩
 ·rw[Sp,hr];exact ⟨[],[],RowKit.shut_bool hu true,rfl,rfl⟩
 ·rw[Sp,hts];exact Jl vv hb ps ts args.toList ds p hl hA am (λx hx=>by simpa using am x hx)
 ·rw[Sp,aae];rfl
end
end OT
namespace OT
open Go
def PP (P:Program) (l:List (Nat×Ty)):Bool:=l.all λp=>be P p.2 (.inl p.1)
def Ka (P:Program) (l:List (Nat×Ty)):Bool:=l.all λp=>!(p.2.n9&&isAgg p.2)||(qM P p.2 (.inl p.1)&&(P.eqGuardType P.depth p.1 == false)&&Nat.ble (dep p.2) 10000)
theorem FT {α:Type}:∀ {l:List (Nat×α)} {i:Nat} {x:α},m9 l i=some x->(i,x) ∈ l
 | (k,y)::l,i,x,h=>by
  simp only[m9] at h;split at h
  ·rename_i hk;injection h with h;rw[cL hk,h];exact bG
  ·exact aW _ (FT h)
def DS (P:Program) (l:List (Nat×sQ)):Prop:=∀ f g,m9 l f=some g->Sound P f g/\tU P f g.cap
theorem aj (P:Program):DS P []:=λf g h=>by cases h
theorem Xq {P:Program} {f:Nat} {g:sQ} {l:List (Nat×sQ)} (h1:Sound P f g) (h2:tU P f g.cap) (h3:DS P l):DS P ((f,g)::l):=λf' g' h=>by
 simp only[m9] at h;split at h
 ·rename_i hk;injection h with h;subst h;rw[<-cL hk];exact ⟨h1,h2⟩
 ·exact h3 f' g' h
theorem YQ {P:Program} {E:Env} {tl:List (Nat×Ty)} {gl:List (Nat×sQ)} (h1:E.TI=m9 tl) (h2:E.G=m9 gl) (h3:PP P tl=true) (h4:Ka P tl=true) (h5:DS P gl):sq P E where
 ti i T h:=by rw[h1] at h;exact cB.1 h3 _ (FT h)
 eq i T h hq ha:=by
  rw[h1] at h;have:=cB.1 h4 _ (FT h);simp only[hq,ha,gA,aQ,dY,aE,jQ,dU] at this;exact ⟨this.1.1,this.1.2,this.2⟩
 fn f g h:=by rw[h2] at h;exact h5 f g h
def Ok (P:Program) (f:FuncId) (g:sQ):Prop:=Sound P f g/\tU P f g.cap
theorem fc {P:Program} {f:Nat} {g:sQ} {l:List (Nat×sQ)} (h:Ok P f g) (h3:DS P l):DS P ((f,g)::l):=Xq h.1 h.2 h3
def LD (fn:Func) (cap:Bool):Bool:=!(fn.name == "runtime.NumGoroutine")&&!fn.body.isNone&&Nat.beq fn.nfree (match cap with | true=>1 | false=>0)
noncomputable def okB (P:Program) (E:Env) (fn:Func) (ps:PQ) (rs:RQ) (es:List Nat) (cap:Bool) (tl:TL):Bool:=(PP P tl&&Ka P tl)&&(LD fn cap&&J_ P E fn ps rs es)
theorem aaf {P:Program} {E:Env} {f:FuncId} {fn:Func} (hf:P.funcs[f]?=some fn) {g:sQ} (hh:∀ v H,g.CZ v H=true->H=[]) {es fr:List Nat} {tl:TL} {gl:GL} (h1:E.TI=m9 tl) (h2:E.G=m9 gl) (bc:okB P E fn g.ps g.rs es g.cap tl=true) (hg:DS P gl) (hF:∀ v,g.F v=lift λk=>J3 E k fn g.ps g.rs es fr v):Ok P f g:=by
 simp only[okB,LD,aE,cM,eJ] at bc;obtain ⟨⟨a1,a2⟩,⟨⟨b1,b2⟩,b3⟩,c⟩:=bc
 have hb:fn.body.isSome=true:=by
  cases h:fn.body with
  | none=>rw[h] at b2;cases b2
  | some _=>rfl
 exact ⟨JV (YQ h1 h2 a1 a2 hg) hf hb hh c λv out h=>Rg (by rw[<-hF];exact h),fn,hf,b1,b2,b3⟩
structure FD where
 fn:Func
 tl:TL
 ps:PQ
 rs:RQ
 gl:GL:=[]
 es:List Nat:=[]
 fr:List Nat:=[]
 cap:Bool:=false
 fz:List (Nat×Nat×Nat):=[]
 lv:List (Nat×List Nat):=[]
 lx:List (Nat×List Nat):=[]
 lf:List (Nat×List (Nat×Md)):=[]
 od:List (Nat×List Nat):=[]
 ar:List (Nat×List Nat):=[]
 bx:List (Nat×List Nat):=[]
 pd:List (Nat×List Nat):=[]
 er:List (Nat×List (Nat×Nat)):=[]
noncomputable def FD.E (D:FD):Env:={ TI:=m9 D.tl,G:=m9 D.gl,fz:=D.fz,lv:=D.lv,lx:=D.lx,lf:=D.lf,od:=D.od,ar:=D.ar,bx:=D.bx,pd:=D.pd,er:=D.er }
noncomputable def FD.W (D:FD) (k:Nat) (a:(dn (D.ps.map (·.2))).den):Option (dn (D.rs.map (·.1)++lC D.ps)).den:=J3 D.E k D.fn D.ps D.rs D.es D.fr a
noncomputable def FD.F (D:FD) (a:(dn (D.ps.map (·.2))).den):Option (dn (D.rs.map (·.1)++lC D.ps)).den:=lift λk=>D.W k a
noncomputable def FD.sig (D:FD):sQ:={ cap:=D.cap,ps:=D.ps,rs:=D.rs,F:=D.F }
noncomputable def FD.fin (D:FD):St->Option (dn (D.rs.map (·.1)++lC D.ps)).den:=Kx D.ps D.rs D.es D.fn.results.toList (VF D.fr)
noncomputable def FD.K0 (D:FD):KT (dn (D.rs.map (·.1)++lC D.ps)).den:=XU D.fin
noncomputable def FD.N (D:FD) (k:Nat) (p:List Nat):St->KT (dn (D.rs.map (·.1)++lC D.ps)).den->Option (dn (D.rs.map (·.1)++lC D.ps)).den:=ua D.E k D.fin (sub p (Dp D.fn))
noncomputable def FD.L (D:FD) (k:Nat) (p live:List Nat) (zy:List (Nat×Md)) (K:KT (dn (D.rs.map (·.1)++lC D.ps)).den) (σ:St):Option (dn (D.rs.map (·.1)++lC D.ps)).den:=BR (D.N k p) (ff live zy) K k σ
theorem au {P:Program} {D:FD} {f:FuncId} (hf:P.funcs[f]?=some D.fn) (ht:(PP P D.tl&&Ka P D.tl)=true) (bc:(LD D.fn D.cap&&J_ P D.E D.fn D.ps D.rs D.es)=true) (hg:DS P D.gl):Ok P f D.sig:=
 aaf (hh:=λ_ _ h=>bN.1 h) (es:=D.es) (fr:=D.fr) (tl:=D.tl) (gl:=D.gl) (E:=D.E) hf rfl rfl (by rw[okB,ht,eX];exact bc) hg λ_=>rfl
end OT
namespace OT
open Go
theorem bf {n:Int} (h:-9223372036854775808<=n/\n<=9223372036854775807):af n=n:=by
 unfold af;rw[IntKind.wrap_i64];omega
theorem aq:maxLen=9223372036854775807:=by simp[maxLen]
theorem uU {V R:Type} {B:(V->Option R)->V->Option R} (f:V->R) (I:V->Prop) (μ:V->Nat)
  (h:∀ v,I v->∀ self,B self v=some (f v)\/∃ v',B self v=self v'/\f v'=f v/\I v'/\μ v' < μ v):∀ (k:Nat) (v:V),I v->μ v < k->ak B k v=some (f v)
 | 0,v,_,hk=>by omega
 | k+1,v,hI,hk=>by
  show B (ak B k) v=some (f v)
  rcases h v hI (ak B k) with h1 | ⟨v',h1,h2,h3,h4⟩
  ·exact h1
  ·rw[h1,uU f I μ h k v' h3 (by omega),h2]
def z8 {α:Type} (e:α->α->Bool) (xs ys:List α):Bool:=(xs.zip ys).all λp=>e p.1 p.2
theorem Sq {α:Type} (e:α->α->Bool) (xs ys:List α) (i:Nat) (hx:i < xs.length) (hy:i < ys.length):z8 e (xs.drop i) (ys.drop i)=(e xs[i] ys[i]&&z8 e (xs.drop (i+1)) (ys.drop (i+1))):=by
 unfold z8;rw[cZ hx,cZ hy];simp only[iA,eH]
theorem FU {α:Type} {B:(Int->Option (Bool×Unit))->Int->Option (Bool×Unit)} {xs ys:List α} (e:α->α->Bool) (hlen:xs.length=ys.length) (sI:xs.length<=maxLen)
  (gg:∀ (i:Nat) (hx:i < xs.length) (hy:i < ys.length) self,B self (i:Int)=if e xs[i] ys[i]=true then self (af ((i:Int)+1)) else some (false,()))
  (kf:∀ self,B self (xs.length:Int)=some (true,())):∀ k,xs.length < k->ak B k 0=some (z8 e xs ys,()):=by
 intro k hk
 have h:=uU (B:=B) (λv=>(z8 e (xs.drop v.toNat) (ys.drop v.toNat),())) (λv=>0<=v/\v<=(xs.length:Int)) (λv=>xs.length - v.toNat) (λv hv self=>by
  obtain ⟨h0,h1⟩:=hv;obtain ⟨i,rfl⟩:=dM h0;simp only[aH];by_cases hi:i < xs.length
  ·have hy:i < ys.length:=by omega
   rw[Sq e xs ys i hi hy,gg i hi hy]
   cases he:e xs[i] ys[i] with
   | true=>
    right;have hw:af ((i:Int)+1)=((i+1:Nat):Int):=by rw[bf (by rw[aq] at sI;omega)];omega
    refine ⟨_,by rw[hw];rfl,by simp,by omega,?_⟩
    simp only[aH];omega
   | false=>left;simp
  ·have lg:i=xs.length:=by omega
   subst lg;left;rw[kf]
   simp[z8]) k 0 ⟨by omega,by omega⟩ (by simpa using hk)
 simpa using h
theorem Sr {α:Type} {B:((List α×Int)->Option (List α×Unit))->(List α×Int)->Option (List α×Unit)} {xs:List α} (sI:xs.length<=maxLen)
  (gg:∀ (i:Nat) (hx:i < xs.length) (acc:List α) self,acc.length=xs.length->B self (acc,(i:Int))=self (acc.set i xs[i],af ((i:Int)+1)))
  (kf:∀ acc self,B self (acc,(xs.length:Int))=some (acc,())) (z:α):∀ k,xs.length < k->ak B k (List.replicate xs.length z,0)=some (xs,()):=by
 intro k hk;refine uU (B:=B) (λ_=>(xs,())) (λv=>0<=v.2/\v.2<=(xs.length:Int)/\v.1.length=xs.length/\∀ j,j < v.2.toNat->v.1[j]?=xs[j]?) (λv=>xs.length - v.2.toNat) (λv hv self=>?_) k _ ⟨by simp,by simp,by simp,by simp⟩ (by simpa using hk);obtain ⟨acc,i⟩:=v;obtain ⟨h0,h1,h2,h3⟩:=hv;simp only at h0 h1 h2 h3;obtain ⟨i,rfl⟩:=dM h0;simp only[aH] at h3 ⊢;by_cases hi:i < xs.length
 ·right;have hw:af ((i:Int)+1)=((i+1:Nat):Int):=by rw[bf (by rw[aq] at sI;omega)];omega
  refine ⟨(acc.set i xs[i],((i+1:Nat):Int)),by rw[gg i hi acc self h2,hw],trivial,⟨by omega,by simp only;omega,by simpa using h2,λj hj=>?_⟩,?_⟩
  ·simp only[aH] at hj;by_cases mZ:j=i
   ·subst mZ;simp[h2,hi]
   ·simp only[fL];rw[bB (λe=>mZ e.symm)];exact h3 j (by omega)
  ·simp only[aH];omega
 ·have lg:i=xs.length:=by omega
  subst lg;left;rw[kf]
  have:acc=xs:=fS λj=>by
   by_cases hj:j < xs.length
   ·exact h3 j hj
   ·rw[cW (by omega),cW (by omega)]
  rw[this]
end OT
namespace OT
open Go
theorem uD {V R:Type} (B:(V->Option R)->V->Option R) (k:Nat) (v:V):ak B (k+1) v=B (ak B k) v:=rfl
def mz {α:Type} (f:α->Nat):List α->Nat
 | []=>0
 | x::xs=>f x+mz f xs
theorem LE {α:Type} (f:α->Nat):∀ (xs:List α) (x:α),x ∈ xs->f x<=mz f xs
 | y::xs,x,h=>by
  simp only[mz];rcases aX.1 h with rfl | h
  ·omega
  ·have:=LE f xs x h;omega
 | [],_,h=>by cases h
theorem DT {α:Type} (f:α->Nat) (h:∀ x,f x=0):∀ (xs:List α),mz f xs=0
 | []=>rfl
 | x::xs=>by simp[mz,h x,DT f h xs]
theorem OC {α:Type} (f:α->Nat):∀ (xs:List α),mz (λx=>32*(f x+1)) xs=32*(xs.length+mz f xs)
 | []=>rfl
 | x::xs=>by simp only[mz,OC f xs,aO];omega
def zz:(t:Ty)->t.den->Nat
 | .str,v=>List.length v
 | .pair a b,v=>zz a v.1+zz b v.2
 | .U e,v=>List.length v+mz (zz e) v
 | _,_=>0
theorem Hc {e:Ty} {xs:List e.den} {x:e.den} (h:x ∈ xs):zz e x+1<=zz (.U e) xs:=by
 have:=LE (zz e) xs x h;have:1<=xs.length:=List.length_pos_of_mem h;show _<=List.length xs+_;omega
theorem vz {e:Ty} (xs:List e.den):xs.length<=zz (.U e) xs:=Nat.le_add_right _ _
theorem EG {e:Ty} (x:e.den) (xs:List e.den):zz (.U e) (x::xs)=zz e x+1+zz (.U e) xs:=by
 show (List.length xs+1)+(zz e x+mz (zz e) xs)=zz e x+1+(List.length xs+mz (zz e) xs)
 omega
def il (n:Int) (z:Nat):Int:=if (z:Int)<=n then n - z else -1
theorem Xr {α:Type} {B:((Int×Int)->Option (Int×Unit))->(Int×Int)->Option (Int×Unit)} {xs:List α} (sI:xs.length<=maxLen) (z:α->Nat)
  (gg:∀ (i:Nat) (hx:i < xs.length) (n:Int) self,0<=n->n<=1048576->B self (n,(i:Int))=if il n (z xs[i]) < 0 then some (-1,()) else self (il n (z xs[i]),af ((i:Int)+1)))
  (kf:∀ n self,B self (n,(xs.length:Int))=some (n,())) (n:Int) (h0:0<=n) (h1:n<=1048576) :
  ∀ k,xs.length < k->ak B k (n,0)=some (il n (mz z xs),()):=by
 have main:∀ (m i:Nat) (n:Int),xs.length - i=m->i<=xs.length->0<=n->n<=1048576->∀ k,m < k->ak B k (n,(i:Int))=some (il n (mz z (xs.drop i)),()):=by
  intro m
  induction m with
  | zero=>
   intro i n hm hi h0 h1 k hk;have lg:i=xs.length:=by omega
   subst lg
   cases k with
   | zero=>omega
   | succ k=>
    have:ak B (k+1) (n,(xs.length:Int))=some (n,()):=kf n _;rw[this];simp[il,mz,h0]
  | succ m ih=>
   intro i n hm hi h0 h1 k hk;have am:i < xs.length:=by omega
   rw[cZ am];simp only[mz]
   cases k with
   | zero=>omega
   | succ k=>
    show B (ak B k) _=_;rw[gg i am n _ h0 h1];by_cases hz:(z xs[i]:Int)<=n
    ·have e:il n (z xs[i])=n - (z xs[i]:Int):=aV hz;have abo:¬ (n - (z xs[i]:Int) < 0):=by omega
     have hw:af ((i:Int)+1)=((i+1:Nat):Int):=by rw[bf (by rw[aq] at sI;omega)];omega
     rw[e,bB abo,hw,ih (i+1) _ (by omega) (by omega) (by omega) (by omega) k (by omega)];unfold il;by_cases hc:((mz z (xs.drop (i+1)):Nat):Int)<=n - (z xs[i]:Int)
     ·rw[aV hc,aV (by omega)];have:n - (z xs[i]:Int) - (mz z (xs.drop (i+1)):Nat)=n - ((z xs[i]+mz z (xs.drop (i+1)):Nat):Int):=by omega
      rw[this]
     ·rw[bB hc,bB (by omega)]
    ·have e:il n (z xs[i])=-1:=bB hz;rw[e,aV (by omega)];unfold il;rw[bB (by omega)]
 intro k hk
 simpa using main xs.length 0 n (by omega) (by omega) h0 h1 k hk
theorem Xs {n:Int} {a b:Nat} (h:(a:Int)<=n):il (n - a) b=il n (a+b):=by
 unfold il;by_cases hc:(b:Int)<=n - a
 ·rw[aV hc,aV (by omega)];omega
 ·rw[bB hc,bB (by omega)]
theorem ng {α:Type} (xs:List α) (i:Nat) (a:α) (h:i < xs.length):(xs.set i a)[i]?=some a:=by simp[h]
def mL:Int:=4611686018427387904
def chain {α:Type} (E:α->Int->α->Int->Prop) (W:α->Nat):List α->Int->List α->Int->Prop
 | [],k,ys,k'=>ys=[]/\k'=k
 | x::xs,k,ys,k'=>∃ y Jm k1,ys=y::Jm/\0<=k/\k+W x<=mL/\k<=k1/\k1<=k+W x/\E x k y k1/\chain E W xs k1 Jm k'
theorem Ss {α:Type} {B:((List α×Int×Int)->Option (Int×List α×Unit))->(List α×Int×Int)->Option (Int×List α×Unit)} {xs:List α} (sI:xs.length<=maxLen) (E:α->Int->α->Int->Prop) (W:α->Nat)
  (hE:∀ x ∈ xs,∀ k:Int,0<=k->k+W x<=mL->∃ y k',k<=k'/\k'<=k+W x/\E x k y k')
  (gg:∀ (i:Nat) (acc:List α) (k:Int) self (x y:α) (k':Int),i < acc.length->acc[i]?=some x->0<=k->k+W x<=mL->k<=k'->k'<=k+W x->E x k y k'->B self (acc,k,(i:Int))=self (acc.set i y,k',af ((i:Int)+1)))
  (kf:∀ (acc:List α) (k:Int) self,B self (acc,k,(acc.length:Int))=some (k,acc,())) (k:Int) (h0:0<=k) (h1:k+mz W xs<=mL) :
  ∃ ys k',k<=k'/\k'<=k+mz W xs/\ys.length=xs.length/\chain E W xs k ys k'/\∀ f,xs.length < f->ak B f (xs,k,0)=some (k',ys,()):=by
 have main:∀ (rest pre:List α) (k:Int),(pre++rest).length<=maxLen->(∀ x ∈ rest,x ∈ xs)->0<=k->k+mz W rest<=mL ->
   ∃ ys k',k<=k'/\k'<=k+mz W rest/\ys.length=rest.length/\chain E W rest k ys k'/\∀ f,rest.length < f->ak B f (pre++rest,k,(pre.length:Int))=some (k',pre++ys,()):=by
  intro rest
  induction rest with
  | nil=>
   intro pre k hm _ h0 h1;refine ⟨[],k,fW _,by simp[mz],rfl,⟨rfl,rfl⟩,λf hf=>?_⟩
   cases f with
   | zero=>simp at hf
   | succ f=>
    simp only[cD];exact kf pre k _
  | cons x rest ih=>
   intro pre k hm hx h0 h1;simp only[mz] at h1;obtain ⟨y,k1,g1,g2,g3⟩:=hE x (hx x bG) k h0 (by omega);obtain ⟨ys,k',i1,i2,i3,i4,i5⟩:=ih (pre++[y]) k1 (by simpa using hm) (λz hz=>hx z (aW _ hz)) (by omega) (by omega);refine ⟨y::ys,k',by omega,by simp only[mz];omega,by simp[i3],⟨y,ys,k1,rfl,h0,by omega,g1,g2,g3,i4⟩,λf hf=>?_⟩
   cases f with
   | zero=>omega
   | succ f=>
    show B (ak B f) _=_;have hlen:pre.length < (pre++x::rest).length:=by simp
    rw[gg pre.length (pre++x::rest) k _ x y k1 hlen (by simp) h0 (by omega) g1 g2 g3]
    have hw:af ((pre.length:Int)+1)=(((pre++[y]).length:Nat):Int):=by
     have:pre.length+1<=maxLen:=by have:=hm;simp at this;omega
     rw[aq] at this;rw[bf (by omega)];simp
    have hs:(pre++x::rest).set pre.length y=(pre++[y])++rest:=by simp
    rw[hw,hs,i5 f (by simp only[aO] at hf;omega)];simp
 obtain ⟨ys,k',i1,i2,i3,i4,i5⟩:=main xs [] k (by simpa using sI) (λx h=>h) h0 h1;exact ⟨ys,k',i1,i2,i3,i4,λf hf=>by simpa using i5 f hf⟩
theorem Su {α:Type} {ys:List α} {B:((Int×Int)->Option (Int×Unit))->(Int×Int)->Option (Int×Unit)} {xs:List α} {k k':Int} (sI:ys.length<=maxLen) {E:α->Int->α->Int->Prop} {W:α->Nat} (hc:chain E W xs k ys k')
  (gg:∀ (i:Nat) (k:Int) self (x y:α) (k':Int),i < ys.length->ys[i]?=some y->0<=k->k+W x<=mL->k<=k'->k'<=k+W x->E x k y k'->B self (k,(i:Int))=self (k',af ((i:Int)+1)))
  (kf:∀ (k:Int) self,B self (k,(ys.length:Int))=some (k,())):∀ f,ys.length < f->ak B f (k,0)=some (k',()):=by
 have main:∀ (xs Jm pre:List α) (k:Int),pre++Jm=ys->chain E W xs k Jm k'->∀ f,Jm.length < f->ak B f (k,(pre.length:Int))=some (k',()):=by
  intro xs
  induction xs with
  | nil=>
   intro Jm pre k hp hc f hf;obtain ⟨rfl,rfl⟩:=hc
   cases f with
   | zero=>simp at hf
   | succ f=>
    have:=kf k' (ak B f);have e:pre=ys:=by simpa using hp
    subst e;exact this
  | cons x xs ih=>
   intro Jm pre k hp hc f hf;obtain ⟨y,ys2,k1,rfl,c1,c2,c3,c4,c5,c6⟩:=hc
   cases f with
   | zero=>omega
   | succ f=>
    show B (ak B f) _=_;have hl:pre.length < ys.length:=by rw[<-hp];simp
    rw[gg pre.length k _ x y k1 hl (by rw[<-hp];simp) c1 c2 c3 c4 c5]
    have hw:af ((pre.length:Int)+1)=(((pre++[y]).length:Nat):Int):=by
     have:pre.length+1<=maxLen:=by omega
     rw[aq] at this;rw[bf (by omega)];simp
    rw[hw];exact ih ys2 (pre++[y]) k1 (by rw[<-hp];simp) c6 f (by simp only[aO] at hf;omega)
 intro f hf
 simpa using main xs ys [] k rfl hc f hf
end OT
namespace OT
open Go
theorem OD {e:Ty} {W:List e.den->Nat->Option (List e.den×Unit)} {z:e.den} {f:e.den->Option (e.den×Unit)}
  (hW:∀ x k,W x k=if 0<=(x.length:Int)/\(x.length:Int)<=(x.length:Int)/\(x.length:Int)<=(cc:Int) then (ak (λ(self:(List e.den×Int)->Option (List e.den×Unit)) v=>bif decide (v.2 < (x.length:Int)) then (if 0<=v.2 then ((x[v.2.toNat]?).bind λa=>(f a).bind λr=>if 0<=v.2/\v.2 < (v.1.length:Int) then ((v.1[v.2.toNat]?).bind λ_=>self (v.1.set v.2.toNat r.1,af (v.2+(1:Int)))) else none) else none) else some (v.1,())) k (List.replicate (x.length:Int).toNat z,(0:Int))) else none)
  (hf:∀ a,zz e a<=1048576->f a=some (a,())) (x:List e.den) (h:zz (.U e) x<=1048576):lift (W x)=some (x,()):=by
 have hl:x.length<=1048576:=bO (vz (e:=e) x) h;refine ah (k:=x.length+1) λk hk=>(hW x k).trans ?_;have hc:0<=(x.length:Int)/\(x.length:Int)<=(x.length:Int)/\(x.length:Int)<=(cc:Int):=by simp only[cc];omega
 simp only[hc,cQ,aI,aH];refine Sr (xs:=x) (by rw[aq];omega) (λi hi acc self ha=>?_) (λacc self=>?_) _ k (by omega)
 ·have am:(i:Int) < (x.length:Int):=by omega
  have Bf:(i:Int) < (acc.length:Int):=by omega
  simp only[am,Bf,aD,aJ,aK,cQ,aI,aH,aB hi,aB (show i < acc.length by omega),aA,hf x[i] (by have:=Hc (e:=e) (aS hi);omega)]
 ·simp
theorem Jn {e:Ty} {W:List e.den->Nat->Option (Bool×Unit)} {f:e.den->e.den->Option (Bool×Unit)}
  (hW:∀ x k,W x k=bif !decide ((x.length:Int)=(x.length:Int)) then some (false,()) else ak (λ(self:Int->Option (Bool×Unit)) v=>bif decide (v < (x.length:Int)) then (if 0<=v then ((x[v.toNat]?).bind λa=>if 0<=v then ((x[v.toNat]?).bind λb=>(f a b).bind λr=>bif !r.1 then some (false,()) else self (af (v+(1:Int)))) else none) else none) else some (true,())) k (0:Int))
  (hf:∀ a,zz e a<=4611686018427387904->f a a=some (true,())) (x:List e.den) (h:zz (.U e) x<=4611686018427387904):lift (W x)=some (true,()):=by
 have hl:x.length<=4611686018427387904:=bO (vz (e:=e) x) h;refine ah (k:=x.length+1) λk hk=>(hW x k).trans ?_;simp only[aD,aQ,aG];have:=λB h1 h2=>FU (B:=B) (xs:=x) (ys:=x) (λ_ _=>true) rfl (by rw[aq];omega) h1 h2 k (by omega);rw[show z8 (λ_ _=>true) x x=true by simp[z8]] at this;refine this _ (λi hi hj self=>?_) (λself=>?_)
 ·have am:(i:Int) < (x.length:Int):=by omega
  simp only[am,aD,aJ,aK,aI,aH,aB hi,aA,aQ,aG,hf x[i] (by have:=Hc (e:=e) (aS hi);omega)]
 ·simp
theorem YR {e:Ty} {W:List e.den->Int->Nat->Option (Int×Unit)} {f:e.den->Int->Option (Int×Unit)}
  (hW:∀ x n k,W x n k=bif decide (af (n - (x.length:Int)) < (0:Int)) then some ((-1:Int),()) else ak (λ(self:Int×Int->Option (Int×Unit)) v=>bif decide (v.2 < (x.length:Int)) then (if 0<=v.2 then ((x[v.2.toNat]?).bind λa=>(f a v.1).bind λr=>bif decide (r.1 < (0:Int)) then some ((-1:Int),()) else self (r.1,af (v.2+(1:Int)))) else none) else some (v.1,())) k (af (n - (x.length:Int)),(0:Int)))
  (hf:∀ a n,sH e a->0<=n->n<=1048576->f a n=some (il n (zz e a),())) (x:List e.den) (n:Int) (hx:sH (.U e) x) (h0:0<=n) (h1:n<=1048576):lift (W x n)=some (il n (zz (.U e) x),()):=by
 obtain ⟨hl,pH⟩:=hx;have wj:=hl;rw[aq] at wj;have hw:af (n - (List.length x:Int))=n - (List.length x:Int):=bf (by omega);have hz:zz (.U e) x=List.length x+mz (zz e) x:=rfl;by_cases hc:n - (List.length x:Int) < 0
 ·rw[show il n (zz (.U e) x)=-1 from bB (by omega)];refine ah (k:=0) λk _=>(hW x n k).trans ?_;simp only[hw,hc,aD,aJ]
 ·rw[show il n (zz (.U e) x)=il (n - (List.length x:Int)) (mz (zz e) x) by rw[hz,Xs (by omega)]];refine ah (k:=List.length x+1) λk hk=>(hW x n k).trans ?_;simp only[hw,hc,aC,aG];refine Xr (xs:=x) hl (zz e) (λi hi m self YS Ar=>?_) (λm self=>?_) _ (by omega) (by omega) k (by omega)
  ·have am:(i:Int) < (List.length x:Int):=by omega
   simp only[am,aD,aJ,aK,aI,aH,aB hi,aA,hf x[i] m (pH _ (aS hi)) YS Ar];by_cases hs:il m (zz e x[i]) < 0 <;> simp[hs]
  ·simp
theorem Uo {e:Ty} {W:List e.den->Int->Nat->Option (Int×Unit)} (hz:∀ a:e.den,zz e a=0)
  (hW:∀ x n k,W x n k=bif decide (af (n - (x.length:Int)) < (0:Int)) then some ((-1:Int),()) else some (af (n - (x.length:Int)),())) (x:List e.den) (n:Int) (hx:sH (.U e) x) (h0:0<=n) (h1:n<=1048576):lift (W x n)=some (il n (zz (.U e) x),()):=by
 obtain ⟨hl,pH⟩:=hx;have wj:=hl;rw[aq] at wj;have hw:af (n - (List.length x:Int))=n - (List.length x:Int):=bf (by omega);have hz:zz (.U e) x=List.length x:=by show List.length x+mz _ _=_;rw[DT _ hz x];rfl
 refine ah (k:=0) λk _=>(hW x n k).trans ?_;simp only[hw,hz];by_cases hc:(List.length x:Int)<=n
 ·have e1:il n (List.length x)=n - (List.length x:Int):=aV hc;have n1:¬ (n - (List.length x:Int) < 0):=by omega
  simp[e1,n1]
 ·have e1:il n (List.length x)=-1:=bB hc;have n1:n - (List.length x:Int) < 0:=by omega
  simp[e1,n1]
theorem mkC {α:Type} (z:α->Nat) {W:List α->Int->Nat->Option (Int×List α×Unit)} (E:α->Int->α->Int->Prop) {S:(List α×Int×Int->Option (Int×List α×Unit))->List α×Int×Int->Option (Int×List α×Unit)}
  (hW:∀ x k f,W x k f=ak (λself v=>bif decide (v.2.2 < (v.1.length:Int)) then S self v else some (v.2.1,v.1,())) f (x,k,(0:Int)))
  (hE:∀ (x:α) (k:Int),0<=k->k+32*(((z x:Nat):Int)+1)<=mL->∃ y k',k<=k'/\k'<=k+32*(((z x:Nat):Int)+1)/\E x k y k')
  (gg:∀ (i:Nat) (acc:List α) (k:Int) self (x y:α) (k':Int),i < acc.length->acc[i]?=some x->0<=k->k+32*(((z x:Nat):Int)+1)<=mL->k<=k'->k'<=k+32*(((z x:Nat):Int)+1)->E x k y k'->(i:Int) < (acc.length:Int)->S self (acc,k,(i:Int))=self (acc.set i y,k',af ((i:Int)+1)))
  (x:List α) (k:Int) (h0:0<=k) (h1:k+32*((x.length+mz z x:Nat):Int)<=mL):∃ (k':Int) (y:List α),lift (W x k)=some (k',y,())/\y.length<=4611686018427387904/\chain E (λx=>32*(z x+1)) x k y k'/\k<=k'/\k'<=k+32*((x.length+mz z x:Nat):Int):=by
 have hB:mL=4611686018427387904:=rfl;have hs:mz (λx:α=>32*(z x+1)) x=32*(x.length+mz z x):=OC z x
 obtain ⟨ys,k',g1,g2,g3,g4,g5⟩:=Ss (B:=λself v=>bif decide (v.2.2 < (v.1.length:Int)) then S self v else some (v.2.1,v.1,())) (xs:=x) (by rw[aq];omega) E (λx:α=>32*(z x+1)) (λx hx k h0 h1=>by
   obtain ⟨y,k',a,b,c⟩:=hE x k h0 (by omega)
   exact ⟨y,k',a,by omega,c⟩) (λi acc k self x y k' hi hx h0 h1 h2 h3 hE=>by
   have am:(i:Int) < (acc.length:Int):=by omega
   simp only[am,aD,aJ]
   exact gg i acc k self x y k' hi hx h0 (by omega) h2 (by omega) hE am) (λacc k self=>by simp) k h0 (by rw[hs];omega)
 exact ⟨k',ys,ah (k:=x.length+1) λf hf=>(hW x k f).trans (g5 f (by omega)),by omega,g4,g1,by rw[hs] at g2;omega⟩
theorem OE {α:Type} (z:α->Nat) {W:List α->Int->Nat->Option (Int×List α×Unit)} (E:α->Int->α->Int->Prop) {S:(List α×Int×Int->Option (Int×List α×Unit))->List α×Int×Int->Option (Int×List α×Unit)}
  (hW:∀ x k f,W x k f=ak (λself v=>bif decide (v.2.2 < (v.1.length:Int)) then S self v else some (v.2.1,v.1,())) f (x,k,(0:Int)))
  (hE:∀ (x:α) (k:Int),0<=k->k+32*(((z x:Nat):Int)+1)<=mL->∃ y k',k<=k'/\k'<=k+32*(((z x:Nat):Int)+1)/\E x k y k')
  (gg:∀ (i:Nat) (acc:List α) (k:Int) self (x y:α) (k':Int),i < acc.length->acc[i]?=some x->0<=k->k+32*(((z x:Nat):Int)+1)<=mL->k<=k'->k'<=k+32*(((z x:Nat):Int)+1)->E x k y k'->(i:Int) < (acc.length:Int)->S self (acc,k,(i:Int))=self (acc.set i y,k',af ((i:Int)+1)))
  (x:List α) (k:Int) (h0:0<=k) (h1:k+32*((x.length+mz z x:Nat):Int)<=mL):∃ (k':Int) (y:List α),lift (W x k)=some (k',y,())/\k<=k'/\k'<=k+32*((x.length+mz z x:Nat):Int):=by
 obtain ⟨k',y,a,b,c,d⟩:=mkC z E hW hE gg x k h0 h1;exact ⟨k',y,a,d⟩
theorem Sv {α:Type} (z:α->Nat) {W:List α->Int->Nat->Option (Int×List α×Unit)} {W2:List α->Int->Nat->Option (Int×Unit)} (E:α->Int->α->Int->Prop) {S:(List α×Int×Int->Option (Int×List α×Unit))->List α×Int×Int->Option (Int×List α×Unit)} {S2:List α->Int->(Int×Int->Option (Int×Unit))->Int×Int->Option (Int×Unit)}
  (hW:∀ x k f,W x k f=ak (λself v=>bif decide (v.2.2 < (v.1.length:Int)) then S self v else some (v.2.1,v.1,())) f (x,k,(0:Int)))
  (hW2:∀ y k f,W2 y k f=ak (λself v=>bif decide (v.2 < (y.length:Int)) then S2 y k self v else some (v.1,())) f (k,(0:Int)))
  (hE:∀ (x:α) (k:Int),0<=k->k+32*(((z x:Nat):Int)+1)<=mL->∃ y k',k<=k'/\k'<=k+32*(((z x:Nat):Int)+1)/\E x k y k')
  (gg:∀ (i:Nat) (acc:List α) (k:Int) self (x y:α) (k':Int),i < acc.length->acc[i]?=some x->0<=k->k+32*(((z x:Nat):Int)+1)<=mL->k<=k'->k'<=k+32*(((z x:Nat):Int)+1)->E x k y k'->(i:Int) < (acc.length:Int)->S self (acc,k,(i:Int))=self (acc.set i y,k',af ((i:Int)+1)))
  (KI:∀ (k0:Int) (i:Nat) (ys:List α) (k:Int) self (x y:α) (k':Int),i < ys.length->ys[i]?=some y->0<=k->k+32*(((z x:Nat):Int)+1)<=mL->k<=k'->k'<=k+32*(((z x:Nat):Int)+1)->E x k y k'->(i:Int) < (ys.length:Int)->S2 ys k0 self (k,(i:Int))=self (k',af ((i:Int)+1)))
  (x:List α) (k:Int) (h0:0<=k) (h1:k+32*((x.length+mz z x:Nat):Int)<=mL):∃ (k':Int) (y:List α),lift (W x k)=some (k',y,())/\lift (W2 y k)=some (k',())/\k<=k'/\k'<=k+32*((x.length+mz z x:Nat):Int):=by
 obtain ⟨k',y,a,b,c,d⟩:=mkC z E hW hE gg x k h0 h1;refine ⟨k',y,a,ah (k:=y.length+1) λf hf=>(hW2 y k f).trans ?_,d⟩
 exact Su (B:=λself v=>bif decide (v.2 < (y.length:Int)) then S2 y k self v else some (v.1,())) (by rw[aq];omega) c (λi k self x y' k' hi hx h0 h1 h2 h3 hE=>by
   have am:(i:Int) < (y.length:Int):=by omega
   simp only[am,aD,aJ]
   exact KI _ i y k self x y' k' hi hx h0 (by omega) h2 (by omega) hE am) (λk self=>by simp) f (by omega)
end OT
namespace OT
open Go
def bz {S O α:Type} (f:Nat->S->α->Sum O S) (fin:S->O):Nat->List α->S->O
 | _,[],s=>fin s
 | i,x::xs,s=>match f i s x with
  | .inl o=>o
  | .inr s'=>bz f fin (i+1) xs s'
theorem co {V S O α:Type} {B:(V->Option O)->V->Option O} (xs:List α) (enc:S->Int->V) (f:Nat->S->α->Sum O S) (fin:S->O) (I:Nat->S->Prop) (sI:xs.length<=maxLen)
  (gg:∀ (i:Nat) (hi:i < xs.length) (s:S) self,I i s->B self (enc s (i:Int))=match f i s xs[i] with | .inl o=>some o | .inr s'=>self (enc s' (af ((i:Int)+1))))
  (hI:∀ (i:Nat) (hi:i < xs.length) (s s':S),I i s->f i s xs[i]=.inr s'->I (i+1) s')
  (kf:∀ (s:S) self,I xs.length s->B self (enc s (xs.length:Int))=some (fin s)) (s:S) (h0:I 0 s):∀ k,xs.length < k->ak B k (enc s 0)=some (bz f fin 0 xs s):=by
 have main:∀ (m i:Nat) (s:S),xs.length - i=m->i<=xs.length->I i s->∀ k,m < k->ak B k (enc s (i:Int))=some (bz f fin i (xs.drop i) s):=by
  intro m
  induction m with
  | zero=>
   intro i s hm hi hs k hk;have lg:i=xs.length:=by omega
   subst lg
   cases k with
   | zero=>omega
   | succ k=>
    show B (ak B k) _=_;rw[kf s _ hs];simp[bz]
  | succ m ih=>
   intro i s hm hi hs k hk;have am:i < xs.length:=by omega
   cases k with
   | zero=>omega
   | succ k=>
    show B (ak B k) _=_;rw[gg i am s _ hs,cZ am];simp only[bz]
    cases hf:f i s xs[i] with
    | inl o=>rfl
    | inr s'=>
     have hw:af ((i:Int)+1)=((i+1:Nat):Int):=by rw[bf (by rw[aq] at sI;omega)];omega
     simp only[hw];exact ih (i+1) s' (by omega) (by omega) (hI i am s s' hs hf) k (by omega)
 intro k hk
 simpa using main xs.length 0 s (by omega) (by omega) h0 k hk
theorem rP {O α:Type} (p:α->Bool) (bad:O) (fin:Unit->O):∀ (xs:List α) (i:Nat),bz (λ_ _ x=>if p x then .inr () else .inl bad) fin i xs ()=if xs.all p then fin () else bad
 | [],_=>rfl
 | x::xs,i=>by
  simp only[bz,eH];by_cases h:p x=true
  ·simp[h,rP p bad fin xs (i+1)]
  ·simp[h]
def ox {α:Type} (c:α->Int):List α->Int
 | []=>0
 | x::xs=>if c x=0 then ox c xs else c x
theorem yV {O α:Type} (c:α->Int) (bad:Int->O) (fin:Unit->O):∀ (xs:List α) (i:Nat),bz (λ_ _ x=>if c x=0 then .inr () else .inl (bad (c x))) fin i xs ()=if ox c xs=0 then fin () else bad (ox c xs)
 | [],_=>rfl
 | x::xs,i=>by
  simp only[bz,ox];by_cases h:c x=0
  ·simp[h,yV c bad fin xs (i+1)]
  ·simp[h]
theorem Sw {R:Type} (a:Option R):both a a=a:=by simp[both]
theorem Iu {R α:Type} {v:List α} {a b r:Option R} (h1:v=[]->a=r) (h2:b=r):BO v a b=r:=by
 cases v with
 | nil=>rw[BO,h1 rfl,h2,Sw]
 | cons _ _=>exact h2
theorem dh {n:Nat} (h:n<=200000000000):n<=cc:=by simp only[cc];omega
end OT
namespace OT
open Go
def ta:Ty->Bool
 | .int _ | .bool | .str | .unit=>true
 | .pair a b=>ta a&&ta b
 | _=>false
def mX:(t:Ty)->t.den->List Value
 | .int k,v=>[.int k (pG k v)]
 | .bool,v=>[.bool v]
 | .str,v=>[.string ⟨List.toArray v⟩]
 | .unit,_=>[]
 | .pair a b,v=>mX a v.1++mX b v.2
 | _,_=>[]
section
variable {P:Program} {w:World} {A:Cells}
theorem tK:∀ (t:Ty),ta t=true->∀ (v:t.den),Ro P w A t v (mX t v):=by
 intro t
 induction t with
 | pair a b kO kD=>
  intro h v;simp only[ta,aE] at h;have h1:=kO h.1 v.1;have hl:=Ro.length a h1;show Ro P w A a v.1 ((mX a v.1++mX b v.2).take a.sz)/\Ro P w A b v.2 ((mX a v.1++mX b v.2).drop a.sz);rw[dK (by omega),iH (by omega),dL (by omega),dR (by omega),bT];exact ⟨h1,kD h.2 v.2⟩
 | int k=>intro _ v;rfl
 | bool=>intro _ v;rfl
 | str=>intro _ v;rfl
 | unit=>intro _ v;rfl
 | _=>intro h;simp[ta] at h
theorem LG:∀ (t:Ty),ta t=true->∀ {v:t.den} {cs:List Value},Ro P w A t v cs->cs=mX t v:=by
 intro t
 induction t with
 | pair a b kO kD=>
  intro h v cs hr;simp only[ta,aE] at h;have h1:=kO h.1 hr.1;have h2:=kD h.2 hr.2;rw[<-cR a.sz cs,h1,h2];rfl
 | int k=>intro _ v cs h;exact h
 | bool=>intro _ v cs h;exact h
 | str=>intro _ v cs h;exact h
 | unit=>intro _ v cs h;exact h
 | _=>intro h;simp[ta] at h
theorem yk:∀ (t:Ty),ta t=true->t.flat=true:=by
 intro t
 induction t with
 | pair a b kO kD=>intro h;simp only[ta,aE] at h;simp only[Ty.flat,kO h.1,kD h.2,gA]
 | int k=>intro _;rfl
 | bool=>intro _;rfl
 | str=>intro _;rfl
 | unit=>intro _;rfl
 | _=>intro h;simp[ta] at h
end
theorem LH {w:World} {b i:Nat} {u:Value} {c:Array Value} {e:TypeId} {fr:Nat×Nat} (h:w.heap[b]?=some (.cells c e fr)) (hu:ce w b i=some u):c[i]?=some u:=by
 unfold ce at hu;simp only[h,World.cell?] at hu
 cases hc:c[i]? with
 | none=>simp[hc] at hu
 | some v=>
  simp only[hc,eP,aF,aL,aA] at hu;rw[(Dq hu).1]
theorem Ng {w:World} {b i:Nat} {u:Value} {c:Array Value} {e:TypeId} {fr:Nat×Nat} (h:w.heap[b]?=some (.cells c e fr)) (hg:c[i]?=some u) (hu:u.oneCell'=true):ce w b i=some u:=by
 refine Ey ?_ hu;simp only[World.cell?,h,eP,aF,aL,hg]
end OT
namespace OT
open Go Go.Sort
instance abV (e:Ty):Inhabited e.den:=⟨e.zero⟩
noncomputable def xM (e:Ty) (cs:e.den×e.den×Unit->Option (Int×Unit)) (v:List e.den):Option (List e.den):=open Classical in
 if List.length v<=cc then (if h:∃ cf:e.den->e.den->Int,(∀ x y,cs (x,y,())=some (cf x y,()))/\SWO (Go.Proofs.ltOf cf) then some (pdq (Go.Proofs.ltOf h.choose) v.toArray 0 v.toArray.size (Lib.bitLen v.toArray.size) true true).toList else none) else none
theorem LI {e:Ty} {cs:e.den×e.den×Unit->Option (Int×Unit)} {cf:e.den->e.den->Int} (h1:∀ x y,cs (x,y,())=some (cf x y,())) (h2:SWO (Go.Proofs.ltOf cf)) (v:List e.den) (hl:List.length v<=cc):xM e cs v=some (pdq (Go.Proofs.ltOf cf) v.toArray 0 v.toArray.size (Lib.bitLen v.toArray.size) true true).toList:=by
 have hex:∃ cf:e.den->e.den->Int,(∀ x y,cs (x,y,())=some (cf x y,()))/\SWO (Go.Proofs.ltOf cf):=⟨cf,h1,h2⟩
 have he:hex.choose=cf:=by
  funext x y;have:=(hex.choose_spec.1 x y).symm.trans (h1 x y);injection this with this;exact dE Prod.fst this
 unfold xM;rw[aV hl,dif_pos hex,he]
theorem PR {e:Ty} {cs:e.den×e.den×Unit->Option (Int×Unit)} {v r:List e.den} (h:xM e cs v=some r):∃ cf:e.den->e.den->Int,(∀ x y,cs (x,y,())=some (cf x y,()))/\SWO (Go.Proofs.ltOf cf)/\List.length v<=cc/\r=(pdq (Go.Proofs.ltOf cf) v.toArray 0 v.toArray.size (Lib.bitLen v.toArray.size) true true).toList:=by
 by_cases hl:List.length v<=cc
 ·by_cases hex:∃ cf:e.den->e.den->Int,(∀ x y,cs (x,y,())=some (cf x y,()))/\SWO (Go.Proofs.ltOf cf)
  ·obtain ⟨cf,h1,h2⟩:=hex;rw[LI h1 h2 v hl] at h;injection h with h;exact ⟨cf,h1,h2,hl,h.symm⟩
  ·unfold xM at h;rw[aV hl,dif_neg hex] at h;cases h
 ·unfold xM at h;rw[bB hl] at h;cases h
theorem LJ {α:Type} [Inhabited α] {lt:α->α->Bool} (h:SWO lt) (v:List α):(pdq lt v.toArray 0 v.toArray.size (Lib.bitLen v.toArray.size) true true).toList.Perm v/\(pdq lt v.toArray 0 v.toArray.size (Lib.bitLen v.toArray.size) true true).toList.Pairwise λx y=>lt y x=false:=by
 have hs:=pdq_sorts lt h v.toArray 0 v.toArray.size (Lib.bitLen v.toArray.size) true true (aY _) (aN _) (Or.inl rfl);generalize pdq lt v.toArray 0 v.toArray.size (Lib.bitLen v.toArray.size) true true=p at hs ⊢;obtain ⟨⟨h1,h2,h3⟩,h4⟩:=hs;refine ⟨?_,?_⟩
 ·have e1:p.extract 0 v.toArray.size=p:=by rw[<-h1];exact Array.extract_size ..
  have e2:v.toArray.extract 0 v.toArray.size=v.toArray:=Array.extract_size ..;rw[e1,e2] at h3;exact h3
 ·rw[eB];intro i j hi hj oE;have v_:j < p.size:=by simpa using hj
  have:=h4 i j (aY _) oE (by omega);rw[gI _ i (by omega),gI _ j v_] at this
  simpa using this
section
variable {P:Program}
theorem Up {w w':World} (h:Ext w w' (λ_ _=>0)):∃ q os,w'=grow (w.drewN q) os:=by
 refine ⟨w'.drawn - w.drawn,w'.heap.extract w.heap.size w'.heap.size,?_⟩
 have hh:w'.heap=w.heap++w'.heap.extract w.heap.size w'.heap.size:=by
  apply Array.ext_getElem?;intro i;by_cases hi:i < w.heap.size
  ·rw[h.obj i hi λ_=>rfl,dI hi]
  ·rw[Array.getElem?_append_right (by omega),Array.getElem?_extract];by_cases lg:i < w'.heap.size
   ·rw[aV (by omega)];congr 1;omega
   ·rw[bB (by omega),dP (by omega)]
 have h1:=h.os;have h2:=h.tape;have h3:=h.output;have h4:=h.drawn
 cases w with
 | mk heap tape drawn os output=>
  cases w' with
  | mk abX abY abW os' abU=>
   simp only at h1 h2 h3 h4 hh;subst h1;subst h2;subst h3;simp only[grow,World.drewN,World.mk.injEq,dZ,eE];exact ⟨hh,by omega⟩
theorem Uq {α:Type} [Inhabited α] {enc:α->List Value} {k b m:Nat} {dk:Array α} {os:Array Obj} {w:World} {F0:FP} (h:vG P w F0) (hb:1<=F0 b 0):vG P (Go.Proofs.sortWorldK enc k w b 0 m dk os) λ_ _=>0:=λe=>by
 obtain ⟨⟨w0,g,hw⟩,hs,hf⟩:=h e;have hbg:P.globals.size<=b:=fH λam=>by have:=hf b 0 am;omega
 refine ⟨⟨w0,g,λb' qh=>?_⟩,?_,λ_ _ _=>rfl⟩
 ·rw[<-hw b' qh];simp only[Go.Proofs.sortWorldK,grow,Go.Sort.putRowK,Go.Sort.putRow,Go.Sort.mapBlock,Go.Sort.ahead];rw[dI (by simp;omega),dJ,bB (by omega)]
 ·simp only[Go.Proofs.sortWorldK,grow,Go.Sort.putRowK,Go.Sort.putRow,Go.Sort.mapBlock,Go.Sort.ahead,fD,Array.size_modify];omega
theorem Ur {e:Ty} (hs:ta e=true) (ha:isAgg e=true) {g:Nat} {cF:e.den×e.den×Unit->Option (Int×Unit)} (hg:Sound P g { ps:=[(.ro,e),(.ro,e)],rs:=[(.int .i64,ax (.int .i64))],F:=cF }) {cf:e.den->e.den->Int} (hc:∀ x y,cF (x,y,())=some (cf x y,())) (b size:Nat) (w:World) (ht:∀ m dk os,vG P (Go.Proofs.sortWorldK (mX e) e.sz w b 0 m dk os) λ_ _=>0):Go.Proofs.CmpLays P g #[] (mX e) e.sz cf b 0 size w:=by
 intro m os dk _ x y
 have lj:oZ P (Go.Proofs.sortWorldK (mX e) e.sz w b 0 m dk os) (λ_ _=>False) K6 [(.ro,e),(.ro,e)] (x,y,()) [.agg (mX e x).toArray,.agg (mX e y).toArray] (λ_ _=>0):=
  ⟨_,_,λ_ _=>0,λ_ _=>0,rfl,λ_ _=>aN _,⟨mX e x,by simp[ci,ha],tK e hs x⟩,_,_,λ_ _=>0,λ_ _=>0,rfl,λ_ _=>aN _,⟨mX e y,by simp[ci,ha],tK e hs y⟩,rfl⟩
 refine (hg _ (λ_ _=>False) (λ_ _=>0) (x,y,()) _ lj (λ_ _=>aY _) (λ_ _ h=>by omega) (λ_ _ h=>by rcases h with h | h;omega;exact h.elim) (ht _ _ _) (cf x y,()) (hc x y)).mono ?_;rintro ex w' ⟨rv,rfl,dr,A',G,GR,GM,_,_,_,_,_,_,_,t8,_⟩;obtain ⟨cs,h1,h2⟩:=t8;refine ⟨?_,Up dr⟩
 have h2:cs=[.int .i64 (cf x y)]:=h2;rw[h1,h2];rfl
theorem Xt {ρ:Go.Shelf.Ren} (L:Go.Proofs.SlLaysF0.n6 P ρ) {e:Ty} (hs:ta e=true) (ha:isAgg e=true) (hl:be P e (.inl (ρ.t 24))=true) (h1:1<=e.sz) {g:Nat} {cF:e.den×e.den×Unit->Option (Int×Unit)}
  (hg:Ok P g { ps:=[(.ro,e),(.ro,e)],rs:=[(.int .i64,ax (.int .i64))],F:=cF }) (he:tU P (ρ.f 6) false) :
  Ok P (ρ.f 6) { ps:=[(.kY (an (.U e)),.U e),(.fix g,.fn)],rs:=[],F:=λv=>(xM e cF v.1).map λr=>(r,()) }:=by
 refine ⟨?_,he⟩
 intro w A F0 v xs lj hle um z_ FR out kf;obtain ⟨vs,⟨fg,fv⟩,⟨⟩⟩:=v;obtain ⟨x,K5,F1,F2,rfl,hF,⟨cs,rfl,e_⟩,x2,abp,F3,F4,rfl,Lf,⟨⟨cz,rfl,Sp⟩,abq⟩,rh⟩:=lj;have rh:abp=[]:=rh;subst rh;have hfg:fg=g:=abq rfl;subst hfg;obtain ⟨yt,rfl,fn,Us,abr⟩:=Sp
 have aag:yt=#[]:=by
  obtain ⟨fn',k1,_,_,k4⟩:=hg.2;have Us:P.funcs[fg]?=some fn:=Us;rw[Us] at k1;injection k1 with k1;subst k1;have k4:fn.nfree=0:=k4
  rcases abr with ⟨_,q⟩ | ⟨q,_⟩
  ·exact q
  ·omega
 subst aag;have R_:ci .fn [.func (.func fg) #[] #[]]=.func (.func fg) #[] #[]:=rfl;have kf:(xM e cF vs).map (λr=>(r,()))=some out:=kf
 cases PT:xM e cF vs with
 | none=>rw[PT] at kf;cases kf
 | some r=>
 rw[PT] at kf;injection kf with kf;subst kf;obtain ⟨cf,hc,hO,ke,hr⟩:=PR PT;have PU:=LJ hO vs;rw[<-hr] at PU;have B5:=e_;simp only[ap,hole,bU,aF,aL,an,sW,Md.own,aI] at e_;obtain ⟨xa,cap,rfl,g2,g3,g4,g5⟩:=e_;have GN:ci (.U e) [.slice xa (List.length vs) cap]=.slice xa (List.length vs) cap:=rfl;rw[R_,GN]
 have xA:∀ (w':World) (Wm:FP),Ext w w' F0->(∀ b i,Wm b i<=F1 b i)->ap P w' A (.U e) (an (.U e)) [] r [.slice xa (List.length vs) cap] Wm ->
   ∃ rv,Ending.returned (.tuple #[])=.returned rv/\Ext w w' F0/\∃ (A':Cells) (G GR GM:FP),(∀ b i,A b i->A' b i)/\(∀ b i,A' b i->A b i\/1<=F0 b i\/w.heap.size<=b)/\(∀ b i,1<=G b i->1<=F0 b i\/w.heap.size<=b)/\(∀ b i,G b i<=1)/\(∀ b i,1<=G b i->¬ A' b i)/\(∀ b i,1<=G b i\/A' b i->b < w'.heap.size)/\(∀ b i,GR b i+GM b i<=G b i) /\
   mS P w' A' [] rv GR/\m8 P w' A' [(.kY (an (.U e)),.U e),(.fix fg,.fn)] (r,()) [.slice xa (List.length vs) cap,.func (.func fg) #[] #[]] GM:=λw' Wm dr GD Wn=>
  ⟨_,rfl,dr,A,F0,λ_ _=>0,F0,λ_ _ h=>h,λ_ _ h=>.inl h,λ_ _ h=>.inl h,hle,um,λb i h=>cP (z_ b i h) dr.size,λb i=>by show 0+F0 b i<=F0 b i;omega,trivial,Wm,F2,λb i=>by have:=hF b i;have:=GD b i;omega,⟨_,rfl,Wn⟩,trivial⟩
 by_cases h0:List.length vs=0
 ·have DU:vs=[]:=bH h0
  have hrn:r=[]:=by
   have:=PU.1.length_eq;exact bH (by omega)
  rw[h0];refine (Go.Proofs.AnyF.slices_SortFunc_none L xa cap (.func (.func fg) #[] #[]) w).mono ?_;rintro ex w' ⟨rfl,hw⟩;rw[hw];rw[h0] at xA;refine xA w F1 (Ext.refl _ _) (λ_ _=>aN _) ?_;rw[hrn,<- DU];have:List.length vs=0:=h0;rw[this] at B5;exact B5
 ·cases xa with
  | none=>have:=g4 rfl;omega
  | some ad=>
   obtain ⟨q1,q2,q3,Fi,q4,q5⟩:=g5 ad rfl;obtain ⟨b,off,sp⟩:=ad;simp only at q1 q2 q3 q4 q5;subst q1;subst q2;obtain ⟨c,el,fr,c1,c2,c3,c4⟩:=q3;have hb:=(bQ.1 c1).1;have ko:vs.toArray.size=List.length vs:=by simp
   have yO:List.length vs*e.sz<=cap*e.sz:=bD _ g2;have DH:1<=List.length vs*e.sz:=gW (show 1<=List.length vs by omega) h1
   have mR:∀ (i:Nat) (y:e.den),vs[i]?=some y->Has w b (i*e.sz) (mX e y):=λi y hy=>by
    obtain ⟨L0,l1,l2,l3⟩:=q5 i y hy;have:=LG e hs (ap.flat e (yk e hs) l3);rw[<-this];exact l2
   have hH:Go.Sort.HoldsK (mX e) e.sz w b 0 vs.toArray:=by
    intro j hj;rw[Go.Sort.size_flatK,ko] at hj;rw[bE,Go.Sort.get_flatK _ _ _ _ (by rw[ko];exact hj)];have hi:j / e.sz < List.length vs:=by rw[gO h1];exact hj
    have hy:=aB hi;have hm:=iR j h1
    have pH:(mX e (vs[j / e.sz]))[j % e.sz]?=some ((mX e (vs[j / e.sz]))[j % e.sz]!):=by
     have hlen:=Ro.length e (tK (P:=P) (w:=w) (A:=A) e hs (vs[j / e.sz]));rw[aB (by omega),gI _ _ (by omega)]
    have hce:=mR _ _ hy _ _ pH;have hdm:j / e.sz*e.sz+j % e.sz=j:=by rw[fT];exact gL j e.sz
    rw[hdm] at hce;have mN:=Ro.one e (tK (P:=P) (w:=w) (A:=A) e hs (vs[j / e.sz])) _ (cA pH);have Hd:=qU hce mN;refine ⟨?_,?_⟩
    ·show _=some (id _);rw[Hd];have:vs.toArray[j / e.sz]! = vs[j / e.sz]:=by rw[gI _ _ (by rw[ko];exact hi)];simp
     rw[this];rfl
    ·simp only[World.frozen?,c1];have:=c3 j (by omega);simp only[Bool.and_eq_false_imp,bM,eZ,not_and] at this ⊢;intro h
     first | exact this h | (have:=this (by simpa using h);simpa using this)
   have GE:1<=F0 b 0:=by
    have h3:=hF b 0;have h4:=q4 b 0;have h5:b_ b 0 (cap*e.sz) b 0=1:=by simp only[b_];rw[aV ⟨trivial,by omega,by omega⟩]
    omega
   have PV:=Go.Proofs.AnyQ.slices_SortFunc_eq L e.sz (λw=>by rw[wa hl,ha]) (λw=>run_sizeOf hl) (mX e) (λy=>Ro.length e (tK (P:=P) (w:=w) (A:=A) e hs y)) (λy u hu=>Ro.one e (tK (P:=P) (w:=w) (A:=A) e hs y) u hu) cf hO fg #[] b 0 cap vs.toArray w
    (λargs w=>DM hg.2 args) (Ur hs ha hg.1 hc b _ w λm dk os=>Uq FR GE) hH hb (by rw[ko];unfold cc at ke;omega)
   rw[ko] at PV;refine PV.mono ?_;rintro ex w' ⟨rfl,n,os,rfl⟩;rw[ko] at hr;have AG:(pdq (Go.Proofs.ltOf cf) vs.toArray 0 (List.length vs) (Lib.bitLen (List.length vs)) true true)=r.toArray:=by rw[hr]
   rw[AG];have v7:r.length=List.length vs:=PU.1.length_eq
   have hold:∀ b',b' < w.heap.size->b'≠b->(Go.Proofs.sortWorldK (mX e) e.sz w b 0 n r.toArray os).heap[b']?=w.heap[b']?:=λb' qh fq=>by
    simp only[Go.Proofs.sortWorldK,grow,Go.Sort.putRowK,Go.Sort.putRow,Go.Sort.mapBlock,Go.Sort.ahead];rw[dI (by simpa using qh),dJ,bB (λe=>fq e.symm)]
   have t7:(Go.Proofs.sortWorldK (mX e) e.sz w b 0 n r.toArray os).heap[b]?=some (.cells (Go.Sort.putCells id 0 (Go.Sort.flatK (mX e) e.sz r.toArray) c) el fr):=by
    simp only[Go.Proofs.sortWorldK,grow,Go.Sort.putRowK,Go.Sort.putRow,Go.Sort.mapBlock,Go.Sort.ahead];rw[dI (by simpa using hb),dJ,aV rfl,c1];rfl
   have oH:(Go.Sort.putCells id 0 (Go.Sort.flatK (mX e) e.sz r.toArray) c).size=c.size:=by simp[Go.Sort.putCells]
   have dr:Ext w (Go.Proofs.sortWorldK (mX e) e.sz w b 0 n r.toArray os) F0:=by
    have fa:∀ i,i < cap*e.sz->1<=F0 b i:=λi hi=>by
     have h3:=hF b i;have h4:=q4 b i;have h5:b_ b 0 (cap*e.sz) b i=1:=by simp only[b_];rw[aV ⟨trivial,by omega,by omega⟩]
     omega
    refine ⟨?_,λb' i qh hz u hu=>?_,λb' m hm=>?_,λb' i qh=>?_,rfl,rfl,rfl,λb' qh hz=>?_,Nat.le_add_right _ _⟩
    ·simp only[Go.Proofs.sortWorldK,grow,Go.Sort.putRowK,Go.Sort.putRow,Go.Sort.mapBlock,Go.Sort.ahead,fD,Array.size_modify];omega
    ·by_cases yM:b'=b
     ·subst yM;have hi:¬ i < cap*e.sz:=λhi=>by have:=fa i hi;omega
      exfalso;have:=LH c1 hu;rw[dP (by omega)] at this;cases this
     ·rw[xr (hold b' qh yM)];exact hu
    ·by_cases yM:b'=b
     ·subst yM;obtain ⟨c',e',f',m1,m2,m3⟩:=hm;rw[c1] at m1;injection m1 with m1;injection m1 with m1 m4 m5;subst m1;subst m4;subst m5;exact ⟨_,_,_,t7,by rw[oH];exact m2,m3⟩
     ·have qh:b' < w.heap.size:=hm.lt;exact (wK (hold b' qh yM) m).1 hm
    ·by_cases yM:b'=b
     ·subst yM;simp only[World.frozen?,t7,c1]
     ·exact xL (hold b' qh yM) i
    ·by_cases yM:b'=b
     ·subst yM;have:=fa 0 (by omega);have:=hz 0;omega
     ·exact hold b' qh yM
   refine xA _ F1 dr (λ_ _=>aN _) ?_;simp only[ap,hole,bU,aF,aL,an,sW,Md.own,aI];refine ⟨some ⟨b,0,none⟩,cap,by rw[v7],by rw[v7];exact g2,g3,(λe=>by cases e),λad e2=>?_⟩
   injection e2 with e2;subst e2;refine ⟨rfl,rfl,⟨_,_,_,t7,by rw[oH];exact c2,c3,c4⟩,λ_ _ _=>0,λb' i=>?_,λi y hy=>?_⟩
   ·have h3:=q4 b' i
    have h4:a_ (List.length r) (λ_ _ _=>0) b' i=0:=by
     generalize List.length r=nn
     induction nn with
     | zero=>rfl
     | succ nn ih=>simp only[a_,ih]
    show b_ b 0 (cap*e.sz) b' i+a_ (List.length r) (λ_ _ _=>0) b' i<=F1 b' i;rw[h4];omega
   ·refine ⟨mX e y,Ro.length e (tK (P:=P) (w:=w) (A:=A) e hs y),λj u hu=>?_,?_⟩
    ·have hj:=(aM.1 hu).1;have hlen:=Ro.length e (tK (P:=P) (w:=w) (A:=A) e hs y);have hi:=(aM.1 hy).1
     have oE:i*e.sz+j < r.length*e.sz:=by
      have:=bD e.sz (show i+1<=r.length from hi);rw[cI,Nat.one_mul] at this;omega
     have hdiv:(i*e.sz+j) / e.sz=i:=(Go.Sort.blk_iff e.sz i _ h1).1 ⟨by omega,by omega⟩;have TW:(i*e.sz+j) % e.sz=j:=by rw[Nat.mod_eq_sub_div_mul,hdiv];omega
     have uq:(Go.Sort.putCells id 0 (Go.Sort.flatK (mX e) e.sz r.toArray) c)[i*e.sz+j]?=some u:=by
      have am:i*e.sz+j < c.size:=by rw[v7] at oE;omega
      simp only[Go.Sort.putCells,Array.getElem?_mapIdx,cN am,cC,aY,dZ,bE,Nat.sub_zero,Go.Sort.size_flatK,dQ,oE,aI,id];rw[Go.Sort.get_flatK _ _ _ _ (by simpa using oE),hdiv,TW]
      have Jo:r.toArray[i]! = y:=by
       rw[gI _ _ (by simpa using hi)];have:=(aM.1 hy).2
       simpa using this
      rw[Jo,gI (mX e y) j hj];exact dE some (aM.1 hu).2
     have mN:=Ro.one e (tK (P:=P) (w:=w) (A:=A) e hs y) _ (cA hu);exact Ng t7 uq mN
    ·exact Ro.flat e _ (yk e hs) (tK e hs y)
end
end OT
namespace OT
open Go Go.Shelf Go.RowKit Go.Lib Go.Proofs
section
variable {P:Program} {ρ:Ren}
theorem Nh (w:World) (t e ty:TypeId) (z:Value) (ht:P.underlying t=some (.slice e)) (hv:∀ w,(zeroValue e).run P w=.ok z w) (b o n c:Nat) (hn:0 < n)
  (hc:∀ j,j < (Builtin.zeroCells z.cells n).toList.length->(w.cell? ⟨b,o+j,none⟩).isSome=true) (hf:∀ j,j < (Builtin.zeroCells z.cells n).toList.length->w.frozen? ⟨b,o+j,none⟩=false) (h1:∀ v ∈ (Builtin.zeroCells z.cells n).toList,v.oneCell'=true) :
  (Builtin.clear_ #[t] ty #[.slice (some ⟨b,o,none⟩) n c]).run P w=.ok (.tuple #[]) (w.setCells b o (Builtin.zeroCells z.cells n).toList):=by
 have cu:=run_storeCells_cells (P:=P) b o (Builtin.zeroCells z.cells n).toList 0 w (by simpa using hc) (by simpa using hf) h1;simp only[dG] at cu
 obtain ⟨m,rfl⟩:∃ m,n=m+1:=⟨n - 1,by omega⟩
 simp[Builtin.clear_,run_underlying ht,hv,cu]
theorem tL (b:Nat) (vs:List Value) (o:Nat) (w:World) (h:∀ j,j < vs.length->(w.cell? ⟨b,o+j,none⟩).isSome=true) (k:Nat) (hk:(w.cell? ⟨b,k,none⟩).isSome=true):((w.setCells b o vs).cell? ⟨b,k,none⟩).isSome=true:=by
 by_cases gg:o<=k/\k < o+vs.length
 ·have:=World.cell?_setCells_in b vs o w h (k - o) (by omega);rw[show o+(k - o)=k by omega] at this;rw[this];rfl
 ·rw[World.cell?_setCells_out b vs o w ⟨b,k,none⟩ (λ_ _=>by show k < o\/o+vs.length<=k;omega)];exact hk
set_option maxHeartbeats 4000000 in
set_option maxRecDepth 1000000 in
theorem Sx (L:SlLaysE0.n45 P ρ) (k:Nat) (inf:TypeInfo) (zv:Value) (OF:P.info? (ρ.t 23)=some inf) (hsk:inf.size=k) (hz:∀ w,(zeroValue (ρ.t 23)).run P w=.ok zv w) (EW:zv.cells.size=k) (wJ:∀ n,∀ v ∈ (Builtin.zeroCells zv.cells n).toList,v.oneCell'=true)
  (b off n c i j:Nat) (cs:List Value) (w:World) (wb:cs.length=n*k) (oH:∀ t v,cs[t]?=some v->w.cell? ⟨b,off+t,none⟩=some v) (Jp:∀ t,t < n*k->w.frozen? ⟨b,off+t,none⟩=false) (OG:∀ v ∈ cs,v.oneCell'=true)
  (ke:n<=c) (hm:c<=9223372036854775807) (oE:i < j) (hj:j<=n) :
  Calls P (ρ.f 45) #[.slice (some ⟨b,off,none⟩) n c,.int .i64 i,.int .i64 j] w λe w'=>e=.returned (.slice (some ⟨b,off,none⟩) (i+(n - j)) c) /\
   w'=(w.drew.setCells b (off+i*k) (cs.drop (j*k))).setCells b (off+(i+(n - j))*k) (Builtin.zeroCells zv.cells (n - (i+(n - j)))).toList:=by
 have mixed:=L.mixed;have t0:=L.t0;have a0:=L.a0;have z0:=L.z0;have v0:=L.v0;have t3:=L.t3;have a3:=L.a3;have z3:=L.z3;have v3:=L.v3;have t4:=L.t4;have a4:=L.a4;have z4:=L.z4;have v4:=L.v4;have t22:=L.t22;have a22:=L.a22;have z22:=L.z22;have v22:=L.v22
 have z23:∀ w,(Go.sizeOf (ρ.t 23)).run P w=.ok k w:=λw=>by simp[Go.sizeOf,typeInfo,OF,hsk]
 have Yz:j*k<=n*k:=bD _ hj
 obtain ⟨news,He⟩:∃ news,news=cs.drop (j*k):=⟨_,rfl⟩
 have hlen:news.length=(n - j)*k:=by rw[He,bI,wb,gH]
 obtain ⟨A,hA,Iv⟩:∃ A:Addr,(if c=j then some (⟨b,off,none⟩:Addr) else some ⟨b,off+j*k,none⟩)=some A/\Hid (∀ t u,news[t]?=some u->w.drew.cell? (A.add t)=some u):=by
  by_cases h:c=j
  ·refine ⟨⟨b,off,none⟩,by simp[h],λt u hu=>?_⟩
   have h0:news.length=0:=by rw[hlen,show n - j=0 by omega,gJ]
   rw[List.length_eq_zero_iff.1 h0] at hu;simp at hu
  ·refine ⟨⟨b,off+j*k,none⟩,by simp[h],λt u hu=>?_⟩
   rw[He,bL] at hu;rw[Addr.add_lit,show off+j*k+t=off+(j*k+t) by omega];exact oH _ u hu
 have s1:Hid (news.length=(n - j)*k):=hlen
 have s2:Hid (∀ u ∈ news,u.oneCell'=true):=by
  intro u hu;rw[He] at hu;exact OG u (dH hu)
 have EE:∀ t,t < n*k->(w.cell? ⟨b,off+t,none⟩).isSome=true:=λt ht=>by rw[oH t _ (aB (by omega))];rfl
 have ab8:i*k+(n - j)*k<=n*k:=by rw[<-cI];exact bD _ (by omega)
 have s3:Hid (∀ t,t < news.length->(w.drew.cell? ⟨b,off+i*k+t,none⟩).isSome=true/\w.drew.frozen? ⟨b,off+i*k+t,none⟩=false):=by
  intro t ht;rw[hlen] at ht;rw[cE];exact ⟨EE _ (by omega),Jp _ (by omega)⟩
 obtain ⟨W1,xn⟩:∃ W1,W1=w.drew.setCells b (off+i*k) news:=⟨_,rfl⟩
 have hZ:(Builtin.zeroCells zv.cells (n - (i+(n - j)))).toList.length=(n - (i+(n - j)))*k:=by simp[Builtin.zeroCells,EW]
 have hnk:(i+(n - j))*k+(n - (i+(n - j)))*k=n*k:=by rw[<-cI];congr 1;omega
 have abs:∀ ty,(Builtin.clear_ #[ρ.t 22] ty #[.slice (some ⟨b,off+(i+(n - j))*k,none⟩) (n - (i+(n - j))) (c - (i+(n - j)))]).run P W1=.ok (.tuple #[]) (W1.setCells b (off+(i+(n - j))*k) (Builtin.zeroCells zv.cells (n - (i+(n - j)))).toList):=
  λty=>Nh W1 _ _ ty zv t22 hz b (off+(i+(n - j))*k) _ _ (by omega) (λt ht=>by
   rw[hZ] at ht;rw[xn,cE]
   exact tL b _ _ _ (λt ht=>by rw[hlen] at ht;rw[cE];exact EE _ (by omega)) _ (EE _ (by omega))) (λt ht=>by rw[hZ] at ht;rw[xn,World.frozen?_setCells,cE];exact Jp _ (by omega)) (wJ _)
 have hW:Hid (W1=w.drew.setCells b (off+i*k) news):=xn;have fq:¬ (i:Int)=(j:Int):=by omega
 have hic:i<=c:=by omega
 have hjc:j<=c:=by omega
 have hcn:¬ c=i+(n - j):=by omega
 rw[<-He,<- xn]
 obtain ⟨Z,hZd⟩:∃ Z,Z=(Builtin.zeroCells zv.cells (n - (i+(n - j)))).toList:=⟨_,rfl⟩
 rw[<-hZd] at abs ⊢;clear xn He hlen EE oH Jp wb OG hZ hZd wJ EW;obtain ⟨_,_,FG⟩:=L.f45
 go_enter FG,SlBodyN.n45_ntmps ρ
 go_wp2_with fail
 go_region_law_o (refine step_append_room rfl (.tmp 22) (.tmp 25) (ρ.t 22) rfl (ρ.t 23) inf k t22 OF hsk b off i c (by simp[Act.eval,Act.put]) A (n - j) (c - j) news (by simp[Act.eval,Act.put]) s1.out Iv.out s2.out (by omega) s3.out ?_;rw[<-hW.out])
 go_wp2
 go_ret
 exact ⟨rfl,rfl⟩
set_option maxHeartbeats 4000000 in
set_option maxRecDepth 1000000 in
theorem Ut (L:SlLaysE0.n45 P ρ) (b:Option Addr) (n c i:Nat) (w:World) (gg:i<=n) (ke:n<=c) (hm:c<=9223372036854775807) (hb:∀ ad,b=some ad->ad.spot=none) (Gv:b=none->c=0) (k:Nat) (z23:∀ w,(Go.sizeOf (ρ.t 23)).run P w=.ok k w) :
  Calls P (ρ.f 45) #[.slice b n c,.int .i64 i,.int .i64 i] w λe w'=>e=.returned (.slice b n c)/\w'=w:=by
 have mixed:=L.mixed;have t0:=L.t0;have a0:=L.a0;have z0:=L.z0;have v0:=L.v0;have t3:=L.t3;have a3:=L.a3;have z3:=L.z3;have v3:=L.v3;have t4:=L.t4;have a4:=L.a4;have z4:=L.z4;have v4:=L.v4;have t22:=L.t22;have a22:=L.a22;have z22:=L.z22;have v22:=L.v22
 have hic:i<=c:=by omega
 obtain ⟨_,_,FG⟩:=L.f45
 cases b with
 | none=>
  have h0:=Gv rfl;subst h0;have zQ:n=0:=by omega
  subst zQ;have OF:i=0:=by omega
  subst OF
  go_enter FG,SlBodyN.n45_ntmps ρ
  go_wp2
  all_goals (go_ret;exact ⟨rfl,rfl⟩)
 | some ad=>
  obtain ⟨b,off,sp⟩:=ad;have:=hb _ rfl;simp only at this;subst this
  go_enter FG,SlBodyN.n45_ntmps ρ
  go_wp2
  all_goals (go_ret;exact ⟨rfl,rfl⟩)
theorem abt (w:World) {e:Ty} {i:TypeId} (hl:be P e (.inl i)=true) (hz:e.ve=true) {inf:TypeInfo} {zv:Value} (h1:P.info? i=some inf) (h2:inf.zero=some zv):∀ n,∀ v ∈ (Builtin.zeroCells zv.cells n).toList,v.oneCell'=true:=by
 obtain ⟨L,hL⟩:=ux e hz;obtain ⟨ab9,z',i1,i2,i3,i4,i5,i6⟩:=vw (lH hl);rw[h1] at i1;injection i1 with i1;subst i1;rw[h2] at i4;injection i4 with i4;subst i4;have hc:=i6 L hL;obtain ⟨r1,_,_⟩:=Ax (P:=P) (w:=w) (A:=λ_ _=>True) e hL hl;have mN:=ap.one _ r1;intro n v hv;refine mN v ?_;rw[<-hc];simp only[Builtin.zeroCells,Array.toList_map,fV,Array.toList_range,dF] at hv;obtain ⟨j,hj,rfl⟩:=hv
 have DH:0 < zv.cells.size:=by
  rcases bF zv.cells.size with h0 | h0
  ·rw[h0,Nat.mul_zero] at hj;omega
  ·exact h0
 have:=iR j DH;rw[gI zv.cells _ this];simp
theorem Uu {w w':World} {A:Cells} {F0:FP} {e:Ty} {me:Md} {b cap:Nat} {vs:List e.den} {news:List Value} {Hi:Nat->FP} {F1:FP}
  (hw:Ext w w' (b_ b 0 (cap*e.sz))) (ke:cap<=maxLen) (fa:ge w' b (cap*e.sz,xt e)) (hlen:List.length vs<=cap) (yy:Has w' b 0 news)
  (pH:∀ (i:Nat) (y:e.den),vs[i]?=some y->ap P w A e me [] y ((news.drop (i*e.sz)).take e.sz) (Hi i))
  (hF:∀ b' i,b_ b 0 (cap*e.sz) b' i+a_ (List.length vs) Hi b' i<=F1 b' i) (hle:∀ b' i,F1 b' i<=F0 b' i) (h1:∀ b i,F0 b i<=1) (um:∀ b i,1<=F0 b i->¬ A b i) (z_:∀ b i,1<=F0 b i\/A b i->b < w.heap.size) :
  ap P w' A (.U e) (.U true me) [] vs [.slice (some ⟨b,0,none⟩) (List.length vs) cap] F1:=by
 simp only[ap,hole,bU,aF,aL,an,sW,Md.own,aI,Md.e];refine ⟨some ⟨b,0,none⟩,cap,rfl,hlen,ke,(λe=>by cases e),λad e2=>?_⟩
 injection e2 with e2;subst e2;refine ⟨rfl,rfl,fa,Hi,hF,λi y hy=>?_⟩
 have hr:=pH i y hy;have hi:=(aM.1 hy).1;refine ⟨_,ap.length _ hr,λj u hu=>?_,?_⟩
 ·rw[bJ] at hu;split at hu
  ·rw[bL] at hu;have:=yy _ u hu;rw[bE] at this;exact this
  ·cases hu
 ·simp only[eQ];refine ap.mono (P:=P) (λ_ _ h=>h) (λb' k ha u hu=>hw.cell b' k (z_ b' k (.inr ha)) ?_ u hu) hw.ub e hr (λ_ _=>aN _) (λb' k hp u hu=>hw.cell b' k ?_ ?_ u hu)
  ·rcases bF (b_ b 0 (cap*e.sz) b' k) with h0 | h0
   ·exact h0
   ·exact absurd ha (um b' k (by have:=hF b' k;have:=hle b' k;omega))
  ·exact z_ b' k (.inl (by have:=cy Hi hi b' k;have:=hF b' k;have:=hle b' k;omega))
  ·rcases bF (b_ b 0 (cap*e.sz) b' k) with h0 | h0
   ·exact h0
   ·have:=cy Hi hi b' k;have:=hF b' k;have:=hle b' k;have:=h1 b' k;omega
def LK (e:Ty) (v:List e.den×Int×Int×Unit):Option (List e.den×Unit):=if 0<=v.2.1/\v.2.1<=v.2.2.1/\v.2.2.1<=(v.1.length:Int) then some (v.1.take v.2.1.toNat++v.1.drop v.2.2.1.toNat,()) else none
def Cm (i j:Int) (k:Nat):Bool:=decide (i<=(k:Int))&&decide ((k:Int) < j)
def Iw (i j:Int):List Path->Bool
 | []=>true
 | [.idx k::_]=>Cm i j k
 | _=>false
theorem PW {i j:Int} {H:List Path} (h:Iw i j H=true):hole H=false/\(j<=i->H=[])/\∀ t:Nat,((t:Int) < i\/j<=(t:Int))->H.filterMap (ld t)=[]:=by
 unfold Iw at h;split at h
 ·exact ⟨rfl,λ_=>rfl,λ_ _=>rfl⟩
 ·rename_i k q;simp only[Cm,aE,bM] at h;refine ⟨rfl,λoE=>by omega,λt ht=>?_⟩
  have fq:¬ t=k:=by omega
  simp[ld,fq]
 ·cases h
theorem Jq (L:SlLaysE0.n45 P ρ) {e:Ty} {me:Md} (hl:be P e (.inl (ρ.t 23))=true) (h1:1<=e.sz) (EW:e.ve=true) (he:tU P (ρ.f 45) false) :
  Ok P (ρ.f 45) { ps:=[(.nc (.U true me),.U e),(.ro,.int .i64),(.ro,.int .i64)],rs:=[(.U e,.U true me)],F:=LK e,CZ:=λv H=>Iw v.2.1 v.2.2.1 H }:=by
 refine ⟨?_,he⟩
 intro w A F0 v xs lj hle um z_ FR out kf;obtain ⟨vs,i,j,⟨⟩⟩:=v;obtain ⟨x,K5,F1,F2,rfl,hF,⟨H,cs,hH,rfl,e_⟩,x2,xs2,F3,F4,rfl,Lf,⟨cz,rfl,hi⟩,x3,YT,F5,F6,rfl,hF3,⟨Je,rfl,hj⟩,rh⟩:=lj;have rh:YT=[]:=rh;subst rh;have e_:ap P w A (.U e) (.U true me) H vs cs F1:=e_;have hH:Iw i j H=true:=hH;obtain ⟨hH1,hH2,Du⟩:=PW hH;have hi:cz=[.int .i64 i]:=hi;have hj:Je=[.int .i64 j]:=hj;subst hi;subst hj;have kf:LK e (vs,i,j,())=some out:=kf;unfold LK at kf;split at kf;rotate_left
 ·cases kf
 rename_i hb;obtain ⟨b1,b2,b3⟩:=hb;simp only at b1 b2 b3 kf;injection kf with kf;subst kf;obtain ⟨ni,rfl⟩:=dM b1;obtain ⟨nj,rfl⟩:=dM (Int.le_trans b1 b2);simp only[aH];have oE:ni<=nj:=by omega
 have Wi:nj<=List.length vs:=by omega
 obtain ⟨inf,zv,i1,i2,i3,i4,i5,_⟩:=vw (lH hl);have hz:∀ w,(zeroValue (ρ.t 23)).run P w=.ok zv w:=λw=>by simp[zeroValue,typeInfo,i1,i4]
 have z23:∀ w,(Go.sizeOf (ρ.t 23)).run P w=.ok e.sz w:=λw=>by simp[Go.sizeOf,typeInfo,i1,i2]
 obtain ⟨xa,cap,ey,Fi,r1,r2,r3,r4,r5,r6,r7,r8⟩:=GT hH1 (v:=vs) e_;obtain ⟨c1,c2,c3,c4⟩:=r8 rfl;subst r1;have sI:cap<=9223372036854775807:=by unfold maxLen at c2;omega
 have hx:(ci (.U e) [.slice xa (List.length vs) cap]::[ci (.int .i64) [.int .i64 (ni:Int)],ci (.int .i64) [.int .i64 (nj:Int)]]).toArray=#[.slice xa (List.length vs) cap,.int .i64 ni,.int .i64 nj]:=rfl;show Calls P (ρ.f 45) (ci (.U e) [.slice xa (List.length vs) cap]::[ci (.int .i64) [.int .i64 (ni:Int)],ci (.int .i64) [.int .i64 (nj:Int)]]).toArray w _;rw[hx]
 have xA:∀ (w':World) (rv:Value),Ext w w' F0->(∃ cs,rv=ci (.U e) cs/\ap P w' A (.U e) (.U true me) [] (vs.take ni++vs.drop nj) cs F1) ->
   ∃ AI,Ending.returned rv=.returned AI/\Ext w w' F0/\∃ (A':Cells) (G GR GM:FP),(∀ b i,A b i->A' b i)/\(∀ b i,A' b i->A b i\/1<=F0 b i\/w.heap.size<=b)/\(∀ b i,1<=G b i->1<=F0 b i\/w.heap.size<=b)/\(∀ b i,G b i<=1)/\(∀ b i,1<=G b i->¬ A' b i)/\(∀ b i,1<=G b i\/A' b i->b < w'.heap.size)/\(∀ b i,GR b i+GM b i<=G b i) /\
   mS P w' A' [⟨.U e,.U true me,vs.take ni++vs.drop nj⟩] AI GR/\m8 P w' A' [(.nc (.U true me),.U e),(.ro,.int .i64),(.ro,.int .i64)] () [ci (.U e) [.slice xa (List.length vs) cap],ci (.int .i64) [.int .i64 (ni:Int)],ci (.int .i64) [.int .i64 (nj:Int)]] GM:=λw' rv dr hr=>
  ⟨_,rfl,dr,A,F0,F1,λ_ _=>0,λ_ _ h=>h,λ_ _ h=>.inl h,λ_ _ h=>.inl h,hle,um,λb i h=>cP (z_ b i h) dr.size,λb i=>by have:=hF b i;show F1 b i+0<=F0 b i;omega,hr,trivial⟩
 by_cases heq:ni=nj
 ·subst heq;refine (Ut L xa (List.length vs) cap ni w Wi c1 sI (λad fk=>(c4 ad fk).2.1) c3 e.sz z23).mono ?_;rintro ex w' ⟨rfl,rfl⟩;refine xA _ _ (Ext.refl _ _) ⟨_,(db _ _ rfl).symm,?_⟩;rw[cR];have B5:=e_;rw[hH2 (fW _)] at B5;exact B5
 ·cases xa with
  | none=>have:=c3 rfl;omega
  | some ad=>
   obtain ⟨q1,q2,q3,q4⟩:=c4 ad rfl;obtain ⟨_,d5⟩:=r3 ad rfl;obtain ⟨b,off,sp⟩:=ad;simp only at q1 q2 q3 q4 d5;subst q1;subst q2;have ab_:List.length vs*e.sz<=cap*e.sz:=bD _ c1
   have mR:∀ t,t < cap*e.sz->(w.cell? ⟨b,t,none⟩).isSome=true:=λt ht=>by
    obtain ⟨c,e',fr,w1,w2,w3⟩:=q3;unfold World.cell?;simp only[w1,eP,aF,aL];rw[cN (by simp only at w2;omega)];rfl
   have PV:=Sx L e.sz inf zv i1 i2 hz i5 (abt w hl EW i1 i4) b 0 (List.length vs) cap ni nj ey w r4 (λt u hu=>qU (d5 t u hu) (r5 u (cA hu))) (λt ht=>by rw[bE];exact q3.frozen (by simp only;omega)) r5 c1 sI (by omega) Wi;refine PV.mono ?_;rintro ex w' ⟨rfl,hw⟩;simp only[bE] at hw;have t7:List.length (vs.take ni++vs.drop nj)=ni+(List.length vs - nj):=by simp;omega
   have m1:ni*e.sz+(List.length vs - nj)*e.sz=(ni+(List.length vs - nj))*e.sz:=by rw[cI]
   have m2:(ni+(List.length vs - nj))*e.sz<=List.length vs*e.sz:=bD _ (by omega);have m3:(ey.drop (nj*e.sz)).length=(List.length vs - nj)*e.sz:=by rw[bI,r4,gH]
   have hZ:(Builtin.zeroCells zv.cells (List.length vs - (ni+(List.length vs - nj)))).toList.length=(List.length vs - (ni+(List.length vs - nj)))*e.sz:=by simp[Builtin.zeroCells,i5]
   have m4:(ni+(List.length vs - nj))*e.sz+(List.length vs - (ni+(List.length vs - nj)))*e.sz=List.length vs*e.sz:=by rw[<-cI];congr 1;omega
   have x1:=li (b:=b) (o:=ni*e.sz) (ey.drop (nj*e.sz)) w.drew (ni*e.sz);have x2:=li (b:=b) (o:=(ni+(List.length vs - nj))*e.sz) (Builtin.zeroCells zv.cells (List.length vs - (ni+(List.length vs - nj)))).toList (w.drew.setCells b (ni*e.sz) (ey.drop (nj*e.sz))) ((ni+(List.length vs - nj))*e.sz)
   have DQ:∀ b' t,b_ b 0 (cap*e.sz) b' t=0->b_ b (ni*e.sz) (ey.drop (nj*e.sz)).length b' t=0:=λb' t h0=>by
    simp only[b_] at h0 ⊢;split at h0
    ·cases h0
    ·rw[bB (by omega)]
   have R_:∀ b' t,b_ b 0 (cap*e.sz) b' t=0->b_ b ((ni+(List.length vs - nj))*e.sz) (Builtin.zeroCells zv.cells (List.length vs - (ni+(List.length vs - nj)))).toList.length b' t=0:=λb' t h0=>by
    simp only[b_] at h0 ⊢;split at h0
    ·cases h0
    ·rw[bB (by omega)]
   have dr:Ext w w' (b_ b 0 (cap*e.sz)):=by
    rw[hw];exact (((uw w).mono (λ_ _ _=>rfl)).trans (x1.mono DQ) (λ_ _ _ h=>h)).trans (x2.mono R_) (λ_ _ _ h=>h)
   refine xA w' _ (dr.mono λb' t h0=>by have:=q4 b' t;have:=hF b' t;omega) ⟨[.slice (some ⟨b,0,none⟩) (ni+(List.length vs - nj)) cap],(db _ _ rfl).symm,?_⟩;rw[<-t7];refine Uu (news:=ey.take (ni*e.sz)++ey.drop (nj*e.sz)) (Hi:=λt=>if t < ni then Fi t else Fi (nj+(t - ni))) (F0:=F0) dr c2 (dr.ub _ _ q3) (by rw[t7];omega) ?_ ?_ (λb' t=>?_) (λb' t=>by have:=hF b' t;omega) hle um z_
   ·intro t u hu;rw[bE];have uz:(ey.take (ni*e.sz)).length=ni*e.sz:=by rw[bP,r4];omega
    rw[hw]
    have KI:t < (ni+(List.length vs - nj))*e.sz:=by
     have:=(aM.1 hu).1;rw[aR,uz,m3] at this;omega
    refine x2.cell b t ?_ ?_ u ?_
    ·have:=x1.size;have hb:=q3.lt;exact cP hb x1.size
    ·simp only[b_];rw[bB (by omega)]
    ·by_cases ht:t < ni*e.sz
     ·rw[bW (by omega),bJ,aV ht] at hu;refine x1.cell b t q3.lt ?_ u ?_
      ·simp only[b_];rw[bB (by omega)]
      ·have:=d5 t u hu;rw[bE] at this;exact this
     ·rw[bV (by omega),uz] at hu;have:=oI (w:=w.drew) (b:=b) (o:=ni*e.sz) (L:=ey.drop (nj*e.sz)) (λk hk=>by rw[m3] at hk;exact mR _ (by omega)) (λu hu=>r5 u (dH hu)) _ u hu;rw[show ni*e.sz+(t - ni*e.sz)=t by omega] at this;exact this
   ·have uz:(ey.take (ni*e.sz)).length=(vs.take ni).length*e.sz:=by rw[bP,bP,r4,fF (show ni<=List.length vs by omega),fF (bD _ (by omega))]
    have hr:=FH (P:=P) (w:=w) (A:=A) (e:=e) (me:=me) (v:=vs.take ni) (y:=vs.drop nj) (Fi:=Fi) (Gi:=λt=>Fi (nj+t)) uz (λt z hz=>by
      rw[bJ] at hz;split at hz
      ·rename_i ht;have:=r6 t z hz;rw[Du t (.inl (by omega))] at this;have h6:t*e.sz+e.sz<=ni*e.sz:=by rw[<-fB];exact bD _ (by omega)
       rw[eO,fK,fF (by omega)];exact this
      ·cases hz) (λt z hz=>by
      rw[bL] at hz;have:=r6 (nj+t) z hz;rw[Du (nj+t) (.inr (by omega))] at this;rw[dA,<- cI]
      exact this)
    intro t z hz;have:=hr t z hz;have tH:(vs.take ni).length=ni:=by simp;omega
    rw[tH] at this;exact this
   ·rw[t7];have s1:=FI ni (List.length vs - nj) Fi (λt=>Fi (nj+t)) b' t;have s2:=sY nj (List.length vs - nj) Fi b' t;have s3:=IZ (List.length vs) Fi 0 ni (by omega) b' t;have s4:=sY ni (nj - ni) Fi b' t;rw[show ni+(nj - ni)=nj by omega] at s4;rw[show nj+(List.length vs - nj)=List.length vs by omega] at s2;have:=q4 b' t;have e1:a_ (ni+(List.length vs - nj)) (λt=>if t < ni then Fi t else Fi (nj+(t - ni))) b' t=a_ ni Fi b' t+a_ (List.length vs - nj) (λt=>Fi (nj+t)) b' t:=s1;omega
end
end OT
namespace OT
open Go Go.Shelf Go.RowKit Go.Lib Go.Proofs
section
variable {P:Program} {ρ:Ren}
theorem Sy (w:World) {o:Oper} {a:Act} {K:Act->World->Prop} {Q:Exit->Act->World->Prop} (d s:Operand) (t t':TypeId)
  (ho:o.op=.call { callee:=.builtin .copy,args:=#[d,s],argTypes:=#[t,t'] }) (v u:Value) (hd:a.eval d=v) (hs:a.eval s=u) {v':Value} {w':World}
  (hr:(Builtin.copy_ #[t,t'] o.type #[v,u]).run P w=.ok v' w') (h:K (a.put o.dst v') w'):o.wp P a w K Q:=by
 unfold Oper.wp execOp;simp only[ho,resolve,invoke,builtin,Sem.run_bind,Sem.run_pure,Result.andThen_ok,List.map_toArray,cS,fU,hd,hs,hr];exact h
theorem yB (w:World) {ops:Array Oper} {rest:List Oper} {o:Oper} {a:Act} {Q:Exit->Act->World->Prop} (YD:o.guard=none) (d s:Operand) (t t':TypeId)
  (ho:o.op=.call { callee:=.builtin .copy,args:=#[d,s],argTypes:=#[t,t'] }) (v u:Value) (hd:a.eval d=v) (hs:a.eval s=u) {v':Value} {w':World}
  (hr:(Builtin.copy_ #[t,t'] o.type #[v,u]).run P w=.ok v' w') (h:wpList P ops Q rest (a.put o.dst v') w'):wpList P ops Q (o::rest) a w:=
 wpList_plain YD λ_ hK=>Sy w d s t t' ho v u hd hs hr (hK _ _ h)
theorem E3 {ops:Array Oper} {o:Oper} {a:Act} {w:World} {K:Act->World->Prop} {Q:Exit->Act->World->Prop} {E:Prop}
  (hg:o.guard=none) (d x:Operand) (dT sT:TypeId) (KX:o.op=Op.call { callee:=Callee.builtin Builtin.copy,args:=#[d,x],argTypes:=#[dT,sT] })
  (v u:Value) (hd:a.eval d=v) (hx:a.eval x=u) {v':Value} {w':World} (hr:(Builtin.copy_ #[dT,sT] o.type #[v,u]).run P w=.ok v' w') (hK:K (a.put o.dst v') w') :
  if Region.wanted o (yielded ops a.tmps)=true then Oper.wp P o a w K Q else E:=by
 have hw:Region.wanted o (yielded ops a.tmps)=true:=by simp[Region.wanted,hg]
 rw[aV hw];unfold Oper.wp;simp[execOp,KX,resolve,invoke,builtin,hd,hx,hr,Result.andThen];exact hK
theorem yW (w:World) (dT sT ty elem:TypeId) (inf:TypeInfo) (b o Uv abu:Nat) (a:Addr) (Uw abv:Nat) (cs:List Value)
  (hu:P.underlying dT=some (.slice elem)) (hs:P.info? elem=some inf) (hn:cs.length=Nat.min Uw Uv*inf.size)
  (Iv:∀ j v,cs[j]?=some v->w.cell? (a.add j)=some v) (hc:∀ j,j < cs.length->(w.cell? ⟨b,o+j,none⟩).isSome=true) (hf:∀ j,j < cs.length->w.frozen? ⟨b,o+j,none⟩=false) (h1:∀ v ∈ cs,v.oneCell'=true) :
  (Builtin.copy_ #[dT,sT] ty #[.slice (some ⟨b,o,none⟩) Uv abu,.slice (some a) Uw abv]).run P w=.ok (goInt (Nat.min Uw Uv)) (w.setCells b o cs):=by
 have hl:=run_loadCells_list (P:=P) w a cs Iv;have cu:=run_storeCells_cells (P:=P) b o cs 0 w (by simpa using hc) (by simpa using hf) h1;simp[Builtin.copy_,run_underlying hu,Builtin.lenOf,Builtin.firstCells,Go.sizeOf,typeInfo,hs,<- hn,hl,cu]
structure Hf (P:Program) (ρ:Ren) (e:Ty):Prop where
 mixed:P.follows .mixedOrders=true
 f22:Bears P (ρ.f 22) (Body2.n22 ρ)
 f29:∃ fn,P.funcs[ρ.f 29]?=some fn/\(fn.name == "runtime.NumGoroutine")=false/\fn.body.isNone=true/\Extern.findNext fn=none/\Extern.find fn=some (Extern.SlicesOverlaps.overlaps #[ρ.t 24,ρ.t 24] #[ρ.t 4])
 l3:be P (.int .i64) (.inl (ρ.t 3))=true
 l4:be P .bool (.inl (ρ.t 4))=true
 l24:be P (.U e) (.inl (ρ.t 24))=true
 t24:P.underlying (ρ.t 24)=some (TypeDesc.slice (ρ.t 9))
 l9:be P e (.inl (ρ.t 9))=true
 z3:(P.info? (ρ.t 3)).bind (·.zero)=some (Value.int IntKind.i64 0)
 z4:(P.info? (ρ.t 4)).bind (·.zero)=some (Value.bool false)
 z24:(P.info? (ρ.t 24)).bind (·.zero)=some (Value.slice none 0 0)
theorem Ix (w:World) (tS tR e:TypeId) (ht:P.underlying tS=some (.slice e)) (size:Nat) (hz:∀ w,(Go.sizeOf e).run P w=.ok size w)
  (a b:Addr) (la ca lb cb:Nat) (fq:a.block≠b.block) (tA tB:TypeId) (kA kB:Nat)
  (LL:w.shape? a.block=some (tA,kA)) (KB:w.shape? b.block=some (tB,kB)) (Sz:kA≠0)
  (YU:w.frozen? b=false) (LM:w.frozen? { block:=b.block,off:=kB }=false) :
  (Extern.SlicesOverlaps.overlaps #[tS,tS] #[tR] #[.slice (some a) la ca,.slice (some b) lb cb]).run P w=.ok (.bool false) w:=by
 have YV:(a.block != b.block)=true:=by simpa using fq
 have Ux:(a.block == b.block)=false:=by simpa using fq
 change Sem.run P (α:=Value) (do
  let some t:=(#[tS,tS]:Array TypeId)[0]? | stuck "slices.overlaps: no parameter types"
  let .slice elem <- underlying t | stuck "slices.overlaps: slice type expected"
  let size <- Go.sizeOf elem
  match (some a:Option Addr),(some b:Option Addr) with
  | some a,some b=>
   if la=0\/lb=0\/size=0 then pure (Value.bool false)
   else if a.block != b.block&&(<- frozen a)&&(<- frozen b) then unsupported .addressObserved
   else do
    if a.block != b.block then do
     noView a;noView b
     if <- mayBeOne a b then return Value.bool ((<- choose (.extern "sameAddr.stringBytes" 2)) == 1)
    pure (Value.bool (a.block == b.block&&a.off < b.off+lb*size&&b.off < a.off+la*size))
  | _,_=>pure (Value.bool false)) w=_
 by_cases h0:la=0\/lb=0\/size=0
 ·simp[run_underlying ht,hz,h0]
 ·cases kA with
  | zero=>exact absurd rfl Sz
  | succ kA=>
   cases YW:w.frozen? a with
   | true=>simp[run_underlying ht,hz,h0,YV,Ux,frozen,noView,viewAt,mayBeOne,stringish,shape,Sem.run,LL,KB,YW,YU,LM]
   | false=>
    cases YX:w.frozen? { block:=a.block,off:=kA+1 } with
    | true=>simp[run_underlying ht,hz,h0,YV,Ux,frozen,noView,viewAt,mayBeOne,stringish,shape,Sem.run,LL,KB,YW,YX,YU,LM]
    | false=>simp[run_underlying ht,hz,h0,YV,Ux,frozen,noView,viewAt,mayBeOne,stringish,shape,Sem.run,LL,KB,YW,YX,YU,LM]
structure Aa (P:Program) (ρ:Ren) (k:Nat) (inf:TypeInfo) (zv:Value):Prop where
 mixed:P.follows .mixedOrders=true
 f22:Bears P (ρ.f 22) (Body2.n22 ρ)
 f29:∃ fn,P.funcs[ρ.f 29]?=some fn/\(fn.name == "runtime.NumGoroutine")=false/\fn.body.isNone=true/\Extern.findNext fn=none/\Extern.find fn=some (Extern.SlicesOverlaps.overlaps #[ρ.t 24,ρ.t 24] #[ρ.t 4])
 t3:P.underlying (ρ.t 3)=some (TypeDesc.int IntKind.i64)
 a3:∀ w,(Go.isAgg (ρ.t 3)).run P w=.ok false w
 z3:∀ w,(Go.sizeOf (ρ.t 3)).run P w=.ok 1 w
 v3:∀ w,(zeroValue (ρ.t 3)).run P w=.ok (Value.int IntKind.i64 0) w
 t4:P.underlying (ρ.t 4)=some (TypeDesc.bool)
 a4:∀ w,(Go.isAgg (ρ.t 4)).run P w=.ok false w
 z4:∀ w,(Go.sizeOf (ρ.t 4)).run P w=.ok 1 w
 v4:∀ w,(zeroValue (ρ.t 4)).run P w=.ok (Value.bool false) w
 t24:P.underlying (ρ.t 24)=some (TypeDesc.slice (ρ.t 9))
 a24:∀ w,(Go.isAgg (ρ.t 24)).run P w=.ok false w
 z24:∀ w,(Go.sizeOf (ρ.t 24)).run P w=.ok 1 w
 v24:∀ w,(zeroValue (ρ.t 24)).run P w=.ok (Value.slice none 0 0) w
 z9:∀ w,(Go.sizeOf (ρ.t 9)).run P w=.ok k w
 i9:P.info? (ρ.t 9)=some inf
 is:inf.size=k
 iz:inf.zero=some zv
 ik:zv.cells.size=k
 hk:1<=k
set_option maxHeartbeats 4000000 in
set_option maxRecDepth 100000 in
theorem SA {k:Nat} {inf:TypeInfo} {zv:Value} (L:Aa P ρ k inf zv) (b off n c i vb pg m vc:Nat) (cs vs:List Value) (w:World) (hi:i < n) (hm:0 < m) (pK:n+m<=c) (YY:c<=9223372036854775807) (Wo:vb≠b)
  (wb:cs.length=n*k) (zF:vs.length=m*k)
  (oH:∀ j v,cs[j]?=some v->w.cell? ⟨b,off+j,none⟩=some v) (n8:∀ j,j < (n+m)*k->(w.cell? ⟨b,off+j,none⟩).isSome=true) (Jp:∀ j,j < (n+m)*k->w.frozen? ⟨b,off+j,none⟩=false)
  (DU:∀ j v,vs[j]?=some v->w.cell? ⟨vb,pg+j,none⟩=some v) (OG:∀ v ∈ cs,v.oneCell'=true) (YZ:∀ v ∈ vs,v.oneCell'=true)
  (tA tB:TypeId) (kA kB:Nat) (LL:w.shape? vb=some (tA,kA)) (KB:w.shape? b=some (tB,kB)) (Sz:kA≠0) (LM:w.frozen? ⟨b,kB,none⟩=false) :
  Calls P (ρ.f 22) #[.slice (some ⟨b,off,none⟩) n c,.int .i64 i,.slice (some ⟨vb,pg,none⟩) m vc] w λe w'=>
   e=.returned (.slice (some ⟨b,off,none⟩) (n+m) c)/\w'=(w.drew.setCells b (off+(i+m)*k) (cs.drop (i*k))).setCells b (off+i*k) vs:=by
 have t3:=L.t3;have a3:=L.a3;have z3:=L.z3;have v3:=L.v3;have t4:=L.t4;have a4:=L.a4;have z4:=L.z4;have v4:=L.v4;have z9:=L.z9;have t24:=L.t24;have a24:=L.a24;have z24:=L.z24;have v24:=L.v24
 have u3:=run_underlying L.t3;have u4:=run_underlying L.t4;have Y0:=run_underlying L.t24
 have wJ:¬ ((m:Int)=0):=by omega
 have zO:¬ ((i:Int)=(n:Int)):=by omega
 have hk:=L.hk;have hmk:i*k+m*k=(i+m)*k:=by rw[cI]
 have hnm:n*k+m*k=(n+m)*k:=by rw[cI]
 have Hg:i*k < n*k:=jG hi hk;have Y1:1<=m*k:=gW hm hk
 have RU:∀ lb cb,(callFunc (ρ.f 29) #[.slice (some ⟨vb,pg,none⟩) m vc,.slice (some ⟨b,off+(i+m)*k,none⟩) lb cb]).run P w=.ok (.value (.bool false)) w:=λlb cb=>by
  obtain ⟨fn,hf,I5,EV,hn3,hn4⟩:=L.f29
  rw[run_callFunc_extern hf I5 EV hn3 hn4,
   Ix w (ρ.t 24) (ρ.t 4) (ρ.t 9) L.t24 k L.z9 ⟨vb,pg,none⟩ ⟨b,off+(i+m)*k,none⟩ m vc lb cb Wo tA tB kA kB LL KB Sz (Jp _ (by omega)) LM]
  rfl
 have Si:(cs.drop (i*k)).length=(n - i)*k:=by rw[bI,wb,gH]
 have mixed:=L.mixed;have wL:IntKind.i64.wrap ((i:Int)+(m:Int))=(i:Int)+(m:Int):=by rw[IntKind.wrap_i64];omega
 have Rm:(0:Int)<=(i:Int)+(m:Int):=by omega
 have gg:i<=n:=by omega
 have SB:((i:Int)+(m:Int)).toNat=i+m:=by omega
 have Oa:¬ (c=i+m):=by omega
 have hb3:(i:Int)<=(n:Int)+(m:Int):=by omega
 have hb4:¬ (c=i):=by omega
 have Yi:(n - i)*k=n*k - i*k:=gH _ _ _
 have Y2:∀ ty dc sc,(Builtin.copy_ #[(ρ.t 24),(ρ.t 24)] ty #[.slice (some ⟨b,off+(i+m)*k,none⟩) (n+m - (i+m)) dc,.slice (some ⟨b,off+i*k,none⟩) (n+m - i) sc]).run P w.drew=.ok (goInt (Nat.min (n+m - i) (n+m - (i+m)))) (w.drew.setCells b (off+(i+m)*k) (cs.drop (i*k))):=λty dc sc=>
  yW w.drew _ _ ty (ρ.t 9) inf b (off+(i+m)*k) (n+m - (i+m)) dc ⟨b,off+i*k,none⟩ (n+m - i) sc (cs.drop (i*k)) L.t24 L.i9 (by rw[Si,L.is];congr 1;simp only[iU];split <;> omega)
   (λj v hj=>by rw[Addr.add_lit,cE];exact oH (i*k+j) v (by rwa [bL] at hj))
   (λj hj=>by rw[cE];exact n8 _ (by omega)) (λj hj=>by rw[cE];exact Jp _ (by omega)) (λv hv=>OG v (dH hv))
 obtain ⟨W1,xn⟩:∃ W1,W1=w.drew.setCells b (off+(i+m)*k) (cs.drop (i*k)):=⟨_,rfl⟩
 have abw:∀ t,t < (n+m)*k->(W1.cell? ⟨b,off+t,none⟩).isSome=true:=λt ht=>by
  rw[xn];exact tL b _ _ _ (λj hj=>by rw[cE];exact n8 _ (by omega)) _ (n8 t ht)
 have abx:∀ (W:World),(∀ x,W.cell? x=W1.cell? x)->(∀ x,W.frozen? x=W1.frozen? x)->∀ ty dc,(Builtin.copy_ #[(ρ.t 24),(ρ.t 24)] ty #[.slice (some ⟨b,off+i*k,none⟩) (n+m - i) dc,.slice (some ⟨vb,pg,none⟩) m vc]).run P W=.ok (goInt (Nat.min m (n+m - i))) (W.setCells b (off+i*k) vs):=λW Jr SC ty dc=>
  yW W _ _ ty (ρ.t 9) inf b (off+i*k) (n+m - i) dc ⟨vb,pg,none⟩ m vc vs L.t24 L.i9 (by rw[zF,L.is];congr 1;simp only[iU];split <;> omega)
   (λj v hj=>by
    rw[Addr.add_lit,Jr,xn,World.cell?_setCells_out b _ _ _ _ (λh _=>absurd h Wo)]
    exact DU j v hj)
   (λj hj=>by rw[Jr,cE];exact abw _ (by omega)) (λj hj=>by rw[SC,xn,World.frozen?_setCells,cE];exact Jp _ (by omega)) YZ
 rw[<-xn] at Y2;obtain ⟨_,_,FG⟩:=L.f22
 go_enter FG,Body2.n22_ntmps ρ
 go_wp2_with (simp only[RU])
 go_region_law_o (refine E3 rfl _ _ (ρ.t 24) (ρ.t 24) rfl _ _ (by simp[Act.eval,Act.put]) (by simp[Act.eval,Act.put]) (Y2 _ _ _) ?_)
 go_wp2_with (at_builtin;refine yB _ rfl _ _ (ρ.t 24) (ρ.t 24) rfl _ _ rfl rfl (abx _ (λ_=>rfl) (λ_=>rfl) _ _) ?_)
 go_ret
 first | exact ⟨rfl,rfl⟩ | exact ⟨rfl,by rw[xn]⟩
set_option maxHeartbeats 4000000 in
set_option maxRecDepth 100000 in
theorem OH {k:Nat} {inf:TypeInfo} {zv:Value} (L:Aa P ρ k inf zv) (base:Option Addr) (n c m vc:Nat) (ya:Option Addr) (w w':World) (v':Value) (hm:0 < m) (hnc:n<=c) (YY:c<=9223372036854775807) (rh:base=none->c=0) (hb:∀ ad,base=some ad->ad.spot=none)
  (gc:∀ ty,(Builtin.append_ #[(ρ.t 24),(ρ.t 24)] ty #[.slice base n c,.slice ya m vc]).run P w=.ok v' w') :
  Calls P (ρ.f 22) #[.slice base n c,.int .i64 n,.slice ya m vc] w λe w2=>e=.returned v'/\w2=w':=by
 have t3:=L.t3;have a3:=L.a3;have z3:=L.z3;have v3:=L.v3;have t4:=L.t4;have a4:=L.a4;have z4:=L.z4;have v4:=L.v4;have z9:=L.z9;have t24:=L.t24;have a24:=L.a24;have z24:=L.z24;have v24:=L.v24
 have u3:=run_underlying L.t3;have u4:=run_underlying L.t4;have Y0:=run_underlying L.t24
 have mixed:=L.mixed;have wJ:¬ ((m:Int)=0):=by omega
 obtain ⟨_,_,FG⟩:=L.f22
 cases base with
 | none=>
  have h0:=rh rfl;subst h0;have zQ:n=0:=by omega
  subst zQ
  go_enter FG,Body2.n22_ntmps ρ
  go_wp2_with (at_builtin;refine Lib.wpList_append_run _ rfl _ _ _ _ rfl _ _ rfl rfl _ _ (gc _) ?_)
  go_ret
  exact ⟨rfl,rfl⟩
 | some a=>
  obtain ⟨ab,ao,asp⟩:=a;have:=hb _ rfl;simp only at this;subst this
  go_enter FG,Body2.n22_ntmps ρ
  go_wp2_with (at_builtin;refine Lib.wpList_append_run _ rfl _ _ _ _ rfl _ _ rfl rfl _ _ (gc _) ?_)
  all_goals (go_ret;exact ⟨rfl,rfl⟩)
set_option maxHeartbeats 4000000 in
set_option maxRecDepth 100000 in
theorem Uy {k:Nat} {inf:TypeInfo} {zv:Value} (L:Aa P ρ k inf zv) (base:Option Addr) (n c i vc:Nat) (ya:Option Addr) (w:World) (gg:i<=n) (hnc:n<=c) (YY:c<=9223372036854775807) (rh:base=none->c=0) (hb:∀ ad,base=some ad->ad.spot=none) :
  Calls P (ρ.f 22) #[.slice base n c,.int .i64 i,.slice ya 0 vc] w λe w2=>e=.returned (.slice base n c)/\w2=w:=by
 have t3:=L.t3;have a3:=L.a3;have z3:=L.z3;have v3:=L.v3;have t4:=L.t4;have a4:=L.a4;have z4:=L.z4;have v4:=L.v4;have z9:=L.z9;have t24:=L.t24;have a24:=L.a24;have z24:=L.z24;have v24:=L.v24
 have u3:=run_underlying L.t3;have u4:=run_underlying L.t4;have Y0:=run_underlying L.t24
 have mixed:=L.mixed;have hic:i<=c:=by omega
 obtain ⟨_,_,FG⟩:=L.f22
 cases base with
 | none=>
  have h0:=rh rfl;subst h0;have zQ:n=0:=by omega
  subst zQ;have OF:i=0:=by omega
  subst OF
  go_enter FG,Body2.n22_ntmps ρ
  go_wp2
  all_goals (go_ret;exact ⟨rfl,rfl⟩)
 | some a=>
  obtain ⟨ab,ao,asp⟩:=a;have:=hb _ rfl;simp only at this;subst this
  go_enter FG,Body2.n22_ntmps ρ
  go_wp2
  all_goals (go_ret;exact ⟨rfl,rfl⟩)
set_option maxHeartbeats 4000000 in
set_option maxRecDepth 100000 in
theorem Uz {k:Nat} {inf:TypeInfo} {zv:Value} (L:Aa P ρ k inf zv) (b off n c i vb pg m vc:Nat) (cs vs:List Value) (w:World) (hi:i < n) (hm:0 < m) (hnc:n<=c) (pK:c < n+m) (Iy:(n+m)*inf.bytes<=140737488355328) (hbg:n+m<=9223372036854775807)
  (wb:cs.length=n*k) (zF:vs.length=m*k)
  (oH:∀ j v,cs[j]?=some v->w.cell? ⟨b,off+j,none⟩=some v)
  (DU:∀ j v,vs[j]?=some v->w.cell? ⟨vb,pg+j,none⟩=some v) (OG:∀ v ∈ cs,v.oneCell'=true) (YZ:∀ v ∈ vs,v.oneCell'=true) :
  Calls P (ρ.f 22) #[.slice (some ⟨b,off,none⟩) n c,.int .i64 i,.slice (some ⟨vb,pg,none⟩) m vc] w λe w'=>
   e=.returned (.slice (some ⟨w.heap.size,0,none⟩) (n+m) (grownCap w (n+m) c (ρ.t 9))) /\
   w'=(((w.alloc (.cells ((cs.take (i*k)).toArray++Builtin.zeroCells zv.cells (n+m - i)++Builtin.zeroCells zv.cells (grownCap w (n+m) c (ρ.t 9) - (n+m))) (ρ.t 9))).drew.setCells w.heap.size (i*k) vs).drew).setCells w.heap.size ((i+m)*k) (cs.drop (i*k)):=by
 have t3:=L.t3;have a3:=L.a3;have z3:=L.z3;have v3:=L.v3;have t4:=L.t4;have a4:=L.a4;have z4:=L.z4;have v4:=L.v4;have z9:=L.z9;have t24:=L.t24;have a24:=L.a24;have z24:=L.z24;have v24:=L.v24
 have u3:=run_underlying L.t3;have u4:=run_underlying L.t4;have Y0:=run_underlying L.t24
 have mixed:=L.mixed;have hk:=L.hk;have wJ:¬ ((m:Int)=0):=by omega
 have zO:¬ ((i:Int)=(n:Int)):=by omega
 have Y3:(c:Int) < (n:Int)+(m:Int):=by omega
 have hmk:i*k+m*k=(i+m)*k:=by rw[cI]
 have hnm:n*k+m*k=(n+m)*k:=by rw[cI]
 have aca:i*k < n*k:=jG hi hk;have Y1:1<=m*k:=gW hm hk;have hbw:b < w.heap.size:=block_lt_of_cell (oH 0 _ (aB (by omega)));have hvw:vb < w.heap.size:=block_lt_of_cell (DU 0 _ (aB (by omega)));have DB:(n:Int)+(m:Int) - (i:Int)=((n+m - i:Nat):Int):=by omega
 have Hg:i+(n+m - i)=n+m:=by omega
 have hold:(Builtin.firstCells inf.size i (.slice (some ⟨b,off,none⟩) i c)).run P w.drew=.ok (cs.take (i*k)).toArray w.drew:=by
  rw[L.is]
  exact run_firstCells_some w.drew k i ⟨b,off,none⟩ i c (cs.take (i*k)) (by rw[bP];omega) (λj v hj=>by
   rw[Addr.add_lit];rw[bJ] at hj;split at hj
   ·exact oH j v hj
   ·cases hj)
 have Y4:(n+m - i)*inf.bytes<=281474976710656:=bO (bD _ (by omega)) (bO Iy (by decide))
 have Wp:∀ ty,(Builtin.append_ #[(ρ.t 24),(ρ.t 3)] ty #[.slice (some ⟨b,off,none⟩) i c,.int .i64 ((n:Int)+(m:Int) - (i:Int))]).run P w =
   .ok (.slice (some ⟨w.heap.size,0,none⟩) (n+m) (grownCap w (n+m) c (ρ.t 9))) (w.drew.alloc (.cells ((cs.take (i*k)).toArray++Builtin.zeroCells zv.cells (n+m - i)++Builtin.zeroCells zv.cells (grownCap w (n+m) c (ρ.t 9) - (n+m))) (ρ.t 9))):=λty=>by
  have h:=Lib.run_append_grow_zeros w (ρ.t 24) (ρ.t 3) ty (ρ.t 9) inf _ .i64 .i64 L.t24 L.t3 L.i9 L.iz (some ⟨b,off,none⟩) i c (cs.take (i*k)) hold (n+m - i) (by omega) (by rw[L.is];omega) (by omega) (by omega) Y4 (by rw[Hg];exact growslice_fits pK Iy);rw[Hg] at h;rw[DB];exact h
 obtain ⟨G,hG⟩:∃ G,G=grownCap w (n+m) c (ρ.t 9):=⟨_,rfl⟩
 obtain ⟨rj,FV⟩:∃ rj:Array Value,rj=(cs.take (i*k)).toArray++Builtin.zeroCells zv.cells (n+m - i)++Builtin.zeroCells zv.cells (G - (n+m)):=⟨_,rfl⟩
 rw[<-hG] at Wp ⊢;rw[<-FV] at Wp ⊢;have acb:(n+m - i)*k=(n+m)*k - i*k:=gH _ _ _
 have hRl:(n+m)*k<=rj.size:=by
  rw[FV];have e1:(Builtin.zeroCells zv.cells (n+m - i)).size=(n+m - i)*k:=by simp[Builtin.zeroCells,L.ik]
  have e2:(cs.take (i*k)).length=i*k:=by rw[bP,wb];omega
  simp only[fD,dQ,e1,e2];omega
 obtain ⟨W1,xn⟩:∃ W1,W1=w.drew.alloc (.cells rj (ρ.t 9)):=⟨_,rfl⟩
 rw[<-xn] at Wp
 have hN:∀ j,j < (n+m)*k->(W1.cell? ⟨w.heap.size,j,none⟩).isSome=true:=λj hj=>by
  rw[xn,World.cell?_alloc_at (w:=w.drew) rj _ w.heap.size j rfl,cN (by omega)];rfl
 have hNf:∀ j,W1.frozen? ⟨w.heap.size,j,none⟩=false:=λj=>by rw[xn];exact World.frozen?_alloc_at (w:=w.drew) rj _ w.heap.size j rfl
 have hOb:∀ j v,w.cell? ⟨b,j,none⟩=some v->W1.cell? ⟨b,j,none⟩=some v:=λj v h=>by rw[xn,World.cell?_alloc_past (w:=w.drew) _ b j hbw];exact h
 have hOv:∀ j v,w.cell? ⟨vb,j,none⟩=some v->W1.cell? ⟨vb,j,none⟩=some v:=λj v h=>by rw[xn,World.cell?_alloc_past (w:=w.drew) _ vb j hvw];exact h
 have aby:∀ (W:World),(∀ x,W.cell? x=W1.cell? x)->(∀ x,W.frozen? x=W1.frozen? x)->∀ ty dc,(Builtin.copy_ #[(ρ.t 24),(ρ.t 24)] ty #[.slice (some ⟨w.heap.size,i*k,none⟩) (n+m - i) dc,.slice (some ⟨vb,pg,none⟩) m vc]).run P W=.ok (goInt (Nat.min m (n+m - i))) (W.setCells w.heap.size (i*k) vs):=λW Jr SC ty dc=>
  yW W _ _ ty (ρ.t 9) inf w.heap.size (i*k) (n+m - i) dc ⟨vb,pg,none⟩ m vc vs L.t24 L.i9 (by rw[zF,L.is];congr 1;simp only[iU];split <;> omega)
   (λj v hj=>by rw[Addr.add_lit,Jr];exact hOv _ v (DU j v hj))
   (λj hj=>by rw[Jr];exact hN _ (by omega)) (λj hj=>by rw[SC];exact hNf _) YZ
 have hGn:n+m<=G:=by rw[hG];exact grownCap_ge w _ _ _
 have acd:G<=9223372036854775807:=by
  have:=grownCap_le_maxLen w (n+m) c (ρ.t 9) (by unfold maxLen;omega);rw[<-hG] at this;unfold maxLen at this;omega
 have VI:¬ (G=i):=by omega
 have ace:¬ (G=i+m):=by omega
 have hci:¬ (c=i):=by omega
 have hbN:b≠w.heap.size:=by omega
 have Yi:(n - i)*k=n*k - i*k:=gH _ _ _;have Si:(cs.drop (i*k)).length=(n - i)*k:=by rw[bI,wb,gH]
 have Y5:∀ (W:World),(∀ x,W.cell? x=(W1.setCells w.heap.size (i*k) vs).cell? x)->(∀ x,W.frozen? x=(W1.setCells w.heap.size (i*k) vs).frozen? x)->∀ ty dc sc,(Builtin.copy_ #[(ρ.t 24),(ρ.t 24)] ty #[.slice (some ⟨w.heap.size,(i+m)*k,none⟩) (n+m - (i+m)) dc,.slice (some ⟨b,off+i*k,none⟩) (n - i) sc]).run P W=.ok (goInt (Nat.min (n - i) (n+m - (i+m)))) (W.setCells w.heap.size ((i+m)*k) (cs.drop (i*k))):=λW Jr SC ty dc sc=>
  yW W _ _ ty (ρ.t 9) inf w.heap.size ((i+m)*k) (n+m - (i+m)) dc ⟨b,off+i*k,none⟩ (n - i) sc (cs.drop (i*k)) L.t24 L.i9 (by rw[Si,L.is];congr 1;simp only[iU];split <;> omega)
   (λj v hj=>by
    rw[Addr.add_lit,Jr,World.cell?_setCells_out _ _ _ _ _ (λh _=>absurd h hbN),cE]
    exact hOb _ v (oH (i*k+j) v (by rwa [bL] at hj)))
   (λj hj=>by rw[Jr];exact tL _ _ _ _ (λt ht=>hN _ (by omega)) _ (hN _ (by omega)))
   (λj hj=>by rw[SC,World.frozen?_setCells];exact hNf _) (λv hv=>OG v (dH hv))
 subst xn;have hE1:∀ x,((w.alloc (.cells rj (ρ.t 9))).drew).cell? x=(w.drew.alloc (.cells rj (ρ.t 9))).cell? x:=λx=>rfl;have hE2:∀ x,((w.alloc (.cells rj (ρ.t 9))).drew).frozen? x=(w.drew.alloc (.cells rj (ρ.t 9))).frozen? x:=λx=>rfl;have GD:∀ x,(((w.alloc (.cells rj (ρ.t 9))).drew.setCells w.heap.size (i*k) vs).drew).cell? x=((w.drew.alloc (.cells rj (ρ.t 9))).setCells w.heap.size (i*k) vs).cell? x:=λx=>rfl;have Lf:∀ x,(((w.alloc (.cells rj (ρ.t 9))).drew.setCells w.heap.size (i*k) vs).drew).frozen? x=((w.drew.alloc (.cells rj (ρ.t 9))).setCells w.heap.size (i*k) vs).frozen? x:=λx=>rfl;have wL:IntKind.i64.wrap ((i:Int)+(m:Int))=(i:Int)+(m:Int):=by rw[IntKind.wrap_i64];omega
 have Rm:(0:Int)<=(i:Int)+(m:Int):=by omega
 have gg:i<=n:=by omega
 have SB:((i:Int)+(m:Int)).toNat=i+m:=by omega
 have hb3:(i:Int)<=(n:Int):=by omega
 clear DB Hg hold FV hG hRl Y4 Iy;obtain ⟨_,_,FG⟩:=L.f22
 go_enter FG,Body2.n22_ntmps ρ
 go_wp2_with (first
  | (at_builtin;refine Lib.wpList_append_run _ rfl _ _ _ _ rfl _ _ rfl rfl _ _ (Wp _) ?_)
  | (at_builtin;refine yB _ rfl _ _ (ρ.t 24) (ρ.t 24) rfl _ _ rfl rfl (aby _ hE1 hE2 _ _) ?_)
  | (at_builtin;refine yB _ rfl _ _ (ρ.t 24) (ρ.t 24) rfl _ _ rfl rfl (Y5 _ (λ_=>rfl) (λ_=>rfl) _ _ _) ?_))
 go_region_law_o (refine E3 rfl _ _ (ρ.t 24) (ρ.t 24) rfl (.slice (some ⟨w.heap.size,(i+m)*k,none⟩) (n+m - (i+m)) (G - (i+m))) (.slice (some ⟨b,off+i*k,none⟩) (n - i) (c - i)) (by simp[Act.eval,Act.put]) (by simp[Act.eval,Act.put]) (Y5 _ GD Lf (ρ.t 3) (G - (i+m)) (c - i)) ?_)
 go_wp2
 go_ret
 exact ⟨rfl,rfl⟩
theorem Iz {i:TypeId} {v:Value} (h:(P.info? i).bind (·.zero)=some v) (w:World):(zeroValue i).run P w=.ok v w:=by
 cases hi:P.info? i with
 | none=>rw[hi] at h;cases h
 | some inf=>
  rw[hi] at h;simp[zeroValue,typeInfo,hi,show inf.zero=some v from h]
theorem UA {i:TypeId} (h:be P .bool (.inl i)=true):P.underlying i=some .bool:=by
 simp only[be,aE] at h;have h2:=h.2;split at h2
 ·assumption
 ·cases h2
theorem Hf.facts {e:Ty} (L:Hf P ρ e) (h1:1<=e.sz):∃ inf zv,Aa P ρ e.sz inf zv/\inf.bytes<=512:=by
 obtain ⟨inf,zv,i1,i2,i3,i4,i5,_⟩:=vw (lH L.l9);exact ⟨inf,zv,⟨L.mixed,L.f22,L.f29,pw L.l3,λw=>wa L.l3,λw=>run_sizeOf L.l3,Iz L.z3,UA L.l4,λw=>wa L.l4,λw=>run_sizeOf L.l4,Iz L.z4,L.t24,λw=>wa L.l24,λw=>run_sizeOf L.l24,Iz L.z24,λw=>run_sizeOf L.l9,i1,i2,i4,i5,h1⟩,i3⟩
def PX (e:Ty) (v:List e.den×Int×List e.den×Unit):Option (List e.den×Unit):=if 0<=v.2.1/\v.2.1<=(v.1.length:Int)/\v.1.length+v.2.2.1.length<=cc then some (v.1.take v.2.1.toNat++v.2.2.1++v.1.drop v.2.1.toNat,()) else none
theorem LN {w':World} {A:Cells} {e:Ty} (hs:ta e=true) {b cap:Nat} {vs:List e.den} {news:List Value} {F1:FP} (ke:cap<=maxLen) (fa:ge w' b (cap*e.sz,xt e)) (hlen:List.length vs<=cap) (yy:Has w' b 0 news)
  (pH:∀ (i:Nat) (y:e.den),vs[i]?=some y->(news.drop (i*e.sz)).take e.sz=mX e y) (hF:∀ b' i,b_ b 0 (cap*e.sz) b' i<=F1 b' i) :
  ap P w' A (.U e) (an (.U e)) [] vs [.slice (some ⟨b,0,none⟩) (List.length vs) cap] F1:=by
 simp only[ap,hole,bU,aF,aL,an,sW,Md.own,aI,Md.e];refine ⟨some ⟨b,0,none⟩,cap,rfl,hlen,ke,(λe=>by cases e),λad e2=>?_⟩
 injection e2 with e2;subst e2;refine ⟨rfl,rfl,fa,λ_ _ _=>0,λx i=>by rw[mK];exact hF x i,λi y hy=>⟨mX e y,Ro.length e (tK (P:=P) (w:=w') (A:=A) e hs y),λj u hu=>?_,Ro.flat e _ (yk e hs) (tK e hs y)⟩⟩
 rw[<-pH i y hy,bJ] at hu;split at hu
 ·rw[bL] at hu;have:=yy _ u hu;rw[bE] at this;exact this
 ·cases hu
theorem LO {e:Ty} {v y:List e.den} {ey news:List Value} (hl:ey.length=List.length v*e.sz)
  (h1:∀ (i:Nat) (z:e.den),v[i]?=some z->(ey.drop (i*e.sz)).take e.sz=mX e z) (h2:∀ (i:Nat) (z:e.den),y[i]?=some z->(news.drop (i*e.sz)).take e.sz=mX e z) :
  ∀ (i:Nat) (z:e.den),(v++y)[i]?=some z->((ey++news).drop (i*e.sz)).take e.sz=mX e z:=by
 intro i z hz;by_cases hi:i < List.length v
 ·rw[bW hi] at hz;have h6:i*e.sz+e.sz<=List.length v*e.sz:=by rw[<-fB];exact bD _ (by omega)
  rw[dL (by omega),dK (by simp;omega)];exact h1 i z hz
 ·rw[bV (by omega)] at hz;have h6:List.length v*e.sz<=i*e.sz:=bD _ (by omega);rw[gY,dR (by omega),bT,hl,<- gH];exact h2 _ z hz
theorem SE {e:Ty} (L:Hf P ρ e) (hs:ta e=true) (hu:xt e=false) (h1:1<=e.sz) (he:tU P (ρ.f 22) false) :
  Ok P (ρ.f 22) { ps:=[(.nc (an (.U e)),.U e),(.ro,.int .i64),(.ro,.U e)],rs:=[(.U e,an (.U e))],F:=PX e }:=by
 obtain ⟨inf,zv,LF,KU⟩:=L.facts h1;refine ⟨?_,he⟩
 intro w A F0 v xs lj hle um z_ FR out kf;obtain ⟨vs,i,ys,⟨⟩⟩:=v;obtain ⟨x,K5,F1,F2,rfl,hF,⟨H,cs,hH,rfl,e_⟩,x2,xs2,F3,F4,rfl,Lf,⟨cz,rfl,hi⟩,x3,YT,F5,F6,rfl,hF3,⟨Je,rfl,hy⟩,rh⟩:=lj;obtain rfl:=bN.1 hH;have rh:YT=[]:=rh;subst rh;have hi:cz=[.int .i64 i]:=hi;subst hi;have hy:Ro P w A (.U e) ys Je:=hy;have kf:PX e (vs,i,ys,())=some out:=kf;unfold PX at kf;split at kf;rotate_left
 ·cases kf
 rename_i hb;obtain ⟨b1,b2,b3⟩:=hb;simp only at b1 b2 b3 kf;injection kf with kf;subst kf;obtain ⟨ni,rfl⟩:=dM b1;simp only[aH];have gg:ni<=List.length vs:=by omega
 unfold cc at b3;obtain ⟨xa,cap,ey,Fi,r1,r2,r3,r4,r5,r6,r7,r8⟩:=yd (v:=vs) e_;obtain ⟨c1,c2,c3,c4⟩:=r8 rfl;subst r1;have hyr:ap P w A (.U e) (ax (.U e)) [] ys Je (λ_ _=>0):=Ro.rep _ _ (f_ _) hy;obtain ⟨ya,vS,news,Gi,s1,s2,s3,s4,s5,s6,s7,_⟩:=yd (v:=ys) hyr;subst s1;have sI:cap<=9223372036854775807:=by unfold maxLen at c2;omega
 have hx:(ci (.U e) [.slice xa (List.length vs) cap]::[ci (.int .i64) [.int .i64 (ni:Int)],ci (.U e) [.slice ya (List.length ys) vS]]).toArray=#[.slice xa (List.length vs) cap,.int .i64 ni,.slice ya (List.length ys) vS]:=rfl;show Calls P (ρ.f 22) (ci (.U e) [.slice xa (List.length vs) cap]::[ci (.int .i64) [.int .i64 (ni:Int)],ci (.U e) [.slice ya (List.length ys) vS]]).toArray w _;rw[hx];have Y6:∀ (t:Nat) (z:e.den),vs[t]?=some z->(ey.drop (t*e.sz)).take e.sz=mX e z:=λt z hz=>LG e hs (ap.flat e (yk e hs) (r6 t z hz));have PC:∀ (t:Nat) (z:e.den),ys[t]?=some z->(news.drop (t*e.sz)).take e.sz=mX e z:=λt z hz=>LG e hs (ap.flat e (yk e hs) (s6 t z hz));have Y7:(ey.take (ni*e.sz)).length=(vs.take ni).length*e.sz:=by rw[bP,bP,r4,fF gg,fF (bD _ gg)]
 have yc:∀ (t:Nat) (z:e.den),(vs.take ni++ys++vs.drop ni)[t]?=some z->((ey.take (ni*e.sz)++news++ey.drop (ni*e.sz)).drop (t*e.sz)).take e.sz=mX e z:=
  LO (by rw[aR,aR,Y7,s4,cI]) (LO Y7 (λt z hz=>by
   rw[bJ] at hz;split at hz
   ·have:=Y6 t z hz;have h6:t*e.sz+e.sz<=ni*e.sz:=by rw[<-fB];exact bD _ (by omega)
    rw[eO,fK,fF (by omega)];exact this
   ·cases hz) PC) (λt z hz=>by
   rw[bL] at hz;have:=Y6 (ni+t) z hz;rw[dA,<- cI]
   exact this)
 have C8:List.length (vs.take ni++ys++vs.drop ni)=List.length vs+List.length ys:=by simp;omega
 have xA:∀ (w':World) (rv:Value) (GR:FP),Ext w w' F0->(∀ b i,GR b i<=F0 b i\/(w.heap.size<=b/\b < w'.heap.size/\GR b i<=1))->(∃ cs,rv=ci (.U e) cs/\ap P w' A (.U e) (an (.U e)) [] (vs.take ni++ys++vs.drop ni) cs GR) ->
   ∃ AI,Ending.returned rv=.returned AI/\Ext w w' F0/\∃ (A':Cells) (G GR GM:FP),(∀ b i,A b i->A' b i)/\(∀ b i,A' b i->A b i\/1<=F0 b i\/w.heap.size<=b)/\(∀ b i,1<=G b i->1<=F0 b i\/w.heap.size<=b)/\(∀ b i,G b i<=1)/\(∀ b i,1<=G b i->¬ A' b i)/\(∀ b i,1<=G b i\/A' b i->b < w'.heap.size)/\(∀ b i,GR b i+GM b i<=G b i) /\
   mS P w' A' [⟨.U e,an (.U e),vs.take ni++ys++vs.drop ni⟩] AI GR/\m8 P w' A' [(.nc (an (.U e)),.U e),(.ro,.int .i64),(.ro,.U e)] () [ci (.U e) [.slice xa (List.length vs) cap],ci (.int .i64) [.int .i64 (ni:Int)],ci (.U e) [.slice ya (List.length ys) vS]] GM:=λw' rv GR dr E2 hr=>
  ⟨_,rfl,dr,A,GR,GR,λ_ _=>0,λ_ _ h=>h,λ_ _ h=>.inl h,λb i h=>by
   rcases E2 b i with h2 | h2
   ·exact .inl (by omega)
   ·exact .inr h2.1,λb i=>by
   rcases E2 b i with h2 | h2
   ·have:=hle b i;omega
   ·exact h2.2.2,λb i h ha=>by
   rcases E2 b i with h2 | h2
   ·exact um b i (by omega) ha
   ·have:=z_ b i (.inr ha);omega,λb i h=>by
   rcases h with h | h
   ·rcases E2 b i with h2 | h2
    ·exact cP (z_ b i (.inl (by omega))) dr.size
    ·exact h2.2.1
   ·exact cP (z_ b i (.inr h)) dr.size,λb i=>aN _,hr,trivial⟩
 by_cases RS:List.length ys=0
 ·have hys:ys=[]:=bH RS;rw[RS];refine (Uy LF xa (List.length vs) cap ni vS ya w gg c1 sI c3 (λad fk=>(c4 ad fk).2.1)).mono ?_;rintro ex w' ⟨rfl,rfl⟩;rw[RS] at xA;refine xA _ _ F1 (Ext.refl _ _) (λb i=>.inl (by have:=hF b i;omega)) ⟨_,(db _ _ rfl).symm,?_⟩;rw[hys,cD,cR];exact e_
 ·have hm:0 < List.length ys:=by omega
  cases ya with
  | none=>have:=s2.2 rfl;omega
  | some wI=>
   obtain ⟨vb,pg,vsp⟩:=wI;obtain ⟨y1,y2⟩:=s3 _ rfl;have n8:vsp=none:=y1 (by have:=s2.1;omega);subst n8;simp only at y2;have DU:∀ j u,news[j]?=some u->w.cell? ⟨vb,pg+j,none⟩=some u:=λj u my=>qU (y2 j u my) (s5 u (cA my))
   have Iv:Src P inf.size (ρ.t 24) (.slice (some ⟨vb,pg,none⟩) (List.length ys) vS) (List.length ys) news w:=by
    rw[LF.is];exact Src.ofSlice w LF.t24 ⟨vb,pg,none⟩ (List.length ys) vS news s4 (λj u hj=>by rw[Addr.add_lit];exact DU j u hj) s5
   have Iy:(List.length vs+List.length ys)*inf.bytes<=140737488355328:=bO (gW b3 KU) (by decide)
   have PY:∀ (w':World) (cap':Nat),Ext w w' (λ_ _=>0)->w.heap.size < w'.heap.size->List.length vs+List.length ys<=cap'->cap'<=maxLen->ge w' w.heap.size (cap'*e.sz,xt e)->Has w' w.heap.size 0 (ey.take (ni*e.sz)++news++ey.drop (ni*e.sz)) ->
     ∃ AI,Ending.returned (.slice (some ⟨w.heap.size,0,none⟩) (List.length vs+List.length ys) cap')=.returned AI/\Ext w w' F0/\∃ (A':Cells) (G GR GM:FP),(∀ b i,A b i->A' b i)/\(∀ b i,A' b i->A b i\/1<=F0 b i\/w.heap.size<=b)/\(∀ b i,1<=G b i->1<=F0 b i\/w.heap.size<=b)/\(∀ b i,G b i<=1)/\(∀ b i,1<=G b i->¬ A' b i)/\(∀ b i,1<=G b i\/A' b i->b < w'.heap.size)/\(∀ b i,GR b i+GM b i<=G b i) /\
   mS P w' A' [⟨.U e,an (.U e),vs.take ni++ys++vs.drop ni⟩] AI GR/\m8 P w' A' [(.nc (an (.U e)),.U e),(.ro,.int .i64),(.ro,.U e)] () [ci (.U e) [.slice xa (List.length vs) cap],ci (.int .i64) [.int .i64 (ni:Int)],ci (.U e) [.slice (some ⟨vb,pg,none⟩) (List.length ys) vS]] GM:=λw' cap' dr am AA we ho hh=>
    xA w' _ (b_ w.heap.size 0 (cap'*e.sz)) (dr.mono λ_ _ _=>rfl) (λb i=>by
     simp only[b_];split
     ·rename_i hq;obtain ⟨rfl,_⟩:=hq;exact .inr ⟨aN _,am,aN _⟩
     ·exact .inl (aY _)) ⟨_,(db _ _ rfl).symm,by rw[<-C8];exact LN hs we ho (by rw[C8];exact AA) hh yc (λ_ _=>aN _)⟩
   have xZ:∀ (w':World) (b:Nat),xa=some ⟨b,0,none⟩->Ext w w' (b_ b 0 (cap*e.sz))->List.length vs+List.length ys<=cap->Has w' b 0 (ey.take (ni*e.sz)++news++ey.drop (ni*e.sz)) ->
     ∃ AI,Ending.returned (.slice (some ⟨b,0,none⟩) (List.length vs+List.length ys) cap)=.returned AI/\Ext w w' F0/\∃ (A':Cells) (G GR GM:FP),(∀ b i,A b i->A' b i)/\(∀ b i,A' b i->A b i\/1<=F0 b i\/w.heap.size<=b)/\(∀ b i,1<=G b i->1<=F0 b i\/w.heap.size<=b)/\(∀ b i,G b i<=1)/\(∀ b i,1<=G b i->¬ A' b i)/\(∀ b i,1<=G b i\/A' b i->b < w'.heap.size)/\(∀ b i,GR b i+GM b i<=G b i) /\
   mS P w' A' [⟨.U e,an (.U e),vs.take ni++ys++vs.drop ni⟩] AI GR/\m8 P w' A' [(.nc (an (.U e)),.U e),(.ro,.int .i64),(.ro,.U e)] () [ci (.U e) [.slice xa (List.length vs) cap],ci (.int .i64) [.int .i64 (ni:Int)],ci (.U e) [.slice (some ⟨vb,pg,none⟩) (List.length ys) vS]] GM:=λw' b x_ dr AA hh=>by
    obtain ⟨_,_,q3,q4⟩:=c4 _ x_;simp only at q3 q4
    exact xA w' _ (b_ b 0 (cap*e.sz)) (dr.mono λb' i h0=>by have:=q4 b' i;have:=hF b' i;omega) (λb' i=>.inl (by have:=q4 b' i;have:=hF b' i;omega))
     ⟨_,(db _ _ rfl).symm,by rw[<-C8];exact LN hs c2 (dr.ub _ _ q3) (by rw[C8];exact AA) hh yc (λ_ _=>aN _)⟩
   have hk:=h1;have hmk:ni*e.sz+List.length ys*e.sz=(ni+List.length ys)*e.sz:=by rw[cI]
   have hnm:List.length vs*e.sz+List.length ys*e.sz=(List.length vs+List.length ys)*e.sz:=by rw[cI]
   have Y1:1<=List.length ys*e.sz:=gW hm h1;have acf:ni*e.sz<=List.length vs*e.sz:=bD _ gg;have uz:(ey.take (ni*e.sz)).length=ni*e.sz:=by rw[bP,r4];omega
   have Ob:(ey.drop (ni*e.sz)).length=List.length vs*e.sz - ni*e.sz:=by rw[bI,r4]
   have ut:∀ (w1 w2 w3:World) (b:Nat),b < w1.heap.size->Ext w1 w2 (b_ b ((ni+List.length ys)*e.sz) (ey.drop (ni*e.sz)).length)->Has w2 b ((ni+List.length ys)*e.sz) (ey.drop (ni*e.sz))->Ext w2 w3 (b_ b (ni*e.sz) news.length)->Has w3 b (ni*e.sz) news ->
     Has w1 b 0 (ey.take (ni*e.sz))->Has w3 b 0 (ey.take (ni*e.sz)++news++ey.drop (ni*e.sz)):=λw1 w2 w3 b hb x1 g1 x2 g2 g0 t u my=>by
    rw[bE];by_cases ht:t < ni*e.sz
    ·rw[bK,bW (by omega)] at my;have h5:=g0 t u my;rw[bE] at h5;exact x2.cell b t (cP hb x1.size) (by simp only[b_];rw[bB (by omega)]) u (x1.cell b t hb (by simp only[b_];rw[bB (by omega)]) u h5)
    ·by_cases VU:t < (ni+List.length ys)*e.sz
     ·rw[bW (by rw[aR,uz,s4];omega),bV (by omega),uz] at my;have h5:=g2 _ u my;rw[show ni*e.sz+(t - ni*e.sz)=t by omega] at h5;exact h5
     ·rw[bV (by rw[aR,uz,s4];omega),aR,uz,s4] at my;have h5:=g1 _ u my;rw[show (ni+List.length ys)*e.sz+(t - (ni*e.sz+List.length ys*e.sz))=t by omega] at h5;exact x2.cell b t (cP hb x1.size) (by simp only[b_,s4];rw[bB (by omega)]) u h5
   have Wq:∀ u ∈ ey.drop (ni*e.sz),u.oneCell'=true:=λu my=>r5 u (dH my);by_cases yA:ni=List.length vs
   ·have nf:ey.take (ni*e.sz)=ey:=by rw[yA,<- r4];simp
    have Au:ey.drop (ni*e.sz)=[]:=by rw[yA,<- r4];simp
    rw[nf,Au,cD] at PY xZ;by_cases pK:List.length vs+List.length ys<=cap
    ·cases xa with
     | none=>have:=c3 rfl;omega
     | some ad=>
      obtain ⟨q1,q2,q3,q4⟩:=c4 ad rfl;obtain ⟨_,d5⟩:=r3 ad rfl;obtain ⟨b,off,sp⟩:=ad;simp only at q1 q2 q3 q4 d5;subst q1;subst q2;have zS:(List.length vs+List.length ys)*e.sz<=cap*e.sz:=bD _ pK
      have mR:∀ j,j < cap*e.sz->(w.cell? ⟨b,j,none⟩).isSome=true:=λj hj=>by
       obtain ⟨c,e',fr,w1,w2,w3⟩:=q3;unfold World.cell?;simp only[w1,eP,aF,aL];rw[cN (by simp only at w2;omega)];rfl
      have gc:∀ ty,_:=λty=>run_append_room_src (P:=P) w (ρ.t 24) (ρ.t 24) ty (ρ.t 9) inf LF.t24 LF.i9 b 0 (List.length vs) cap (.slice (some ⟨vb,pg,none⟩) (List.length ys) vS) (List.length ys) news Iv pK
       (λj hj=>by rw[LF.is,bE];exact mR _ (by omega)) (λj hj=>by rw[LF.is,bE];exact q3.frozen (by simp only;omega))
      rw[yA];refine (OH LF (some ⟨b,0,none⟩) (List.length vs) cap (List.length ys) vS (some ⟨vb,pg,none⟩) w _ _ hm c1 sI (λe=>by cases e) (λad fk=>by injection fk with fk;subst fk;rfl) gc).mono ?_;rintro ex w' ⟨rfl,rfl⟩;rw[LF.is,bE];have dr:=li (b:=b) (o:=List.length vs*e.sz) news w (List.length vs*e.sz)
      have:=xZ _ b rfl (dr.mono λb' t h0=>by
       simp only[b_] at h0 ⊢;split at h0
       ·cases h0
       ·rw[bB (by omega)]) pK (λt u my=>by
       rw[bE];by_cases ht:t < ey.length
       ·rw[bW ht] at my;have h5:=d5 t u my;rw[bE] at h5;exact dr.cell b t q3.lt (by simp only[b_];rw[bB (by omega)]) u h5
       ·rw[bV (by omega)] at my;have h5:=oI (w:=w) (b:=b) (o:=List.length vs*e.sz) (L:=news) (λk hk=>mR _ (by omega)) s5 _ u my;rw[show List.length vs*e.sz+(t - ey.length)=t by omega] at h5
        exact h5)
      rw[yA] at this;exact this
    ·have Oa:∀ ad,xa=some ad->ad.spot=none:=λad fk=>(c4 ad fk).2.1
     have PB:(Builtin.firstCells inf.size (List.length vs) (.slice xa (List.length vs) cap)).run P w.drew=.ok ey.toArray w.drew:=by
      cases xa with
      | none=>
       have h0:=r2.2 rfl;have:ey=[]:=bH (by rw[r4,h0,gJ]);subst this;exact run_firstCells_none w.drew inf.size (List.length vs) (List.length vs) cap
      | some ad=>
       obtain ⟨_,d4,_,_⟩:=c4 ad rfl;obtain ⟨_,d5⟩:=r3 ad rfl;obtain ⟨b,off,sp⟩:=ad;simp only at d4 d5;subst d4;exact run_firstCells_some w.drew inf.size (List.length vs) ⟨b,off,none⟩ (List.length vs) cap ey (by rw[LF.is];exact r4) (λj u my=>by rw[pu];exact qU (d5 j u my) (r5 u (cA my)))
     have gc:∀ ty,_:=λty=>run_append_grow_src (P:=P) w (ρ.t 24) (ρ.t 24) ty (ρ.t 9) inf zv LF.t24 LF.i9 LF.iz xa (List.length vs) cap ey PB (.slice (some ⟨vb,pg,none⟩) (List.length ys) vS) (List.length ys) news Iv (by omega) (by omega) (growslice_fits (by omega) Iy);rw[yA];refine (OH LF xa (List.length vs) cap (List.length ys) vS (some ⟨vb,pg,none⟩) w _ _ hm c1 sI c3 Oa gc).mono ?_;rintro ex w' ⟨rfl,rfl⟩;have DJ:=grownCap_ge w (List.length vs+List.length ys) cap (ρ.t 9);have Ot:=grownCap_le_maxLen w (List.length vs+List.length ys) cap (ρ.t 9) (by simp only[maxLen];omega)
     have ko:((ey++news).toArray++Builtin.zeroCells zv.cells (grownCap w (List.length vs+List.length ys) cap (ρ.t 9) - (List.length vs+List.length ys))).size=grownCap w (List.length vs+List.length ys) cap (ρ.t 9)*e.sz:=by
      rw[fD,size_zeroCells,LF.ik,dQ,aR,r4,s4,<- cI,<- cI];congr 1;omega
     have fa:=wc w.drew ((ey++news).toArray++Builtin.zeroCells zv.cells (grownCap w (List.length vs+List.length ys) cap (ρ.t 9) - (List.length vs+List.length ys))) (ρ.t 9) (0,0) (xt e) (.inr (aN _));rw[ko] at fa
     have:=PY _ _ ((uw w).trans (nG w.drew _) (λ_ _ _ _=>rfl)) (by simp[World.alloc]) DJ Ot fa (wd w.drew _ (ρ.t 9) (0,0) (λj u my=>by
      have am:=(aM.1 my).1;rw[bE,dI (by simpa using am)]
      simpa using my) (λu my=>by
      rcases cJ.1 my with h | h
      ·exact r5 u h
      ·exact s5 u h))
     rw[yA] at this;exact this
   ·have am:ni < List.length vs:=by omega
    cases xa with
    | none=>have:=c3 rfl;omega
    | some ad=>
     obtain ⟨q1,q2,q3,q4⟩:=c4 ad rfl;obtain ⟨_,d5⟩:=r3 ad rfl;obtain ⟨b,off,sp⟩:=ad;simp only at q1 q2 q3 q4 d5;subst q1;subst q2;have oH:∀ j u,ey[j]?=some u->w.cell? ⟨b,0+j,none⟩=some u:=λj u my=>qU (d5 j u my) (r5 u (cA my))
     have Rv:Has w b 0 (ey.take (ni*e.sz)):=λt u my=>by
      rw[bJ] at my;split at my
      ·exact d5 t u my
      ·cases my
     by_cases pK:List.length vs+List.length ys<=cap
     ·have zS:(List.length vs+List.length ys)*e.sz<=cap*e.sz:=bD _ pK;obtain ⟨c,e',fr,w1,w2,w3,w4⟩:=q3
      have q3:ge w b (cap*e.sz,xt e):=⟨c,e',fr,w1,w2,w3,w4⟩
      simp only at w2 w3 w4
      have mR:∀ j,j < cap*e.sz->(w.cell? ⟨b,j,none⟩).isSome=true:=λj hj=>by
       unfold World.cell?;simp only[w1,eP,aF,aL];rw[cN (by omega)];rfl
      have SF:0 < news.length:=by omega
      have hy1:=y2 0 _ (aB SF);have Jo:=DU 0 _ (aB SF);obtain ⟨a',cap',g1,g2,g3,g4⟩:=hy;injection g1 with g1 _;injection g1 with g1 _ _;subst g1;obtain ⟨Ly,l1,l2,_⟩:=(g4 _ rfl).2 0 _ (aB hm)
      have hA:A vb pg:=by
       have:=(l2 0 _ (aB (by omega))).2
       simpa using this
      have Wo:vb≠b:=λe0=>by
       subst e0;have:=LH w1 hy1;have Bf:=(bQ.1 this).1;have h5:=q4 vb (pg+0);have h6:b_ vb 0 (cap*e.sz) vb (pg+0)=1:=by simp only[b_];rw[aV ⟨trivial,by omega,by omega⟩]
       have h7:=hF vb (pg+0);exact um vb pg (by rw[dG] at h5 h6 h7;omega) hA
      obtain ⟨tA,kA,LL,Sz⟩:∃ tA kA,w.shape? vb=some (tA,kA)/\kA≠0:=by
       unfold World.cell? at Jo;unfold World.shape?;split at Jo
       ·rename_i heq;split at Jo
        ·cases Jo
        ·simp only at heq;simp only[heq];refine ⟨_,_,rfl,λh0=>?_⟩
         have:=(bQ.1 Jo).1;omega
       ·cases Jo
      have LM:w.frozen? ⟨b,cap*e.sz,none⟩=false:=by
       simp only[World.frozen?,w1];have:=w4 hu;simp only[gN,eZ];omega
      refine (SA LF b 0 (List.length vs) cap ni vb pg (List.length ys) vS ey news w am hm pK sI Wo r4 s4 oH (λj hj=>by rw[bE];exact mR _ (by omega)) (λj hj=>by rw[bE];exact q3.frozen (by simp only;omega)) DU r5 s5 tA e' kA (cap*e.sz) LL (by simp only[World.shape?,w1,w2]) Sz LM).mono ?_;rintro ex w' ⟨rfl,hw⟩;simp only[bE] at hw;have x1:=li (b:=b) (o:=(ni+List.length ys)*e.sz) (ey.drop (ni*e.sz)) w.drew ((ni+List.length ys)*e.sz);have x2:=li (b:=b) (o:=ni*e.sz) news (w.drew.setCells b ((ni+List.length ys)*e.sz) (ey.drop (ni*e.sz))) (ni*e.sz);rw[<-hw] at x2;have SG:∀ j,j < (ey.drop (ni*e.sz)).length->(w.drew.cell? ⟨b,(ni+List.length ys)*e.sz+j,none⟩).isSome=true:=λj hj=>mR _ (by omega);refine xZ w' b rfl ?_ pK (ut w.drew _ w' b q3.lt x1 (oI SG Wq) x2 ?_ Rv)
      ·refine (((uw w).mono (λ_ _ _=>rfl)).trans (x1.mono (λb' t h0=>?_)) (λ_ _ _ h=>h)).trans (x2.mono (λb' t h0=>?_)) (λ_ _ _ h=>h)
       ·simp only[b_] at h0 ⊢;split at h0
        ·cases h0
        ·rw[bB (by omega)]
       ·simp only[b_] at h0 ⊢;split at h0
        ·cases h0
        ·rw[bB (by omega)]
      ·rw[hw];exact oI (λj hj=>tL b _ _ _ SG _ (mR _ (by omega))) s5
     ·refine (Uz LF b 0 (List.length vs) cap ni vb pg (List.length ys) vS ey news w am hm c1 (by omega) Iy (by omega) r4 s4 oH DU r5 s5).mono ?_;rintro ex w' ⟨rfl,hw⟩;have DJ:=grownCap_ge w (List.length vs+List.length ys) cap (ρ.t 9);have Ot:=grownCap_le_maxLen w (List.length vs+List.length ys) cap (ρ.t 9) (by simp only[maxLen];omega)
      obtain ⟨G,hG⟩:∃ G,G=grownCap w (List.length vs+List.length ys) cap (ρ.t 9):=⟨_,rfl⟩
      rw[<-hG] at hw DJ Ot ⊢
      obtain ⟨rj,FV⟩:∃ rj:Array Value,rj=(ey.take (ni*e.sz)).toArray++Builtin.zeroCells zv.cells (List.length vs+List.length ys - ni)++Builtin.zeroCells zv.cells (G - (List.length vs+List.length ys)):=⟨_,rfl⟩
      rw[<-FV] at hw
      have ko:rj.size=G*e.sz:=by
       rw[FV,fD,fD,size_zeroCells,size_zeroCells,LF.ik,dQ,uz,<- cI,<- cI];congr 1;omega
      have zS:(List.length vs+List.length ys)*e.sz<=G*e.sz:=bD _ DJ;have fa:=wc w rj (ρ.t 9) (0,0) (xt e) (.inr (aN _));rw[ko] at fa
      have mR:∀ j,j < G*e.sz->((w.alloc (.cells rj (ρ.t 9))).drew.cell? ⟨w.heap.size,j,none⟩).isSome=true:=λj hj=>by
       have:=World.cell?_alloc_at (w:=w) rj (ρ.t 9) w.heap.size j rfl;show ((w.alloc (.cells rj (ρ.t 9))).cell? _).isSome=true;rw[this,cN (by omega)];rfl
      have x0:Ext w (w.alloc (.cells rj (ρ.t 9))).drew (λ_ _=>0):=(nG w _).trans (uw _) (λ_ _ _ _=>rfl);have x1:=li (b:=w.heap.size) (o:=ni*e.sz) news (w.alloc (.cells rj (ρ.t 9))).drew (ni*e.sz);have x2:=li (b:=w.heap.size) (o:=(ni+List.length ys)*e.sz) (ey.drop (ni*e.sz)) ((w.alloc (.cells rj (ρ.t 9))).drew.setCells w.heap.size (ni*e.sz) news).drew ((ni+List.length ys)*e.sz);rw[<-hw] at x2;have qt:∀ (o n b' t:Nat),b' < w.heap.size->b_ w.heap.size o n b' t=0:=λo n b' t qh=>by simp only[b_];rw[bB (by omega)]
      have Y8:Ext w w' (λ_ _=>0):=((x0.trans x1 (λb' t qh _=>qt _ _ _ _ qh)).trans (uw _) (λ_ _ _ _=>rfl)).trans x2 (λb' t qh _=>qt _ _ _ _ qh)
      have g0:Has (w.alloc (.cells rj (ρ.t 9))).drew w.heap.size 0 (ey.take (ni*e.sz)):=wd w rj (ρ.t 9) (0,0) (λj u my=>by
       have Bf:=(aM.1 my).1;rw[FV,bE,Array.append_assoc,dI (by simpa using Bf)]
       simpa using my) (λu my=>r5 u (eA my))
      have Y9:w.heap.size < (w.alloc (.cells rj (ρ.t 9))).drew.heap.size:=by show w.heap.size < (w.heap.push _).size;rw[Array.size_push];omega
      have g1:=oI (w:=(w.alloc (.cells rj (ρ.t 9))).drew) (b:=w.heap.size) (o:=ni*e.sz) (L:=news) (λj hj=>mR _ (by omega)) s5;have g2:=oI (w:=((w.alloc (.cells rj (ρ.t 9))).drew.setCells w.heap.size (ni*e.sz) news).drew) (b:=w.heap.size) (o:=(ni+List.length ys)*e.sz) (L:=ey.drop (ni*e.sz)) (λj hj=>tL w.heap.size _ _ _ (λj hj=>mR _ (by omega)) _ (mR _ (by omega))) Wq;rw[<-hw] at g2;have DQ:w.heap.size < ((w.alloc (.cells rj (ρ.t 9))).drew.setCells w.heap.size (ni*e.sz) news).drew.heap.size:=cP Y9 x1.size;refine PY w' G Y8 (cP DQ x2.size) DJ Ot (x2.ub _ _ ((uw _).ub _ _ (x1.ub _ _ fa))) (λt u my=>?_);rw[bE];by_cases ht:t < ni*e.sz
      ·rw[bK,bW (by omega)] at my;have h5:=g0 t u my;rw[bE] at h5;exact x2.cell _ t DQ (by simp only[b_];rw[bB (by omega)]) u (x1.cell _ t Y9 (by simp only[b_];rw[bB (by omega)]) u h5)
      ·by_cases VU:t < (ni+List.length ys)*e.sz
       ·rw[bW (by rw[aR,uz,s4];omega),bV (by omega),uz] at my;have h5:=g1 _ u my;rw[show ni*e.sz+(t - ni*e.sz)=t by omega] at h5;exact x2.cell _ t DQ (by simp only[b_];rw[bB (by omega)]) u h5
       ·rw[bV (by rw[aR,uz,s4];omega),aR,uz,s4] at my;have h5:=g2 _ u my;rw[show (ni+List.length ys)*e.sz+(t - (ni*e.sz+List.length ys*e.sz))=t by omega] at h5;exact h5
end
end OT
