/- The proof's parts, merged: The view of pages in terms of their cells alone  when it is right, and which rows it has  plain facts.. No conditions but those that each states. -/
import Derived.Test.YtghckfpmmofmnaaGreatUg
set_option linter.unusedVariables false
set_option linter.unusedSimpArgs false
set_option linter.unusedSectionVars false
namespace OT
open Go
theorem CO {α β:Type} {g:α->Option β}:∀ {l:List α},l.Nodup->((l.filterMap g).Nodup↔∀ x ∈ l,∀ y ∈ l,∀ b,g x=some b->g y=some b->x=y)
 | [],_=>by simp
 | z::l,h=>by
  rw[cL] at h;have ih:=CO (g:=g) h.2;grind
abbrev pr:Type:=Nat->Nat->List UInt8
def fl (d:List UInt8):Int:=(dz d).1.2.1
def n_ (d:List UInt8):Nat:=(dz d).1.2.2.1.toNat
def oc (d:List UInt8):Nat:=(dz d).1.2.2.2.1.toNat
def HB (d:List UInt8):Row:=(dz d).1.2.2.2.2.1
def rowAt (f:pr) (P s:Nat):Row:=if fl (f P s)=1 then HB (f (n_ (f P s)) (oc (f P s))) else HB (f P s)
structure uF (f:pr):Prop where
 read:∀ P s,f P s≠[]->(dz (f P s)).2=true
 stub:∀ P s,f P s≠[]->fl (f P s)=1->f (n_ (f P s)) (oc (f P s))≠[]/\fl (f (n_ (f P s)) (oc (f P s)))=2
 Ub:∀ P s Q t,f P s≠[]->f Q t≠[]->fl (f P s)=1->fl (f Q t)=1->n_ (f P s)=n_ (f Q t)->oc (f P s)=oc (f Q t)->P=Q/\s=t
 key:∀ P s Q t,f P s≠[]->f Q t≠[]->fl (f P s)≠2->fl (f Q t)≠2->rk (rowAt f P s)=rk (rowAt f Q t)->P=Q/\s=t
def qX (f:pr) (r:Row):Prop:=∃ P s,f P s≠[]/\fl (f P s)≠2/\rowAt f P s=r
def tH (ps:bk) (P s:Nat):bc:=((P:Int),(s:Int),(dz (bm ps P s)).1,())
theorem qK {ps:bk} (h:mO ps) {x:bc}:x ∈ cv ps↔∃ P s,bm ps P s≠[]/\x=tH ps P s:=by
 grind [xT,Nat.lt_or_ge,bm,cellOf,tH,qV,pp,tF,nZ]
theorem Ah (ps:bk):(cv ps).Nodup:=by
 have h1:∀ (P:Nat) (p:List UInt8),(rE P p).Pairwise (λx y=>x.2.1 < y.2.1)/\∀ x ∈ rE P p,x.1=(P:Int):=by
  intro P p
  have key:∀ n,((List.range n).flatMap (rD P p)).Pairwise (λx y=>x.2.1 < y.2.1)/\∀ x ∈ (List.range n).flatMap (rD P p),x.1=(P:Int)/\x.2.1 < (n:Int):=by
   intro n
   induction n with
   | zero=>simp_all
   | succ n ih=>
    rw[gP,eC]
    have hs:∀ x ∈ ([n]:List Nat).flatMap (rD P p),x.1=(P:Int)/\x.2.1=(n:Int):=λx hx=>by
     simp_all [rD]
    constructor
    ·rw[gO];grind [rD]
    grind
  exact ⟨(key (pn p)).1,λx hx=>((key (pn p)).2 x hx).1⟩
 have main:∀ (xs:bk) (i:Nat),(CK rE i xs).Nodup/\∀ x ∈ CK rE i xs,(i:Int)<=x.1:=by
  intro xs
  induction xs with
  | nil=>intro i;exact ⟨List.Pairwise.nil,λx hx=>by cases hx⟩
  | cons p xs ih=>
   intro i;obtain ⟨a1,a2⟩:=h1 i p;obtain ⟨b1,b2⟩:=ih (i+1);refine ⟨?_,λx hx=>?_⟩
   ·unfold CK;rw[dF];refine ⟨a1.imp λ{x y} a7 he=>by grind,b1,λx hx y hy he=>?_⟩
    grind
   grind [CK]
 exact (main ps 0).1
theorem QU (ps:bk):(jZ ps).map (λx=>rk (jW x))=(cv ps).filterMap (λx=>if gj x=2 then none else some (rk (jW (xe ps x)))):=by
 unfold jZ;generalize cv ps=l
 induction l <;> grind [sN]
theorem HC (d:List UInt8):(dz d).1.2.2.1=(n_ d:Int)/\(dz d).1.2.2.2.1=(oc d:Int):=by
 obtain ⟨h1,h2⟩:=Hr d;unfold n_ oc;omega
theorem NQ {ps:bk} (h:mO ps) (P s:Nat):qy ps (P:Int) (s:Int)=if bm ps P s=[] then (Lv,false) else dz (bm ps P s):=by
 unfold qy;rw[aC,aC];grind [bm,qV,pp,tF,nZ,cellOf]
theorem wO {ps:bk} (h:mO ps) (P s:Nat) (da:fl (bm ps P s)=1->bm ps (n_ (bm ps P s)) (oc (bm ps P s))≠[]):jW (xe ps (tH ps P s))=rowAt (bm ps) P s:=by
 unfold xe rowAt;have e1:gj (tH ps P s)=fl (bm ps P s):=rfl;rw[e1];by_cases hf:fl (bm ps P s)=1
 ·rw[aG hf,aG hf];obtain ⟨t1,t2⟩:=HC (bm ps P s);have e2:uC (tH ps P s)=(n_ (bm ps P s):Int):=t1;have e3:uD (tH ps P s)=(oc (bm ps P s):Int):=t2;rw[e2,e3,NQ h,aL (da hf)];rfl
 ·rw[aL hf,aL hf];rfl
theorem CP {α:Type} {c:α->Int}:∀ {xs:List α},(∀ x ∈ xs,c x=0)->oO c xs=0
 | [],_=>rfl
 | x::xs,h=>by
  unfold oO;rw[aG (h x bF)];exact CP λy hy=>h y (aX _ hy)
theorem LI {ps:bk} (h:mO ps) (P s:Nat) (hr:∀ Q t,bm ps Q t≠[]->(dz (bm ps Q t)).2=true):uE ps (tH ps P s)=true↔(fl (bm ps P s)=1->bm ps (n_ (bm ps P s)) (oc (bm ps P s))≠[]/\fl (bm ps (n_ (bm ps P s)) (oc (bm ps P s)))=2):=by
 grind [uE,gj,tH,fl,HC,uC,uD,NQ]
theorem oE {ps:bk}:gx ps=0↔mO ps/\uF (bm ps):=by
 constructor
 ·intro hv;have V:=qJ hv;have hr:=V.right
  have aa_:∀ P s,bm ps P s≠[]->(dz (bm ps P s)).2=true:=λP s hc=>by
   obtain ⟨a1,a2,a3⟩:=tF hr hc;have:=V.cells.2 _ (J6 a1) s a2 a3;grind [bm,cellOf]
  have VW:∀ P s,bm ps P s≠[]->fl (bm ps P s)=1->bm ps (n_ (bm ps P s)) (oc (bm ps P s))≠[]/\fl (bm ps (n_ (bm ps P s)) (oc (bm ps P s)))=2:=λP s hc=>
   (LI hr P s aa_).1 (bJ.1 V.aa7 _ ((qK hr).2 ⟨P,s,hc,rfl⟩))
  refine ⟨hr,aa_,VW,λP s Q t h1 h2 f1 f2 e1 e2=>?_,λP s Q t h1 h2 f1 f2 e=>?_⟩
  ·have:=(CO (Ah ps)).1 V.aeT _ ((qK hr).2 ⟨P,s,h1,rfl⟩) _ ((qK hr).2 ⟨Q,t,h2,rfl⟩) ((n_ (bm ps P s):Int),(oc (bm ps P s):Int))
    (by unfold FJ;rw[aG (show gj (tH ps P s)=1 from f1)];show some ((dz (bm ps P s)).1.2.2.1,(dz (bm ps P s)).1.2.2.2.1)=_;grind [HC])
    (by unfold FJ;rw[aG (show gj (tH ps Q t)=1 from f2)];show some ((dz (bm ps Q t)).1.2.2.1,(dz (bm ps Q t)).1.2.2.2.1)=_;grind [HC])
   have g1:((P:Int))=(Q:Int):=cP (λx:bc=>x.1) this;have g2:((s:Int))=(t:Int):=cP (λx:bc=>x.2.1) this;omega
  ·have hk:=V.keys;rw[QU] at hk
   have:=(CO (Ah ps)).1 hk _ ((qK hr).2 ⟨P,s,h1,rfl⟩) _ ((qK hr).2 ⟨Q,t,h2,rfl⟩) (rk (rowAt (bm ps) P s))
    (by rw[aL (show ¬ gj (tH ps P s)=2 from f1),wO hr P s λhf=>(VW P s h1 hf).1])
    (by rw[aL (show ¬ gj (tH ps Q t)=2 from f2),wO hr Q t λhf=>(VW Q t h2 hf).1,e])
   have g1:((P:Int))=(Q:Int):=cP (λx:bc=>x.1) this;have g2:((s:Int))=(t:Int):=cP (λx:bc=>x.2.1) this;omega
 ·rintro ⟨hr,S⟩
  have hf:oO CL ps=0:=CP λp hp=>by
   obtain ⟨P,hP,he⟩:=bL hp;have hpg:fk ps P=p:=by grind [fk]
   have bd:=hr.2 p hp;unfold CL;rw[aG (wJ.2 bd),aG];refine bJ.2 λs hs=>?_;have hs:=cC.1 hs;unfold Ei;by_cases hz:bh p s=0
   ·grind
   ·have hc:bm ps P s≠[]:=λh0=>hz (by
     grind [bm,qV])
    have:=S.read P s hc;grind [bm,cellOf]
  have hl:¬ 12 < ps.length:=by have:=hr.1;omega
  unfold gx;rw[aL hl,aG hf];unfold FK;rw[aG,aG,aG]
  ·rw[QU];refine (CO (Ah ps)).2 λx hx y hy b h1 h2=>?_;obtain ⟨P,s,c1,rfl⟩:=(qK hr).1 hx;obtain ⟨Q,t,c2,rfl⟩:=(qK hr).1 hy;split at h1
   ·cases h1
   ·rename_i f1;split at h2
    ·cases h2
    ·rename_i f2;rw[wO hr P s λhf=>(S.stub P s c1 hf).1] at h1;rw[wO hr Q t λhf=>(S.stub Q t c2 hf).1] at h2;obtain ⟨rfl,rfl⟩:=S.key P s Q t c1 c2 f1 f2 (by grind);rfl
  ·refine (CO (Ah ps)).2 λx hx y hy b h1 h2=>?_;obtain ⟨P,s,c1,rfl⟩:=(qK hr).1 hx;obtain ⟨Q,t,c2,rfl⟩:=(qK hr).1 hy;unfold FJ at h1 h2;split at h1
   ·rename_i f1;split at h2
    ·rename_i f2;injection h1 with h1;injection h2 with h2;have h3:=h1.trans h2.symm;injection h3 with h3 h4;obtain ⟨rfl,rfl⟩:=S.Ub P s Q t c1 c2 f1 f2 (cP Int.toNat h3) (cP Int.toNat h4);rfl
    ·cases h2
   ·cases h1
  ·refine bJ.2 λx hx=>?_;obtain ⟨P,s,c1,rfl⟩:=(qK hr).1 hx;exact (LI hr P s S.read).2 (S.stub P s c1)
theorem zO {ps:bk} (hv:gx ps=0) (r:Row):r ∈ ba ps↔qX (bm ps) r:=by
 have V:=qJ hv;have hr:=V.right;have S:=(oE.1 hv).2;rw[zM V,(Bt _).mem_iff,dQ];constructor
 ·rintro ⟨x,hx,rfl⟩;unfold jZ at hx;obtain ⟨y,hy,sT⟩:=cG.1 hx;obtain ⟨P,s,c1,rfl⟩:=(qK hr).1 hy;unfold sN at sT;split at sT
  ·cases sT
  ·rename_i f1;rw[bE.1 sT,wO hr P s λhf=>(S.stub P s c1 hf).1];exact ⟨P,s,c1,f1,rfl⟩
 ·rintro ⟨P,s,c1,f1,rfl⟩;refine ⟨xe ps (tH ps P s),?_,wO hr P s λhf=>(S.stub P s c1 hf).1⟩
  unfold jZ;refine cG.2 ⟨_,(qK hr).2 ⟨P,s,c1,rfl⟩,?_⟩;unfold sN;rw[aL (show ¬ gj (tH ps P s)=2 from f1)];exact bE.2 rfl
end OT
namespace OT
open Go
def my (f:pr) (P s:Nat) (c:List UInt8):pr:=λQ t=>if Q=P/\t=s then c else f Q t
theorem sJ (f:pr) (P s:Nat) (c:List UInt8):my f P s c P s=c:=aG ⟨rfl,rfl⟩
theorem kA {f:pr} {P s:Nat} {c:List UInt8} {Q t:Nat} (h:¬ (Q=P/\t=s)):my f P s c Q t=f Q t:=aL h
def lone (f:pr) (A B:Nat):Prop:=∀ Q t,f Q t≠[]->fl (f Q t)=1->¬ (n_ (f Q t)=A/\oc (f Q t)=B)
theorem tW {f g:pr} {Q u:Nat} (h1:g Q u=f Q u) (h2:fl (f Q u)=1->g (n_ (f Q u)) (oc (f Q u))=f (n_ (f Q u)) (oc (f Q u))):rowAt g Q u=rowAt f Q u:=by
 grind [rowAt]
section
variable {f:pr} (S:uF f)
include S
theorem Yw {P t:Nat} {c:List UInt8} (h0:f P t=[]) (hc:(dz c).2=true) (h2:fl c=2):uF (my f P t c)/\(∀ r,qX (my f P t c) r↔qX f r)/\lone (my f P t c) P t:=by
 have off:∀ {Q u},f Q u≠[]->my f P t c Q u=f Q u:=λ{Q u} hq=>kA λ⟨e1,e2⟩=>hq (by grind);have QV:∀ {Q u},fl (my f P t c Q u)≠2->my f P t c Q u=f Q u:=λ{Q u} hq=>kA λ⟨e1,e2⟩=>hq (by grind [sJ]);have row:∀ {Q u},f Q u≠[]->rowAt (my f P t c) Q u=rowAt f Q u:=λ{Q u} hq=>tW (off hq) λhf=>off (S.stub Q u hq hf).1;refine ⟨⟨λQ u hq=>?_,λQ u hq hf=>?_,λQ u R v hq hr f1 f2 e1 e2=>?_,λQ u R v hq hr f1 f2 e=>?_⟩,λr=>?_,λQ u hq hf hh=>?_⟩
 ·by_cases he:Q=P/\u=t
  ·grind [sJ]
  ·rw[kA he] at hq ⊢;exact S.read Q u hq
 ·have e:=QV (Q:=Q) (u:=u) (by rw[hf];decide);rw[e] at hq hf ⊢;obtain ⟨a1,a2⟩:=S.stub Q u hq hf;grind
 ·have g1:=QV (Q:=Q) (u:=u) (by rw[f1];decide);have g2:=QV (Q:=R) (u:=v) (by rw[f2];decide);rw[g1] at hq f1 e1 e2;rw[g2] at hr f2 e1 e2;exact S.Ub Q u R v hq hr f1 f2 e1 e2
 ·have g1:=QV f1;have g2:=QV f2;rw[g1] at hq f1;rw[g2] at hr f2;rw[row hq,row hr] at e;exact S.key Q u R v hq hr f1 f2 e
 ·constructor
  ·rintro ⟨Q,u,hq,f1,e⟩;rw[QV f1] at hq f1;rw[row hq] at e;exact ⟨Q,u,hq,f1,e⟩
  ·rintro ⟨Q,u,hq,f1,e⟩;exact ⟨Q,u,by grind,by grind,by grind⟩
 ·have e:=QV (Q:=Q) (u:=u) (by rw[hf];decide);rw[e] at hq hf hh;have:=(S.stub Q u hq hf).1;grind
theorem VX {A B:Nat} (h2:fl (f A B)=2) (hl:lone f A B):uF (my f A B [])/\(∀ r,qX (my f A B []) r↔qX f r):=by
 have ne:∀ {Q u},my f A B [] Q u≠[]->¬ (Q=A/\u=B):=λ{Q u} hq he=>hq (by grind [sJ]);have tg:∀ {Q u},f Q u≠[]->fl (f Q u)=1->my f A B [] (n_ (f Q u)) (oc (f Q u))=f (n_ (f Q u)) (oc (f Q u)):=λ{Q u} hq hf=>kA (hl Q u hq hf);refine ⟨⟨λQ u hq=>?_,λQ u hq hf=>?_,λQ u R v hq hr f1 f2 e1 e2=>?_,λQ u R v hq hr f1 f2 e=>?_⟩,λr=>?_⟩
 ·have:=ne hq;rw[kA this] at hq ⊢;exact S.read Q u hq
 ·have:=ne hq;rw[kA this] at hq hf ⊢;rw[tg hq hf];exact S.stub Q u hq hf
 ·have n1:=ne hq;have n2:=ne hr;rw[kA n1] at hq f1 e1 e2;rw[kA n2] at hr f2 e1 e2;exact S.Ub Q u R v hq hr f1 f2 e1 e2
 ·have n1:=ne hq;have n2:=ne hr;have g1:=kA (f:=f) (c:=[]) n1;have g2:=kA (f:=f) (c:=[]) n2;rw[g1] at hq f1;rw[g2] at hr f2;rw[tW g1 (tg hq),tW g2 (tg hr)] at e;exact S.key Q u R v hq hr f1 f2 e
 ·constructor
  ·rintro ⟨Q,u,hq,f1,e⟩;have g1:=kA (f:=f) (c:=[]) (ne hq);rw[g1] at hq f1;rw[tW g1 (tg hq)] at e;exact ⟨Q,u,hq,f1,e⟩
  ·rintro ⟨Q,u,hq,f1,e⟩;have g1:my f A B [] Q u=f Q u:=kA λhe=>f1 (by grind);exact ⟨Q,u,by grind,by grind,by grind [tW]⟩
theorem Yx {P s:Nat} (h0:f P s≠[]) (h2:fl (f P s)≠2):uF (my f P s [])/\(∀ r,qX (my f P s []) r↔qX f r/\rk r≠rk (rowAt f P s))/\(fl (f P s)=1->lone (my f P s []) (n_ (f P s)) (oc (f P s))):=by
 have ne:∀ {Q u},my f P s [] Q u≠[]->¬ (Q=P/\u=s):=λ{Q u} hq he=>hq (by grind [sJ])
 have tg:∀ {Q u},f Q u≠[]->fl (f Q u)=1->my f P s [] (n_ (f Q u)) (oc (f Q u))=f (n_ (f Q u)) (oc (f Q u)):=λ{Q u} hq hf=>kA λhe=>h2 (by
  have:=(S.stub Q u hq hf).2
  grind)
 refine ⟨⟨λQ u hq=>?_,λQ u hq hf=>?_,λQ u R v hq hr f1 f2 e1 e2=>?_,λQ u R v hq hr f1 f2 e=>?_⟩,λr=>?_,λh1 Q u hq hf hh=>?_⟩
 ·have:=ne hq;rw[kA this] at hq ⊢;exact S.read Q u hq
 ·have:=ne hq;rw[kA this] at hq hf ⊢;rw[tg hq hf];exact S.stub Q u hq hf
 ·have n1:=ne hq;have n2:=ne hr;rw[kA n1] at hq f1 e1 e2;rw[kA n2] at hr f2 e1 e2;exact S.Ub Q u R v hq hr f1 f2 e1 e2
 ·have g1:=kA (f:=f) (c:=[]) (ne hq);have g2:=kA (f:=f) (c:=[]) (ne hr);rw[g1] at hq f1;rw[g2] at hr f2;rw[tW g1 (tg hq),tW g2 (tg hr)] at e;exact S.key Q u R v hq hr f1 f2 e
 ·constructor
  ·rintro ⟨Q,u,hq,f1,e⟩;have n1:=ne hq;have g1:=kA (f:=f) (c:=[]) n1;rw[g1] at hq f1;rw[tW g1 (tg hq)] at e;refine ⟨⟨Q,u,hq,f1,e⟩,λhk=>n1 ?_⟩
   rw[<-e] at hk;exact S.key Q u P s hq h0 f1 h2 hk
  ·rintro ⟨⟨Q,u,hq,f1,e⟩,hk⟩;have g1:my f P s [] Q u=f Q u:=kA λhe=>hk (by grind);exact ⟨Q,u,by grind,by grind,by grind [tW]⟩
 ·have n1:=ne hq;rw[kA n1] at hq hf hh;exact n1 (S.Ub Q u P s hq h0 hf h1 hh.1 hh.2)
theorem NR {P s:Nat} {c:List UInt8} {r:Row} (h0:f P s=[]) (hc:(dz c).2=true) (hn:c≠[]) (hr:(fl c=0/\HB c=r)\/(fl c=1/\f (n_ c) (oc c)≠[]/\fl (f (n_ c) (oc c))=2/\lone f (n_ c) (oc c)/\HB (f (n_ c) (oc c))=r)) (hk:∀ r',qX f r'->rk r'≠rk r):uF (my f P s c)/\(∀ r',qX (my f P s c) r'↔qX f r'\/r'=r):=by
 have off:∀ {Q u},f Q u≠[]->my f P s c Q u=f Q u:=λ{Q u} hq=>kA λ⟨e1,e2⟩=>hq (by grind);have row:∀ {Q u},f Q u≠[]->rowAt (my f P s c) Q u=rowAt f Q u:=λ{Q u} hq=>tW (off hq) λhf=>off (S.stub Q u hq hf).1;have h2:fl c≠2:=by grind
 have aac:rowAt (my f P s c) P s=r:=by
  grind [rowAt,sJ]
 have cut:∀ {Q u},my f P s c Q u≠[]->(Q=P/\u=s)\/(f Q u≠[]/\my f P s c Q u=f Q u):=λ{Q u} hq=>by
  grind [kA]
 refine ⟨⟨λQ u hq=>?_,λQ u hq hf=>?_,λQ u R v hq hv f1 f2 e1 e2=>?_,λQ u R v hq hv f1 f2 e=>?_⟩,λr'=>?_⟩
 ·rcases cut hq with ⟨rfl,rfl⟩ | ⟨a,e⟩
  ·grind [sJ]
  ·rw[e];exact S.read Q u a
 ·rcases cut hq with ⟨rfl,rfl⟩ | ⟨a,e⟩
  ·grind [sJ]
  ·rw[e] at hf ⊢;obtain ⟨b1,b2⟩:=S.stub Q u a hf;grind
 ·rcases cut hq with ⟨rfl,rfl⟩ | ⟨a,g1⟩
  ·rcases cut hv with ⟨rfl,rfl⟩ | ⟨b,g2⟩
   ·grind
   ·rw[sJ] at f1 e1 e2;rw[g2] at f2 e1 e2
    rcases hr with ⟨h,_⟩ | ⟨h,_,_,h5,_⟩
    ·grind
    ·exact absurd ⟨e1.symm,e2.symm⟩ (h5 R v b f2)
  ·rcases cut hv with ⟨rfl,rfl⟩ | ⟨b,g2⟩
   ·rw[sJ] at f2 e1 e2;rw[g1] at f1 e1 e2
    rcases hr with ⟨h,_⟩ | ⟨h,_,_,h5,_⟩
    ·grind
    ·exact absurd ⟨e1,e2⟩ (h5 Q u a f1)
   ·rw[g1] at f1 e1 e2;rw[g2] at f2 e1 e2;exact S.Ub Q u R v a b f1 f2 e1 e2
 ·rcases cut hq with ⟨rfl,rfl⟩ | ⟨a,g1⟩
  ·rcases cut hv with ⟨rfl,rfl⟩ | ⟨b,g2⟩
   ·grind
   ·rw[g2] at f2;rw[aac,row b] at e;exact absurd e.symm (hk _ ⟨R,v,b,f2,rfl⟩)
  ·rcases cut hv with ⟨rfl,rfl⟩ | ⟨b,g2⟩
   ·rw[g1] at f1;rw[aac,row a] at e;exact absurd e (hk _ ⟨Q,u,a,f1,rfl⟩)
   ·rw[g1] at f1;rw[g2] at f2;rw[row a,row b] at e;exact S.key Q u R v a b f1 f2 e
 ·constructor
  ·rintro ⟨Q,u,hq,f1,e⟩
   rcases cut hq with ⟨rfl,rfl⟩ | ⟨a,g1⟩
   ·grind
   ·rw[g1] at f1;rw[row a] at e;exact .inl ⟨Q,u,a,f1,e⟩
  ·rintro (⟨Q,u,hq,f1,e⟩ | rfl)
   ·exact ⟨Q,u,by grind,by grind,by grind⟩
   ·exact ⟨P,s,by grind [sJ],by grind [sJ],aac⟩
end
theorem HD {n:Int} (h:0<=n) (h2:n < 256):((UInt8.ofInt n).toNat:Int)=n:=by
 have:n=((n.toNat:Nat):Int):=by omega
 grind [vk,ofNat_toNat]
theorem VY {n:Nat} (hn:n=0\/n=2) {r:Row} (hr:i7 r=0):dz (di n r)=(((0:Int),(n:Int),(0:Int),(0:Int),r,()),true):=by
 obtain ⟨h1,h2,h3,h4⟩:=Iw hr;have h5:=Dw h4;have hl:(di n r).length=6+List.length r.2.2.2.1:=by grind [di]
 have b0:pb (di n r) 0=n:=by
  show (UInt8.ofNat n).toNat=n;grind [ofNat_toNat]
 have b1:(pb (di n r) 1:Int)=r.1:=by
  show ((UInt8.ofInt r.1).toNat:Int)=r.1;grind [HD]
 have b2:(pb (di n r) 2:Int)=r.2.1:=by
  show ((UInt8.ofInt r.2.1).toNat:Int)=r.2.1;grind [HD]
 have b3:(pb (di n r) 3:Int)=r.2.2.1 / 256:=by
  show ((UInt8.ofInt (r.2.2.1 / 256)).toNat:Int)=_;grind [HD]
 have b4:(pb (di n r) 4:Int)=r.2.2.1 % 256:=by
  show ((UInt8.ofInt (r.2.2.1 % 256)).toNat:Int)=_;grind [HD]
 have b5:(pb (di n r) 5:Int)=(List.length r.2.2.2.1:Int):=by
  show ((UInt8.ofInt (List.length r.2.2.2.1:Int)).toNat:Int)=_;grind [HD]
 have hd:(di n r).drop 6=r.2.2.2.1:=rfl;grind [vd,dz]
theorem VZ {P t:Nat} (hP:P<=11) (ht:t<=15):dz (j_ P t)=(((0:Int),(1:Int),(P:Int),(t:Int),CH,()),true):=by
 have b1:pb (j_ P t) 1=P:=by
  show (UInt8.ofNat P).toNat=P;grind [ofNat_toNat]
 have b2:pb (j_ P t) 2=t:=by
  show (UInt8.ofNat t).toNat=t;grind [ofNat_toNat]
 unfold dz;rw[aG ⟨rfl,rfl⟩,b1,b2,aY hP,aY ht];rfl
theorem V0 {d:List UInt8} (h:(dz d).2=true) (h1:fl d=1):d=j_ (n_ d) (oc d)/\n_ d<=11/\oc d<=15:=by
 unfold fl at h1;unfold n_ oc;unfold dz at h h1 ⊢;split at h
 ·rename_i hc;rw[aG hc];simp only[aD,bA] at h;refine ⟨?_,by simpa using h.1,by simpa using h.2⟩
  refine CE (by rw[hc.1];rfl) λj hj=>?_;rw[hc.1] at hj;have e1:=oX d 1;have e2:=oX d 2
  match j,hj with
  | 0,_=>rw[hc.2];rfl
  | 1,_=>show _=(UInt8.ofNat _).toNat;grind [ofNat_toNat]
  | 2,_=>show _=(UInt8.ofNat _).toNat;grind [ofNat_toNat]
 grind
end OT
namespace OT
open Go
theorem AE {xs:List Row} {k:Int×Int} (hu:up xs) {i:Nat} (hi:i < xs.length) (hk:rk xs[i]=k):oU xs k=true/\pos xs k=i:=by
 have h1:¬ i < pos xs k:=λa7=>by
  have:=CI xs k i hi a7;rw[hk,vf] at this;cases this
 have hp:pos xs k < xs.length:=by omega
 have h2:pos xs k=i:=by
  by_cases he:pos xs k=i
  ·exact he
  ·have h3:=bN.1 hu (pos xs k) i hp hi Bys;have h4:=AB xs k (pos xs k) hp hu (aH _);rw[hk] at h3;rw[h3] at h4;cases h4
 refine ⟨?_,h2⟩
 unfold oU;rw[h2,aB hi]
 simpa using hk
theorem vn {xs:List Row} (hu:up xs) (c:Change) (r:Row):r ∈ qc xs c↔(r ∈ xs/\rk r≠ck c)\/(c.2.2.1=true/\r=c.2.2.2.1):=by
 have key:(r ∈ xs.take (pos xs (ck c))\/r ∈ xs.drop (pos xs (ck c)+if oU xs (ck c) then 1 else 0))↔(r ∈ xs/\rk r≠ck c):=by
  constructor
  ·rintro (h | h)
   ·exact ⟨dI h,λhe=>by have:=FH h;rw[he,vf] at this;cases this⟩
   ·refine ⟨cN h,λhe=>?_⟩
    obtain ⟨i,hi,hr⟩:=bL h;rw[gA] at hr;rw[bU] at hi;obtain ⟨f1,f2⟩:=AE hu (i:=pos xs (ck c)+(if oU xs (ck c) then 1 else 0)+i) (k:=ck c) Bys (by rw[hr];exact he);rw[f1] at f2;simp only[aK] at f2;omega
  ·rintro ⟨h,je⟩;obtain ⟨i,hi,hr⟩:=bL h;by_cases h1:i < pos xs (ck c)
   ·left;rw[iD];exact ⟨i,by omega,hr⟩
   ·right;rw[List.mem_drop_iff_getElem];by_cases hf:oU xs (ck c)=true
    ·rw[aG hf];obtain ⟨hp,hk⟩:=vJ hf;have:i≠pos xs (ck c):=λhe=>je (by subst he;rw[<-hr];exact hk);exact ⟨i - (pos xs (ck c)+1),by omega,by rw[<-hr];congr 1;omega⟩
    ·rw[aL hf];exact ⟨i - (pos xs (ck c)+0),by omega,by rw[<-hr];congr 1;omega⟩
 unfold qc;rw[bG,bG];constructor
 ·rintro ((h | h) | h)
  ·exact .inl (key.1 (.inl h))
  ·cases hi:c.2.2.1 with
   | true=>rw[hi] at h;exact .inr ⟨rfl,bE.1 h⟩
   | false=>rw[hi] at h;cases h
  ·exact .inl (key.1 (.inr h))
 ·rintro (h | ⟨hi,rfl⟩)
  ·rcases key.2 h with h | h
   ·exact .inl (.inl h)
   ·exact .inr h
  ·rw[hi];exact .inl (.inr (bE.2 rfl))
theorem Yy {a b:Row} (h:Ty.eq a8 a b=true):a=b:=by
 have e:Ty.eq a8 a b=(decide (a.1=b.1)&&(decide (a.2.1=b.2.1)&&(decide (a.2.2.1=b.2.2.1)&&(decide (a.2.2.2.1=b.2.2.2.1)&&true)))):=rfl;rw[e] at h;simp only[aD,bA,eP] at h;obtain ⟨a1,a2,a3,a4,⟨⟩⟩:=a;obtain ⟨b1,b2,b3,b4,⟨⟩⟩:=b;obtain ⟨h1,h2,h3,h4⟩:=h;simp only at h1 h2 h3 h4;rw[h1,h2,h3,h4]
end OT
namespace OT
open Go
def dv (ps:bk):ax:=(ps,([]:List pz),())
theorem qL {ps:bk} (h:mO ps):okW (dv ps) 0:=⟨h,aH _,λe he=>by cases he⟩
theorem V1 {ps:bk} (h:mO ps):gp ps:=⟨h.1,λp hp=>(h.2 p hp).len⟩
theorem CQ {ps:bk} (h:mO ps):ls.ab (ps,())=some (dv ps,()):=by
 refine ag (k:=0) λk _=>(ls.ae k _).trans ?_;show ls.p _=_;unfold ls.p;rw[AZ ps (V1 h)];rfl
theorem QW {ps:bk} (h:mO ps):sh.ab (ps,())=some (dv ps,()):=by
 refine ag (k:=0) λk _=>(sh.ae k _).trans ?_;show sh.p _=_;unfold sh.p;rw[Gj ps (V1 h)];rfl
def FT (k:Int):d9:=(k,([]:List pz),([]:List (List UInt8)),())
def vo (ok:Bool) (w:ax):d9:=if ok then ((0:Int),w.2.1,w.1,()) else FT 9
theorem DY (k:Int):jK.ab (k,())=some (FT k,()):=ag (k:=0) λq _=>(jK.ae q _).trans rfl
theorem CR (w:ax):kY.ab (w,())=some (vo true w,()):=ag (k:=0) λq _=>(kY.ae q _).trans rfl
theorem Je (w:ax):lL.ab (w,())=some (vo true w,()):=ag (k:=0) λq _=>(lL.ae q _).trans rfl
theorem CS (w:ax) (ok:Bool):nq.ab (w,ok,())=some (vo ok w,()):=by
 refine ag (k:=0) λk _=>(nq.ae k _).trans ?_;show nq.p _=_;unfold nq.p;rw[Je];cases ok <;> rfl
def uG (w:ax) (r:Row):Option (Nat×Nat)×ax:=lR w (-1) (di 0 r)
theorem MR {w:ax} {n:Nat} (h:okW w n) {r:Row} (hr:i7 r=0):LH w n 25 (di 0 r) (uG w r):=
 so h (ff hr).1 (by grind [ff]) _
theorem V2 {w:ax} {n:Nat} (h:okW w n) (hn:n<=800) {r:Row} (hr:i7 r=0):o6.ab (w,r,())=some ((uG w r).1.isSome,(uG w r).2,()):=by
 refine ag (k:=0) λk _=>(o6.ae k _).trans ?_;grind [o6.p,di,DX,HA,ff,vm,uG]
theorem V3 {ps:bk} (h:mO ps) {r:Row} (hr:i7 r=0):qm.ab (ps,r,())=some (vo (uG (dv ps) r).1.isSome (uG (dv ps) r).2,()):=by
 refine ag (k:=0) λk _=>(qm.ae k _).trans ?_;show qm.p _=_;unfold qm.p;have e:jS.ab ((0:Int),r,())=some (di 0 r,()):=Ag (f:=0) hr;simp only[e,CQ h,aA,CN (qL h) Bys (ff hr).1 (show (di 0 r).length<=20 by grind [ff]),DY,CR];unfold vm uG;cases (lR (dv ps) (-1) (di 0 r)).1 <;> rfl
def oC (w:ax) (P s A B:Nat) (mv:Bool) (r:Row):Bool×ax:=
 if (j0 w A B (di (bif mv then 2 else 0) r)).1=true then (true,(j0 w A B (di (bif mv then 2 else 0) r)).2)
 else match (lR (j0 w A B (di (bif mv then 2 else 0) r)).2 (A:Int) (di 2 r)).1 with
  | none=>(false,(lR (j0 w A B (di (bif mv then 2 else 0) r)).2 (A:Int) (di 2 r)).2)
  | some a=>(true,bif mv then jQ (j0 (lR (j0 w A B (di (bif mv then 2 else 0) r)).2 (A:Int) (di 2 r)).2 P s (j_ a.1 a.2)).2 A B else (j0 (lR (j0 w A B (di (bif mv then 2 else 0) r)).2 (A:Int) (di 2 r)).2 P s (j_ a.1 a.2)).2)
theorem jd {f:Nat} {r:Row}:di f r≠[]:=by grind [di]
theorem pt (P t:Nat):(j_ P t).length=3:=rfl
theorem sr {w:ax} {n m:Nat} {c:List UInt8} {r:Option (Nat×Nat)×ax} (R:LH w n m c r) {Q t:Nat} (h:bm w.1 Q t≠[]) (hc:c≠[]):bm r.2.1 Q t≠[]:=by
 cases hr:r.1 with
 | none=>rw[(R.no hr).2];exact h
 | some a=>
  rw[(R.yes a.1 a.2 hr).2.2.2];grind
theorem mU {w:ax} {n P s:Nat} {c:List UInt8} {r:Bool×ax} (R:Ys w n P s c r) {Q t:Nat} (h:bm w.1 Q t≠[]) (hc:c≠[]):bm r.2.1 Q t≠[]:=by
 cases hr:r.1 with
 | false=>rw[R.no hr];exact h
 | true=>
  rw[R.yes hr];grind
section
variable {w:ax} {n:Nat} (h:okW w n) (hn:n<=400) {P s A B:Nat} (h1:bm w.1 P s≠[]) (h2:bm w.1 A B≠[]) (mv:Bool) {r:Row} (hr:i7 r=0)
include h hn h1 h2 hr
theorem BI:okW (oC w P s A B mv r).2 (n+40):=by
 have R1:=o9 h h2 (ff (f:=bif mv then 2 else 0) hr).1;have R2:=so R1.ok (ff (f:=2) hr).1 (by grind [ff]) (A:Int);unfold oC;split
 ·exact R1.ok.mono Bys
 ·split
  ·exact R2.ok.mono Bys
  ·rename_i a ha;have k1:=sr R2 (mU R1 h1 jd) jd;have k2:=sr R2 (mU R1 h2 jd) jd;have R3:=o9 R2.ok k1 (c:=j_ a.1 a.2) (by rw[pt];omega)
   cases mv with
   | false=>exact R3.ok.mono Bys
   | true=>
    have k3:=mU R3 k2 (by grind [j_]);exact (pq R3.ok k3).1.mono Bys
theorem LJ (r0:Row):kQ.ab (w,(r0,(P:Int),(s:Int),mv,(A:Int),(B:Int),()),r,())=some (if Ty.eq a8 r0 r=true then (true,w,()) else ((oC w P s A B mv r).1,(oC w P s A B mv r).2,())):=by
 refine ag (k:=0) λk _=>(kQ.ae k _).trans ?_;show kQ.p _=_;unfold kQ.p;show (bif Ty.eq a8 r0 r then _ else _)=_
 cases Ty.eq a8 r0 r with
 | true=>rfl
 | false=>
  have Em:∀ f,(di f r).length<=20:=λf=>by grind [ff]
  have l1:∀ f,1<=(di f r).length:=λf=>(ff (f:=f) hr).1
  have main:∀ f:Nat,f=(bif mv then 2 else 0)->((oL.ab ((f:Int),r,())).bind λnC=>(mp.ab (w,(A:Int),(B:Int),nC.1,())).bind λqD=>bif qD.1 then (some (true,qD.2.1,()):Option kQ.O) else (oL.ab ((2:Int),r,())).bind λyR=>(fx.ab (qD.2.1,yR.1,(A:Int),())).bind λvF=>bif !vF.2.2.1 then (some (false,vF.2.2.2.1,())) else (uJ.ab (vF.1,vF.2.1,())).bind λBf=>(mp.ab (vF.2.2.2.1,(P:Int),(s:Int),Bf.1,())).bind λCv=>bif mv then ((ky.ab (Cv.2.1,(A:Int),(B:Int),())).bind λAv=>some (true,Av.1,())) else some (true,Cv.2.1,()))=some ((oC w P s A B mv r).1,(oC w P s A B mv r).2,()):=by
   intro f hf;have R1:=o9 h h2 (l1 f);have R2:=so R1.ok (l1 2) (Em 2) (A:Int);have e2:oL.ab ((2:Int),r,())=some (di 2 r,()):=DX (f:=2) hr;unfold oC;rw[<-hf];simp only[DX (f:=f) hr,e2,aA,Hx h Bys h2 (l1 f) (Em f)]
   cases hb:(j0 w A B (di f r)).1 with
   | true=>grind
   | false=>
    simp only[aF,aE,aR,HA R1.ok (show n+2<=800 by omega) (l1 2) (Em 2),aA];unfold vm
    cases hg:(lR (j0 w A B (di f r)).2 (A:Int) (di 2 r)).1 with
    | none=>rfl
    | some a=>
     have k1:=sr R2 (mU R1 h1 jd) jd;have k2:=sr R2 (mU R1 h2 jd) jd;have l3:1<=(j_ a.1 a.2).length:=by rw[pt];omega
     have R3:=o9 R2.ok k1 l3;have k3:=mU R3 k2 (by grind);simp only[aU,aF,Sr,aA,Hx R2.ok (show n+2+25<=900 by omega) k1 l3 (show (j_ a.1 a.2).length<=20 by rw[pt];omega)]
     cases mv with
     | false=>rfl
     | true=>simp only[aS,A_ R3.ok (show n+2+25+2<=900 by omega) k3,aA]
  grind
theorem Ss (x:bc) (x3:x.2.2.1.2.2.1=(A:Int)) (x4:x.2.2.1.2.2.2.1=(B:Int)) (x1:x.1=(P:Int)) (x2:x.2.1=(s:Int)):sf.ab (w,x,r,())=some ((oC w P s A B true r).1,(oC w P s A B true r).2,()):=by
 refine ag (k:=0) λk _=>(sf.ae k _).trans ?_;show sf.p _=_;unfold sf.p;have Em:∀ f,(di f r).length<=20:=λf=>by grind [ff]
 have l1:∀ f,1<=(di f r).length:=λf=>(ff (f:=f) hr).1;have R1:=o9 h h2 (l1 2);have R2:=so R1.ok (l1 2) (Em 2) (A:Int);have e2:jS.ab ((2:Int),r,())=some (di 2 r,()):=Ag (f:=2) hr;unfold oC;simp only[e2,x1,x2,x3,x4,aA,zg h Bys h2 (l1 2) (Em 2),aS]
 cases hb:(j0 w A B (di 2 r)).1 with
 | true=>grind
 | false=>
  simp only[aF,aE,aR,CN R1.ok (show n+2<=800 by omega) (l1 2) (Em 2),aA];unfold vm
  cases hg:(lR (j0 w A B (di 2 r)).2 (A:Int) (di 2 r)).1 with
  | none=>rfl
  | some a=>
   have k1:=sr R2 (mU R1 h1 jd) jd;have k2:=sr R2 (mU R1 h2 jd) jd;have l3:1<=(j_ a.1 a.2).length:=by rw[pt];omega
   have R3:=o9 R2.ok k1 l3;have k3:=mU R3 k2 (by grind);simp only[aU,aF,Jd,aA,zg R2.ok (show n+2+25<=900 by omega) k1 l3 (show (j_ a.1 a.2).length<=20 by rw[pt];omega),A9 R3.ok (show n+2+25+2<=900 by omega) k3]
end
def CT (ps:bk) (x:bc) (r:Row):d9:=
 if Ty.eq a8 (jW x) r=true then vo true (dv ps) else
  vo (oC (dv ps) x.1.toNat x.2.1.toNat (if gj x=1 then uC x else x.1).toNat (if gj x=1 then uD x else x.2.1).toNat (decide (gj x=1)) r).1 (oC (dv ps) x.1.toNat x.2.1.toNat (if gj x=1 then uC x else x.1).toNat (if gj x=1 then uD x else x.2.1).toNat (decide (gj x=1)) r).2
theorem V4 {ps:bk} (h:xf ps) {x:bc} (hx:x ∈ jZ ps) {r:Row} (hr:i7 r=0):qo.ab (ps,x,r,())=some (CT ps x r,()):=by
 obtain ⟨P,s,x1,x2,c1,c2,c3⟩:=J8 h hx;have ho:=qL h.right;refine ag (k:=0) λk _=>(qo.ae k _).trans ?_;show qo.p _=_;unfold qo.p CT;simp only[CQ h.right,CR,DY,aA];show (bif Ty.eq a8 (jW x) r then _ else _)=_
 cases Ty.eq a8 (jW x) r with
 | true=>rfl
 | false=>
  simp only[aF,aE,aR];show (bif decide (gj x=1) then _ else _)=_;by_cases hf:gj x=1
  ·obtain ⟨Q,t,x3,x4,c4,c5⟩:=c2 hf;rw[aY hf,aS,Ss ho Bys c1 c4 hr x x3 x4 x1 x2];simp only[aG hf,x1,x2,x3,x4,aC,aA];cases (oC (dv ps) P s Q t true r).1 <;> rfl
  ·rw[bD hf,aF];simp only[aL hf,x1,x2,aC];have Em:∀ f,(di f r).length<=20:=λf=>by grind [ff]
   have l1:∀ f,1<=(di f r).length:=λf=>(ff (f:=f) hr).1;have R1:=o9 ho c1 (l1 0);have R2:=so R1.ok (l1 2) (Em 2) (P:Int);have e0:jS.ab ((0:Int),r,())=some (di 0 r,()):=Ag (f:=0) hr;have e2:jS.ab ((2:Int),r,())=some (di 2 r,()):=Ag (f:=2) hr;unfold oC;simp only[e0,e2,aA,zg ho Bys c1 (l1 0) (Em 0),aF]
   cases hb:(j0 (dv ps) P s (di 0 r)).1 with
   | true=>rfl
   | false=>
    simp only[aF,aE,aR,CN R1.ok (show 0+2<=800 by omega) (l1 2) (Em 2),aA];unfold vm
    cases hg:(lR (j0 (dv ps) P s (di 0 r)).2 (P:Int) (di 2 r)).1 with
    | none=>rfl
    | some a=>
     have k1:=sr R2 (mU R1 c1 jd) jd;have l3:1<=(j_ a.1 a.2).length:=by rw[pt];omega
     simp only[aU,aF,Jd,aA,zg R2.ok (show 0+2+25<=900 by omega) k1 l3 (show (j_ a.1 a.2).length<=20 by rw[pt];omega)]
theorem Su {ps:bk} (h:xf ps) {x:bc} (hx:x ∈ jZ ps) {r:Row} (hr:i7 r=0):((kQ.ab (dv ps,qz x,r,())).bind λqD=>nq.ab (qD.2.1,qD.1,()))=some (CT ps x r,()):=by
 obtain ⟨P,s,x1,x2,c1,c2,c3⟩:=J8 h hx;have ho:=qL h.right;unfold CT;by_cases hf:gj x=1
 ·obtain ⟨Q,t,x3,x4,c4,c5⟩:=c2 hf;have hc:qz x=(jW x,(P:Int),(s:Int),true,(Q:Int),(t:Int),()):=by grind [qz]
  rw[hc,LJ ho Bys c1 c4 true hr (jW x),aY hf];grind [Int.toNat_natCast,CS]
 ·have hc:qz x=(jW x,(P:Int),(s:Int),false,(P:Int),(s:Int),()):=by grind [qz]
  rw[hc,LJ ho Bys c1 c1 false hr (jW x),bD hf];grind [CS]
def FU (ps:bk) (x:bc):d9:=vo true (if gj x=1 then jQ (jQ (dv ps) x.1.toNat x.2.1.toNat) (uC x).toNat (uD x).toNat else jQ (dv ps) x.1.toNat x.2.1.toNat)
theorem Yz {ps:bk} (h:xf ps) {x:bc} (hx:x ∈ jZ ps):∃ P s:Nat,x.1=(P:Int)/\x.2.1=(s:Int)/\bm ps P s≠[]/\(gj x=1->∃ Q t:Nat,uC x=(Q:Int)/\uD x=(t:Int)/\bm (jQ (dv ps) P s).1 Q t≠[]):=by
 obtain ⟨P,s,x1,x2,c1,c2,c3⟩:=J8 h hx;refine ⟨P,s,x1,x2,c1,λhf=>?_⟩
 obtain ⟨Q,t,x3,x4,c4,c5⟩:=c2 hf;refine ⟨Q,t,x3,x4,?_⟩
 rw[(pq (qL h.right) c1).2.2,aL]
 ·exact c4
 grind
theorem V5 {ps:bk} (h:xf ps) {x:bc} (hx:x ∈ jZ ps):qn.ab (ps,x,())=some (FU ps x,()):=by
 obtain ⟨P,s,x1,x2,c1,c2⟩:=Yz h hx;have ho:=qL h.right;have hd:=(pq ho c1).1;refine ag (k:=0) λk _=>(qn.ae k _).trans ?_;show qn.p _=_;unfold qn.p FU;simp only[CQ h.right,CR,aA,x1,x2,A9 ho Bys c1,aC];show (bif decide (gj x=1) then _ else _)=_;by_cases hf:gj x=1
 ·obtain ⟨Q,t,x3,x4,c4⟩:=c2 hf;rw[aY hf,aS,aG hf];have e3:x.2.2.1.2.2.1=(Q:Int):=x3;have e4:x.2.2.1.2.2.2.1=(t:Int):=x4;grind [A9]
 grind
theorem V6 {ps:bk} (h:xf ps) {x:bc} (hx:x ∈ jZ ps):((lM.ab (dv ps,qz x,())).bind λr28=>lL.ab (r28.1,()))=some (FU ps x,()):=by
 obtain ⟨P,s,x1,x2,c1,c2⟩:=Yz h hx;have ho:=qL h.right;have hd:=(pq ho c1).1
 have e:lM.ab (dv ps,qz x,())=some (if gj x=1 then jQ (jQ (dv ps) x.1.toNat x.2.1.toNat) (uC x).toNat (uD x).toNat else jQ (dv ps) x.1.toNat x.2.1.toNat,()):=by
  refine ag (k:=0) λk _=>(lM.ae k _).trans ?_;show lM.p _=_;unfold lM.p qz;simp only[x1,x2,aC];rw[A_ ho Bys c1];grind [A_]
 rw[e,aA,Je];rfl
end OT
namespace OT
open Go
def sO (f:pr) (P s:Nat):pr:=if fl (f P s)=1 then my (my f P s []) (n_ (f P s)) (oc (f P s)) [] else my f P s []
theorem QX {f:pr} (S:uF f) {P s:Nat} (h0:f P s≠[]) (h2:fl (f P s)≠2):uF (sO f P s)/\(∀ r,qX (sO f P s) r↔qX f r/\rk r≠rk (rowAt f P s)):=by
 obtain ⟨S1,r1,l1⟩:=Yx S h0 h2;unfold sO;split
 ·rename_i hf;obtain ⟨a1,a2⟩:=S.stub P s h0 hf;grind [VX,kA]
 grind
theorem YA (f:pr) (P s:Nat):sO f P s P s=[]:=by
 unfold sO;grind [my]
theorem drop_nil {f:pr} {P s Q t:Nat} (h:f Q t=[]):sO f P s Q t=[]:=by
 have one:∀ (g:pr) (A B:Nat),g Q t=[]->my g A B [] Q t=[]:=λg A B hg=>by
  grind [sJ,kA]
 unfold sO;grind
theorem NS {n:Nat} (hn:n=0\/n=2) {r:Row} (hr:i7 r=0):(dz (di n r)).2=true/\fl (di n r)=n/\HB (di n r)=r:=by
 grind [fl,HB,VY]
theorem QY {h:pr} (S:uF h) {P s:Nat} (h0:h P s=[]) {r:Row} (hr:i7 r=0) (hk:∀ r',qX h r'->rk r'≠rk r):uF (my h P s (di 0 r))/\(∀ r',qX (my h P s (di 0 r)) r'↔qX h r'\/r'=r):=by
 simp_all [NS,NR,jd]
theorem abO {h:pr} (S:uF h) {P s X Y:Nat} (h0:h P s=[]) (h1:h X Y=[]) (je:¬ (X=P/\Y=s)) (hX:X<=11) (hY:Y<=15) {r:Row} (hr:i7 r=0) (hk:∀ r',qX h r'->rk r'≠rk r):uF (my (my h X Y (di 2 r)) P s (j_ X Y))/\(∀ r',qX (my (my h X Y (di 2 r)) P s (j_ X Y)) r'↔qX h r'\/r'=r):=by
 obtain ⟨c1,c2,c3⟩:=NS (n:=2) (.inr rfl) hr;obtain ⟨S1,r1,l1⟩:=Yw S h1 c1 c2;have hs:=VZ hX hY;have e1:fl (j_ X Y)=1:=by grind [fl]
 have e2:n_ (j_ X Y)=X:=by grind [n_]
 have e3:oc (j_ X Y)=Y:=by grind [oc]
 have:=NR S1 (P:=P) (s:=s) (c:=j_ X Y) (r:=r) (by grind [kA]) (by rw[hs]) (by grind [j_])
  (.inr ⟨e1,by grind [sJ,jd],by grind [sJ],by grind,by grind [sJ]⟩) (λr' hr'=>hk r' ((r1 r').1 hr'))
 grind
theorem yj {ps:bk} {g:pr} (h:∀ Q t,bm ps Q t=g Q t):bm ps=g:=funext λQ=>funext λt=>h Q t
theorem Iy {ps:bk} (hv:gx ps=0) {x:bc} (hx:x ∈ jZ ps):∃ P s:Nat,bm ps P s≠[]/\fl (bm ps P s)≠2/\x.1=(P:Int)/\x.2.1=(s:Int)/\gj x=fl (bm ps P s)/\uC x=(n_ (bm ps P s):Int)/\uD x=(oc (bm ps P s):Int)/\jW x=rowAt (bm ps) P s:=by
 have V:=qJ hv;have S:=(oE.1 hv).2;unfold jZ at hx;obtain ⟨y,hy,sT⟩:=cG.1 hx;obtain ⟨P,s,c1,rfl⟩:=(qK V.right).1 hy;unfold sN at sT;split at sT
 ·cases sT
 ·rename_i f1;have Au:=bE.1 sT;have e:=wO V.right P s λhf=>(S.stub P s c1 hf).1;obtain ⟨t1,t2⟩:=HC (bm ps P s);refine ⟨P,s,c1,f1,?_⟩
  rw[Au];refine ⟨?_,?_,?_,?_,?_,e⟩
  all_goals (unfold xe;split)
  all_goals first | rfl | exact t1 | exact t2
theorem aad {w:ax} {n P s:Nat} (h:okW w n) (ii:bm w.1 P s≠[]) {c:List UInt8} (hc:c.length<=(bm w.1 P s).length):(j0 w P s c).1=true:=by
 obtain ⟨hP,hs,hz⟩:=tF h.ji ii;have hp:=pp h.ji hP;grind [bm,cellOf,pk,rr,j0]
theorem YB {d:List UInt8} (h:(dz d).2=true):3<=d.length:=by
 grind [dz]
theorem aae {ps:bk} (hv:gx ps=0) {r:Row} (hr:i7 r=0) (hk:∀ r' ∈ ba ps,rk r'≠rk r) {a:Nat×Nat} (ha:(uG (dv ps) r).1=some a):gx (uG (dv ps) r).2.1=0/\∀ r',r' ∈ ba (uG (dv ps) r).2.1↔r' ∈ ba ps\/r'=r:=by
 obtain ⟨hR,S⟩:=oE.1 hv;have R:=MR (qL hR) hr;obtain ⟨y1,y2,y3,y4⟩:=R.yes a.1 a.2 ha;have e:bm (uG (dv ps) r).2.1=my (bm ps) a.1 a.2 (di 0 r):=yj y4;obtain ⟨S1,r1⟩:=QY S y3 hr λr' h'=>hk r' ((zO hv r').2 h');have hv':gx (uG (dv ps) r).2.1=0:=oE.2 ⟨R.ok.ji,by grind⟩;grind [zO]
section
variable {ps:bk} (hv:gx ps=0) {P s:Nat} (c1:bm ps P s≠[]) (c2:fl (bm ps P s)≠2)
include hv c1 c2
theorem YC {r:Row} (hr:i7 r=0) (mv:Bool) {A B:Nat} (hm:if mv then fl (bm ps P s)=1/\A=n_ (bm ps P s)/\B=oc (bm ps P s) else fl (bm ps P s)≠1/\A=P/\B=s) (V7:(oC (dv ps) P s A B mv r).1=true) :
  ∃ g:pr,bm (oC (dv ps) P s A B mv r).2.1=g/\(g=my (sO (bm ps) P s) P s (di 0 r)\/∃ X Y,sO (bm ps) P s X Y=[]/\¬ (X=P/\Y=s)/\X<=11/\Y<=15/\g=my (my (sO (bm ps) P s) X Y (di 2 r)) P s (j_ X Y)):=by
 obtain ⟨hR,S⟩:=oE.1 hv;have ho:=qL hR;have Em:∀ f,(di f r).length<=20:=λf=>by grind [ff]
 have l1:∀ f,1<=(di f r).length:=λf=>(ff (f:=f) hr).1
 have hAB:bm ps A B≠[]/\(mv=true->fl (bm ps A B)=2/\¬ (A=P/\B=s)/\bm ps P s=j_ A B/\A<=11/\B<=15):=by
  cases mv with
  | false=>grind
  | true=>
   obtain ⟨m1,m2,m3⟩:=hm;obtain ⟨a1,a2⟩:=S.stub P s c1 m1;obtain ⟨b1,b2,b3⟩:=V0 (S.read P s c1) m1;grind
 obtain ⟨cAB,hmv⟩:=hAB
 have hd:∀ Q t,sO (bm ps) P s Q t=if (Q=P/\t=s)\/(mv=true/\Q=A/\t=B) then [] else bm ps Q t:=by
  intro Q t;unfold sO my
  cases mv with
  | false=>
   simp_all
  | true=>
   obtain ⟨m1,m2,m3⟩:=hm;rw[aG m1,<- m2,<- m3];grind
 have R1:=o9 ho (P:=A) (s:=B) cAB (l1 (bif mv then 2 else 0));have R2:=so R1.ok (l1 2) (Em 2) (A:Int);refine ⟨_,rfl,?_⟩
 unfold oC at V7 ⊢;split at V7
 ·rename_i hb;rw[aG hb];have e:=R1.yes hb
  cases mv with
  | false=>
   left;obtain ⟨m1,m2,m3⟩:=hm;refine yj λQ t=>?_;rw[e Q t];unfold my;rw[m2,m3,hd];by_cases h:Q=P/\t=s
   ·grind
   ·rw[aL h,aL h,aL (λhh=>by grind)];rfl
  | true=>
   right;obtain ⟨m4,m5,m6,m7,m8⟩:=hmv rfl;refine ⟨A,B,by grind,m5,m7,m8,yj λQ t=>?_⟩
   rw[e Q t];unfold my;rw[hd];by_cases h:Q=P/\t=s
   ·rw[aG h,aL (λhh=>m5 ⟨hh.1.symm.trans h.1,hh.2.symm.trans h.2⟩),h.1,h.2];exact m6
   ·rw[aL h];by_cases h2:Q=A/\t=B
    ·grind
    ·rw[aL h2,aL h2,aL (λhh=>by grind)];rfl
 ·rename_i hb;rw[aL hb];have hbf:(j0 (dv ps) A B (di (bif mv then 2 else 0) r)).1=false:=by simpa using hb
  have e:=R1.no hbf
  cases hg:(lR (j0 (dv ps) A B (di (bif mv then 2 else 0) r)).2 (A:Int) (di 2 r)).1 with
  | none=>grind
  | some a=>
   obtain ⟨y1,y2,y3,y4⟩:=R2.yes a.1 a.2 hg;rw[e] at y3;have y3':bm ps a.1 a.2=[]:=y3;have k1:=sr R2 (mU R1 (Q:=P) (t:=s) c1 jd) jd;have k2:=sr R2 (mU R1 (Q:=A) (t:=B) cAB jd) jd;have n1:¬ (a.1=P/\a.2=s):=λhe=>c1 (by grind);have n2:¬ (a.1=A/\a.2=B):=λhe=>cAB (by grind);have R3:=o9 R2.ok k1 (c:=j_ a.1 a.2) (by rw[pt];omega)
   have tk:bm (lR (j0 (dv ps) A B (di (bif mv then 2 else 0) r)).2 (A:Int) (di 2 r)).2.1 P s=bm ps P s:=by
    rw[y4,aL (λhe=>n1 ⟨he.1.symm,he.2.symm⟩),e];rfl
   have da:=aad R2.ok k1 (c:=j_ a.1 a.2) (by rw[tk,pt];exact YB (S.read P s c1));have e3:=R3.yes da;right;refine ⟨a.1,a.2,drop_nil y3',n1,by omega,by omega,yj λQ t=>?_⟩
   have base:∀ Q t,bm (j0 (lR (j0 (dv ps) A B (di (bif mv then 2 else 0) r)).2 (A:Int) (di 2 r)).2 P s (j_ a.1 a.2)).2.1 Q t=if Q=P/\t=s then j_ a.1 a.2 else if Q=a.1/\t=a.2 then di 2 r else bm ps Q t:=λQ t=>by
    rw[e3,y4,e];rfl
   simp only;unfold my;rw[hd]
   cases mv with
   | false=>
    grind
   | true=>
    obtain ⟨m4,m5,m6,m7,m8⟩:=hmv rfl;have k3:=mU R3 k2 (by grind [j_]);show bm (jQ (j0 _ P s (j_ a.1 a.2)).2 A B).1 Q t=_;rw[(pq R3.ok k3).2.2,base];grind
theorem QZ {r:Row} (hr:i7 r=0) (hk:rk (rowAt (bm ps) P s)=rk r) (mv:Bool) {A B:Nat} (hm:if mv then fl (bm ps P s)=1/\A=n_ (bm ps P s)/\B=oc (bm ps P s) else fl (bm ps P s)≠1/\A=P/\B=s) (bd:mO (oC (dv ps) P s A B mv r).2.1) (V7:(oC (dv ps) P s A B mv r).1=true) :
  gx (oC (dv ps) P s A B mv r).2.1=0/\∀ r',r' ∈ ba (oC (dv ps) P s A B mv r).2.1↔(r' ∈ ba ps/\rk r'≠rk r)\/r'=r:=by
 obtain ⟨hR,S⟩:=oE.1 hv;obtain ⟨S1,r1⟩:=QX S c1 c2;rw[hk] at r1;have rQ:∀ r',qX (sO (bm ps) P s) r'->rk r'≠rk r:=λr' h'=>((r1 r').1 h').2;obtain ⟨g,hg,afa⟩:=YC hv c1 c2 hr mv hm V7
 have fin:uF g/\∀ r',qX g r'↔qX (sO (bm ps) P s) r'\/r'=r:=by
  grind [QY,YA,abO]
 have hv':gx (oC (dv ps) P s A B mv r).2.1=0:=oE.2 ⟨bd,by grind⟩;grind [zO]
end
theorem Q5 {xs:List Row} (h:(xs.map rk).Nodup):xs.Nodup:=List.Pairwise.of_map rk (λa b h he=>h (cP rk he)) h
theorem aaf {ps:bk} (hv:gx ps=0) {x:bc} (hx:x ∈ jZ ps):∃ w:ax,FU ps x=vo true w/\okW w 2/\gx w.1=0/\∀ r',r' ∈ ba w.1↔r' ∈ ba ps/\rk r'≠rk (jW x):=by
 obtain ⟨hR,S⟩:=oE.1 hv;obtain ⟨P,s,c1,c2,x1,x2,x3,x4,x5,x6⟩:=Iy hv hx;have ho:=qL hR;obtain ⟨d1,d2,d3⟩:=pq ho c1;obtain ⟨S1,r1⟩:=QX S c1 c2;unfold FU;rw[x1,x2,x4,x5,aC,aC,aC,aC,x3,x6];by_cases hf:fl (bm ps P s)=1
 ·rw[aG hf];obtain ⟨a1,a2⟩:=S.stub P s c1 hf
  have ne:¬ (n_ (bm ps P s)=P/\oc (bm ps P s)=s):=λhe=>by
   grind
  have k1:bm (jQ (dv ps) P s).1 (n_ (bm ps P s)) (oc (bm ps P s))≠[]:=by rw[d3,aL ne];exact a1
  obtain ⟨e1,e2,e3⟩:=pq d1 k1
  have e:bm (jQ (jQ (dv ps) P s) (n_ (bm ps P s)) (oc (bm ps P s))).1=sO (bm ps) P s:=yj λQ t=>by
   rw[e3,d3];unfold sO;rw[aG hf];rfl
  have hv':=oE.2 ⟨e1.ji,by grind⟩;grind [zO]
 ·rw[aL hf]
  have e:bm (jQ (dv ps) P s).1=sO (bm ps) P s:=yj λQ t=>by
   rw[d3];unfold sO;rw[aL hf];rfl
  have hv':=oE.2 ⟨d1.ji,by grind⟩;exact ⟨_,rfl,d1.mono Bys,hv',λr'=>by grind [zO]⟩
theorem YD {ps:bk} (hv:gx ps=0) {x:bc} (hx:x ∈ jZ ps) {r:Row} (hr:i7 r=0) (hk:rk (jW x)=rk r):CT ps x r=FT 9\/∃ w:ax,CT ps x r=vo true w/\okW w 40/\gx w.1=0/\∀ r',r' ∈ ba w.1↔(r' ∈ ba ps/\rk r'≠rk r)\/r'=r:=by
 obtain ⟨hR,S⟩:=oE.1 hv;obtain ⟨P,s,c1,c2,x1,x2,x3,x4,x5,x6⟩:=Iy hv hx;have ho:=qL hR;have V:=qJ hv;unfold CT;by_cases he:Ty.eq a8 (jW x) r=true
 ·rw[aG he];right
  have Tu:jW x=r:=by
   exact Yy he
  refine ⟨dv ps,rfl,ho.mono Bys,hv,λr'=>?_⟩
  have gb:r ∈ ba ps:=by
   grind [zM,Bt]
  constructor
  ·intro h;by_cases mY:rk r'=rk r
   ·right;have hn:=FI (xU V);exact Dv hn h gb mY
   ·exact .inl ⟨h,mY⟩
  ·rintro (h | rfl)
   ·exact h.1
   ·exact gb
 ·rw[aL he];by_cases hf:fl (bm ps P s)=1
  ·obtain ⟨a1,a2⟩:=S.stub P s c1 hf
   have hm:if (true:Bool) then fl (bm ps P s)=1/\n_ (bm ps P s)=n_ (bm ps P s)/\oc (bm ps P s)=oc (bm ps P s) else fl (bm ps P s)≠1/\n_ (bm ps P s)=P/\oc (bm ps P s)=s:=⟨hf,rfl,rfl⟩
   rw[x3,aG hf,aG hf,x1,x2,x4,x5,aY hf,aC,aC,aC,aC];have bd:=BI ho Bys c1 a1 true hr
   cases hy:(oC (dv ps) P s (n_ (bm ps P s)) (oc (bm ps P s)) true r).1 with
   | false=>exact .inl rfl
   | true=>
    right;obtain ⟨v1,v2⟩:=QZ hv c1 c2 hr (by grind) true hm bd.ji hy;grind
  ·have hm:if (false:Bool) then fl (bm ps P s)=1/\P=n_ (bm ps P s)/\s=oc (bm ps P s) else fl (bm ps P s)≠1/\P=P/\s=s:=⟨hf,rfl,rfl⟩
   rw[x3,aL hf,aL hf,x1,x2,bD hf,aC,aC];have bd:=BI ho Bys c1 c1 false hr
   cases hy:(oC (dv ps) P s P s false r).1 with
   | false=>exact .inl rfl
   | true=>
    right;obtain ⟨v1,v2⟩:=QZ hv c1 c2 hr (by grind) false hm bd.ji hy;grind
theorem Uc {xs ys:List Row} (hx:up xs) (hy:up ys) (h:∀ r,r ∈ xs↔r ∈ ys):xs=ys:=by
 have n1:xs.Nodup:=Q5 (FI hx);have n2:ys.Nodup:=Q5 (FI hy);exact Yj ((List.perm_ext_iff_of_nodup n1 n2).2 h) hx hy
end OT
namespace OT
open Go
def jG (ps:bk) (c:Change):d9:=
 if gx ps=0 then
  if kI c=0 then
   match uk ps (ck c).1 (ck c).2 with
   | some x=>if c.1&&Ty.eq a8 (jW x) c.2.1 then (if c.2.2.1 then CT ps x c.2.2.2.1 else FU ps x) else FT 8
   | none=>if c.1 then FT 8 else vo (uG (dv ps) c.2.2.2.1).1.isSome (uG (dv ps) c.2.2.2.1).2
  else FT (kI c)
 else FT (gx ps)
section
variable {ps:bk} (hp:∀ p ∈ ps,p.length<=maxLen)
include hp
theorem En {c:Change} (h:kI c=0) (hw:c.1=false):c.2.2.1=true:=by
 grind [kI]
theorem Q6 {c:Change} (hv:gx ps=0) (hf:kI c=0):rX.ab (ps,c,())=some (match uk ps (ck c).1 (ck c).2 with
  | some x=>if c.1&&Ty.eq a8 (jW x) c.2.1 then (if c.2.2.1 then CT ps x c.2.2.2.1 else FU ps x) else FT 8
  | none=>if c.1 then FT 8 else vo (uG (dv ps) c.2.2.2.1).1.isSome (uG (dv ps) c.2.2.2.1).2,()):=by
 have hV:=qJ hv;refine ag (k:=0) λk _=>(rX.ae k _).trans ?_;show rX.p _=_;unfold rX.p;rw[Bq];simp only[aA,Sp ps hV.right,DY]
 cases hx:uk ps (ck c).1 (ck c).2 with
 | none=>
  simp only
  cases hw:c.1 with
  | true=>rfl
  | false=>
   have hi:=(po hf).2 (En hp hf hw);rw[V3 hV.right hi];rfl
 | some x=>
  have hm:=cT hx;grind [jW,V5,V4,po]
theorem Sv {c:Change} (hc:cl c):qq.ab (ps,c,())=some (jG ps c,()):=by
 refine ag (k:=0) λk _=>(qq.ae k _).trans ?_;show qq.p _=_;unfold qq.p jG;rw[DV ps hp];simp only[aA,A5 c hc,xd];by_cases hv:gx ps=0
 ·rw[aG hv,aY hv,aS];by_cases hf:kI c=0
  ·have hV:=qJ hv;have hl:=Dt hV;have ho:=qL hV.right;rw[aG hf,aY hf,aU,aF,DW _ Bys,QW hV.right];simp only[aA];have xk:(ba ps).length<=2000000:=by grind [ba]
   rw[show (ze ps).map (·.1)=ba ps from rfl,NG c (ba ps) (xU hV) xk];have Nf:(AA c).1=(ck c).1:=by rw[<-yh c]
   have mY:(AA c).2.1=(ck c).2:=by rw[<-yh c]
   simp only[aA,Nf,mY,Sq _ (show (ze ps).length<=1000 by omega),Yv hV];have oq:=Hz hV (ck c).1 (ck c).2
   cases hx:uk ps (ck c).1 (ck c).2 with
   | none=>
    rw[hx] at oq;simp only at oq
    have e:vg (ba ps) c=!c.1:=by
     grind [vg]
    rw[e]
    cases hw:c.1 with
    | true=>rfl
    | false=>
     have hi:=(po hf).2 (En hp hf hw);grind [V2,CS]
   | some x=>
    have hm:=cT hx;rw[hx] at oq;obtain ⟨f1,f2,f3,f4⟩:=oq
    have e:vg (ba ps) c=(c.1&&Ty.eq a8 (jW x) c.2.1):=by
     grind [vg]
    rw[e];dsimp only
    cases hw:c.1 with
    | false=>rfl
    | true=>
     cases Ty.eq a8 (jW x) c.2.1 with
     | false=>rfl
     | true=>
      simp only[bV,iI,aU,aF,aK]
      cases hi:c.2.2.1 with
      | true=>
       have e:=Su hV hm ((po hf).2 hi);simp only[aS,aK];cases hu:kQ.ab (dv ps,qz x,c.2.2.2.1,()) <;> grind
      | false=>
       have e:=V6 hV hm;simp only[aF,aE,aR];cases hu:lM.ab (dv ps,qz x,()) <;> grind
  ·rw[aL hf,bD hf,cI,aS];rfl
 ·rw[aL hv,bD hv,aF,cI,aS];rfl
end
end OT
namespace OT
open Go
theorem xh {ok:Bool} {w:ax} (h:(vo ok w).1=0):ok=true/\vo ok w=((0:Int),w.2.1,w.1,()):=by
 unfold vo at h ⊢
 cases ok with
 | true=>exact ⟨rfl,rfl⟩
 | false=>exact absurd h (show ¬ (9:Int)=0 by decide)
theorem YE {ps:bk} (hv:gx ps=0) {r:Row} (hr:i7 r=0) (hn:uk ps r.1 r.2.1=none) (h0:(vo (uG (dv ps) r).1.isSome (uG (dv ps) r).2).1=0):gx (uG (dv ps) r).2.1=0/\∀ r',r' ∈ ba (uG (dv ps) r).2.1↔r' ∈ ba ps\/r'=r:=by
 have V:=qJ hv;obtain ⟨ha,_⟩:=xh h0;obtain ⟨a,ha⟩:=eH.1 ha;refine aae hv hr (λr' hr' he=>?_) ha;have hf:=Hz V r.1 r.2.1;rw[hn] at hf;simp only at hf;obtain ⟨i,hi,hx⟩:=bL hr';have:=(AE (xU V) hi (k:=(r.1,r.2.1)) (by rw[hx];exact he)).1;rw[hf] at this;cases this
theorem Ud {d:List UInt8} (h:(dz d).2=true) (h1:fl d≠1):i7 (HB d)=0:=by
 unfold fl at h1;unfold HB;unfold dz at h h1 ⊢;split at h
 ·rename_i hc;rw[aG hc] at h1;exact absurd rfl h1
 ·rename_i hc;rw[aL hc];split at h
  ·cases h
  ·rename_i Dc;rw[aL Dc]
   simpa using h
theorem YF {ps:bk} (hv:gx ps=0):Good (ba ps):=by
 refine ⟨xU (qJ hv),λr hr=>?_⟩
 have S:=(oE.1 hv).2;obtain ⟨P,s,c1,f1,rfl⟩:=(zO hv r).1 hr;unfold rowAt;split
 ·rename_i hf;obtain ⟨a1,a2⟩:=S.stub P s c1 hf;exact Ud (S.read _ _ a1) (by rw[a2];decide)
 ·rename_i hf;exact Ud (S.read _ _ c1) hf
theorem NT {ps:bk} (hv:gx ps=0) {c:Change} (hc:kI c=0) (h0:(jG ps c).1=0):gx (jG ps c).2.2.1=0/\ba (jG ps c).2.2.1=qc (ba ps) c:=by
 have V:=qJ hv;have hu:=xU V;have hdu:up (qc (ba ps) c):=(sk (YF hv) hc).up
 have fin:∀ {w:ax},gx w.1=0->(∀ r',r' ∈ ba w.1↔(r' ∈ ba ps/\rk r'≠ck c)\/(c.2.2.1=true/\r'=c.2.2.2.1))->gx w.1=0/\ba w.1=qc (ba ps) c:=λ{w} h1 h2=>
  ⟨h1,Uc (xU (qJ h1)) hdu λr'=>by rw[h2,vn hu]⟩
 unfold jG at h0 ⊢;rw[aG hv,aG hc] at h0 ⊢;have oq:=Hz V (ck c).1 (ck c).2
 cases hx:uk ps (ck c).1 (ck c).2 with
 | none=>
  rw[hx] at oq h0;simp only at oq h0 ⊢
  cases hw:c.1 with
  | true=>rw[hw] at h0;exact absurd h0 (show ¬ (8:Int)=0 by decide)
  | false=>
   rw[hw] at h0;simp only[aE,aR] at h0 ⊢;have hi:=En (ps:=[]) (λp hp=>by cases hp) hc hw;have hr:=(po hc).2 hi;have hk:=(po hc).1 hi
   have hn:uk ps c.2.2.2.1.1 c.2.2.2.1.2.1=none:=by
    have:rk c.2.2.2.1=((ck c).1,(ck c).2):=hk;unfold rk at this;injection this with e1 e2;rw[e1,e2];exact hx
   obtain ⟨v1,v2⟩:=YE hv hr hn h0;rw[(xh h0).2];refine fin v1 λr'=>?_;rw[v2];constructor
   ·rintro (h | h)
    ·refine .inl ⟨h,λhe=>?_⟩;obtain ⟨i,hi2,xA⟩:=bL h;have:=(AE hu hi2 (k:=ck c) (by rw[xA];exact he)).1;rw[show ck c=((ck c).1,(ck c).2) from rfl,oq] at this;cases this
    ·exact .inr ⟨hi,h⟩
   ·rintro (h | h)
    ·exact .inl h.1
    ·exact .inr h.2
 | some x=>
  have hm:=cT hx;rw[hx] at oq h0;obtain ⟨f1,f2,f3,f4⟩:=oq;simp only at h0 ⊢;have f4':rk (jW x)=ck c:=f4
  cases hb:(c.1&&Ty.eq a8 (jW x) c.2.1) with
  | false=>rw[hb] at h0;exact absurd h0 (show ¬ (8:Int)=0 by decide)
  | true=>
   rw[hb] at h0;simp only[aK] at h0 ⊢
   cases hi:c.2.2.1 with
   | true=>
    rw[hi] at h0;simp only[aK] at h0 ⊢;have hr:=(po hc).2 hi;have hk:=(po hc).1 hi
    rcases YD hv hm hr (by rw[f4',hk]) with e | ⟨w,e,ok,v1,v2⟩
    ·rw[e] at h0;exact absurd h0 (show ¬ (9:Int)=0 by decide)
    ·rw[e];refine fin v1 λr'=>?_;rw[v2,hk];simp only[hi,eL]
   | false=>
    rw[hi] at h0;simp only[aE,aR] at h0 ⊢;obtain ⟨w,e,ok,v1,v2⟩:=aaf hv hm;rw[e];refine fin v1 λr'=>?_;rw[v2,f4'];simp only[hi,aE,false_and,or_false]
end OT
namespace OT
open Go
def lS (ps:bk) (e:pz):bk:=if e.1.toNat=ps.length then ps++[e.2.1] else ps.set e.1.toNat e.2.1
def Gr (ps:bk) (es:List pz):bk:=es.foldl lS ps
theorem Ue (ps:bk) (es:List pz) (e:pz):Gr ps (es++[e])=lS (Gr ps es) e:=by
 grind [Gr]
def J9 (ps:bk) (e:pz):Prop:=List.length e.2.1=64/\0<=e.1/\e.1<=(ps.length:Int)/\e.1 < 12
def zh:bk->List pz->Prop
 | _,[]=>True
 | ps,e::es=>J9 ps e/\zh (lS ps e) es
theorem HE {ps:bk}:∀ {es:List pz} {e:pz},zh ps es->J9 (Gr ps es) e->zh ps (es++[e])
 | [],e,_,h=>⟨h,trivial⟩
 | x::es,e,h,h2=>⟨h.1,HE (ps:=lS ps x) h.2 h2⟩
theorem Uf {ps:bk} {P:Nat} {b:List UInt8} (h:mO (lS ps ((P:Int),b,()))) (hP:P<=ps.length):J9 ps ((P:Int),b,()):=by
 have hm:b ∈ lS ps ((P:Int),b,())/\P < (lS ps ((P:Int),b,())).length:=by
  grind [lS,List.mem_set]
 have Ay:=h.1;exact ⟨(h.2 b hm.1).len,by grind,by grind,by grind⟩
def ac5 (ps:bk) (es:List pz) (B:Nat->List Row):Prop:=∀ j,j<=es.length->gx (Gr ps (es.take j))=0/\ba (Gr ps (es.take j))=B j
structure ae2 (ps:bk) (w:ax) (B0:List Row):Prop where
 at_:Gr ps w.2.1=w.1
 ed:zh ps w.2.1
 way:ac5 ps w.2.1 λ_=>B0
structure aeY (ps:bk) (w:ax) (B0 B1:List Row):Prop where
 at_:Gr ps w.2.1=w.1
 ed:zh ps w.2.1
 way:∃ m,m<=List.length w.2.1/\ac5 ps w.2.1 λj=>if j < m then B0 else B1
theorem LK {w:ax} {P:Nat} (hP:P<=List.length w.1) (b:List UInt8):mf w P b=w\/((mf w P b).2.1=w.2.1++[((P:Int),b,())]/\(mf w P b).1=lS w.1 ((P:Int),b,())):=by
 grind [mf,lS]
end OT
namespace OT
open Go
structure Lk (ps:bk) (w:ax):Prop where
 at_:Gr ps w.2.1=w.1
 ed:zh ps w.2.1
section
variable {ps:bk} {w:ax} {n:Nat}
theorem Lk.xO (h:Lk ps w) {P:Nat} {b:List UInt8} {m:Nat} (ho:okW (mf w P b) m) (hP:P<=List.length w.1):Lk ps (mf w P b):=by
 rcases LK hP b with e | ⟨e1,e2⟩
 ·rw[e];exact h
 ·refine ⟨by rw[e1,Ue,h.at_,e2],?_⟩
  rw[e1];exact HE h.ed (by rw[h.at_];exact Uf (by rw[<-e2];exact ho.ji) hP)
theorem Lk.comp (h:Lk ps w) (ho:okW w n) {P:Nat} (hP:P < List.length w.1):Lk ps (oB w P):=h.xO (wN ho hP) (eB hP)
theorem Lk.qW (h:Lk ps w) (ho:okW w n) {P:Nat} (hP:P < List.length w.1) {c:List UInt8} (hc:1<=c.length):Lk ps (qW w P c).2:=by
 have R:=(xV ho hP hc).ok;have hk:=h.comp ho hP;unfold OT.qW at R ⊢;by_cases h8:mw (fk w.1 P) c=8
 ·rw[aG h8] at R ⊢;by_cases h0:mw (mc (fk w.1 P)) c=0
  ·rw[aG h0] at R ⊢;exact hk.xO R (by rw[sn hP];omega)
  ·rw[aL h0];exact hk
 ·rw[aL h8] at R ⊢;by_cases h0:mw (fk w.1 P) c=0
  ·rw[aG h0] at R ⊢;exact h.xO R (eB hP)
  ·rw[aL h0];exact h
theorem Lk.j0 (h:Lk ps w) (ho:okW w n) {P s:Nat} (ii:bm w.1 P s≠[]) {c:List UInt8} (hc:1<=c.length):Lk ps (j0 w P s c).2:=by
 have R:=(o9 ho ii hc).ok;have hP:=(tF ho.ji ii).1;have hk:=h.comp ho hP;unfold OT.j0 at R ⊢;by_cases h8:rr (fk w.1 P) s c=8
 ·rw[aG h8] at R ⊢;by_cases h0:rr (mc (fk w.1 P)) s c=0
  ·rw[aG h0] at R ⊢;exact hk.xO R (by rw[sn hP];omega)
  ·rw[aL h0];exact hk
 ·rw[aL h8] at R ⊢;by_cases h0:rr (fk w.1 P) s c=0
  ·rw[aG h0] at R ⊢;exact h.xO R (eB hP)
  ·rw[aL h0];exact h
theorem Lk.jQ (h:Lk ps w) (ho:okW w n) {P s:Nat} (ii:bm w.1 P s≠[]):Lk ps (jQ w P s):=h.xO (pq ho ii).1 (eB (tF ho.ji ii).1)
end
theorem Lk.jg {ps:bk} {c:List UInt8} (hc:1<=c.length) (no:Int):∀ (l:List Nat) (w:ax) (n:Nat),Lk ps w->okW w n->(∀ P ∈ l,P < List.length w.1)->Lk ps (jg c no l w).2
 | [],w,n,h,_,_=>h
 | P::l,w,n,h,ho,hl=>by
  unfold OT.jg;split
  ·exact Lk.jg hc no l w n h ho λQ hQ=>hl Q (aX _ hQ)
  ·have hP:=hl P bF;have R:=xV ho hP hc;have hk:=h.qW ho hP hc;split
   ·exact hk
   ·exact Lk.jg hc no l _ _ hk R.ok λQ hQ=>by rw[R.len];exact hl Q (aX _ hQ)
section
variable {ps:bk} {w:ax} {n:Nat}
theorem Lk.lR (h:Lk ps w) (ho:okW w n) {c:List UInt8} (jX:1<=c.length) (hc:c.length<=20) (no:Int):Lk ps (lR w no c).2:=by
 have R:=(so ho jX hc no).ok;have G:=vl jX no (List.range (List.length w.1)) w n ho λP hP=>cC.1 hP;have hk:=Lk.jg jX no (List.range (List.length w.1)) w n h ho λP hP=>cC.1 hP;unfold OT.lR at R ⊢
 cases hr:(OT.jg c no (List.range (List.length w.1)) w).1 with
 | some a=>exact hk
 | none=>
  rw[hr] at R;simp only at R ⊢;by_cases Ay:12<=List.length w.1
  ·rw[aG Ay];exact hk
  ·rw[aL Ay] at R ⊢;exact hk.xO R (by rw[(G.no hr).1];omega)
theorem Lk.oC (h:Lk ps w) (ho:okW w n) {P s A B:Nat} (h1:bm w.1 P s≠[]) (h2:bm w.1 A B≠[]) (mv:Bool) {r:Row} (hr:i7 r=0):Lk ps (oC w P s A B mv r).2:=by
 have R1:=o9 ho h2 (ff (f:=bif mv then 2 else 0) hr).1;have L1:=h.j0 ho h2 (ff (f:=bif mv then 2 else 0) hr).1;have R2:=so R1.ok (ff (f:=2) hr).1 (by have:=(ff (f:=2) hr).2;omega) (A:Int);have L2:=L1.lR R1.ok (ff (f:=2) hr).1 (by have:=(ff (f:=2) hr).2;omega) (A:Int);unfold OT.oC;split
 ·exact L1
 ·split
  ·exact L2
  ·rename_i a ha;have k1:=sr R2 (mU R1 h1 jd) jd;have k2:=sr R2 (mU R1 h2 jd) jd;have R3:=o9 R2.ok k1 (c:=j_ a.1 a.2) (by rw[pt];omega);have L3:=L2.j0 R2.ok k1 (c:=j_ a.1 a.2) (by rw[pt];omega)
   cases mv with
   | false=>exact L3
   | true=>exact L3.jQ R3.ok (mU R3 k2 (by unfold j_;simp))
end
theorem Lk.start {ps:bk}:Lk ps (dv ps):=⟨rfl,trivial⟩
theorem MS {ps:bk} (hv:gx ps=0) {c:Change} (hc:kI c=0) (h0:(jG ps c).1=0):∃ w:ax,jG ps c=((0:Int),w.2.1,w.1,())/\okW w 40/\Lk ps w:=by
 obtain ⟨hR,S⟩:=oE.1 hv;have ho:=qL hR;have hL:Lk ps (dv ps):=Lk.start;unfold jG at h0 ⊢;rw[aG hv,aG hc] at h0 ⊢
 cases hx:uk ps (ck c).1 (ck c).2 with
 | none=>
  rw[hx] at h0;simp only at h0 ⊢
  cases hw:c.1 with
  | true=>rw[hw] at h0;exact absurd h0 (show ¬ (8:Int)=0 by decide)
  | false=>
   rw[hw] at h0;simp only[aE,aR] at h0 ⊢;have hr:=(po hc).2 (En (ps:=[]) (λp hp=>by cases hp) hc hw);have hk:=hL.lR ho (ff (f:=0) hr).1 (by have:=(ff (f:=0) hr).2;omega) (-1);rw[(xh h0).2];exact ⟨_,rfl,(MR ho hr).ok.mono Bys,hk⟩
 | some x=>
  have hm:=cT hx;obtain ⟨P,s,c1,c2,x1,x2,x3,x4,x5,x6⟩:=Iy hv hm;rw[hx] at h0;simp only at h0 ⊢
  cases hb:(c.1&&Ty.eq a8 (jW x) c.2.1) with
  | false=>rw[hb] at h0;exact absurd h0 (show ¬ (8:Int)=0 by decide)
  | true=>
   rw[hb] at h0;simp only[aK] at h0 ⊢
   cases hi:c.2.2.1 with
   | true=>
    rw[hi] at h0;simp only[aK] at h0 ⊢;have hr:=(po hc).2 hi;unfold CT at h0 ⊢;by_cases he:Ty.eq a8 (jW x) c.2.2.2.1=true
    ·rw[aG he];exact ⟨_,rfl,ho.mono Bys,hL⟩
    ·rw[aL he] at h0 ⊢;rw[(xh h0).2];by_cases hf:fl (bm ps P s)=1
     ·obtain ⟨a1,a2⟩:=S.stub P s c1 hf;rw[x3,aG hf,aG hf,x1,x2,x4,x5,aY hf,aC,aC,aC,aC];exact ⟨_,rfl,(BI ho Bys c1 a1 true hr).mono Bys,hL.oC ho c1 a1 true hr⟩
     ·rw[x3,aL hf,aL hf,x1,x2,bD hf,aC,aC];exact ⟨_,rfl,(BI ho Bys c1 c1 false hr).mono Bys,hL.oC ho c1 c1 false hr⟩
   | false=>
    simp only[aE,aR];obtain ⟨d1,d2,d3⟩:=pq ho c1;have L1:=hL.jQ ho c1;unfold FU;rw[x1,x2,x4,x5,aC,aC,aC,aC,x3];by_cases hf:fl (bm ps P s)=1
    ·rw[aG hf];obtain ⟨a1,a2⟩:=S.stub P s c1 hf
     have ne:¬ (n_ (bm ps P s)=P/\oc (bm ps P s)=s):=λhe=>by
      rw[he.1,he.2] at a2;exact c2 a2
     have k1:bm (jQ (dv ps) P s).1 (n_ (bm ps P s)) (oc (bm ps P s))≠[]:=by rw[d3,aL ne];exact a1
     exact ⟨_,rfl,(pq d1 k1).1.mono Bys,L1.jQ d1 k1⟩
    ·rw[aL hf];exact ⟨_,rfl,d1.mono Bys,L1⟩
end OT
namespace OT
open Go
def t8 (x:Tx):Int:=if Dq x=0 then tD x else Dq x
theorem NU {α:Type} (c:Nat->α->Int):∀ (xs:List α) (i:Nat),bt (λi (_:Unit) y=>if c i y=0 then .inr () else .inl (c i y,())) (λ_=>((0:Int),())) i xs ()=(bt (λi (_:Unit) y=>if c i y=0 then .inr () else .inl (c i y)) (λ_=>(0:Int)) i xs (),())
 | [],_=>rfl
 | y::ys,i=>by simp only[bt];by_cases h0:c i y=0 <;> simp[h0,NU c ys (i+1)]
theorem By {α:Type} (c:Nat->α->Int) (E:Option (Int×Unit)):∀ (xs:List α) (i:Nat),bt (λi (_:Unit) y=>if c i y=0 then .inr () else .inl (some (c i y,()))) (λ_=>E) i xs () =
  if bt (λi (_:Unit) y=>if c i y=0 then .inr () else .inl (c i y)) (λ_=>(0:Int)) i xs ()=0 then E else some (bt (λi (_:Unit) y=>if c i y=0 then .inr () else .inl (c i y)) (λ_=>(0:Int)) i xs (),())
 | [],_=>rfl
 | y::ys,i=>by simp only[bt];by_cases h0:c i y=0 <;> simp[h0,By c E ys (i+1)]
theorem Jf {α:Type} (c:α->Int):∀ (xs:List α) (i:Nat),bt (λ_ (_:Unit) y=>if c y=0 then .inr () else .inl (c y)) (λ_=>(0:Int)) i xs ()=oO c xs
 | [],_=>rfl
 | y::ys,i=>by simp only[bt,oO];by_cases h0:c y=0 <;> simp[h0,Jf c ys (i+1)]
theorem V8 (x:Tx) (h:tl x):eh.ab (x,())=some (t8 x,()):=by
 obtain ⟨h1,h2,h3,h4⟩:=h;refine ag (k:=1048577) λk hk=>(eh.ae k _).trans ?_
 have V9:List.length x.2.2.2.1<=12->eh.r2 k (x,()) (0:Int)=some (vI x.2.2.2.1,()):=λhl=>by
  have:=c8 (B:=λself v=>eh.b2 self (λz=>eh.q2 (x,()) z) (x,()) v) x.2.2.2.1 (λ(_:Unit) (i:Int)=>i) (λi _ y=>if qU x.2.2.2.1 i y=0 then .inr () else .inl (qU x.2.2.2.1 i y,())) (λ_=>(0,())) (λ_ _=>True) (by rw[ao];omega)
   (λi hi s self _=>by
    grind [eh.b2,qU,ZY,contains_eq,ao])
   (λ_ _ _ _ _ _=>trivial) (λs self _=>by
    show eh.b2 _ _ _ _=_;unfold eh.b2;simp only[aV,aI,aF]
    rfl) () trivial k Bys
  rw[NU (qU x.2.2.2.1)] at this;exact this
 have second:List.length x.2.2.1<=8->List.length x.2.2.2.1<=12->eh.r1 k (x,()) ((0:Int),(0:Int))=some (if Hj (List.length x.2.1:Int) 0 x.2.2.1 then vI x.2.2.2.1 else 3,()):=λhm hl=>by
  have:=eo (B:=λself v=>eh.b1 self (λz=>eh.Q1 k (x,()) z) (x,()) v) x.2.2.1 (λ(last:Int) (i:Int)=>(last,i)) (λ_ last m=>if dm m last (List.length x.2.1:Int) then .inr m else .inl (some ((3:Int),()))) (λ_=>some (vI x.2.2.2.1,())) (λ_ _=>True) (by rw[ao];omega)
   (λi hi last self _=>by
    grind [eh.b1,si,dm])
   (λ_ _ _ _ _ _=>trivial) (λlast self _=>by
    show eh.b1 _ _ _ _=_;unfold eh.b1;simp only[aV,aI,aF]
    exact V9 hl) 0 trivial k Bys
  rw[Qr] at this;refine aQ this ?_;grind [Hj]
 have after:eh.Q0 k (x,()) ()=some (tD x,()):=by
  show eh.q0 _ _ _=_;grind [eh.q0,tD]
 have:=eo (B:=λself v=>eh.b0 self (λz=>eh.Q0 k (x,()) z) (x,()) v) x.2.1 (λ(_:Unit) (i:Int)=>i) (λ_ _ c=>if wc x.2.2.2.1 c=0 then .inr () else .inl (some (wc x.2.2.2.1 c,()))) (λ_=>some (tD x,())) (λ_ _=>True) (by rw[ao];omega)
  (λi hi s self _=>by
   show eh.b0 _ _ _ _=_;unfold eh.b0;have a7:(i:Int) < (List.length x.2.1:Int):=by omega
   simp only[a7,aO,aS,aN,aK,aC,aB hi,aA,NB _ (h4 _ (aJ hi)),MK]
   grind [contains_eq,ao,wc])
  (λ_ _ _ _ _ _=>trivial) (λs self _=>by
   grind [eh.b0]) () trivial k Bys
 rw[By (λ_=>wc x.2.2.2.1),Jf] at this;refine aQ this ?_;grind [t8,Dq]
def py (xs:List Tx) (k:Key):Int:=match xs with
 | []=>0
 | x::xs=>if jk x.2.2.2.1 k then x.1 else py xs k
def oY (xs:List Tx):Prop:=xs.length<=1048576/\∀ x ∈ xs,tl x
theorem HF (k:Key):∀ (xs:List Tx) (i:Nat),bt (λ_ (_:Unit) x=>if jk x.2.2.2.1 k then .inl (x.1,()) else .inr ()) (λ_=>((0:Int),())) i xs ()=(py xs k,())
 | [],_=>rfl
 | x::xs,i=>by simp only[bt,py];cases jk x.2.2.2.1 k <;> simp[HF k xs (i+1)]
theorem Q7 {x:Tx} (h:tl x):List.length x.2.2.2.1<=maxLen:=by rw[ao];have:=h.2.2.1;omega
theorem Sw (xs:List Tx) (k0:Key) (h:oY xs):nT.ab (xs,k0,())=some (py xs k0,()):=by
 obtain ⟨h1,h2⟩:=h;refine ag (k:=xs.length+1) λk hk=>(nT.ae k _).trans ?_
 have:=c8 (B:=λself v=>nT.b0 self (λz=>nT.q0 (xs,k0,()) z) (xs,k0,()) v) xs (λ(_:Unit) (i:Int)=>i) (λ_ _ x=>if jk x.2.2.2.1 k0 then .inl (x.1,()) else .inr ()) (λ_=>(0,())) (λ_ _=>True) (by rw[ao];omega)
  (λi hi s self _=>by
   grind [nT.b0,JW,Q7])
  (λ_ _ _ _ _ _=>trivial) (λs self _=>by
   show nT.b0 _ _ _ _=_;unfold nT.b0;simp only[aV,aI,aF]
   rfl) () trivial k Bys
 rw[HF] at this;exact this
def oF (xs:List Tx):Int:=xs.foldl (λn x=>n+(List.length x.2.1:Int)) 0
theorem HG (xs:List Tx) (h:oY xs):jT.ab (xs,())=some (oF xs,()):=by
 obtain ⟨h1,h2⟩:=h;refine ag (k:=xs.length+1) λk hk=>(jT.ae k _).trans ?_
 have:=c8 (B:=λself v=>jT.b0 self (λz=>jT.q0 (xs,()) z) (xs,()) v) xs (λ(n:Int) (i:Int)=>(n,i)) (λ_ n x=>.inr (n+(List.length x.2.1:Int))) (λn=>(n,())) (λi n=>0<=n/\n<=1048576*(i:Int)) (by rw[ao];omega)
  (λi hi n self hI=>by
   show jT.b0 _ _ _ _=_;unfold jT.b0;have a7:(i:Int) < (xs.length:Int):=by omega
   have hx:=(h2 _ (aJ hi)).1
   grind [bi])
  (λi hi n n' hI hs=>by
   injection hs with hs;have hx:=(h2 _ (aJ hi)).1
   omega) (λs self _=>by
   show jT.b0 _ _ _ _=_;unfold jT.b0;simp only[aV,aI,aF]
   rfl) 0 Bys k Bys
 rw[ic] at this;exact this
theorem CU (xs:List Tx) (h:oY xs):jr.ab (xs,())=some (oF xs,()):=by
 obtain ⟨h1,h2⟩:=h;refine ag (k:=xs.length+1) λk hk=>(jr.ae k _).trans ?_
 have:=c8 (B:=λself v=>jr.b0 self (λz=>jr.q0 (xs,()) z) (xs,()) v) xs (λ(n:Int) (i:Int)=>(n,i)) (λ_ n x=>.inr (n+(List.length x.2.1:Int))) (λn=>(n,())) (λi n=>0<=n/\n<=1048576*(i:Int)) (by rw[ao];omega)
  (λi hi n self hI=>by
   show jr.b0 _ _ _ _=_;unfold jr.b0;have a7:(i:Int) < (xs.length:Int):=by omega
   have hx:=(h2 _ (aJ hi)).1
   grind [bi])
  (λi hi n n' hI hs=>by
   injection hs with hs;have hx:=(h2 _ (aJ hi)).1
   omega) (λs self _=>by
   show jr.b0 _ _ _ _=_;unfold jr.b0;simp only[aV,aI,aF]
   rfl) 0 Bys k Bys
 rw[ic] at this;exact this
def s7 (xs:List Tx) (i:Nat) (x:Tx):Int:=if dm x.1 1 99 then (if 0 < i then (match xs[i - 1]? with
    | some y=>if x.1<=y.1 then 1 else t8 x
    | none=>1) else t8 x) else 3
def Ai (xs:List Tx):Int:=bt (λi (_:Unit) x=>if s7 xs i x=0 then .inr () else .inl (s7 xs i x)) (λ_=>(0:Int)) 0 xs ()
def flatK (xs:List Tx):List Key:=xs.flatMap λx=>x.2.2.2.1
def CV (xs:List Tx):Bool:=decide (flatK xs).Nodup
def lW (xs:List Tx):Int:=if 4 < xs.length then 2 else if Ai xs=0 then (if CV xs then (if 12 < oF xs then 2 else 0) else 7) else Ai xs
theorem yk (xs:List Tx) (h:Ai xs=0):∀ i (hi:i < xs.length),s7 xs i xs[i]=0:=by
 have main:∀ (ys:List Tx) (j:Nat),(bt (λi (_:Unit) x=>if s7 xs i x=0 then .inr () else .inl (s7 xs i x)) (λ_=>(0:Int)) j ys ())=0->∀ i (hi:i < ys.length),s7 xs (j+i) ys[i]=0:=by
  intro ys
  induction ys with
  | nil=>grind
  | cons y ys ih=>
   intro j hf i hi;simp only[bt] at hf;by_cases h0:s7 xs j y=0
   ·rw[aG h0] at hf
    cases i with
    | zero=>simpa using h0
    | succ i=>
     have:=ih (j+1) hf i (by simpa using hi);grind
   grind
 intro i hi;have:=main xs 0 h i hi;grind
theorem CW {xs:List Tx} {i:Nat} {x:Tx} (h:s7 xs i x=0):1<=x.1/\t8 x=0/\∀ y,0 < i->xs[i - 1]?=some y->y.1 < x.1:=by
 grind [s7,dm]
theorem YG {xs:List Tx} (h:Ai xs=0):xs.Pairwise λx y=>x.1 < y.1:=by
 rw[bN];intro i j hi hj qN
 have key:∀ d (hd:i+d+1 < xs.length),(xs[i]).1 < (xs[i+d+1]).1:=by
  intro d
  induction d with
  | zero=>
   intro hd;exact (CW (yk xs h (i+1) hd)).2.2 xs[i] Bys (by simp[hi])
  | succ d ih=>
   intro hd;have h1:=ih Bys;have h2:=(CW (yk xs h (i+d+1+1) hd)).2.2 xs[i+d+1] Bys (by grind);grind
 have:=key (j - i - 1) Bys;grind
theorem Sx {ks:List Key} (h:vI ks=0):ks.Nodup:=by
 have main:∀ (ys:List Key) (j:Nat),(bt (λi (_:Unit) k=>if qU ks i k=0 then .inr () else .inl (qU ks i k)) (λ_=>(0:Int)) j ys ())=0->∀ i (hi:i < ys.length),qU ks (j+i) ys[i]=0:=by
  intro ys
  induction ys with
  | nil=>grind
  | cons y ys ih=>
   intro j hf i hi;simp only[bt] at hf;by_cases h0:qU ks j y=0
   ·rw[aG h0] at hf
    cases i with
    | zero=>simpa using h0
    | succ i=>
     have:=ih (j+1) hf i (by simpa using hi);grind
   grind
 rw[iA,bN];intro i j hi hj qN e;have h1:=main ks 0 h j hj;rw[bZ] at h1;unfold qU at h1;split at h1
 ·split at h1
  ·cases h1
  ·rename_i hn;refine hn (nY.2 ?_);rw[<-e];exact iD.2 ⟨i,by omega,rfl⟩
 ·cases h1
theorem aag {x:Tx} (h:t8 x=0):(x.2.2.2.1:List Key).Nodup:=by
 grind [t8,tD,Sx]
end OT
namespace OT
open Go
def Eo (xs:List Tx):Bool:=xs.all λx=>x.2.2.2.1.all λk=>decide (py xs k=x.1)
theorem aah {xs:List Tx} (hr:xs.Pairwise λx y=>x.1 < y.1) (hn:∀ x ∈ xs,(x.2.2.2.1:List Key).Nodup):Eo xs=CV xs:=by
 have main:∀ (xs:List Tx),(xs.Pairwise λx y=>x.1 < y.1)->(∀ x ∈ xs,(x.2.2.2.1:List Key).Nodup)->((∀ x ∈ xs,∀ k ∈ (x.2.2.2.1:List Key),py xs k=x.1)↔(flatK xs).Nodup):=by
  intro xs
  induction xs with
  | nil=>grind [flatK]
  | cons x xs ih=>
   intro hr hn;obtain ⟨h1,h2⟩:=dM.1 hr;have ih:=ih h2 (λy hy=>hn y (by simp[hy]));have Bd:flatK (x::xs)=x.2.2.2.1++flatK xs:=by simp[flatK]
   rw[Bd,dF];constructor
   ·intro sy
    have hd:∀ y ∈ xs,∀ k ∈ (y.2.2.2.1:List Key),k ∉ (x.2.2.2.1:List Key):=λy hy k hk hx=>by
     grind
    refine ⟨hn x (by simp),ih.1 λy hy k hk=>?_,λa ha b hb e=>?_⟩
    ·grind [py]
    ·subst e;obtain ⟨y,hy,hk⟩:=cG.1 hb;grind
   ·rintro ⟨g1,g2,g3⟩ y hy k hk;grind [py,flatK,jk]
 have hm:=main xs hr hn;unfold Eo CV;rw[fS];simp_all
theorem Q8 (xs:List Tx) (h:oY xs):ft.ab (xs,())=some (Eo xs,()):=by
 have ht:=h;obtain ⟨h1,h2⟩:=h;refine ag (k:=1048577) λk hk=>(ft.ae k _).trans ?_
 have inner:∀ (self:((List Tx)×Int)->Option ft.O) (e0:Unit->Option ft.O) (i:Nat) (hi:i < xs.length),ft.r1 k self e0 (xs,()) xs (i:Int) (0:Int)=if (xs[i]).2.2.2.1.any (λy=>!decide (py xs y=(xs[i]).1)) then some (false,()) else self (xs,af ((i:Int)+1)):=λself e0 i hi=>by
  have Q9:=h2 _ (aJ hi);have LL:=Q9.2.2.1
  have:=eo (B:=λju v=>ft.b1 ju (λz=>ft.q0 self e0 (xs,()) xs (i:Int) z) (xs,()) xs (i:Int) v) (xs[i]).2.2.2.1 (λ(_:Unit) (j:Int)=>j) (λ_ _ y=>if !decide (py xs y=(xs[i]).1) then .inl (some (false,())) else .inr ()) (λ_=>self (xs,af ((i:Int)+1))) (λ_ _=>True) (by rw[ao];omega)
   (λj hj s ju _=>by
    show ft.b1 _ _ _ _ _ _=_;unfold ft.b1
    grind [Sw])
   (λ_ _ _ _ _ _=>trivial) (λs ju _=>by
    show ft.b1 _ _ _ _ _ _=_;unfold ft.b1;simp only[aN,aK,aC,aB hi,aA,aV,aI,aF]
    rfl) () trivial k Bys
  rw[tR] at this;exact this
 have:=c8 (B:=λself v=>ft.B0 k self (λz=>ft.q1 (xs,()) z) (xs,()) v) xs (λ(_:Unit) (i:Int)=>(xs,i)) (λ_ _ x=>if x.2.2.2.1.all (λy=>decide (py xs y=x.1)) then .inr () else .inl (false,())) (λ_=>(true,())) (λ_ _=>True) (by rw[ao];omega)
  (λi hi s self _=>by
   show ft.b0 _ _ _ _ _=_
   grind [ft.b0])
  (λ_ _ _ _ _ _=>trivial) (λs self _=>by
   show ft.b0 _ _ _ _ _=_;unfold ft.b0;simp only[aV,aI,aF]
   rfl) () trivial k Bys
 rw[uS (λ(x:Tx)=>x.2.2.2.1.all (λy=>decide (py xs y=x.1))) (false,()) (λ_=>(true,()))] at this;refine aQ this ?_;grind [Eo]
def kd (S:List Key):List (Key×Bool):=S.map λk=>(k,true)
theorem Sy {α:Type} (k:Ty) (e:k.den×α) (m:List (k.den×α)) (x:k.den):ko k (e::m) x=if k.eq x e.1 then some e.2 else ko k m x:=by
 grind [ko]
theorem V_ {α:Type} (k:Ty) (m:List (k.den×α)) (x:k.den) (y:α) (h:∀ e ∈ m,k.eq x e.1=false):nP k m x y=m++[(x,y)]:=by
 grind [nP]
theorem Jg (S:List Key) (k:Key):ko be (kd S) k=if jk S k then some true else none:=by
 induction S with
 | nil=>rfl
 | cons s S ih=>
  refine (Sy be (s,true) (kd S) k).trans ?_;grind [z_,jk]
theorem aai (S:List Key) (k:Key):C3 (ko be (kd S) k) false=jk S k:=by
 grind [C3,Jg]
theorem Q_ {S:List Key} {k:Key} (h:jk S k=false):nP be (kd S) k true=kd (S++[k]):=by
 refine (V_ be (kd S) k true λe he=>?_).trans ?_
 ·obtain ⟨s,hs,rfl⟩:=dQ.1 he;grind [z_,jk]
 ·simp only[kd,fH,dX,iQ];rfl
def getM (m:List (Key×Bool)) (k:Key):Bool:=C3 (ko be m k) false
def tX (m:List (Key×Bool)) (k:Key):List (Key×Bool):=nP be m k true
def vp:List (Key×Bool)->List Key->Option (List (Key×Bool))
 | m,[]=>some m
 | m,k::ks=>if getM m k then none else vp (tX m k) ks
theorem Jh:∀ (m:List (Key×Bool)) (a b:List Key),vp m (a++b)=(vp m a).bind λm'=>vp m' b
 | m,[],b=>rfl
 | m,k::a,b=>by
  simp only[dA,vp];split
  ·rfl
  ·exact Jh _ a b
theorem NV:∀ (ks S:List Key),S.Nodup->vp (kd S) ks=if (S++ks).Nodup then some (kd (S++ks)) else none
 | [],S,h=>by simp[vp,h]
 | k::ks,S,h=>by
  have hg:getM (kd S) k=jk S k:=aai S k;simp only[vp,hg]
  cases hh:jk S k with
  | true=>
   have:¬ (S++k::ks).Nodup:=λhn=>by
    rw[dF] at hn;exact hn.2.2 k (nY.1 hh) k (by simp) rfl
   simp[this]
  | false=>
   have hk:k ∉ S:=λhm=>by rw[nY.2 hm] at hh;cases hh
   simp only[aE,aR];have hp:tX (kd S) k=kd (S++[k]):=Q_ hh;rw[hp,NV ks (S++[k]) (by grind)];grind
theorem NW {O:Type} (bad:Option O) (E:List (Key×Bool)->Option O):∀ (ks:List Key) (i:Nat) (m:List (Key×Bool)),bt (λ_ m k=>if getM m k then .inl bad else .inr (tX m k)) E i ks m=match vp m ks with | none=>bad | some m'=>E m'
 | [],_,_=>rfl
 | k::ks,i,m=>by
  simp only[bt,vp];by_cases h:getM m k=true
  ·simp[h]
  ·simp only[h,aR];exact NW bad E ks _ _
theorem LM {O:Type} (bad:Option O) (E:Option O):∀ (xs:List Tx) (i:Nat) (m:List (Key×Bool)),bt (λ_ m x=>match vp m x.2.2.2.1 with | none=>.inl bad | some m'=>.inr m') (λ_=>E) i xs m=match vp m (flatK xs) with | none=>bad | some _=>E
 | [],_,_=>rfl
 | x::xs,i,m=>by
  have Bd:flatK (x::xs)=x.2.2.2.1++flatK xs:=by simp[flatK]
  rw[Bd,Jh];simp only[bt]
  cases h:vp m x.2.2.2.1 with
  | none=>rfl
  | some m'=>
   simp only[aA];exact LM bad E xs _ _
theorem FV (xs:List Tx) (h:oY xs):cc.ab (xs,())=some (lW xs,()):=by
 have ht:=h;obtain ⟨h1,h2⟩:=h;refine ag (k:=1048577) λk hk=>(cc.ae k _).trans ?_;unfold cc.p lW;by_cases h4:4 < xs.length
 ·grind
 have h4':¬ (4:Int) < (xs.length:Int):=by omega
 simp only[h4,h4',aI,aF,aR]
 have last:cc.q2 (xs,()) xs=some (if 12 < oF xs then 2 else 0,()):=by
  grind [cc.q2,CU]
 have inner:∀ (self:((List Tx)×(List (Key×Bool))×(List Tx)×Int×Int)->Option cc.O) (e2:List Tx->Option cc.O) (i:Nat) (hi:i < xs.length) (m:List (Key×Bool)),cc.r2 k self e2 (xs,()) xs xs (xs.length:Int) (i:Int) (xs[i]).2.2.2.1 (List.length (xs[i]).2.2.2.1:Int) (m,(0:Int))=match vp m (xs[i]).2.2.2.1 with | none=>some ((7:Int),()) | some m'=>self (xs,m',xs,(xs.length:Int),af ((i:Int)+1)):=λself e2 i hi m=>by
  have LL:=(h2 _ (aJ hi)).2.2.1
  have:=eo (B:=λju v=>cc.b2 ju (λz=>cc.q1 self e2 (xs,()) xs xs (xs.length:Int) (i:Int) (xs[i]).2.2.2.1 (List.length (xs[i]).2.2.2.1:Int) z) (xs,()) xs xs (xs.length:Int) (i:Int) (xs[i]).2.2.2.1 (List.length (xs[i]).2.2.2.1:Int) v) (xs[i]).2.2.2.1 (λ(m:List (Key×Bool)) (j:Int)=>(m,j)) (λ_ m y=>if getM m y then .inl (some ((7:Int),())) else .inr (tX m y)) (λm=>self (xs,m,xs,(xs.length:Int),af ((i:Int)+1))) (λ_ _=>True) (by rw[ao];omega)
   (λj hj s ju _=>by
    grind [cc.b2,getM,tX])
   (λ_ _ _ _ _ _=>trivial) (λs ju _=>by
    show cc.b2 _ _ _ _ _ _ _ _ _ _=_;unfold cc.b2;simp only[aV,aI,aF]
    rfl) m trivial k Bys
  rw[NW] at this;exact this
 have apart:cc.Q0 k (xs,()) ()=some (if CV xs then (if 12 < oF xs then 2 else 0) else 7,()):=by
  have:=eo (B:=λself v=>cc.B1 k self (λz=>cc.q2 (xs,()) z) (xs,()) v) xs (λ(m:List (Key×Bool)) (i:Int)=>(xs,m,xs,(xs.length:Int),i)) (λ_ m x=>match vp m x.2.2.2.1 with | none=>.inl (some ((7:Int),())) | some m'=>.inr m') (λ_=>some (if 12 < oF xs then 2 else 0,())) (λ_ _=>True) (by rw[ao];omega)
   (λi hi m self _=>by
    show cc.b1 _ _ _ _ _=_
    grind [cc.b1])
   (λ_ _ _ _ _ _=>trivial) (λs self _=>by
    show cc.b1 _ _ _ _ _=_
    grind [cc.b1]) (kd []) trivial k Bys
  rw[LM,NV _ _ fC] at this;refine aQ this ?_;grind [CV]
 have:=eo (B:=λself v=>cc.b0 self (λz=>cc.Q0 k (xs,()) z) (xs,()) v) xs (λ(_:Unit) (i:Int)=>i) (λi _ x=>if s7 xs i x=0 then .inr () else .inl (some (s7 xs i x,()))) (λ_=>some (if CV xs then (if 12 < oF xs then 2 else 0) else 7,())) (λ_ _=>True) (by rw[ao];omega)
  (λi hi s self _=>by
   show cc.b0 _ _ _ _=_;unfold cc.b0 s7;have a7:(i:Int) < (xs.length:Int):=by omega
   simp only[a7,aO,aS,aN,aK,aC,aB hi,aA,MG,V8 _ (h2 _ (aJ hi))]
   grind [dm,Lt,ao,Int.toNat_natCast])
  (λ_ _ _ _ _ _=>trivial) (λs self _=>by
   grind [cc.b0]) () trivial k Bys
 rw[By (s7 xs)] at this;refine aQ this ?_;grind [Ai]
theorem Wa (xs:List Tx) (h:oY xs):kB.ab (xs,())=some (lW xs,()):=by
 have ht:=h;obtain ⟨h1,h2⟩:=h;refine ag (k:=1048577) λk hk=>(kB.ae k _).trans ?_;unfold kB.p lW;by_cases h4:4 < xs.length
 ·grind
 have h4':¬ (4:Int) < (xs.length:Int):=by omega
 simp only[h4,h4',aI,aF,aR]
 have last:kB.q0 (xs,()) ()=some (if Eo xs then (if 12 < oF xs then 2 else 0) else 7,()):=by
  grind [kB.q0,Q8,HG]
 have:=eo (B:=λself v=>kB.b0 self (λz=>kB.q0 (xs,()) z) (xs,()) v) xs (λ(_:Unit) (i:Int)=>i) (λi _ x=>if s7 xs i x=0 then .inr () else .inl (some (s7 xs i x,()))) (λ_=>some (if Eo xs then (if 12 < oF xs then 2 else 0) else 7,())) (λ_ _=>True) (by rw[ao];omega)
  (λi hi s self _=>by
   show kB.b0 _ _ _ _=_;unfold kB.b0 s7;have a7:(i:Int) < (xs.length:Int):=by omega
   simp only[a7,aO,aS,aN,aK,aC,aB hi,aA,qu,Sj _ (h2 _ (aJ hi)),Qs _ (h2 _ (aJ hi))]
   have hj:(bif !decide (Dq xs[i]=0) then some (Dq xs[i],()) else bif !decide (tD xs[i]=0) then some (tD xs[i],()) else self (af ((i:Int)+1)))=match (generalizing:=false) (if t8 xs[i]=0 then .inr () else .inl (some (t8 xs[i],())):Sum (Option (Int×Unit)) Unit) with | .inl o=>o | .inr _=>self (af ((i:Int)+1)):=by
    grind [t8]
   grind [dm,Lt,ao,Int.toNat_natCast])
  (λ_ _ _ _ _ _=>trivial) (λs self _=>by
   grind [kB.b0]) () trivial k Bys
 rw[By (s7 xs)] at this;refine aQ this ?_;show (if Ai xs=0 then _ else some (Ai xs,()))=_;by_cases he:Ai xs=0
 ·rw[aG he,aG he,aah (YG he) (λx hx=>by
   obtain ⟨i,hi,rfl⟩:=dE.1 hx
   exact aag (CW (yk xs he i hi)).2.1)]
 grind
end OT
namespace OT
open Go
def dd (S:List Key) (ks:List Key):List Key:=ks.foldl (λS k=>if jk S k then S else S++[k]) S
def tI (rows:List Row):List Key:=rows.map λr=>(r.1,r.2.1,())
def mV (rows:List Row) (xs:List Tx):List Key:=tI rows++flatK xs
theorem Sz {α:Type} (k:Ty) (m:List (k.den×α)) (x:k.den) (y:α) {i:Nat} (h:m.findIdx? (λe=>k.eq x e.1)=some i):nP k m x y=m.set i (x,y):=by
 grind [nP]
theorem YH {S:List Key} {k:Key} (h:jk S k=true):tX (kd S) k=kd S:=by
 have key:∀ (S:List Key) (i:Nat),(kd S).findIdx? (λe=>Ty.eq be k e.1)=some i->(kd S)[i]?=some (k,true):=by
  intro S i hi;have h1:=eQ.1 hi;grind [kd,z_]
 show nP be (kd S) k true=kd S
 cases hf:(kd S).findIdx? (λe=>Ty.eq be k e.1) with
 | none=>
  exfalso
  have h1:ko be (kd S) k=none:=by
   unfold ko;have h2:=List.findIdx?_eq_none_iff.1 hf;have:(kd S).find? (λe=>Ty.eq be k e.1)=none:=eW.2 λe he=>by grind
   exact cP _ this
  grind [Jg]
 | some i=>
  have h1:=key S i hf;have a7:=(aM.1 h1).1;refine (Sz be (kd S) k true hf).trans ?_;show (kd S).set i (k,true)=kd S;grind [List.set_getElem_self]
theorem Ra (S:List Key) (k:Key):tX (kd S) k=kd (if jk S k then S else S++[k]):=by
 cases h:jk S k with
 | true=>grind [YH]
 | false=>simp only[aE,aR];exact Q_ h
theorem Ug:∀ (ks S:List Key),ks.foldl tX (kd S)=kd (dd S ks)
 | [],S=>rfl
 | k::ks,S=>by
  rw[eD,Ra,Ug ks];rfl
theorem NX (S a b:List Key):dd S (a++b)=dd (dd S a) b:=iH
theorem HH:∀ (ks S:List Key) (k:Key),k ∈ dd S ks↔k ∈ S\/k ∈ ks
 | [],S,k=>by simp[dd]
 | x::ks,S,k=>by
  show k ∈ dd (if jk S x then S else S++[x]) ks↔_;rw[HH ks];grind [jk]
theorem YI:∀ (ks S:List Key),S.length<=(dd S ks).length
 | [],S=>aH _
 | x::ks,S=>by
  refine bI ?_ (YI ks (if jk S x then S else S++[x]));grind
theorem Rb:∀ (ks S:List Key),(S++ks).Nodup->dd S ks=S++ks
 | [],S,_=>by simp[dd]
 | x::ks,S,h=>by
  have hx:jk S x=false:=by
   grind [jk]
  show dd (if jk S x then S else S++[x]) ks=_;rw[hx];simp only[aE,aR];rw[Rb ks (S++[x]) (by simpa using h)];simp
theorem SA {rows:List Row} (h:up rows):(tI rows).Nodup:=by
 unfold tI;rw[iA,gB];refine h.imp λ{a b} TK e=>?_;grind [rk,vf]
theorem Dx {rows:List Row} {xs:List Tx} (h:up rows):rows.length<=(dd [] (mV rows xs)).length:=by
 unfold mV;rw[NX,Rb (tI rows) [] (by simpa using SA h)];refine bI ?_ (YI _ _);simp[tI]
def HI:List Key->List Key->Nat
 | _,[]=>0
 | S,k::ks=>(if jk S k then 0 else 1)+HI (S++[k]) ks
theorem MT:∀ (ks S T:List Key),(∀ k,k ∈ S↔k ∈ T)->(dd S ks).length=S.length+HI T ks
 | [],S,T,_=>rfl
 | x::ks,S,T,h=>by
  have hx:jk S x=jk T x:=by grind [nY]
  show (dd (if jk S x then S else S++[x]) ks).length=_;simp only[HI,<- hx]
  cases hh:jk S x with
  | true=>
   simp only[aK];rw[MT ks S (T++[x]) λk=>?_]
   ·omega
   ·simp only[bG,bE,<- h k];constructor
    ·exact .inl
    ·rintro (h1 | h1)
     ·exact h1
     ·subst h1;exact nY.1 hh
  | false=>
   simp only[aE,aR];rw[MT ks (S++[x]) (T++[x]) λk=>by grind];grind
def sP (rows:List Row) (xs:List Tx):Nat:=(dd [] (mV rows xs)).length
theorem NY (rows:List Row) (xs:List Tx) (hr:rows.length<=1048576) (h:oY xs):dp.ab (rows,xs,())=some (kd (dd [] (mV rows xs)),()):=by
 obtain ⟨h1,h2⟩:=h;refine ag (k:=1048577) λk hk=>(dp.ae k _).trans ?_
 have inner:∀ (self:((List (Key×Bool))×(List Tx)×Int×Int)->Option dp.O) (e2:(List (Key×Bool))->Option dp.O) (i:Nat) (hi:i < xs.length) (m:List (Key×Bool)),dp.r2 k self e2 (rows,xs,()) xs (xs.length:Int) (i:Int) (xs[i]).2.2.2.1 (List.length (xs[i]).2.2.2.1:Int) (m,(0:Int))=self ((xs[i]).2.2.2.1.foldl tX m,xs,(xs.length:Int),af ((i:Int)+1)):=λself e2 i hi m=>by
  have LL:=(h2 _ (aJ hi)).2.2.1
  have:=eo (B:=λju v=>dp.b2 ju (λz=>dp.q1 self e2 (rows,xs,()) xs (xs.length:Int) (i:Int) (xs[i]).2.2.2.1 (List.length (xs[i]).2.2.2.1:Int) z) (rows,xs,()) xs (xs.length:Int) (i:Int) (xs[i]).2.2.2.1 (List.length (xs[i]).2.2.2.1:Int) v) (xs[i]).2.2.2.1 (λ(m:List (Key×Bool)) (j:Int)=>(m,j)) (λ_ m y=>.inr (tX m y)) (λm=>self (m,xs,(xs.length:Int),af ((i:Int)+1))) (λ_ _=>True) (by rw[ao];omega)
   (λj hj s ju _=>by
    show dp.b2 _ _ _ _ _ _ _ _ _=_;unfold dp.b2;have a7:(j:Int) < (List.length (xs[i]).2.2.2.1:Int):=by omega
    simp only[a7,aO,aS,aN,aK,aC,aB hj,aA]
    rfl)
   (λ_ _ _ _ _ _=>trivial) (λs ju _=>by
    show dp.b2 _ _ _ _ _ _ _ _ _=_;unfold dp.b2;simp only[aV,aI,aF]
    rfl) m trivial k Bys
  rw[ic (g:=tX)] at this;exact this
 have second:∀ m,dp.r1 k (rows,xs,()) (m,xs,(xs.length:Int),(0:Int))=some ((flatK xs).foldl tX m,()):=λm=>by
  have:=c8 (B:=λself v=>dp.B1 k self (λz=>dp.q2 (rows,xs,()) z) (rows,xs,()) v) xs (λ(m:List (Key×Bool)) (i:Int)=>(m,xs,(xs.length:Int),i)) (λ_ m x=>.inr (x.2.2.2.1.foldl tX m)) (λm=>(m,())) (λ_ _=>True) (by rw[ao];omega)
   (λi hi m self _=>by
    show dp.b1 _ _ _ _ _=_
    grind [dp.b1])
   (λ_ _ _ _ _ _=>trivial) (λs self _=>by
    show dp.b1 _ _ _ _ _=_;unfold dp.b1;simp only[aV,aI,aF]
    rfl) m trivial k Bys
  rw[ic (g:=λm (x:Tx)=>x.2.2.2.1.foldl tX m)] at this;refine aQ this ?_
  have:∀ (xs:List Tx) (m:List (Key×Bool)),xs.foldl (λm (x:Tx)=>x.2.2.2.1.foldl tX m) m=(flatK xs).foldl tX m:=by
   intro xs
   induction xs <;> grind [flatK]
  rw[this]
 have:=eo (B:=λself v=>dp.b0 self (λz=>dp.Q0 k (rows,xs,()) z) (rows,xs,()) v) rows (λ(m:List (Key×Bool)) (i:Int)=>(m,i)) (λ_ m r=>.inr (tX m (r.1,r.2.1,()))) (λm=>some ((flatK xs).foldl tX m,())) (λ_ _=>True) (by rw[ao];omega)
  (λi hi m self _=>by
   show dp.b0 _ _ _ _=_;unfold dp.b0;have a7:(i:Int) < (rows.length:Int):=by omega
   simp only[a7,aO,aS,aN,aK,aC,aB hi,aA]
   rfl)
  (λ_ _ _ _ _ _=>trivial) (λs self _=>by
   show dp.b0 _ _ _ _=_;unfold dp.b0;simp only[aV,aI,aF]
   exact second s) (kd []) trivial k Bys
 rw[ic (g:=λm (r:Row)=>tX m (r.1,r.2.1,()))] at this;refine aQ this ?_;have e1:rows.foldl (λm (r:Row)=>tX m (r.1,r.2.1,())) (kd [])=(tI rows).foldl tX (kd []):=by unfold tI;rw[List.foldl_map]
 grind [Ug,mV]
theorem Ji {O:Type} (x:Key) (E:Bool->Option O):∀ (ys:List Key) (j:Nat) (b:Bool),bt (λ_ b y=>if b then .inr (!decide (y=x)) else .inl (E false)) E j ys b=if b then E (!jk ys x) else E false
 | [],_,b=>by cases b <;> rfl
 | y::ys,j,b=>by
  cases b with
  | false=>simp[bt]
  | true=>
   simp only[bt,aK];rw[Ji x E ys];grind [jk]
theorem Rc {O:Type} (all:List Key) (E:Int->O):∀ (ys pre:List Key) (n:Int),all=pre++ys->bt (λi n x=>.inr (if jk (all.take i) x then n else n+1)) E pre.length ys n=E (n+(HI pre ys:Int))
 | [],pre,n,_=>by simp[bt,HI]
 | y::ys,pre,n,h=>by
  simp only[bt];have ht:all.take pre.length=pre:=by rw[h];simp
  rw[ht];have:=Rc all E ys (pre++[y]) (if jk pre y then n else n+1) (by rw[h];simp);grind [HI]
def Ep (k:Key):List Key:=if k.2.1=0 then [] else [k]
def zi (rows:List Row) (xs:List Tx) (k:Key):Nat:=(dd [] (mV rows xs++Ep k)).length
theorem Rd (rows:List Row) (xs:List Tx) (kk:Key) (hr:rows.length<=1048576) (hx:xs.length<=1000) (h:∀ x ∈ xs,List.length x.2.2.2.1<=1000):cd.ab (rows,xs,kk,())=some ((zi rows xs kk:Int),()):=by
 refine ag (k:=3000000) λk hk=>(cd.ae k _).trans ?_
 have Bd:(flatK xs).length<=1000*xs.length:=by
  clear hx
  induction xs <;> grind [flatK]
 have V9:∀ all:List Key,all.length<=2100000->cd.r2 k (rows,xs,kk,()) (all,(0:Int),(0:Int))=some ((HI [] all:Int),()):=λall sy=>by
  have inner:∀ (self:((List Key)×Int×Int)->Option cd.O) (e4:Int->Option cd.O) (i:Nat) (hi:i < all.length) (n:Int),cd.r3 k self e4 (rows,xs,kk,()) all n (i:Int) (true,(0:Int))=if jk (all.take i) all[i] then self (all,n,af ((i:Int)+1)) else self (all,af (n+1),af ((i:Int)+1)):=λself e4 i hi n=>by
   have lY:(all.take i).length=i:=by simp;omega
   have:=eo (B:=λju v=>cd.b3 ju (λz=>cd.q2 self e4 (rows,xs,kk,()) all n (i:Int) z) (rows,xs,kk,()) all n (i:Int) v) (all.take i) (λ(b:Bool) (j:Int)=>(b,j)) (λ_ b y=>if b then .inr (!decide (y=all[i])) else .inl (if false then self (all,af (n+1),af ((i:Int)+1)) else self (all,n,af ((i:Int)+1)))) (λb=>if b then self (all,af (n+1),af ((i:Int)+1)) else self (all,n,af ((i:Int)+1))) (λ_ _=>True) (by rw[ao];omega)
    (λj hj b ju _=>by
     show cd.b3 _ _ _ _ _ _ _=_;unfold cd.b3;rw[lY] at hj;have a7:(j:Int) < (i:Int):=by omega
     have hjl:j < all.length:=by omega
     have c1:(0:Int)<=(j:Int)/\(j:Int) < (all.length:Int):=by omega
     have c2:(0:Int)<=(i:Int)/\(i:Int) < (all.length:Int):=by omega
     simp only[a7,c1,c2,cM,aO,aS,aK,aC,aB hjl,aB hi,aA,z_,gD]
     cases b <;> rfl)
    (λ_ _ _ _ _ _=>trivial) (λb ju _=>by
     show cd.b3 _ _ _ _ _ _ _=_;unfold cd.b3;simp only[lY,aV,aI,aF]
     cases b <;> rfl) true trivial k Bys
   have e:=Ji all[i] (λb=>if b then self (all,af (n+1),af ((i:Int)+1)) else self (all,n,af ((i:Int)+1))) (all.take i) 0 true;refine (aQ this e).trans ?_;grind
  have:=c8 (B:=λself v=>cd.B2 k self (λz=>cd.q3 (rows,xs,kk,()) z) (rows,xs,kk,()) v) all (λ(n:Int) (i:Int)=>(all,n,i)) (λi n x=>.inr (if jk (all.take i) x then n else n+1)) (λn=>(n,())) (λi n=>0<=n/\n<=(i:Int)) (by rw[ao];omega)
   (λi hi n self hI=>by
    show cd.b2 _ _ _ _ _=_
    grind [cd.b2,bi])
   (λi hi n n' hI hs=>by
    grind) (λs self _=>by
    show cd.b2 _ _ _ _ _=_;unfold cd.b2;simp only[aV,aI,aF]
    rfl) 0 Bys k Bys
  have e:=Rc all (λn=>(n,())) all [] 0 rfl;refine (aQ this (cP some e)).trans ?_;rw[Int.zero_add]
 have second:cd.r1 k (rows,xs,kk,()) (tI rows,(0:Int))=some ((HI [] (mV rows xs++Ep kk):Int),()):=by
  have xk:(tI rows).length=rows.length:=by simp[tI]
  have:=eo (B:=λself v=>cd.b1 self (λz=>cd.Q1 k (rows,xs,kk,()) z) (rows,xs,kk,()) v) xs (λ(s:List Key) (i:Int)=>(s,i)) (λ_ s x=>.inr (s++x.2.2.2.1)) (λs=>cd.r2 k (rows,xs,kk,()) (s++Ep kk,(0:Int),(0:Int))) (λi s=>s.length<=1048576+1000*i) (by rw[ao];omega)
   (λi hi s self hI=>by
    grind [cd.b1,c9,Int.natCast_nonneg])
   (λi hi s s' hI hs=>by
    grind) (λs self hI=>by
    show cd.b1 _ _ _ _=_;unfold cd.b1;simp only[aV,aI,aF];show cd.q1 _ _ _=_
    grind [cd.q1,Ep,c9]) (tI rows) Bys k Bys
  rw[ic (g:=λs (x:Tx)=>s++x.2.2.2.1)] at this;refine aQ this ?_
  have e:∀ (xs:List Tx) (s:List Key),xs.foldl (λs (x:Tx)=>s++x.2.2.2.1) s=s++flatK xs:=by
   intro xs
   induction xs <;> grind [flatK]
  rw[e];have hex:(Ep kk).length<=1:=by grind [Ep]
  exact V9 _ (by grind)
 have:=eo (B:=λself v=>cd.b0 self (λz=>cd.Q0 k (rows,xs,kk,()) z) (rows,xs,kk,()) v) rows (λ(s:List Key) (i:Int)=>(s,i)) (λ_ s r=>.inr (s++[(r.1,r.2.1,())])) (λs=>cd.r1 k (rows,xs,kk,()) (s,(0:Int))) (λi s=>s.length=i) (by rw[ao];omega)
  (λi hi s self hI=>by
   grind [cd.b0,c9,Int.natCast_nonneg])
  (λi hi s s' hI hs=>by grind) (λs self _=>by
   show cd.b0 _ _ _ _=_;unfold cd.b0;simp only[aV,aI,aF]
   rfl) [] rfl k Bys
 rw[ic (g:=λs (r:Row)=>s++[(r.1,r.2.1,())])] at this
 have e:∀ (rows:List Row) (s:List Key),rows.foldl (λs (r:Row)=>s++[(r.1,r.2.1,())]) s=s++tI rows:=by
  intro rows
  induction rows <;> grind [tI]
 rw[e,cK,second] at this;refine aQ this ?_;have:=MT (mV rows xs++Ep kk) [] [] (λ_=>iG);grind [zi]
theorem YJ {ks:List Key} (h:vI ks=0):∀ k ∈ ks,xM k=true:=by
 have main:∀ (ys:List Key) (j:Nat),(bt (λi (_:Unit) k=>if qU ks i k=0 then .inr () else .inl (qU ks i k)) (λ_=>(0:Int)) j ys ())=0->∀ y ∈ ys,xM y=true:=by
  intro ys
  induction ys <;> grind [bt,qU]
 exact main ks 0 h
structure wd (xs:List Tx):Prop where
 len:xs.length<=4
 ch:∀ x ∈ xs,∀ c ∈ (x.2.1:List Change),kI c=0
 Iz:∀ x ∈ xs,List.length x.2.2.2.1<=12
 s8:∀ x ∈ xs,List.length x.2.1<=12
 keys:∀ x ∈ xs,∀ k ∈ (x.2.2.2.1:List Key),xM k=true
theorem Aj {α:Type} {c:α->Int}:∀ {xs:List α},oO c xs=0->∀ x ∈ xs,c x=0
 | [],_,_,h=>by cases h
 | y::ys,h,x,hx=>by
  simp only[oO] at h;split at h
  ·rcases bB.1 hx with e | e
   ·subst e;assumption
   ·exact Aj h x e
  grind
theorem Uh:∀ (xs:List Tx) (n:Int),0<=n->n<=xs.foldl (λn x=>n+(List.length x.2.1:Int)) n/\∀ x ∈ xs,(List.length x.2.1:Int)<=xs.foldl (λn x=>n+(List.length x.2.1:Int)) n
 | [],n,h=>⟨fD _,λx hx=>by cases hx⟩
 | y::ys,n,h=>by
  obtain ⟨h1,h2⟩:=Uh ys (n+(List.length y.2.1:Int)) Bys;grind
theorem rR {xs:List Tx} (h:lW xs=0):wd xs:=by
 unfold lW at h;split at h
 ·cases h
 ·rename_i hl;split at h
  ·rename_i he;split at h
   ·split at h
    ·cases h
    ·rename_i hc
     have each:∀ x ∈ xs,t8 x=0:=λx hx=>by
      obtain ⟨i,hi,rfl⟩:=dE.1 hx;exact (CW (yk xs he i hi)).2.1
     refine ⟨by omega,λx hx c hcm=>?_,λx hx=>?_,λx hx=>?_,λx hx=>?_⟩
     ·have h1:=each x hx;unfold t8 at h1;split at h1
      ·rename_i hu;have h2:=Aj hu c hcm;grind [wc,Dp]
      grind
     ·grind [t8,tD]
     ·have:=(Uh xs 0 (fD _)).2 x hx;grind [oF]
     grind [t8,tD,YJ]
   ·cases h
  grind
end OT
namespace OT
open Go
def vq (c:Change):Change:=(c.2.2.1,c.2.2.2.1,c.1,c.2.1,())
def fy (cs:List Change):List Change:=cs.reverse.map vq
theorem Er (cs:List Change):(fy cs).length=cs.length:=by simp[fy]
theorem zP {cs:List Change} {c:Change} (h:c ∈ fy cs):∃ d ∈ cs,c=vq d:=by
 grind [fy]
theorem abP {c:Change} (h:kI c=0):kI (vq c)=0:=by
 grind [kI,vq,sameKey]
theorem HJ (cs:List Change) (hl:cs.length<=1048576) {O:Type} {B:((List Change×Int)->Option O)->(List Change×Int)->Option O} {E:List Change->Option O}
  (gb:∀ (m:Nat) (hm:m < cs.length) acc self,acc.length<=1048576->B self (acc,(m:Int))=self (acc++[vq cs[m]],af ((m:Int) - 1))) (pM:∀ acc self,B self (acc,(-1:Int))=E acc) :
  ∀ k,cs.length < k->al B k ([],af ((cs.length:Int) - 1))=E (fy cs):=by
 have main:∀ (m:Nat) (acc:List Change),m<=cs.length->acc.length+m<=cs.length->∀ k,m < k->al B k (acc,(m:Int) - 1)=E (acc++(cs.take m).reverse.map vq):=by
  intro m
  induction m with
  | zero=>
   intro acc _ _ k hk;cases k <;> grind [al]
  | succ m ih=>
   intro acc hm ha k hk
   cases k with
   | zero=>omega
   | succ k=>
    show B (al B k) _=_;have e:((m+1:Nat):Int) - 1=(m:Int):=by omega
    rw[e,gb m Bys acc _ Bys,bi Bys,ih _ Bys (by simp;omega) k Bys,gC Bys,gT,fH,bT];rfl
 grind [bi,fy]
theorem Wb (cs:List Change) (hl:cs.length<=1048576):lq.ab (cs,())=some (fy cs,()):=by
 refine ag (k:=cs.length+1) λk hk=>(lq.ae k _).trans ?_;refine HJ cs hl (B:=λself v=>lq.b0 self (λz=>lq.q0 (cs,()) z) (cs,()) v) (E:=λz=>some (z,())) (λm hm acc self ha=>?_) (λacc self=>?_) k Bys
 ·grind [lq.b0,vq,c9]
 ·show lq.b0 _ _ _ _=_;unfold lq.b0;rfl
theorem FW (cs:List Change) (hl:cs.length<=1048576):kO.ab (cs,())=some (fy cs,()):=by
 refine ag (k:=cs.length+1) λk hk=>(kO.ae k _).trans ?_;refine HJ cs hl (B:=λself v=>kO.b0 self (λz=>kO.q0 (cs,()) z) (cs,()) v) (E:=λz=>some (z,())) (λm hm acc self ha=>?_) (λacc self=>?_) k Bys
 ·grind [kO.b0,vq,c9]
 ·show kO.b0 _ _ _ _=_;unfold kO.b0;rfl
def i_:List Row->List Change->Option (List Row)
 | s,[]=>some s
 | s,c::cs=>if vg s c then i_ (qc s c) cs else none
theorem back_append:∀ (a b:List Change) (s:List Row),i_ s (a++b)=(i_ s a).bind λt=>i_ t b
 | [],b,s=>rfl
 | c::a,b,s=>by
  simp only[dA,i_];split
  ·exact back_append a b _
  ·rfl
theorem ym:∀ (cs:List Change) (s t:List Row),Good s->(∀ c ∈ cs,kI c=0)->i_ s cs=some t->Good t/\t.length<=s.length+cs.length
 | [],s,t,h,_,hb=>by injection hb with hb;grind
 | c::cs,s,t,h,hc,hb=>by
  simp only[i_] at hb;split at hb
  ·have h1:=ym cs (qc s c) t (sk h (hc c (by simp))) (λd hd=>hc d (by simp[hd])) hb;grind [J2]
  ·cases hb
theorem Re {O α:Type} {f:Nat->Unit->α->Sum O Unit} {fin:Unit->O}:∀ (xs:List α) (j:Nat),(∀ i (hi:i < xs.length),f (j+i) () xs[i]=.inr ())->bt f fin j xs ()=fin ()
 | [],_,_=>rfl
 | x::xs,j,h=>by
  have h0:=h 0 (by simp);simp only[dY,List.getElem_cons_zero] at h0;simp only[bt,h0]
  exact Re xs (j+1) λi hi=>by
   have:=h (i+1) (by simp;omega);grind
theorem FX {xs:List Row} (h:Good xs) (hl:xs.length<=60):mE xs=0:=by
 unfold mE;rw[aL Bys,Re xs 0 λi hi=>?_];unfold tU;rw[aG (h.ok _ (aJ hi)),bZ];by_cases h0:0 < i
 ·rw[aG h0,aB (show i - 1 < xs.length by omega)];have hu:=h.up;grind [up,List.pairwise_iff_getElem]
 ·rw[aL h0]
theorem Wc {s:List Row} {cs:List Change} (h:Good s) (hc:∀ c ∈ cs,kI c=0) (hl:s.length+cs.length<=60):Lw s cs=match i_ s cs with | some t=>((0:Int),t,()) | none=>((8:Int),([]:List Row),()):=by
 unfold Lw;rw[aG (FX h Bys)]
 have main:∀ (cs:List Change) (s:List Row) (i:Nat),Good s->(∀ c ∈ cs,kI c=0)->s.length+cs.length<=60->(bt wM CJ i cs s).1=match i_ s cs with | some t=>((0:Int),t,()) | none=>((8:Int),([]:List Row),()):=by
  intro cs
  induction cs <;> grind [bt,CJ,i_,wM,J2,sk]
 grind
def qY (xs:List Tx):List Change:=xs.flatMap λx=>fy x.2.1
theorem LN {O:Type} (bad:O) (fin:List Row->O):∀ (xs:List Tx) (i:Nat) (s:List Row),bt (λ_ s x=>match i_ s (fy x.2.1) with | some t=>.inr t | none=>.inl bad) fin i xs s=match i_ s (qY xs) with | some t=>fin t | none=>bad
 | [],_,_=>rfl
 | x::xs,i,s=>by
  have hb:qY (x::xs)=fy x.2.1++qY xs:=by simp[qY]
  rw[hb,back_append];simp only[bt]
  cases i_ s (fy x.2.1) with
  | none=>rfl
  | some t=>simp only[aA];exact LN bad fin xs _ _
theorem qd {cs:List Change} (h:∀ c ∈ cs,kI c=0):∀ c ∈ fy cs,kI c=0:=λc hc=>by
 grind [zP,abP]
theorem Rf {cs:List Change} (h:∀ c ∈ cs,cl c):∀ c ∈ fy cs,cl c:=λc hc=>by
 obtain ⟨d,h1,rfl⟩:=zP hc;exact ⟨(h d h1).2,(h d h1).1⟩
theorem abQ {s:List Row} (h:Good s):∀ x ∈ s,rl x:=λx hx=>by
 have:=AC (h.ok x hx);grind [rl,ao]
theorem Rg (rows:List Row) (xs:List Tx) (h:Good rows) (hl:rows.length<=12) (hx:wd xs) (ht:oY xs):kx.ab (rows,xs,())=some (match i_ rows (qY xs) with | some t=>(t,(0:Int),()) | none=>(([]:List Row),(8:Int),())):=by
 refine ag (k:=10) λk hk=>(kx.ae k _).trans ?_;unfold kx.p;have hx4:=hx.len
 have:=c8 (B:=λself v=>kx.b0 self (λz=>kx.q0 (rows,xs,()) z) (rows,xs,()) v) xs (λ(s:List Row) (i:Int)=>(s,i)) (λ_ s x=>match i_ s (fy x.2.1) with | some t=>.inr t | none=>.inl (([]:List Row),(8:Int),())) (λs=>(s,(0:Int),())) (λi t=>Good t/\t.length<=12+12*i) (by rw[ao];omega)
  (λi hi t self hI=>by
   show kx.b0 _ _ _ _=_;unfold kx.b0;have a7:(i:Int) < (xs.length:Int):=by omega
   have hu:=hx.s8 _ (aJ hi);have t_:=qd (hx.ch _ (aJ hi));have htl:=ht.2 _ (aJ hi);simp only[a7,aO,aS,aN,aK,aC,aB hi,aA];rw[FW _ htl.1];simp only[aA];have Xd:=Er (xs[i]).2.1;rw[Qy t _ (by rw[ao];omega) (abQ hI.1) Bys (Rf htl.2.2.2),Wc hI.1 t_ Bys]
   grind)
  (λi hi t t' hI hs=>by
   have hu:=hx.s8 _ (aJ hi)
   cases hb:i_ t (fy (xs[i]).2.1) with
   | none=>grind
   | some q=>
    rw[hb] at hs;injection hs with hs;subst hs;have:=ym _ _ _ hI.1 (qd (hx.ch _ (aJ hi))) hb
    grind [Er]) (λt self hI=>by
   grind [kx.b0,kx.q0,I9]) rows ⟨h,by omega⟩ k Bys
 rw[LN] at this;refine aQ this ?_;grind
def we (n:Int) (xs:List Tx):Bool:=match xs[xs.length - 1]? with
 | some x=>decide (n<=x.1)
 | none=>false
def gq (p:Plain):Int:=
 if mE p.1=0 then
  if lW p.2.1=0 then
   if dm p.2.2.1 1 100&&!we p.2.2.1 p.2.1 then
    if 12 < sP p.1 p.2.1 then 2 else (match i_ p.1 (qY p.2.1) with | some _=>0 | none=>8)
   else 3
  else lW p.2.1
 else mE p.1
def NZ (p:Plain):Prop:=List.length p.1<=1048576/\(∀ x ∈ (p.1:List Row),rl x)/\oY p.2.1
theorem abR {O:Type} (n:Int) (xs:List Tx) (hl:xs.length<=1048576) (bad j:Option O) :
  (bif decide ((0:Int) < (xs.length:Int)) then (if 0<=af ((xs.length:Int) - (1:Int)) then ((xs[(af ((xs.length:Int) - (1:Int))).toNat]?).bind λx5=>bif decide (n<=x5.1) then bad else j) else none) else j)=if we n xs then bad else j:=by
 grind [we,bi,Int.toNat_natCast]
theorem Rh (p:Plain) (h:NZ p):oJ.ab (p,())=some (gq p,()):=by
 obtain ⟨rows,xs,n,⟨⟩⟩:=p;obtain ⟨h1,h2,h3⟩:=h;simp only at h1 h2 h3;refine ag (k:=0) λk _=>(oJ.ae k _).trans ?_;show oJ.p _=_;unfold oJ.p gq;simp only[DT rows (by rw[ao];omega) h2,FV xs h3,si,NY rows xs h1 h3,aA];by_cases hr:mE rows=0;rotate_left
 ·grind
 by_cases ht:lW xs=0;rotate_left
 ·grind
 obtain ⟨hg,_⟩:=vj hr;have bd:=rR ht;simp only[hr,ht,aO,aU,aF,aK];have gb:(decide ((1:Int)<=n)&&decide (n<=100))=dm n 1 100:=rfl;rw[gb]
 cases dm n 1 100 with
 | false=>rfl
 | true=>
  simp only[aU,aF,eJ];rw[abR n xs h3.1]
  cases we n xs with
  | true=>rfl
  | false=>
   simp only[cI,aE,aR,aK];have hlen:(kd (dd [] (mV rows xs))).length=sP rows xs:=by simp[kd,sP]
   by_cases xH:12 < sP rows xs
   ·grind
   ·have:¬ (12:Int) < ((kd (dd [] (mV rows xs))).length:Int):=by grind
    have xk:rows.length<=12:=by
     have:=Dx (xs:=xs) hg.up;grind [sP]
    grind [Rg]
end OT
namespace OT
open Go
end OT
namespace OT
open Go
theorem abS {a b:List UInt8} {i:Nat} (h:i < a.length):gd (a++b) i=gd a i:=by
 grind [gd]
theorem YK {a b:List UInt8} {q:bq×Nat} (h:u9 a=some q):u9 (a++b)=some q:=by
 grind [u9,abS]
theorem Jj (b:List UInt8):∀ (k:Nat) (a:List UInt8),a.length < k->(lg k a).2=a.length->lg (k+b.length) (a++b)=((lg k a).1++(vZ b).1,a.length+(vZ b).2)
 | 0,_,h,_=>by omega
 | k+1,a,hk,h=>by
  cases hr:u9 a with
  | none=>
   simp only[lg,hr] at h;have:a=[]:=cA h.symm;subst this;grind [A4,lg,vZ]
  | some q=>
   obtain ⟨r,n⟩:=q;have hn:=It hr;have hd:(a.drop n).length=a.length - n:=bU;simp only[lg,hr] at h;have ih:=Jj b k (a.drop n) Bys Bys;have e:k+1+b.length=(k+b.length)+1:=by omega
   rw[e];simp only[lg,hr,YK hr,gN hn.2.1,ih,dA];grind
theorem N0 {a b:List UInt8} (h:tC a=true):vZ (a++b)=((vZ a).1++(vZ b).1,a.length+(vZ b).2):=by
 have:=Jj b (a.length+1) a Bys (fO h);grind [vZ]
def sQ (l:Log):List bq:=(vZ l.1).1++(vZ l.2.1).1
theorem HK:∀ (k:Nat) (d:List UInt8),(lg k d).1.length<=d.length
 | 0,d=>aW _
 | k+1,d=>by
  simp only[lg]
  cases hr:u9 d with
  | none=>exact aW _
  | some q=>
   obtain ⟨r,n⟩:=q;have hn:=It hr;have hd:(d.drop n).length=d.length - n:=bU;have:=HK k (d.drop n);grind
theorem AF {l:Log} (h:xr l=0):List.length l.1+List.length l.2.1<=16000/\tC l.1=true/\tC l.2.1=true:=by
 grind [xr]
theorem Ri {l:Log} (h:xr l=0):(sQ l).length<=16000:=by
 have h1:=AF h;grind [sQ,HK,vZ]
theorem SB {l:Log} (h:xr l=0):o5.ab (l,())=some (sQ l,()):=by
 have h1:=AF h;have h2:=Ri h;refine ag (k:=0) λk _=>(o5.ae k _).trans ?_;grind [o5.p,Lo,c9,sQ]
theorem Rj {α:Type} [DecidableEq α]:∀ {a b:List α},a.length=b.length->Cr (λx y=>decide (x=y)) a b=decide (a=b)
 | [],[],_=>by simp[Cr]
 | x::a,y::b,h=>by
  have ih:=Rj (a:=a) (b:=b) (by simpa using h);grind [Cr,List.zip_cons_cons]
 | [],_::_,h=>by cases h
 | _::_,[],h=>by cases h
theorem SC (a b:List (List UInt8)) (hl:a.length<=1000) (ha:∀ x ∈ a,x.length<=100000):qG.ab (a,b,())=some (decide (a=b),()):=by
 refine ag (k:=0) λk _=>(qG.ae k _).trans ?_;unfold qG.p
 have:∀ f:Nat×Int,fu.ab (a,b,f,())=some (decide (a=b),()):=λf=>by
  refine ag (k:=1002) λk hk=>(fu.ae k _).trans ?_;unfold fu.p;by_cases hlen:a.length=b.length;rotate_left
  ·have e1:¬ ((a.length:Int)=(b.length:Int)):=by omega
   have e2:¬ a=b:=λh=>hlen (by rw[h]);grind
  have e1:((a.length:Int)=(b.length:Int)):=by omega
  simp only[e1,aO,aU,aF]
  have:=P4 (B:=λself v=>fu.b0 self (λz=>fu.q0 (a,b,f,()) z) (a,b,f,()) v) (xs:=a) (ys:=b) (λx y=>decide (x=y)) hlen (by rw[ao];omega)
   (λi hx hy self=>by
    grind [fu.b0,Int.toNat_natCast,Qp]) (λself=>by
    show fu.b0 _ _ _ _=_;unfold fu.b0;rw[bD (aV _),aF]
    rfl) k Bys
  refine this.trans ?_;rw[Rj hlen]
 rw[this];rfl
theorem Rk {s:az} (h:gx s.2.1=0):p6.ab (s,())=some (ba s.2.1,()):=by
 have hr:=Bv h;refine ag (k:=0) λk _=>(p6.ae k _).trans ?_;unfold p6.p;rw[DV s.2.1 (λp hp=>by rw[(hr.1.2 p hp).len,ao];omega)];simp only[aA];rw[DW _ (by grind [Dt,qJ])];rfl
theorem Rl {d:List UInt8} (h:d.length<=64):List.length (dz d).1.2.2.2.2.1.2.2.2.1<=64:=by
 unfold dz;split
 ·exact aW _
 ·split
  ·exact aW _
  ·show (d.drop 6).length<=64;rw[bU];omega
theorem Rm {p:List UInt8} (s:Nat) (h:p.length<=64):(jh p s).length<=64:=by
 grind [jh]
theorem aaj {ps:bk} (h:mO ps) (a b:Int):List.length (qy ps a b).1.2.2.2.2.1.2.2.2.1<=64:=by
 unfold qy
 cases hp:ps[a.toNat]? with
 | none=>exact aW _
 | some p=>
  have hm:=h.2 p (bW hp);simp only;split
  ·exact Rl (Rm _ (by rw[hm.len];omega))
  ·exact aW _
theorem abT {ps:bk} (h:gx ps=0):∀ r ∈ ba ps,List.length r.2.2.2.1<=64:=λr hr=>by
 have hv:=Bv h;rw[zM (qJ h),(Bt _).mem_iff,dQ] at hr;obtain ⟨x,hx,rfl⟩:=hr;unfold jZ at hx;rw[cG] at hx;obtain ⟨y,hy,hx⟩:=hx;unfold sN at hx;split at hx
 ·cases hx
 ·rw[bE] at hx;subst hx;unfold xe;split
  ·exact aaj hv.1 _ _
  ·obtain ⟨P,p,t,h1,h2,h3,rfl⟩:=xT.1 hy;exact Rl (Rm _ (by rw[(hv.1.2 p (bW h1)).len];omega))
theorem abU {ps:bk} (h:gx ps=0):∀ r ∈ ba ps,rl r:=λr hr=>by
 grind [abT,rl,ao]
theorem aak {ps:bk} (h:gx ps=0):(ba ps).length<=192:=by
 grind [ba,Dt,qJ]
def okS (s:az):Prop:=TP s.2.2.1/\(∀ p ∈ (s.2.1:bk),p.length<=maxLen)/\oY s.2.2.2.1
theorem Rn {s:az} (h:okS s) (hv:gx s.2.1=0):NZ (ba s.2.1,s.2.2.2.1,s.2.2.2.2.1,()):=
 ⟨by grind [aak],abU hv,h.2.2⟩
def Wd (s:az):Int:=if decide (0 < List.length s.2.1)||(decide (0 < List.length s.2.2.2.1)||decide (0 < List.length s.2.2.1.2.1)) then 1 else if dm s.2.2.2.2.1 1 100 then 0 else 3
def YL (s:az):Int:=if gx s.2.1=0 then
        if gq (ba s.2.1,s.2.2.2.1,s.2.2.2.2.1,())=0 then
         if (z8 (sQ s.2.2.1)).2.1=0/\(z8 (sQ s.2.2.1)).1=s.2.1 then 0 else 8
        else gq (ba s.2.1,s.2.2.2.1,s.2.2.2.2.1,())
   else gx s.2.1
def xF (s:az):Int:=if xr s.2.2.1=0 then (bif s.1 then YL s else Wd s) else xr s.2.2.1
theorem abV (s:az) (A:Option (Bool×Unit)) (h:A=some (dm s.2.2.2.2.1 1 100,())) :
  (bif decide ((0:Int) < (List.length s.2.1:Int)) then (some ((1:Int),())) else bif decide ((0:Int) < (List.length s.2.2.2.1:Int)) then (some ((1:Int),())) else bif decide ((0:Int) < (List.length s.2.2.1.2.1:Int)) then (some ((1:Int),())) else A.bind λr3=>bif !r3.1 then (some ((3:Int),())) else some ((0:Int),()))=some (Wd s,()):=by
 grind [Wd]
theorem Rp {s:az} (h:okS s):p5.ab (s,())=some (xF s,()):=by
 refine ag (k:=0) λk _=>(p5.ae k _).trans ?_;unfold p5.p xF;simp only[VM _ h.1,aA];by_cases h0:xr s.2.2.1=0;rotate_left
 ·grind
 simp only[h0,aO,aU,aF,aK]
 cases hu:s.1 with
 | false=>exact abV s _ (si _ _ _)
 | true=>
  simp only[aU,aF,aS];unfold YL;rw[DV s.2.1 h.2.1];simp only[aA];by_cases h1:gx s.2.1=0;rotate_left
  ·grind
  simp only[h1,aO,aU,aF,aK];rw[DW _ (by grind [Dt,qJ])];simp only[aA];have hp:=Rh _ (Rn h h1);unfold ba at hp ⊢;rw[hp];simp only[aA];generalize gq ((ze s.2.1).map (·.1),s.2.2.2.1,s.2.2.2.2.1,())=c;by_cases h2:c=0;rotate_left
  ·grind
  simp only[h2,aO,aU,aF,aK,SB h0,aA,Sd _ (show (sQ s.2.2.1).length<=maxLen by grind [Ri,ao])];by_cases h3:(z8 (sQ s.2.2.1)).2.1=0;rotate_left
  ·grind
  have hg:=VJ _ h3;simp only[h3,aO,aU,aF,eL,SC _ s.2.1 (show List.length (z8 (sQ s.2.2.1)).1<=1000 by have:=hg.1;omega) (λx hx=>by have:=hg.2 x hx;omega),aA];grind
end OT
namespace OT
open Go
def of (l:Log):Nat:=List.length l.1+List.length l.2.1
theorem HL {l:Log} (h:of l<=16000):TP l:=by unfold of at h;exact ⟨by omega,by omega⟩
def ng (l:Log) (r:bq):Option Log:=if 16000 < List.length l.1+List.length l.2.1+(l_ r).length then none else some (l.1,l.2.1++l_ r,())
theorem tY {l l':Log} {r:bq} (h:ng l r=some l'):of l'<=16000:=by
 grind [ng,of]
def uH (s:az) (r:bq):Int×az×Unit:=match ng s.2.2.1 r with
 | some l=>((0:Int),(s.1,s.2.1,l,s.2.2.2),())
 | none=>((9:Int),s,())
section
variable {s:az} {r:bq} (hl:of s.2.2.1<=16000) (hs:wI r)
include hl hs
theorem SE:nW.ab (s,r,())=some (uH s r):=by
 refine ag (k:=0) λk _=>(nW.ae k _).trans ?_;grind [nW.p,uH,ng,Lq,HL]
theorem Jk:lI.ab (s,r,())=some (uH s r):=by
 refine ag (k:=0) λk _=>(lI.ae k _).trans ?_;grind [lI.p,uH,ng,Lp,HL]
end
def qZ (ps:bk) (P:Nat):List UInt8:=if P < ps.length then fk ps P else uy
def wP (ps:bk) (kind tx:Int) (e:pz):bq:=(kind,tx,e.1,xL (qZ ps e.1.toNat) e.2.1,())
theorem J_ {ps:bk} (hg:gp ps) (P:Nat):(qZ ps P).length=64:=by
 unfold qZ;split
 ·rename_i h;exact hg.2 _ (J6 h)
 ·exact CA
theorem N1 {ps:bk} (hg:gp ps) (kind tx:Int) (e:pz):wI (wP ps kind tx e):=I2 (J_ hg _)
def Ka (ps:bk) (e:pz):bk:=if e.1.toNat=ps.length then ps++[uy] else ps
def nH (add:Bool) (kind tx:Int):List pz->bk×Log->Sum (bk×Log) (bk×Log)
 | [],q=>.inr q
 | e::es,q=>match ng q.2 (wP q.1 kind tx e) with
  | none=>.inl (if add then Ka q.1 e else q.1,q.2)
  | some l=>nH add kind tx es (lS q.1 e,l)
def kJ (add:Bool) (kind tx:Int):List Change->bk×Log->Sum (Int×bk×Log) (bk×Log)
 | [],q=>.inr q
 | c :: cs,q=>if (jG q.1 c).1=0 then (match nH add kind tx (jG q.1 c).2.1 q with
     | .inl p=>.inl ((9:Int),p)
     | .inr p=>kJ add kind tx cs p) else .inl ((jG q.1 c).1,q)
theorem FY {O:Type} {add:Bool} {kind tx:Int} {K:bk×Log->O} {fin:bk×Log->O}:∀ (es:List pz) (i:Nat) (q:bk×Log),bt (λ_ q e=>match ng q.2 (wP q.1 kind tx e) with
   | none=>.inl (K (if add then Ka q.1 e else q.1,q.2))
   | some l=>.inr (lS q.1 e,l)) fin i es q=match nH add kind tx es q with | .inl p=>K p | .inr p=>fin p
 | [],i,q=>rfl
 | e::es,i,q=>by
  simp only[bt,nH]
  cases h:ng q.2 (wP q.1 kind tx e) with
  | none=>rfl
  | some l=>exact FY es (i+1) _
theorem HM {O:Type} {add:Bool} {kind tx:Int} {K:Int×bk×Log->O} {fin:bk×Log->O}:∀ (cs:List Change) (i:Nat) (q:bk×Log),bt (λ_ q c=>if (jG q.1 c).1=0 then (match nH add kind tx (jG q.1 c).2.1 q with
   | .inl p=>.inl (K ((9:Int),p))
   | .inr p=>.inr p) else .inl (K ((jG q.1 c).1,q))) fin i cs q=match kJ add kind tx cs q with | .inl p=>K p | .inr p=>fin p
 | [],i,q=>rfl
 | c::cs,i,q=>by
  simp only[bt,kJ];by_cases h0:(jG q.1 c).1=0
  ·rw[aG h0,aG h0]
   cases h:nH add kind tx (jG q.1 c).2.1 q with
   | inl p=>rfl
   | inr p=>exact HM cs (i+1) _
  grind
theorem LO (kind tx:Int):∀ (es:List pz) (q:bk×Log),match nH true kind tx es q,nH false kind tx es q with | .inr p,.inr p'=>p=p' | .inl _,.inl _=>True | _,_=>False
 | [],q=>rfl
 | e::es,q=>by
  simp only[nH]
  cases h:ng q.2 (wP q.1 kind tx e) with
  | none=>trivial
  | some l=>exact LO kind tx es _
theorem N2 (kind tx:Int):∀ (cs:List Change) (q:bk×Log),match kJ true kind tx cs q,kJ false kind tx cs q with | .inr p,.inr p'=>p=p' | .inl p,.inl p'=>p.1=p'.1 | _,_=>False
 | [],q=>rfl
 | c::cs,q=>by
  simp only[kJ];by_cases h0:(jG q.1 c).1=0
  ·rw[aG h0,aG h0];have:=LO kind tx (jG q.1 c).2.1 q
   cases h1:nH true kind tx (jG q.1 c).2.1 q with
   | inl p=>grind
   | inr p=>cases h2:nH false kind tx (jG q.1 c).2.1 q with
    | inl p'=>grind
    | inr p'=>
     rw[h1,h2] at this;have this:_=_:=this;subst this;exact N2 kind tx cs _
  grind
theorem Jl {add:Bool} {kind tx:Int}:∀ (es:List pz) (q p:bk×Log),nH add kind tx es q=.inr p->of q.2<=16000->p.1=Gr q.1 es/\of p.2<=16000
 | [],q,p,h,hl=>by injection h with h;subst h;exact ⟨rfl,hl⟩
 | e::es,q,p,h,hl=>by
  simp only[nH] at h
  cases ha:ng q.2 (wP q.1 kind tx e) with
  | none=>grind
  | some l=>
   rw[ha] at h;exact Jl es _ p h (tY ha)
theorem Kb {ps:bk} (hg:gp ps) {e:pz} (he:J9 ps e):gp (lS ps e):=by
 obtain ⟨e1,e2,e3,e4⟩:=he;unfold lS;split
 ·refine ⟨by grind,λp hp=>?_⟩
  rcases bG.1 hp with h | h
  ·exact hg.2 p h
  grind
 ·refine ⟨by rw[bQ];exact hg.1,λp hp=>?_⟩
  rcases eE hp with h | h
  ·exact hg.2 p h
  grind
def nI (q:bk×Log):Prop:=gx q.1=0/\of q.2<=16000
theorem zj {add:Bool} {kind tx:Int} {q p:bk×Log} (hq:nI q) {c:Change} (hc:kI c=0) (h0:(jG q.1 c).1=0) (h:nH add kind tx (jG q.1 c).2.1 q=.inr p):nI p/\p.1=(jG q.1 c).2.2.1:=by
 obtain ⟨e1,e2⟩:=Jl _ q p h hq.2;obtain ⟨w,f1,f2,f3⟩:=MS hq.1 hc h0;have e3:p.1=(jG q.1 c).2.2.1:=by rw[e1,f1];exact f3.at_
 exact ⟨⟨by rw[e3];exact (NT hq.1 hc h0).1,e2⟩,e3⟩
theorem Kc {ps:bk} (hv:gx ps=0):∀ p ∈ ps,p.length<=maxLen:=λp hp=>by
 have:=((oE.1 hv).1.2 p hp).len;grind [ao]
theorem yn {ps:bk} (hv:gx ps=0):gp ps:=V1 (oE.1 hv).1
section
variable {s0:az} {kind tx:Int}
theorem Rq {a:cz.A} {cs:List Change} {n i0:Int} {es:List pz} {fin:az->Option cz.O} {q:bk×Log} (hg:gp q.1) (hl:of q.2<=16000) (he:zh q.1 es) (wx:es.length<=40) {k:Nat} (hk:50<=k) :
  al (λw v=>cz.b1 w fin a kind tx cs n i0 es (es.length:Int) v) k ((s0.1,q.1,q.2,s0.2.2.2),(0:Int))=match nH true kind tx es q with
   | .inl p=>some ((9:Int),(s0.1,p.1,p.2,s0.2.2.2),())
   | .inr p=>fin (s0.1,p.1,p.2,s0.2.2.2):=by
 have:=eo (B:=λw v=>cz.b1 w fin a kind tx cs n i0 es (es.length:Int) v) es (λ(q:bk×Log) (i:Int)=>((s0.1,q.1,q.2,s0.2.2.2),i))
  (λ_ q e=>match ng q.2 (wP q.1 kind tx e) with
   | none=>.inl (some ((9:Int),(s0.1,(if true=true then Ka q.1 e else q.1),q.2,s0.2.2.2),()))
   | some l=>.inr (lS q.1 e,l)) (λp=>fin (s0.1,p.1,p.2,s0.2.2.2))
  (λi q=>gp q.1/\of q.2<=16000/\zh q.1 (es.drop i)) (by rw[ao];omega)
  (λi hi q self hI=>by
   obtain ⟨hg,hl,he⟩:=hI;rw[cJ hi] at he;obtain ⟨⟨e1,e2,e3,e4⟩,_⟩:=he;unfold cz.b1;have a7:(i:Int) < (es.length:Int):=by omega
   simp only[a7,aO,aS,aN,aK,aC,aB hi,aA];generalize es[i]=e at e1 e2 e3 e4;obtain ⟨P,b,⟨⟩⟩:=e;simp only at e1 e2 e3 e4
   obtain ⟨P,rfl⟩:∃ Q:Nat,P=(Q:Int):=⟨P.toNat,by omega⟩
   have J:∀ qs:bk,gp qs->P < qs.length->fk qs P=qZ q.1 P->lS q.1 ((P:Int),b,())=qs.set P b->(if 0<=(P:Int)/\(P:Int) < (qs.length:Int) then ((qs[P]?).bind λadX=>(qs[P]?).bind λVz=>(jF.ab (Vz,b,())).bind λVA=>(nW.ab ((s0.1,qs,q.2,s0.2.2.2),(kind,tx,(P:Int),VA.1,()),())).bind λtz=>bif !decide (tz.1=(0:Int)) then (some (tz.1,tz.2.1,())) else (b_.ab (b,())).bind λVB=>if 0<=(P:Int)/\(P:Int) < (tz.2.1.2.1.length:Int) then ((tz.2.1.2.1[P]?).bind λadY=>self ((tz.2.1.1,tz.2.1.2.1.set P VB.1,tz.2.1.2.2),af ((i:Int)+(1:Int)))) else none) else none) =
     match ng q.2 (wP q.1 kind tx ((P:Int),b,())) with
     | none=>some ((9:Int),(s0.1,qs,q.2,s0.2.2.2),())
     | some l=>self ((s0.1,lS q.1 ((P:Int),b,()),l,s0.2.2.2),af ((i:Int)+1)):=λqs hqs hP hb ha=>by
    have gb:0<=(P:Int)/\(P:Int) < (qs.length:Int):=by omega
    have hx:(qs[P]).length=64:=hqs.2 _ (aJ hP);have hpg:qs[P]=qZ q.1 P:=by rw[<-hb];have:=nZ hP;grind
    have afv:(kind,tx,(P:Int),xL qs[P] b,())=wP q.1 kind tx ((P:Int),b,()):=by rw[hpg];rfl
    have hsm:=N1 hg kind tx ((P:Int),b,());rw[aG gb,aB hP];grind [Se,SE,uH,mg]
   simp only[aC];by_cases hP:P=q.1.length
   ·subst hP;have pL:q.1.length+[uy].length<=cg:=c9 (by grind);rw[aY rfl,aS,Fl];simp only[aA,pL,aK];have hlen:(q.1++[uy]).length=q.1.length+1:=by simp
    have hj:=J (q.1++[uy]) ⟨by grind,λp hp=>by
     rcases bG.1 hp with h | h
     ·exact hg.2 p h
     grind [CA]⟩ (by grind) (by
      grind [qZ,QR]) (by
      grind [lS])
    rw[hj];have ha:Ka q.1 ((q.1.length:Int),b,())=q.1++[uy]:=by grind [Ka]
    grind
   grind [qZ,lS,Int.toNat_natCast,Ka])
  (λi hi q q' hI hf=>by
   obtain ⟨hg,hl,he⟩:=hI;rw[cJ hi] at he
   cases Be:ng q.2 (wP q.1 kind tx es[i]) with
   | none=>grind
   | some l=>
    rw[Be] at hf;injection hf with hf;subst hf
    exact ⟨Kb hg he.1,tY Be,he.2⟩) (λq self hI=>by
   grind [cz.b1]) q ⟨hg,hl,he⟩ k Bys
 rw[this,FY (add:=true) (K:=λp:bk×Log=>(some ((9:Int),(s0.1,p.1,p.2,s0.2.2.2),()):Option cz.O))]
end
def mF (s:az) (r:Sum (Int×bk×Log) (bk×Log)):Int×az×Unit:=match r with
 | .inl p=>(p.1,(s.1,p.2.1,p.2.2,s.2.2.2),())
 | .inr p=>((0:Int),(s.1,p.1,p.2,s.2.2.2),())
section
variable {s:az} {kind tx:Int}
theorem DZ {cs:List Change} (hq:nI (s.2.1,s.2.2.1)) (hc:∀ c ∈ cs,kI c=0) (xy:∀ c ∈ cs,cl c) (hn:cs.length<=1000):cz.ab (s,cs,kind,tx,())=some (mF s (kJ true kind tx cs (s.2.1,s.2.2.1))):=by
 refine ag (k:=1100) λk hk=>(cz.ae k _).trans ?_
 have:=eo (B:=λself v=>cz.B0 k self (cz.q1 (s,cs,kind,tx,())) (s,cs,kind,tx,()) v) cs (λ(q:bk×Log) (i:Int)=>((s.1,q.1,q.2,s.2.2.2),kind,tx,cs,(cs.length:Int),i))
  (λ_ q c=>if (jG q.1 c).1=0 then (match nH true kind tx (jG q.1 c).2.1 q with
   | .inl p=>.inl (some (mF s (.inl ((9:Int),p))))
   | .inr p=>.inr p) else .inl (some (mF s (.inl ((jG q.1 c).1,q))))) (λp=>some (mF s (.inr p))) (λ_ q=>nI q) (by rw[ao];omega)
  (λi hi q self hI=>by
   show cz.b0 _ _ _ _ _=_;unfold cz.b0;have a7:(i:Int) < (cs.length:Int):=by omega
   have hm:=aJ hi;simp only[a7,aO,aS,aN,aK,aC,aB hi,aA];rw[Sv (Kc hI.1) (xy _ hm)];simp only[aA];by_cases h0:(jG q.1 cs[i]).1=0
   ·obtain ⟨w,f1,f2,f3⟩:=MS hI.1 (hc _ hm) h0;have he:(jG q.1 cs[i]).2.1=w.2.1:=by rw[f1]
    rw[aG h0,aY h0,aU,aF]
    have:=Rq (s0:=s) (kind:=kind) (tx:=tx) (a:=(s,cs,kind,tx,())) (cs:=cs) (n:=(cs.length:Int)) (i0:=(i:Int)) (es:=(jG q.1 cs[i]).2.1)
     (fin:=cz.q0 self (cz.q1 (s,cs,kind,tx,())) (s,cs,kind,tx,()) kind tx cs (cs.length:Int) (i:Int) (jG q.1 cs[i]).2.1 ((jG q.1 cs[i]).2.1.length:Int)) (q:=q) (yn hI.1) hI.2 (by rw[he];exact f3.ed) (by rw[he];exact f2.el) (k:=k) Bys
    refine aQ this ?_
    cases nH true kind tx (jG q.1 cs[i]).2.1 q with
    | inl p=>rfl
    | inr p=>rfl
   ·rw[aL h0,bD h0,cI,aS]
    rfl)
  (λi hi q q' hI hf=>by
   grind [zj]) (λq self hI=>by
   show cz.b0 _ _ _ _ _=_;unfold cz.b0;rw[bD (aV _),aF]
   rfl) (s.2.1,s.2.2.1) hq k Bys
 refine aQ this ?_;rw[HM (add:=true) (K:=λp=>some (mF s (.inl p)))];grind
theorem SF {ps:bk} (hg:gp ps) {e:pz} (he:J9 ps e):tP.ab (ps,e,kind,tx,())=some (wP ps kind tx e,()):=by
 obtain ⟨P,b,⟨⟩⟩:=e;obtain ⟨e1,e2,e3,e4⟩:=he;simp only at e1 e2 e3 e4
 obtain ⟨P,rfl⟩:∃ Q:Nat,P=(Q:Int):=⟨P.toNat,by omega⟩
 refine ag (k:=0) λk _=>(tP.ae k _).trans ?_;unfold tP.p;rw[Lh];simp only[aA];by_cases h:P < ps.length
 ·have h1:(P:Int) < (ps.length:Int):=by omega
  have hb:qZ ps P=ps[P]:=by
   unfold qZ;rw[aG h];have:=nZ h;grind
  have hl:=J_ hg P;rw[hb] at hl;simp only[h1,aO,aS,aN,aK,aC,aB h,aA];rw[I3 hl e1,<- hb];rfl
 ·have h1:¬ (P:Int) < (ps.length:Int):=by omega
  have hb:qZ ps P=uy:=by grind [qZ]
  simp only[h1,aI,aF];rw[I3 CA e1,<- hb];rfl
theorem Oq {ps:bk} (hg:gp ps) {e:pz} (he:J9 ps e):lu.ab (ps,[e],())=some (((0:Int),[e],lS ps e,()),()):=by
 obtain ⟨P,b,⟨⟩⟩:=e;obtain ⟨e1,e2,e3,e4⟩:=he;simp only at e1 e2 e3 e4
 obtain ⟨P,rfl⟩:∃ Q:Nat,P=(Q:Int):=⟨P.toNat,by omega⟩
 refine ag (k:=5) λk hk=>(lu.ae k _).trans ?_;unfold lu.p;have Ay:¬ (12:Int) < (ps.length:Int):=by have:=hg.1;omega
 simp only[Ay,aI,aF,AZ ps hg,aA]
 have:=c8 (B:=λself v=>lu.b0 self (lu.q0 (ps,[((P:Int),b,())],())) (ps,[((P:Int),b,())],()) v) [((P:Int),b,())] (λ(r:d9) (i:Int)=>(r,i))
  (λ_ r x=>.inr ((0:Int),[x],lS ps x,())) (λr=>(r,())) (λi r=>i=0->r=((0:Int),[],ps,())) (by rw[ao];simp)
  (λi hi r self hI=>by
   have TB:i=0:=by grind
   subst TB;rw[hI rfl];unfold lu.b0;have X4:(b.length:Int)=64:=by omega
   have aeU:¬ (P:Int)=12:=by omega
   have Bc:((0:Nat):Int) < (([((P:Int),b,())]:List pz).length:Int):=by simp
   simp only[Bc,aO,aS,aN,aK,aC,dJ,aA,X4,aU,aF,qu,e3,eL,iI,aeU,aI]
   grind [lS,oT,c9])
  (λi hi r r' hI hf h=>by omega) (λr self hI=>by
   unfold lu.b0;rw[bD (aV _),aF]
   rfl) ((0:Int),[],ps,()) (λ_=>rfl) k (by grind)
 exact this
theorem take_one {α:Type} {es:List α} {i:Nat} (h:i < es.length):(es.take (i+1)).drop i=[es[i]]:=by
 grind [List.drop_eq_getElem_cons]
theorem YM {ps:bk} (hv:gx ps=0) {c:Change} (hc:kI c=0):rX.ab (ps,c,())=some (jG ps c,()):=by
 grind [Q6,Kc,jG]
theorem HN {c:Change} (hq:nI (s.2.1,s.2.2.1)) (hc:kI c=0):jn.ab (s,c,kind,tx,())=some (mF s (kJ false kind tx [c] (s.2.1,s.2.2.1))):=by
 refine ag (k:=100) λk hk=>(jn.ae k _).trans ?_;unfold jn.p;rw[YM hq.1 hc];simp only[aA,kJ];by_cases h0:(jG s.2.1 c).1=0;rotate_left
 ·simp only[h0,aI,cI,aS,aR];rfl
 simp only[h0,aO,aU,aF,aK];obtain ⟨w,f1,f2,f3⟩:=MS hq.1 hc h0
 obtain ⟨E,hE⟩:∃ E,E=jG s.2.1 c:=⟨_,rfl⟩
 have he:E.2.1=w.2.1:=by rw[hE,f1]
 rw[<-hE];have hlen:List.length E.2.1<=40:=by rw[he];exact f2.el
 have:=eo (B:=λself v=>jn.b0 self (jn.q0 (s,c,kind,tx,()) E) (s,c,kind,tx,()) E v) E.2.1 (λ(q:bk×Log) (i:Int)=>((s.1,q.1,q.2,s.2.2.2),i))
  (λ_ q e=>match ng q.2 (wP q.1 kind tx e) with
   | none=>.inl (some (mF s (.inl ((9:Int),(if false=true then Ka q.1 e else q.1),q.2))))
   | some l=>.inr (lS q.1 e,l)) (λp=>some (mF s (.inr p))) (λi q=>gp q.1/\of q.2<=16000/\zh q.1 (E.2.1.drop i)) (by rw[ao];omega)
  (λi hi q self hI=>by
   obtain ⟨hg,hl,he⟩:=hI;rw[cJ hi] at he;unfold jn.b0;have a7:(i:Int) < (List.length E.2.1:Int):=by omega
   have hw:af ((i:Int)+1)=((i+1:Nat):Int):=by grind [bi]
   have gb:0<=(i:Int)/\(i:Int) < (List.length E.2.1:Int):=by omega
   have UG:0<=(i:Int)/\(i:Int)<=((i+1:Nat):Int)/\((i+1:Nat):Int)<=(List.length E.2.1:Int):=by omega
   simp only[hw];rw[aY a7,aS,aG gb];simp only[aC,aB hi,aA];rw[SF hg he.1];simp only[aA];rw[Jk (s:=(s.1,q.1,q.2,s.2.2.2)) hl (N1 hg kind tx _)];unfold uH;simp only
   cases Be:ng q.2 (wP q.1 kind tx E.2.1[i]) with
   | none=>rfl
   | some l=>
    simp only[aA,aO,aU,aF];rw[aG UG,take_one hi,Oq hg he.1]
    rfl)
  (λi hi q q' hI hf=>by
   obtain ⟨hg,hl,he⟩:=hI;rw[cJ hi] at he
   cases Be:ng q.2 (wP q.1 kind tx E.2.1[i]) with
   | none=>grind
   | some l=>
    rw[Be] at hf;injection hf with hf;subst hf
    exact ⟨Kb hg he.1,tY Be,he.2⟩) (λq self hI=>by
   unfold jn.b0;rw[bD (aV _),aF]
   rfl) (s.2.1,s.2.2.1) ⟨yn hq.1,hq.2,by rw[he];exact f3.ed⟩ k Bys
 refine aQ this ?_;rw[FY (add:=false) (K:=λp=>some (mF s (.inl ((9:Int),p))))];grind
end
theorem Ui {add:Bool} {kind tx:Int}:∀ (cs:List Change) (q:bk×Log) (p:Int×bk×Log),kJ add kind tx cs q=.inl p->p.1≠0
 | [],q,p,h=>by cases h
 | c::cs,q,p,h=>by
  simp only[kJ] at h;by_cases h0:(jG q.1 c).1=0
  ·rw[aG h0] at h
   cases he:nH add kind tx (jG q.1 c).2.1 q with
   | inl p'=>grind
   | inr p'=>rw[he] at h;exact Ui cs p' p h
  grind
theorem AG {add:Bool} {kind tx:Int}:∀ (cs:List Change) (q p:bk×Log),nI q->(∀ c ∈ cs,kI c=0)->kJ add kind tx cs q=.inr p->nI p
 | [],q,p,hq,hc,h=>by injection h with h;grind
 | c::cs,q,p,hq,hc,h=>by
  simp only[kJ] at h;by_cases h0:(jG q.1 c).1=0
  ·rw[aG h0] at h
   cases he:nH add kind tx (jG q.1 c).2.1 q with
   | inl p=>grind
   | inr p'=>
    rw[he] at h;exact AG cs p' p (zj hq (hc _ bF) h0 he).1 (λd hd=>hc d (aX _ hd)) h
  grind
section
variable {s:az} {tx:Int}
theorem HO {s8:List Change} (hq:nI (s.2.1,s.2.2.1)) (hc:∀ c ∈ s8,kI c=0) (hn:s8.length<=1000):jL.ab (s,s8,tx,())=some (mF s (kJ false 3 tx (fy s8) (s.2.1,s.2.2.1))):=by
 refine ag (k:=1100) λk hk=>(jL.ae k _).trans ?_;unfold jL.p;rw[Wb s8 Bys];simp only[aA];have hci:=qd hc;have hln:(fy s8).length=s8.length:=Er s8
 obtain ⟨cs,pA⟩:∃ cs,cs=fy s8:=⟨_,rfl⟩
 rw[<-pA] at hci hln ⊢
 have:=eo (B:=λself v=>jL.b0 self (jL.q0 (s,s8,tx,()) cs) (s,s8,tx,()) cs v) cs (λ(q:bk×Log) (i:Int)=>((s.1,q.1,q.2,s.2.2.2),i))
  (λ_ q c=>if (jG q.1 c).1=0 then (match nH false 3 tx (jG q.1 c).2.1 q with
   | .inl p=>.inl (some (mF s (.inl ((9:Int),p))))
   | .inr p=>.inr p) else .inl (some (mF s (.inl ((jG q.1 c).1,q))))) (λp=>some (mF s (.inr p))) (λ_ q=>nI q) (by rw[ao];omega)
  (λi hi q self hI=>by
   grind [jL.b0,Int.natCast_nonneg,Int.toNat_natCast,HN,kJ,mF])
  (λi hi q q' hI hf=>by
   grind [zj]) (λq self hI=>by
   unfold jL.b0;rw[bD (aV _),aF]
   rfl) (s.2.1,s.2.2.1) hq k Bys
 refine aQ this ?_;rw[HM (add:=false) (K:=λp=>some (mF s (.inl p)))];grind
end
end OT
namespace OT
open Go
abbrev aeV:Log:=(([]:List UInt8),([]:List UInt8),())
abbrev Kd (c:Int):se:=(c,(0:Int),(false,([]:List (List UInt8)),aeV,([]:List Tx),(0:Int),()),())
theorem MU (c:Int):qS.ab (c,())=some (Kd c,()):=by
 refine ag (k:=0) λj _=>(qS.ae j _).trans ?_;rfl
end OT
namespace OT
open Go
end OT
namespace OT
open Go
def tJ (xs:List Tx) (t:Int):Int:=vH (λx=>decide (x.1=t)) 0 xs
theorem mG (xs:List Tx) (t:Int) (h:xs.length<=1048576):mR.ab (xs,t,())=some (tJ xs t,()):=by
 refine ag (k:=xs.length+1) λk hk=>(mR.ae k _).trans ?_
 have:=c8 (B:=λself v=>mR.b0 self (λz=>mR.q0 (xs,t,()) z) (xs,t,()) v) xs (λ(_:Unit) (i:Int)=>i) (λi _ x=>if decide (x.1=t) then .inl ((i:Int),()) else .inr ()) (λ_=>((-1:Int),())) (λ_ _=>True) (by rw[ao];omega)
  (λi hi s self _=>by
   show mR.b0 _ _ _ _=_;unfold mR.b0;have a7:(i:Int) < (xs.length:Int):=by omega
   simp only[a7,aO,aS,aN,aK,aC,aB hi,aA]
   cases decide ((xs[i]).1=t) <;> rfl)
  (λ_ _ _ _ _ _=>trivial) (λs self _=>by
   show mR.b0 _ _ _ _=_;unfold mR.b0;simp only[aV,aI,aF]
   rfl) () trivial k Bys
 rw[Br] at this;exact this
theorem AH (xs:List Tx) (t:Int) (h:xs.length<=1048576):mM.ab (xs,t,())=some (tJ xs t,()):=by
 have h1:∀ x:Tx,vP.ab (x,t,())=some (decide (x.1=t),()):=λx=>by
  refine ag (k:=0) λk _=>(vP.ae k _).trans ?_;rfl
 have h2:∀ m:Nat,ij.ab (xs,((m,t):Nat×Int),())=some (tJ xs t,()):=λm=>by
  refine ag (k:=xs.length+1) λk hk=>(ij.ae k _).trans ?_
  have:=c8 (B:=λself v=>ij.b0 self (λz=>ij.q0 (xs,((m,t):Nat×Int),()) z) (xs,((m,t):Nat×Int),()) v) xs (λ(_:Unit) (i:Int)=>i) (λi _ x=>if decide (x.1=t) then .inl ((i:Int),()) else .inr ()) (λ_=>((-1:Int),())) (λ_ _=>True) (by rw[ao];omega)
   (λi hi s self _=>by
    show ij.b0 _ _ _ _=_;unfold ij.b0;have a7:(i:Int) < (xs.length:Int):=by omega
    simp only[a7,aO,aS,aN,aK,aC,aB hi,aA,h1]
    cases decide ((xs[i]).1=t) <;> rfl)
   (λ_ _ _ _ _ _=>trivial) (λs self _=>by
    show ij.b0 _ _ _ _=_;unfold ij.b0;simp only[aV,aI,aF]
    rfl) () trivial k Bys
  rw[Br] at this;exact this
 refine ag (k:=0) λk _=>(mM.ae k _).trans ?_;show mM.p _=_;unfold mM.p;rw[h2];rfl
end OT
namespace OT
open Go
theorem SG (xs:List Tx) (k0:Key) (h:oY xs):oS.ab (xs,k0,())=some (py xs k0,()):=by
 obtain ⟨h1,h2⟩:=h;refine ag (k:=xs.length+1) λk hk=>(oS.ae k _).trans ?_
 have:=c8 (B:=λself v=>oS.b0 self (λz=>oS.q0 (xs,k0,()) z) (xs,k0,()) v) xs (λ(_:Unit) (i:Int)=>i) (λ_ _ x=>if jk x.2.2.2.1 k0 then .inl (x.1,()) else .inr ()) (λ_=>(0,())) (λ_ _=>True) (by rw[ao];omega)
  (λi hi s self _=>by
   grind [oS.b0,contains_eq,Q7])
  (λ_ _ _ _ _ _=>trivial) (λs self _=>by
   show oS.b0 _ _ _ _=_;unfold oS.b0;simp only[aV,aI,aF]
   rfl) () trivial k Bys
 rw[HF] at this;exact this
theorem YN (s:List Change) (h:s.length<=1048576):l5.ab (s,())=some (s,()):=by
 refine ag (k:=0) λk _=>(l5.ae k _).trans ?_;show l5.p _=_;unfold l5.p;refine Ef (λe=>by grind) ?_;grind [c9]
theorem YO (s:List Int) (h:s.length<=1048576):mN.ab (s,())=some (s,()):=by
 refine ag (k:=0) λk _=>(mN.ae k _).trans ?_;show mN.p _=_;unfold mN.p;refine Ef (λe=>by grind) ?_;grind [c9]
theorem YP (s:List Key) (h:s.length<=1048576):nV.ab (s,())=some (s,()):=by
 refine ag (k:=0) λk _=>(nV.ae k _).trans ?_;show nV.p _=_;unfold nV.p;refine Ef (λe=>by grind) ?_;grind [c9]
theorem We (x:Tx) (h:tl x):pR.ab (x,())=some (x,()):=by
 obtain ⟨h1,h2,h3,_⟩:=h;refine ag (k:=0) λk _=>(pR.ae k _).trans ?_;grind [pR.p,c9]
theorem HP (xs:List Tx) (h:oY xs):lr.ab (xs,())=some (xs,()):=by
 obtain ⟨h1,h2⟩:=h;refine ag (k:=xs.length+1) λk hk=>(lr.ae k _).trans ?_
 have:=c8 (B:=λself v=>lr.b0 self (λz=>lr.q0 (xs,()) z) (xs,()) v) xs (λ(s:List Tx) (i:Int)=>(s,i)) (λ_ s x=>.inr (s++[x])) (λs=>(s,())) (λi s=>s.length=i) (by rw[ao];omega)
  (λi hi s self hI=>by
   grind [lr.b0,c9,We])
  (λi hi s s' hI hs=>by grind) (λs self hI=>by
   show lr.b0 _ _ _ _=_;unfold lr.b0;simp only[aV,aI,aF]
   rfl) [] rfl k Bys
 rw[ic,Aw] at this;exact this
theorem AI (xs:List Tx) (h:oY xs):ir.ab (xs,())=some (xs,()):=by
 obtain ⟨h1,h2⟩:=h;refine ag (k:=xs.length+1) λk hk=>(ir.ae k _).trans ?_
 have:=c8 (B:=λself v=>ir.b0 self (λz=>ir.q0 (xs,()) z) (xs,()) v) xs (λ(s:List Tx) (i:Int)=>(s,i)) (λ_ s x=>.inr (s++[x])) (λs=>(s,())) (λi s=>s.length=i) (by rw[ao];omega)
  (λi hi s self hI=>by
   show ir.b0 _ _ _ _=_;unfold ir.b0;have a7:(i:Int) < (xs.length:Int):=by omega
   have hx:=h2 _ (aJ hi);simp only[a7,aO,aS,aN,aK,aC,aB hi,aA];generalize xs[i]=x at hx;obtain ⟨g1,g2,g3,_⟩:=hx
   grind [YN,YO,YP,c9])
  (λi hi s s' hI hs=>by grind) (λs self hI=>by
   show ir.b0 _ _ _ _=_;unfold ir.b0;simp only[aV,aI,aF]
   rfl) [] rfl k Bys
 rw[ic,Aw] at this;exact this
def vt (x:Tx) (c:Change):Tx:=(x.1,x.2.1++[c],x.2.2.1,if jk x.2.2.2.1 (kg c) then x.2.2.2.1 else x.2.2.2.1++[kg c],())
def ul (xs:List Tx) (j:Nat) (c:Change):List Tx:=match xs[j]? with
 | some x=>xs.set j (vt x c)
 | none=>xs
theorem SH (xs:List Tx) (j:Nat) (c:Change) (h:oY xs) (hj:j < xs.length):pS.ab (xs,(j:Int),c,())=some (ul xs j c,()):=by
 refine ag (k:=0) λk _=>(pS.ae k _).trans ?_;show pS.p _=_;unfold pS.p ul;have hx:=h.2 _ (aJ hj);have gb:(0:Int)<=(j:Int)/\(j:Int) < (xs.length:Int):=by omega
 simp only[HP xs h,aA,gb,cM,aK,aC,aB hj,Hh];generalize Rr:xs[j]=x at hx;obtain ⟨g1,g2,g3,_⟩:=hx;have LP:xs.set j x=xs:=by grind [List.set_getElem_self]
 have hg:xs[j]?=some x:=by grind
 have c1:List.length x.2.1+[c].length<=cg:=c9 (by grind);have c2:List.length x.2.2.2.1+[kg c].length<=cg:=c9 (by grind);have hq:∀ y:Tx,(xs.set j y)[j]?=some y:=λy=>by simp[hj]
 rw[aG c1,LP];simp only[hg,aA,hq];grind [JW,ao,vt,List.set_set]
theorem SI (xs:List Tx) (j:Nat) (c:Change) (h:oY xs) (hj:j < xs.length):rY.ab (xs,(j:Int),c,())=some (ul xs j c,()):=by
 refine ag (k:=0) λk _=>(rY.ae k _).trans ?_;show rY.p _=_;unfold rY.p ul;have hx:=h.2 _ (aJ hj);have gb:(0:Int)<=(j:Int)/\(j:Int) < (xs.length:Int):=by omega
 simp only[AI xs h,aA,gb,cM,aK,aC,aB hj,MK];generalize Rr:xs[j]=x at hx;obtain ⟨g1,g2,g3,_⟩:=hx;have LP:xs.set j x=xs:=by grind [List.set_getElem_self]
 have hg:xs[j]?=some x:=by grind
 have c1:List.length x.2.1+[c].length<=cg:=c9 (by grind);have c2:List.length x.2.2.2.1+[kg c].length<=cg:=c9 (by grind);have hq:∀ y:Tx,(xs.set j y)[j]?=some y:=λy=>by simp[hj]
 rw[aG c1,LP];simp only[hg,aA,hq];grind [contains_eq,ao,vt,List.set_set]
def Ke (c:Int):G0:=(c,([]:List Tx),())
def zQ (xs:List Tx) (t:Int) (c:Change):G0:=
 if lW xs=0 then
  if tJ xs t < 0 then Ke 4
  else if Dp c=0 then
   if py xs (kg c)≠0/\py xs (kg c)≠t then Ke 7
   else if 12<=oF xs then Ke 2
   else if py xs (kg c)=0/\12<=List.length ((xs.getD (tJ xs t).toNat (0,[],[],[],())).2.2.2.1:List Key) then Ke 2
   else ((0:Int),ul xs (tJ xs t).toNat c,())
  else Ke (Dp c)
 else Ke (lW xs)
theorem aal {xs:List Tx} (h:lW xs=0):Ai xs=0/\xs.length<=4:=by
 grind [lW]
theorem Wf {xs:List Tx} {k:Key} (h:py xs k≠0):∃ x ∈ xs,x.1=py xs k/\jk x.2.2.2.1 k=true:=by
 induction xs <;> grind [py]
theorem Wg {xs:List Tx} {k:Key} (h:py xs k=0) (hp:∀ x ∈ xs,1<=x.1):∀ x ∈ xs,jk x.2.2.2.1 k=false:=by
 induction xs <;> grind [py]
theorem Rs (xs:List Tx) (t:Int) (c:Change) (h:oY xs) (hc:cl c):nF.ab (xs,t,c,())=some (zQ xs t c,()):=by
 refine ag (k:=0) λk _=>(nF.ae k _).trans ?_;show nF.p _=_;unfold nF.p zQ Ke;simp only[FV xs h,AH xs t h.1,NB c hc,MK,SG xs _ h,CU xs h,aA];by_cases h1:lW xs=0;rotate_left
 ·grind
 simp only[h1,aO,aU,aF,aK];by_cases h2:tJ xs t < 0
 ·grind
 simp only[h2,aI,aF,aR];by_cases h3:Dp c=0;rotate_left
 ·grind
 simp only[h3,aO,aU,aF,aK];obtain ⟨j,hj,e1,e2⟩:=Fo (λx:Tx=>decide (x.1=t)) xs 0 (by grind [tJ]);have e1:tJ xs t=(j:Int):=by show vH _ 0 xs=_;rw[e1];omega
 rw[e1,aC];have hn:=SI xs j c h hj;grind
end OT
namespace OT
open Go
theorem Kg {s:az} (h:xF s=0) (hu:s.1=true):nI (s.2.1,s.2.2.1)/\gq (ba s.2.1,s.2.2.2.1,s.2.2.2.2.1,())=0:=by
 unfold xF at h;by_cases hl:xr s.2.2.1=0
 ·rw[aG hl,hu,aS] at h;unfold YL at h;by_cases hv:gx s.2.1=0
  ·rw[aG hv] at h;refine ⟨⟨hv,(AF hl).1⟩,?_⟩
   by_cases hp:gq (ba s.2.1,s.2.2.2.1,s.2.2.2.2.1,())=0
   ·exact hp
   ·rw[aL hp] at h;exact absurd h hp
  ·rw[aL hv] at h;exact absurd h hv
 ·rw[aL hl] at h;exact absurd h hl
theorem Uj {s:az} (hq:nI (s.2.1,s.2.2.1)) (ht:oY s.2.2.2.1):pj.ab (s,())=some (s,()):=by
 refine ag (k:=0) λk _=>(pj.ae k _).trans ?_;unfold pj.p;have:=hq.2;unfold of at this;rw[Gj _ (yn hq.1)];simp only[aA];rw[abM s.2.2.1 (by show List.length s.2.2.1.1<=_;simp only at this;omega) (by show List.length s.2.2.1.2.1<=_;simp only at this;omega)];simp only[aA];rw[AI _ ht];rfl
theorem aam {l:Log} (h:of l<=16000):nk.ab (l,())=some (l,()):=by
 unfold of at h;refine ag (k:=0) λk _=>(nk.ae k _).trans ?_;unfold nk.p;rw[oT _ (by show List.length l.1<=_;omega)];simp only[aA];rw[oT _ (by show List.length l.2.1<=_;omega)];rfl
theorem aan {s:az} (hq:nI (s.2.1,s.2.2.1)) (ht:oY s.2.2.2.1):sC.ab (s,())=some (s,()):=by
 refine ag (k:=0) λk _=>(sC.ae k _).trans ?_;unfold sC.p;rw[AZ _ (yn hq.1)];simp only[aA];rw[aam hq.2];simp only[aA];rw[HP _ ht];rfl
theorem HQ (k t:Int):wI (k,t,(0:Int),([]:List ci),()):=⟨aW _,λx hx=>by cases hx⟩
section
variable {s:az} {b:Buffer} (hq:nI (s.2.1,s.2.2.1)) (hb:∀ c ∈ (b.2.1:List Change),kI c=0) (hl:List.length b.2.1<=1000)
include hq hb hl
end
theorem Rt (u:Bool) (ps:bk) (l:Log) (ts:List Tx) (n:Int):zz dc (u,ps,l,ts,n,())=zz (.aa (.aa u8)) ps+of l+zz (.aa bp) ts:=by
 show 0+(zz (.aa (.aa u8)) ps+(((List.length l.1+kK (zz u8) l.1)+((List.length l.2.1+kK (zz u8) l.2.1)+0))+(zz (.aa bp) ts+(0+0))))=_;have h1:kK (zz u8) l.1=0:=Dk _ (λ_=>rfl) l.1;have h2:kK (zz u8) l.2.1=0:=Dk _ (λ_=>rfl) l.2.1;unfold of;omega
theorem Uk {s':az} (hq:nI (s'.2.1,s'.2.2.1)):zz dc s'<=17000+zz (.aa bp) s'.2.2.2.1:=by
 obtain ⟨u,ps,l,ts,n,⟨⟩⟩:=s';refine bI (gY (Rt u ps l ts n)) ?_;have h1:=ZT ps (yn hq.1);have h2:of l<=16000:=hq.2;show _<=17000+zz (.aa bp) ts;omega
end OT
namespace OT
open Go
theorem Dy {c:Change} (hc:kI c=0) (h:c.1=true):rk c.2.1=ck c:=by
 unfold kI at hc;rw[h] at hc;unfold ck
 cases hi:c.2.2.1 with
 | false=>rfl
 | true=>
  rw[hi] at hc;simp only[aU,iB,iI,eJ,dP] at hc;split at hc
  ·cases hc
  ·rename_i hn;have hs:sameKey c.2.1 c.2.2.2.1=true:=by simpa using hn
   rw[FF] at hs;exact fO hs
theorem YQ (x:Row):Ty.eq a8 x x=true:=by
 have e:Ty.eq a8 x x=(decide (x.1=x.1)&&(decide (x.2.1=x.2.1)&&(decide (x.2.2.1=x.2.2.1)&&(decide (x.2.2.2.1=x.2.2.2.1)&&true)))):=rfl;rw[e];simp
theorem CX {xs:List Row} (hu:up xs) {c:Change} (hc:kI c=0):vg xs c=true↔(if c.1=true then c.2.1 ∈ xs else ∀ r ∈ xs,rk r≠ck c):=by
 unfold vg
 cases hw:c.1 with
 | true=>
  have hk:=Dy hc hw;rw[aG rfl];constructor
  ·intro h;simp only[aD,jC] at h;obtain ⟨h1,h2⟩:=h;obtain ⟨hp,_⟩:=vJ h1;rw[h1,aB hp] at h2;simp only[aU,dP] at h2;have:=Yy h2;rw[<-this];exact aJ hp
  ·intro h;obtain ⟨i,hi,hx⟩:=bL h;obtain ⟨f1,f2⟩:=AE hu hi (k:=ck c) (by rw[hx];exact hk);rw[f1,f2,aB hi,hx];simp[YQ]
 | false=>
  rw[aL (by decide)];constructor
  ·intro h r hr he;obtain ⟨i,hi,hx⟩:=bL hr;have f1:=(AE hu hi (k:=ck c) (by rw[hx];exact he)).1;rw[f1] at h;simp at h
  ·intro h
   have:oU xs (ck c)=false:=by
    cases hf:oU xs (ck c) with
    | false=>rfl
    | true=>
     obtain ⟨y,hy,hk⟩:=TT hf;exact absurd hk (h y hy)
   rw[this];rfl
def agree (K:Int×Int->Prop) (s s':List Row):Prop:=∀ r,K (rk r)->(r ∈ s↔r ∈ s')
theorem Wh {K:Int×Int->Prop} {s s':List Row} (hs:up s) (No:up s') (h:agree K s s') (c:Change):agree K (qc s c) (qc s' c):=λr hr=>by
 rw[vn hs,vn No,h r hr]
theorem Wi {K:Int×Int->Prop} {s s':List Row} (hs:up s) (No:up s') (h:agree K s s') {c:Change} (hc:kI c=0) (hk:K (ck c)) (hf:vg s c=true):vg s' c=true:=by
 rw[CX hs hc] at hf;rw[CX No hc];by_cases hw:c.1=true
 ·rw[aG hw] at hf ⊢;exact (h _ (by rw[Dy hc hw];exact hk)).1 hf
 ·rw[aL hw] at hf ⊢;exact λr hr he=>hf r ((h r (by rw[he];exact hk)).2 hr) he
theorem zk {K:Int×Int->Prop}:∀ (cs:List Change) (s s' t:List Row),Good s->Good s'->(∀ c ∈ cs,kI c=0)->(∀ c ∈ cs,K (ck c))->agree K s s'->i_ s cs=some t->∃ t',i_ s' cs=some t'
 | [],s,s',t,_,_,_,_,_,_=>⟨s',rfl⟩
 | c::cs,s,s',t,hs,No,hc,hk,h,hb=>by
  simp only[i_] at hb ⊢;split at hb
  ·rename_i hf;have yK:=hc c bF;rw[aG (Wi hs.1 No.1 h yK (hk c bF) hf)];exact zk cs _ _ t (sk hs yK) (sk No yK) (λd hd=>hc d (aX _ hd)) (λd hd=>hk d (aX _ hd)) (Wh hs.1 No.1 h c) hb
  ·cases hb
theorem zl:∀ (cs:List Change) (s t:List Row),Good s->(∀ c ∈ cs,kI c=0)->i_ s cs=some t->agree (λk=>∀ c ∈ cs,ck c≠k) s t
 | [],s,t,_,_,hb=>by injection hb with hb;subst hb;exact λr _=>iG
 | c::cs,s,t,hs,hc,hb=>by
  simp only[i_] at hb;split at hb
  ·have yK:=hc c bF;have ih:=zl cs _ t (sk hs yK) (λd hd=>hc d (aX _ hd)) hb;intro r hr;rw[<-ih r λd hd=>hr d (aX _ hd),vn hs.1];constructor
   ·exact λh=>.inl ⟨h,λe=>hr c bF e.symm⟩
   ·rintro (h | ⟨hi,rfl⟩)
    ·exact h.1
    ·exact absurd ((po yK).1 hi).symm (hr c bF)
  ·cases hb
theorem aao {rows:List Row} {xs:List Tx} {t:List Row} (hg:Good rows) (hc:∀ x ∈ xs,∀ c ∈ (x.2.1:List Change),kI c=0) (hb:i_ rows (qY xs)=some t) {i:Nat} (hi:i < xs.length)
  (hd:∀ j (hj:j < i),∀ c ∈ fy xs[j].2.1,∀ d ∈ fy xs[i].2.1,ck c≠ck d):∃ t',i_ rows (fy xs[i].2.1)=some t':=by
 have hx:xs=xs.take i++xs[i]::xs.drop (i+1):=by rw[fG,cE]
 have hbk:qY xs=qY (xs.take i)++(fy xs[i].2.1++qY (xs.drop (i+1))):=by
  conv=>lhs;rw[hx]
  unfold qY;rw[eC,dU]
 rw[hbk,back_append] at hb
 have hcp:∀ c ∈ qY (xs.take i),kI c=0:=λc h=>by
  unfold qY at h;obtain ⟨x,hx,hm⟩:=cG.1 h;exact qd (hc x (dI hx)) c hm
 cases h1:i_ rows (qY (xs.take i)) with
 | none=>rw[h1] at hb;cases hb
 | some s1=>
  rw[h1,aA,back_append] at hb
  cases h2:i_ s1 (fy xs[i].2.1) with
  | none=>rw[h2] at hb;cases hb
  | some s2=>
   have hf:=zl _ rows s1 hg hcp h1;refine zk (K:=λk=>∀ c ∈ qY (xs.take i),ck c≠k) _ s1 rows s2 (ym _ _ _ hg hcp h1).1 hg (qd (hc _ (aJ hi))) (λd hd2 c Dc=>?_) (λr hr=>(hf r hr).symm) h2;unfold qY at Dc;obtain ⟨x,hx,hm⟩:=cG.1 Dc;obtain ⟨j,hj,hxj⟩:=bL hx;rw[cO] at hj;rw[gD] at hxj;subst hxj;exact hd j Bys c hm d hd2
theorem inv_split (cs:List Change) (n:Nat):fy cs=fy (cs.drop n)++fy (cs.take n):=by
 unfold fy;rw[<-fH,<- gT,cE]
theorem YR {rows:List Row} {cs:List Change} {t:List Row} (h:i_ rows (fy cs)=some t) (n:Nat):∃ t',i_ rows (fy (cs.drop n))=some t':=by
 rw[inv_split cs n,back_append] at h
 cases h1:i_ rows (fy (cs.drop n)) with
 | none=>rw[h1] at h;cases h
 | some s=>exact ⟨s,rfl⟩
end OT
namespace OT
open Go
def uN (k:Int):Bool:=decide (k=2)||(decide (k=3)||decide (k=4))
def FZ (k:Int):Bool:=decide (k=1)||decide (k=9)
abbrev Dz:Row:=((0:Int),(0:Int),(0:Int),([]:List UInt8),())
abbrev noChange:Change:=(false,Dz,false,Dz,())
def qP (o:Op):Int:=
 if !dm o.1 1 9||(FZ o.1&&!decide (o.2.1=0))||(!uN o.1&&!Ty.eq a8 o.2.2.1 ((0:Int),(0:Int),(0:Int),([]:List UInt8),()))||(!decide (o.1=6)&&!decide (o.2.2.2.1=0))||(decide (o.1=4)&&!(decide (o.2.2.1.2.2.1=0)&&decide (o.2.2.1.2.2.2.1=([]:List UInt8)))) then 1
 else if (!FZ o.1&&!dm o.2.1 1 99)||!dm o.2.2.2.1 0 7 then 3
 else if uN o.1 then i7 o.2.2.1 else 0
theorem aap (k:Int):qT.ab (k,())=some (uN k,()):=by
 refine ag (k:=0) λf _=>(qT.ae f _).trans ?_;grind [qT.p,uN]
theorem HR (k:Int):nl.ab (k,())=some (uN k,()):=by
 refine ag (k:=0) λf _=>(nl.ae f _).trans ?_;show nl.p _=_;unfold nl.p uN;simp only[qu,aA];congr 2;grind
theorem Wj (o:Op) (h:rl o.2.2.1):rp.ab (o,())=some (qP o,()):=by
 refine ag (k:=0) λf _=>(rp.ae f _).trans ?_;show rp.p _=_;unfold rp.p qP FZ dm;simp only[si,MG,aap,zb _ h,aA];grind
theorem SJ (o:Op):rg.ab (o,())=some (!(!dm o.1 1 9||(FZ o.1&&!decide (o.2.1=0))||(!uN o.1&&!Ty.eq a8 o.2.2.1 ((0:Int),(0:Int),(0:Int),([]:List UInt8),()))||(!decide (o.1=6)&&!decide (o.2.2.2.1=0))||(decide (o.1=4)&&!(decide (o.2.2.1.2.2.1=0)&&decide (o.2.2.1.2.2.2.1=([]:List UInt8))))),()):=by
 refine ag (k:=0) λf _=>(rg.ae f _).trans ?_;show rg.p _=_;unfold rg.p FZ dm;have h4:decide (o.1=4)=true->uN o.1=true:=λh=>by grind [uN]
 simp only[qu,HR,aA];generalize (decide ((1:Int)<=o.1)&&decide (o.1<=9))=b1;generalize decide (o.1=1)=b2;generalize decide (o.1=9)=b3;generalize decide (o.1=4)=b4 at *;generalize decide (o.1=6)=b5;generalize uN o.1=b6 at *;generalize decide (o.2.1=0)=b7;generalize Ty.eq a8 o.2.2.1 ((0:Int),(0:Int),(0:Int),([]:List UInt8),())=b8;generalize decide (o.2.2.2.1=0)=b9;generalize decide (o.2.2.1.2.2.1=0)=c1;generalize decide (o.2.2.1.2.2.2.1=([]:List UInt8))=c2;cases b1
 ·rfl
 cases b4
 ·cases b2 <;> cases b3 <;> cases b7 <;> cases b6 <;> cases b8 <;> cases b5 <;> cases b9 <;> rfl
 ·have:=h4 rfl;subst this;cases b2 <;> cases b3 <;> cases b7 <;> cases b8 <;> cases b5 <;> cases b9 <;> cases c1 <;> cases c2 <;> rfl
theorem YS (o:Op) (h:rl o.2.2.1):tt.ab (o,())=some (qP o,()):=by
 refine ag (k:=0) λf _=>(tt.ae f _).trans ?_;show tt.p _=_;unfold tt.p qP;rw[SJ];simp only[aA];generalize (!dm o.1 1 9||(FZ o.1&&!decide (o.2.1=0))||(!uN o.1&&!Ty.eq a8 o.2.2.1 ((0:Int),(0:Int),(0:Int),([]:List UInt8),()))||(!decide (o.1=6)&&!decide (o.2.2.2.1=0))||(decide (o.1=4)&&!(decide (o.2.2.1.2.2.1=0)&&decide (o.2.2.1.2.2.2.1=([]:List UInt8)))))=b0;unfold FZ dm;simp only[qu,HR,za _ h,aA];grind
theorem IA {o:Op} (h:qP o=0) (hr:uN o.1=true):i7 o.2.2.1=0:=by
 grind [qP]
theorem HS {o:Op} (h:qP o=0):dm o.1 1 9=true/\dm o.2.2.2.1 0 7=true:=by
 grind [qP]
def Kh (c:Change) (x:Row):Bool:=decide (x.1=(ck c).2)&&(!decide (x.1=0)&&(!c.2.2.1||decide (c.2.2.2.1.2.2.1 < (List.length x.2.2.2.1:Int))))
def Ru (xs:List Row) (c:Change):Int:=
 if c.2.2.1&&(!dm (ck c).2 1 3||(decide (8 < c.2.2.2.1.2.2.1)||!decide (c.2.2.2.1.2.2.2.1=([]:List UInt8)))) then 10 else if xs.any (Kh c) then 8 else 0
def zm (xs:List Row) (t:Int):Int×Bool:=match xs.find? λx=>decide (x.1=0)&&decide (x.2.1=t) with
 | some x=>(x.2.2.1,true)
 | none=>(0,false)
def HT (xs:List Row) (c:Change):Int:=
 if (ck c).1=0 then Ru xs c else if c.2.2.1 then (if (zm xs (ck c).1).2 then (if (zm xs (ck c).1).1 < (List.length c.2.2.2.1.2.2.2.1:Int) then 10 else 0) else 4) else 0
theorem Wk (xs:List Row) (c:Change) (hl:xs.length<=1048576):ku.ab (xs,c,())=some (Ru xs c,()):=by
 refine ag (k:=1048577) λk hk=>(ku.ae k _).trans ?_;unfold ku.p
 have lp:ku.r0 k (xs,c,()) (ck c).2 (0:Int)=some (if xs.any (Kh c) then 8 else 0,()):=by
  have:=c8 (B:=λself v=>ku.b0 self (λz=>ku.q0 (xs,c,()) (ck c).2 z) (xs,c,()) (ck c).2 v) xs (λ(_:Unit) (i:Int)=>i) (λ_ _ x=>if Kh c x then .inl ((8:Int),()) else .inr ()) (λ_=>((0:Int),())) (λ_ _=>True) (by rw[ao];omega)
   (λi hi s self _=>by
    grind [ku.b0,Kh])
   (λ_ _ _ _ _ _=>trivial) (λs self _=>by
    show ku.b0 _ _ _ _ _=_;unfold ku.b0;simp only[aV,aI,aF]
    rfl) () trivial k Bys
  rw[tR] at this;refine aQ this ?_;grind
 grind [Bq,qu,Ru,dm]
theorem SK (xs:List Row) (c:Change) (hl:xs.length<=1048576):jN.ab (xs,c,())=some (Ru xs c,()):=by
 refine ag (k:=1048577) λk hk=>(jN.ae k _).trans ?_;unfold jN.p
 have lp:jN.r0 k (xs,c,()) (0:Int)=some (if xs.any (Kh c) then 8 else 0,()):=by
  have:=c8 (B:=λself v=>jN.b0 self (λz=>jN.q0 (xs,c,()) z) (xs,c,()) v) xs (λ(_:Unit) (i:Int)=>i) (λ_ _ x=>if Kh c x then .inl ((8:Int),()) else .inr ()) (λ_=>((0:Int),())) (λ_ _=>True) (by rw[ao];omega)
   (λi hi s self _=>by
    grind [jN.b0,Kh,yh,xd])
   (λ_ _ _ _ _ _=>trivial) (λs self _=>by
    show jN.b0 _ _ _ _=_;unfold jN.b0;simp only[aV,aI,aF]
    rfl) () trivial k Bys
  rw[tR] at this;refine aQ this ?_;grind
 grind [si,Ru,dm,ck]
theorem Wl (xs:List Row) (t:Int) (hl:xs.length<=1048576):nU.ab (xs,t,())=some ((zm xs t).1,(zm xs t).2,()):=by
 refine ag (k:=1048577) λk hk=>(nU.ae k _).trans ?_
 have:=c8 (B:=λself v=>nU.b0 self (λz=>nU.q0 (xs,t,()) z) (xs,t,()) v) xs (λ(_:Unit) (i:Int)=>i) (λ_ _ x=>if decide (x.1=0)&&decide (x.2.1=t) then .inl (x.2.2.1,true,()) else .inr ()) (λ_=>((0:Int),false,())) (λ_ _=>True) (by rw[ao];omega)
  (λi hi s self _=>by
   grind [nU.b0])
  (λ_ _ _ _ _ _=>trivial) (λs self _=>by
   show nU.b0 _ _ _ _=_;unfold nU.b0;simp only[aV,aI,aF]
   rfl) () trivial k Bys
 refine aQ this ?_
 have main:∀ (xs:List Row) (i:Nat),bt (λ_ (_:Unit) x=>if decide (x.1=0)&&decide (x.2.1=t) then .inl (x.2.2.1,true,()) else .inr ()) (λ_=>((0:Int),false,())) i xs ()=((zm xs t).1,(zm xs t).2,()):=by
  intro xs
  induction xs <;> grind [bt,zm]
 rw[main]
theorem Ul {xs:List Row} (hu:up xs) (t:Int):zm xs t=if oU xs (0,t) then ((xs[pos xs (0,t)]?.map λx=>x.2.2.1).getD 0,true) else (0,false):=by
 have key:(λx:Row=>decide (x.1=0)&&decide (x.2.1=t))=λx=>decide (rk x=(0,t)):=by
  grind [rk]
 unfold zm;rw[key]
 cases hf:oU xs (0,t) with
 | true=>
  obtain ⟨hp,he⟩:=vJ hf
  have:xs.find? (λx=>decide (rk x=(0,t)))=some xs[pos xs (0,t)]:=by
   rw[List.find?_eq_some_iff_getElem];refine ⟨by simp[he],pos xs (0,t),hp,rfl,λj hj=>?_⟩
   have:=CI xs (0,t) j Bys hj;grind [vf]
  grind
 | false=>
  have:xs.find? (λx=>decide (rk x=(0,t)))=none:=by
   rw[eW];intro x hx;simp only[bA];intro e;obtain ⟨i,hi,rfl⟩:=dE.1 hx
   have h1:oU xs (0,t)=true:=by
    rcases Nat.lt_trichotomy (pos xs (0,t)) i with h | h | h
    ·grind [AB,up,List.pairwise_iff_getElem]
    ·grind [oU]
    ·exfalso;have:=CI xs (0,t) i hi h;grind [vf]
   grind
  rw[this];rfl
theorem SL (xs:List Row) (t:Int) (hu:up xs) (hl:xs.length<=1048576) (hv:∀ x ∈ xs,0<=x.2.2.1):qF.ab (xs,t,())=some (if (zm xs t).2 then (zm xs t).1 else -1,()):=by
 refine ag (k:=0) λk hk=>(qF.ae k _).trans ?_;grind [qF.p,NH,Ul,atI,vJ]
theorem aaq (xs:List Row) (c:Change) (hl:xs.length<=1048576):tw.ab (xs,c,())=some (HT xs c,()):=by
 refine ag (k:=0) λk hk=>(tw.ae k _).trans ?_;grind [tw.p,HT,ck,yh,xd,SK,Wl]
theorem Wm (xs:List Row) (c:Change) (hu:up xs) (hl:xs.length<=1048576) (hv:∀ x ∈ xs,0<=x.2.2.1):tu.ab (xs,c,())=some (HT xs c,()):=by
 refine ag (k:=0) λk hk=>(tu.ae k _).trans ?_;show tu.p _=_;unfold tu.p HT;simp only[Bq,Wk xs c hl,SL xs _ hu hl hv,aA];grind [Ul]
end OT
namespace OT
open Go
def zn (k l:Key):Bool:=decide (l=k)||((decide (l.1=0)&&decide (l.2.1=k.1))||(decide (k.1=0)&&decide (l.1=k.2.1)))
def Bz (xs:List Tx) (t:Int) (k:Key):Bool:=xs.any λx=>!decide (x.1=t)&&x.2.2.2.1.any (zn k)
theorem SM (xs:List Tx) (t:Int) (k0:Key) (h:oY xs):gz.ab (xs,t,k0,())=some (Bz xs t k0,()):=by
 obtain ⟨h1,h2⟩:=h;refine ag (k:=1048577) λk hk=>(gz.ae k _).trans ?_
 have inner:∀ (self:((List Tx)×Int×Key×Int)->Option gz.O) (e0:(Unit)->Option gz.O) (i:Nat) (hi:i < xs.length),gz.r1 k self e0 (xs,t,k0,()) xs t k0 (i:Int) (0:Int)=if (xs[i]).2.2.2.1.any (zn k0) then some (true,()) else self (xs,t,k0,af ((i:Int)+1)):=λself e0 i hi=>by
  have LL:=(h2 _ (aJ hi)).2.2.1
  have:=eo (B:=λju v=>gz.b1 ju (λz=>gz.q0 self e0 (xs,t,k0,()) xs t k0 (i:Int) z) (xs,t,k0,()) xs t k0 (i:Int) v) (xs[i]).2.2.2.1 (λ(_:Unit) (j:Int)=>j) (λ_ _ l=>if zn k0 l then .inl (some (true,())) else .inr ()) (λ_=>self (xs,t,k0,af ((i:Int)+1))) (λ_ _=>True) (by rw[ao];omega)
   (λj hj s ju _=>by
    grind [gz.b1,zn,Int.natCast_nonneg,Int.toNat_natCast,z_])
   (λ_ _ _ _ _ _=>trivial) (λs ju _=>by
    show gz.b1 _ _ _ _ _ _ _ _=_;unfold gz.b1;simp only[aN,aK,aC,aB hi,aA,aV,aI,aF]
    rfl) () trivial k Bys
  rw[tR] at this;exact this
 have:=eo (B:=λself v=>gz.B0 k self (λz=>gz.q1 (xs,t,k0,()) z) (xs,t,k0,()) v) xs (λ(_:Unit) (i:Int)=>(xs,t,k0,i)) (λ_ _ x=>if !decide (x.1=t)&&x.2.2.2.1.any (zn k0) then .inl (some (true,())) else .inr ()) (λ_=>some (false,())) (λ_ _=>True) (by rw[ao];omega)
  (λi hi s self _=>by
   show gz.b0 _ _ _ _ _=_
   grind [gz.b0])
  (λ_ _ _ _ _ _=>trivial) (λs self _=>by
   show gz.b0 _ _ _ _ _=_;unfold gz.b0;simp only[aV,aI,aF]
   rfl) () trivial k Bys
 rw[tR] at this;refine aQ this ?_;grind [Bz]
def df (rows:List Row) (o:Op):Change×Int:=
 let k:=(o.2.2.1.1,o.2.2.1.2.1)
 if decide (o.1=2)&&oU rows k then (noChange,6)
 else if !decide (o.1=2)&&!oU rows k then (noChange,4)
 else ((oU rows k,(if oU rows k then (rows[pos rows k]?).getD Dz else Dz),!decide (o.1=4),(if decide (o.1=4) then Dz else o.2.2.1),()),0)
theorem SN (rows:List Row) (o:Op) (hu:up rows) (hl:rows.length<=1048576):pi.ab (rows,o,())=some ((df rows o).1,(df rows o).2,()):=by
 refine ag (k:=0) λk hk=>(pi.ae k _).trans ?_;show pi.p _=_;unfold pi.p df;rw[NH rows _ _ hu Bys];simp only[aA];unfold atI;grind [vJ]
theorem abW {x:Row} (h:i7 x=0):0<=x.2.2.1:=by
 grind [i7,dm]
abbrev mI (c:Int):br:=(c,false,noChange,())
def sK (rows:List Row) (xs:List Tx) (o:Op):br:=
 let k:Key:=(o.2.2.1.1,o.2.2.1.2.1,())
 if Bz xs o.2.1 k then mI 7
 else if (df rows o).2=0 then
  if HT rows (df rows o).1=0 then
   if decide (12 < zi rows xs k)||decide (12<=oF xs) then mI 9
   else if (df rows o).1.1&&((df rows o).1.2.2.1&&Ty.eq a8 (df rows o).1.2.1 (df rows o).1.2.2.2.1) then mI 0
   else (0,true,(df rows o).1,())
  else mI (HT rows (df rows o).1)
 else mI (df rows o).2
theorem Ki (c:Int):iq.ab (c,())=some (mI c,()):=by
 refine ag (k:=0) λk hk=>(iq.ae k _).trans ?_;rfl
theorem Ot (rows:List Row) (xs:List Tx) (o:Op) (hg:Good rows) (hl:rows.length<=60) (ht:oY xs) (hx:wd xs):mS.ab (rows,xs,o,())=some (sK rows xs o,()):=by
 refine ag (k:=0) λk hk=>(mS.ae k _).trans ?_;show mS.p _=_;unfold mS.p sK;have hx4:=hx.len;have hv:∀ x ∈ rows,0<=x.2.2.1:=λx hm=>abW (hg.ok x hm);simp only[SM xs _ _ ht,Ki,SN rows o hg.up Bys,Wm rows _ hg.up Bys hv,Rd rows xs _ Bys Bys (λx hm=>by have:=hx.Iz x hm;omega),HG xs ht,aA];grind
def LQ (rows:List Row) (xs:List Tx) (k:Key) (c:Change):br:=
 if HT rows c=0 then
  if decide (12 < zi rows xs k)||decide (12<=oF xs) then mI 9
  else if c.1&&(c.2.2.1&&Ty.eq a8 c.2.1 c.2.2.2.1) then mI 0
  else (0,true,c,())
 else mI (HT rows c)
theorem SO (rows:List Row) (xs:List Tx) (o:Op):sK rows xs o=if Bz xs o.2.1 (o.2.2.1.1,o.2.2.1.2.1,()) then mI 7 else if (df rows o).2=0 then LQ rows xs (o.2.2.1.1,o.2.2.1.2.1,()) (df rows o).1 else mI (df rows o).2:=rfl
theorem aar (rows:List Row) (xs:List Tx) (kk:Key) (hk:¬ kk.2.1=0) (hl:rows.length<=1048576) (ht:oY xs) (c:Change):((tw.ab (rows,c,())).bind λK_=>bif !decide (K_.1=(0:Int)) then (some (mI K_.1,())) else (dp.ab (rows,xs,())).bind λVu=>bif decide ((12:Int) < ((nP be Vu.1 kk true).length:Int)) then (some (mI 9,())) else (jr.ab (xs,())).bind λVv=>bif decide ((12:Int)<=Vv.1) then (some (mI 9,())) else bif c.1 then (bif c.2.2.1 then (bif (Ty.eq a8 c.2.1 c.2.2.2.1) then (some (mI 0,())) else some (((0:Int),true,c,()),())) else some (((0:Int),true,c,()),())) else some (((0:Int),true,c,()),()))=some (LQ rows xs kk c,()):=by
 unfold LQ
 have hr:(nP be (kd (dd [] (mV rows xs))) kk true).length=zi rows xs kk:=by
  have h1:nP be (kd (dd [] (mV rows xs))) kk true=kd (dd [] (mV rows xs++[kk])):=by
   refine (Ra _ _).trans ?_;rw[NX];rfl
  rw[h1];unfold zi Ep;rw[aL hk];exact iX ..
 grind [aaq,NY,CU]
theorem Rv (rows:List Row) (xs:List Tx) (o:Op) (hg:Good rows) (hl:rows.length<=60) (ht:oY xs) (hx:wd xs) (hk:¬ o.2.2.1.2.1=0):cn.ab (rows,xs,o,())=some (sK rows xs o,()):=by
 refine ag (k:=1048577) λk mY=>(cn.ae k _).trans ?_;rw[SO]
 have hq:∀ (k:Nat),cn.q1 (rows,xs,o,()) (rows,xs,o,mI 0,(o.2.2.1.1,o.2.2.1.2.1,()))=some (if (df rows o).2=0 then LQ rows xs (o.2.2.1.1,o.2.2.1.2.1,()) (df rows o).1 else mI (df rows o).2,()):=λk=>by
  show cn.q1 _ _=_;unfold cn.q1 df;have hs:=λf:Nat×Int=>Hn rows o.2.2.1 f hg.up Bys;have e:rk o.2.2.1=(o.2.2.1.1,o.2.2.1.2.1):=rfl;simp only[e] at hs;have tl:=aar rows xs (o.2.2.1.1,o.2.2.1.2.1,()) hk Bys ht;simp only[hs,aA];generalize decide (o.1=2)=d2;generalize decide (o.1=4)=d4
  cases hf:oU rows (o.2.2.1.1,o.2.2.1.2.1) with
  | false=>
   cases d2
   ·rfl
   ·cases d4
    all_goals grind
  | true=>
   obtain ⟨hp,he⟩:=vJ hf;simp only[aN,aK,aC,aB hp,aA,iL];cases d2
   ·cases d4
    ·exact tl _
    ·exact tl _
   ·rfl
 have inner:∀ (self:((List Row)×(List Tx)×Op×br×Key×(List Tx)×Int×Int)->Option cn.O) (e0:((List Row)×(List Tx)×Op×br×Key)->Option cn.O) (i:Nat) (hi:i < xs.length),cn.r1 k self e0 (rows,xs,o,()) rows xs o (mI 0) (o.2.2.1.1,o.2.2.1.2.1,()) xs (xs.length:Int) (i:Int) (xs[i]).2.2.2.1 (List.length (xs[i]).2.2.2.1:Int) (0:Int)=if (xs[i]).2.2.2.1.any (zn (o.2.2.1.1,o.2.2.1.2.1,())) then some (mI 7,()) else self (rows,xs,o,mI 0,(o.2.2.1.1,o.2.2.1.2.1,()),xs,(xs.length:Int),af ((i:Int)+1)):=λself e0 i hi=>by
  have LL:=(ht.2 _ (aJ hi)).2.2.1;have OR:=hx.keys _ (aJ hi)
  have:=eo (B:=λju v=>cn.b1 ju (λz=>cn.q0 self e0 (rows,xs,o,()) rows xs o (mI 0) (o.2.2.1.1,o.2.2.1.2.1,()) xs (xs.length:Int) (i:Int) (xs[i]).2.2.2.1 (List.length (xs[i]).2.2.2.1:Int) z) (rows,xs,o,()) rows xs o (mI 0) (o.2.2.1.1,o.2.2.1.2.1,()) xs (xs.length:Int) (i:Int) (xs[i]).2.2.2.1 (List.length (xs[i]).2.2.2.1:Int) v) (xs[i]).2.2.2.1 (λ(_:Unit) (j:Int)=>j) (λ_ _ l=>if zn (o.2.2.1.1,o.2.2.1.2.1,()) l then .inl (some (mI 7,())) else .inr ()) (λ_=>self (rows,xs,o,mI 0,(o.2.2.1.1,o.2.2.1.2.1,()),xs,(xs.length:Int),af ((i:Int)+1))) (λ_ _=>True) (by rw[ao];omega)
   (λj hj s ju _=>by
    show cn.b1 _ _ _ _ _ _ _ _ _ _ _ _ _ _=_;unfold cn.b1 zn;have a7:(j:Int) < (List.length (xs[i]).2.2.2.1:Int):=by omega
    have PD:=OR _ (aJ hj);simp only[aN,aK,aC,aA,a7,aO,aS,aB hj,z_];generalize (xs[i]).2.2.2.1[j]=l at PD;obtain ⟨l1,l2,⟨⟩⟩:=l
    have An:¬ l2=0:=by
     grind [xM,dm]
    generalize o.2.2.1.1=k1;generalize o.2.2.1.2.1=k2
    have e1:decide (((l1,l2,()):Key)=(k1,k2,()))=(decide (l1=k1)&&decide (l2=k2)):=by
     rw[fS];simp
    have e2:decide (((l1,l2,()):Key)=((0:Int),k1,()))=(decide (l1=0)&&decide (l2=k1)):=by
     rw[fS];simp
    have e3:Ty.eq be ((l1,l2,()):Key) ((0:Int),k1,())=(decide (l1=0)&&decide (l2=k1)):=(z_ _ _).trans e2
    grind)
   (λ_ _ _ _ _ _=>trivial) (λs ju _=>by
    show cn.b1 _ _ _ _ _ _ _ _ _ _ _ _ _ _=_;unfold cn.b1;simp only[aV,aI,aF]
    rfl) () trivial k Bys
  rw[tR] at this;exact this
 have:=eo (B:=λself v=>cn.B0 k self (λz=>cn.q1 (rows,xs,o,()) z) (rows,xs,o,()) v) xs (λ(_:Unit) (i:Int)=>(rows,xs,o,mI 0,(o.2.2.1.1,o.2.2.1.2.1,()),xs,(xs.length:Int),i)) (λ_ _ x=>if !decide (x.1=o.2.1)&&x.2.2.2.1.any (zn (o.2.2.1.1,o.2.2.1.2.1,())) then .inl (some (mI 7,())) else .inr ()) (λ_=>some (if (df rows o).2=0 then LQ rows xs (o.2.2.1.1,o.2.2.1.2.1,()) (df rows o).1 else mI (df rows o).2,())) (λ_ _=>True) (by rw[ao];have:=ht.1;omega)
  (λi hi s self _=>by
   show cn.b0 _ _ _ _ _=_
   grind [cn.b0,Int.toNat_natCast])
  (λ_ _ _ _ _ _=>trivial) (λs self _=>by
   show cn.b0 _ _ _ _ _=_
   simp_all [cn.b0]) () trivial k (by have:=ht.1;omega)
 rw[tR] at this;refine aQ this ?_;grind [Bz]
end OT
namespace OT
open Go
def AJ (xs:List Tx) (t:Int):Int:=match xs[(tJ xs t).toNat]? with
 | some x=>(List.length x.2.2.1:Int)
 | none=>0
def rO (rows:List Row) (xs:List Tx) (o:Op):br:=
 if o.1=1 then (if decide (4<=xs.length) then mI 2 else mI 0)
 else if o.1=9 then mI 0
 else if tJ xs o.2.1 < 0 then mI 4
 else if o.1=5 then (if decide (8<=AJ xs o.2.1) then mI 2 else mI 0)
 else if o.1=6 then (if decide (AJ xs o.2.1<=o.2.2.2.1) then mI 3 else mI 0)
 else if uN o.1 then sK rows xs o else mI 0
def jm (rows:List Row) (xs:List Tx) (o:Op):br:=
 if mE rows=0 then (if lW xs=0 then (if qP o=0 then rO rows xs o else mI (qP o)) else mI (lW xs)) else mI (mE rows)
theorem at_mem {xs:List Tx} {t:Int} (h:¬ tJ xs t < 0):∃ (j:Nat) (hj:j < xs.length),tJ xs t=(j:Int)/\(xs[j]).1=t:=by
 obtain ⟨j,hj,h1,h2⟩:=Fo (λx:Tx=>decide (x.1=t)) xs 0 (by unfold tJ at h;omega);exact ⟨j,hj,by unfold tJ;rw[h1,bZ],fO h2⟩
theorem kinds {k:Int} (h:dm k 1 9=true):k=1\/k=2\/k=3\/k=4\/k=5\/k=6\/k=7\/k=8\/k=9:=by
 unfold dm at h;simp only[aD,bA] at h;omega
theorem Rw (rows:List Row) (xs:List Tx) (o:Op) (hg:Good rows) (hl:rows.length<=60) (ht:oY xs) (hx:wd xs) (ho:dm o.1 1 9=true):ql.ab (rows,xs,o,())=some (rO rows xs o,()):=by
 refine ag (k:=0) λk hk=>(ql.ae k _).trans ?_;show ql.p _=_;unfold ql.p rO;have hx4:=hx.len
 have h4:decide ((4:Int)<=(xs.length:Int))=decide (4<=xs.length):=by
  by_cases h:4<=xs.length
  ·have:(4:Int)<=(xs.length:Int):=by omega
   simp[h,this]
  ·have:¬ (4:Int)<=(xs.length:Int):=by omega
   simp[h,this]
 simp only[Ki,mG xs _ ht.1,Ot rows xs o hg hl ht hx,aA,h4];by_cases ha:tJ xs o.2.1 < 0
 ·simp only[ha,aO,aS,aK]
  rcases kinds ho with e | e | e | e | e | e | e | e | e <;> rw[e] <;> first | rfl | (cases decide (4<=xs.length) <;> rfl)
 ·obtain ⟨j,hj,e,_⟩:=at_mem ha;have hm:AJ xs o.2.1=(List.length (xs[j]).2.2.1:Int):=by unfold AJ;rw[e,aC,aB hj]
  rw[hm];simp only[ha,aI,aF,aR,e,aN,aK,aC,aB hj,aA]
  rcases kinds ho with e | e | e | e | e | e | e | e | e <;> rw[e] <;> first | rfl | (cases decide (4<=xs.length) <;> rfl) | (cases decide ((8:Int)<=(List.length (xs[j]).2.2.1:Int)) <;> rfl) | (cases decide ((List.length (xs[j]).2.2.1:Int)<=o.2.2.2.1) <;> rfl)
theorem Wn (rows:List Row) (xs:List Tx) (o:Op) (hl:rows.length<=1048576) (hr:∀ x ∈ rows,rl x) (ht:oY xs) (ho:rl o.2.2.1):rh.ab (rows,xs,o,())=some (jm rows xs o,()):=by
 refine ag (k:=0) λk hk=>(rh.ae k _).trans ?_;show rh.p _=_;unfold rh.p jm;simp only[Sk rows (by rw[ao];omega) hr,Wa xs ht,YS o ho,Ki,aA];by_cases h1:mE rows=0;rotate_left
 ·simp only[h1,aI,cI,aS,aR]
 by_cases h2:lW xs=0;rotate_left
 ·simp only[h1,h2,aO,aI,aU,cI,aS,aF,aK,aR]
 by_cases h3:qP o=0;rotate_left
 ·simp only[h1,h2,h3,aO,aI,aU,cI,aS,aF,aK,aR]
 simp only[h1,h2,h3,aO,aU,aF,aK];rw[Rw rows xs o (vj h1).1 (vj h1).2 ht (rR h2) (HS h3).1];rfl
theorem Wo (rows:List Row) (xs:List Tx) (o:Op) (hl:rows.length<=1048576) (hr:∀ x ∈ rows,rl x) (ht:oY xs) (ho:rl o.2.2.1):jE.ab (rows,xs,o,())=some (jm rows xs o,()):=by
 refine ag (k:=5) λk hk=>(jE.ae k _).trans ?_;unfold jE.p;simp only[DT rows (by rw[ao];omega) hr,FV xs ht,Wj o ho,aA]
 have hq:mE rows=0->lW xs=0->qP o=0->∀ (k:Nat) (z:Unit),jE.q0 (rows,xs,o,()) [mE rows,lW xs,qP o] ([mE rows,lW xs,qP o].length:Int) z=some (rO rows xs o,()):=λh1 h2 h3 k z=>by
  show jE.q0 _ _ _ _=_;unfold jE.q0 rO;have hx:=rR h2;have hg:=(vj h1).1;have hl:=(vj h1).2;have hor:=(HS h3).1
  have h4:decide ((4:Int)<=(xs.length:Int))=decide (4<=xs.length):=by
   by_cases h:4<=xs.length
   ·have:(4:Int)<=(xs.length:Int):=by omega
    simp[h,this]
   ·have:¬ (4:Int)<=(xs.length:Int):=by omega
    simp[h,this]
  have HU:uN o.1=true->cn.ab (rows,xs,o,())=some (sK rows xs o,()):=λRx=>Rv rows xs o hg hl ht hx (by
   have:=IA h3 Rx;unfold i7 at this;split at this
   ·rename_i h5;simp only[dm,aD,bA] at h5;omega
   ·cases this)
  simp only[AH xs _ ht.1,aA,h4];by_cases ha:tJ xs o.2.1 < 0
  ·simp only[ha,aO,aS,aK]
   rcases kinds hor with e | e | e | e | e | e | e | e | e <;> rw[e] <;> first | rfl | (cases decide (4<=xs.length) <;> rfl)
  ·obtain ⟨j,hj,e,_⟩:=at_mem ha;have hm:AJ xs o.2.1=(List.length (xs[j]).2.2.1:Int):=by unfold AJ;rw[e,aC,aB hj]
   rw[hm];simp only[ha,aI,aF,aR,e,aN,aK,aC,aB hj,aA];rcases kinds hor with e | e | e | e | e | e | e | e | e
   ·rw[e];cases decide (4<=xs.length) <;> rfl
   ·rw[HU (by rw[e];rfl),e];rfl
   ·rw[HU (by rw[e];rfl),e];rfl
   ·rw[HU (by rw[e];rfl),e];rfl
   ·rw[e];cases decide ((8:Int)<=(List.length (xs[j]).2.2.1:Int)) <;> rfl
   ·rw[e];cases decide ((List.length (xs[j]).2.2.1:Int)<=o.2.2.2.1) <;> rfl
   ·rw[e];rfl
   ·rw[e];rfl
   ·rw[e];rfl
 have:=eo (B:=λself v=>jE.b0 self (λz=>jE.q0 (rows,xs,o,()) [mE rows,lW xs,qP o] ([mE rows,lW xs,qP o].length:Int) z) (rows,xs,o,()) [mE rows,lW xs,qP o] ([mE rows,lW xs,qP o].length:Int) v) [mE rows,lW xs,qP o] (λ(_:Unit) (i:Int)=>i) (λ_ _ x=>if x=0 then .inr () else .inl (some (mI x,()))) (λ_=>jE.q0 (rows,xs,o,()) [mE rows,lW xs,qP o] ([mE rows,lW xs,qP o].length:Int) ()) (λ_ _=>True) (by rw[ao];simp)
  (λi hi s self _=>by
   show jE.b0 _ _ _ _ _ _=_;unfold jE.b0;have a7:(i:Int) < ([mE rows,lW xs,qP o].length:Int):=by omega
   have gb:(0:Int)<=(i:Int)/\(i:Int) < ([mE rows,lW xs,qP o].length:Int):=by omega
   simp only[a7,gb,cM,aO,aS,aK,aC,aB hi,aA];by_cases h0:[mE rows,lW xs,qP o][i]=0
   ·simp only[h0,aO,aU,aF,aK]
   ·simp only[h0,aI,cI,aS,aR])
  (λ_ _ _ _ _ _=>trivial) (λs self _=>by
   show jE.b0 _ _ _ _ _ _=_;unfold jE.b0
   simp only[aV,aI,aF]) () trivial k (by simp;omega)
 refine aQ this ?_;unfold jm;simp only[bt];by_cases h1:mE rows=0;rotate_left
 ·simp only[h1,aR]
 by_cases h2:lW xs=0;rotate_left
 ·simp only[h1,h2,aK,aR]
 by_cases h3:qP o=0;rotate_left
 ·simp only[h1,h2,h3,aK,aR]
 have:=hq h1 h2 h3 k ();rw[aG h1];simp only;rw[aG h2];simp only;rw[aG h3];simp only;rw[this,aG h1,aG h2,aG h3]
end OT
namespace OT
open Go
def F7 (x:Tx):Tx:=(x.1,x.2.1,x.2.2.1++[(List.length x.2.1:Int)],x.2.2.2)
def D0 (x:Tx) (n m:Nat):Tx:=(x.1,x.2.1.take n,x.2.2.1.take (m+1),x.2.2.2)
theorem Ou {xs:List Tx} {t:Int} (h:oY xs) {j:Nat} (hj:j < xs.length) (ii:tJ xs t=(j:Int)) (hm:List.length (xs[j]).2.2.1<=8):tQ.ab (xs,t,())=some (xs.set j (F7 xs[j]),(List.length (xs[j]).2.2.1:Int),()):=by
 refine ag (k:=0) λk _=>(tQ.ae k _).trans ?_;unfold tQ.p;have gb:(0:Int)<=(j:Int)/\(j:Int) < (xs.length:Int):=by omega
 simp only[AI xs h,AH xs t h.1,ii,aA,gb,cM,aK,aC,aB hj];generalize Rr:xs[j]=x at hm ⊢;have LP:xs.set j x=xs:=by rw[<-Rr];exact fL hj
 have hg:xs[j]?=some x:=by rw[aB hj,Rr]
 have c1:List.length x.2.2.1+[(List.length x.2.1:Int)].length<=cg:=c9 (by simp only[aZ,bR];omega);have hq:∀ y:Tx,(xs.set j y)[j]?=some y:=λy=>by simp[hj]
 rw[aG c1,LP];simp only[hg,aA,hq]
 have hw:af (((List.length (x.2.2.1++[(List.length x.2.1:Int)]):Nat):Int) - 1)=(List.length x.2.2.1:Int):=by
  rw[bK,aZ,bR,bi Bys];omega
 rw[hw];rfl
theorem Gs {xs:List Tx} {o:Op} (h:oY xs) {j:Nat} (hj:j < xs.length) (ii:tJ xs o.2.1=(j:Int)) (h6:¬ o.1=6):rJ.ab (xs,o,())=some (xs.take j++xs.drop (j+1),fy (xs[j]).2.1,()):=by
 refine ag (k:=0) λk _=>(rJ.ae k _).trans ?_;unfold rJ.p;have gb:(0:Int)<=(j:Int)/\(j:Int) < (xs.length:Int):=by omega
 have hx:=h.2 _ (aJ hj);have hl:=h.1;have hw:af ((j:Int)+1)=((j+1:Nat):Int):=by rw[bi Bys];omega
 have hd:sF.ab (xs,(j:Int),((j+1:Nat):Int),())=some (xs.take j++xs.drop (j+1),()):=by
  show Mz _ _=_;unfold Mz;have:(0:Int)<=(j:Int)/\(j:Int)<=((j+1:Nat):Int)/\((j+1:Nat):Int)<=(xs.length:Int):=by omega
  exact aG this
 simp only[AI xs h,AH xs o.2.1 h.1,ii,aA,gb,cM,aK,aC,aB hj,h6,aI,aF,FW _ hx.1,hw,hd]
theorem MV {xs:List Tx} {o:Op} (h:oY xs) {j:Nat} (hj:j < xs.length) (ii:tJ xs o.2.1=(j:Int)) (h6:o.1=6) {m n:Nat} (hm:o.2.2.2.1=(m:Int)) (Um:m < List.length (xs[j]).2.2.1) (hn:(xs[j]).2.2.1[m]?=some (n:Int)) (yf:n<=List.length (xs[j]).2.1) :
  rJ.ab (xs,o,())=some (xs.set j (D0 xs[j] n m),fy ((xs[j]).2.1.drop n),()):=by
 refine ag (k:=0) λk _=>(rJ.ae k _).trans ?_;unfold rJ.p;have gb:(0:Int)<=(j:Int)/\(j:Int) < (xs.length:Int):=by omega
 have hx:=h.2 _ (aJ hj);simp only[AI xs h,AH xs o.2.1 h.1,ii,aA,gb,cM,aK,aC,aB hj,h6,hm,aO,aS];generalize Rr:xs[j]=x at hx Um hn yf ⊢;obtain ⟨g1,g2,g3,_⟩:=hx;have LP:xs.set j x=xs:=by rw[<-Rr];exact fL hj
 have hg:xs[j]?=some x:=by rw[aB hj,Rr]
 have hq:∀ y:Tx,(xs.set j y)[j]?=some y:=λy=>by simp[hj]
 have k1:(0:Int)<=(m:Int)/\(m:Int) < (List.length x.2.2.1:Int):=by omega
 have k2:(0:Int)<=(n:Int)/\(n:Int)<=(List.length x.2.1:Int):=by omega
 have hw:af ((m:Int)+1)=((m+1:Nat):Int):=by rw[bi Bys];omega
 have k3:(0:Int)<=((m+1:Nat):Int)/\((m+1:Nat):Int)<=(List.length x.2.2.1:Int):=by omega
 rw[aG k1,hn];simp only[aA];rw[aG k2,aC,eS,FW _ (by rw[bU];omega)];simp only[aA];rw[aG k2,LP];simp only[hg,aA,hq,hw];rw[aG k3];simp only[aC,gZ,hq,aA,eK];rfl
theorem SP {xs:List Tx} (hl:xs.length<=1048576) {j:Nat} (hj:j < xs.length):oR.ab (xs,(j:Int),())=some (xs.take j++xs.drop (j+1),()):=by
 refine ag (k:=1048578) λk hk=>(oR.ae k _).trans ?_
 have:=c8 (B:=λself v=>oR.b0 self (oR.q0 (xs,(j:Int),())) (xs,(j:Int),()) v) xs (λ(s:List Tx) (i:Int)=>(s,i)) (λi s x=>if (i:Int)=(j:Int) then .inr s else .inr (s++[x])) (λs=>(s,())) (λi s=>s.length<=i) (by rw[ao];omega)
  (λi hi s self hI=>by
   have a7:(i:Int) < (xs.length:Int):=by omega
   unfold oR.b0;rw[aY a7,aS]
   by_cases he:(i:Int)=(j:Int)
   ·rw[aY he,aU,aF,aG he]
   ·rw[bD he,cI,aS,aL he,aG (aN i),aC,aB hi];simp only[aA]
    rw[aG (c9 (by rw[aZ,bR];omega))])
  (λi hi s s' hI hf=>by
   split at hf
   ·injection hf with hf;subst hf;omega
   ·injection hf with hf;subst hf;rw[bK,aZ,bR];omega) (λs self _=>by
   unfold oR.b0;rw[bD (aV _),aF]
   rfl) [] (aW _) k Bys
 have key:∀ (ys:List Tx) (i:Nat) (s:List Tx),bt (O:=List Tx×Unit) (λi s x=>if (i:Int)=(j:Int) then .inr s else .inr (s++[x])) (λs=>(s,())) i ys s=(s++(if i<=j then ys.take (j - i)++ys.drop (j - i+1) else ys),()):=by
  intro ys
  induction ys with
  | nil=>intro i s;simp[bt]
  | cons y ys ih=>
   intro i s;simp only[bt]
   by_cases he:(i:Int)=(j:Int)
   ·rw[aG he];simp only;rw[ih];have:i=j:=by omega
    subst this;rw[aL Bys,aG (aH _),Nat.sub_self];rfl
   ·rw[aL he];simp only;rw[ih];by_cases qN:i<=j
    ·obtain ⟨d,hd⟩:∃ d,j - i=d+1:=⟨j - i - 1,by omega⟩
     rw[aG qN,aG Bys,hd,show j - (i+1)=d by omega];simp[bT]
    ·rw[aL qN,aL Bys];simp[bT]
 rw[key xs 0 []] at this;refine aQ this ?_;simp
end OT
namespace OT
open Go
structure IB (p:Plain):Prop where
 tZ:Good p.1
 len:List.length p.1<=12
 vK:lW p.2.1=0
 next:dm p.2.2.1 1 100=true
 room:sP p.1 p.2.1<=12
 back:∃ t,i_ p.1 (qY p.2.1)=some t
theorem lc {p:Plain} (h:gq p=0):IB p:=by
 unfold gq at h;split at h
 ·rename_i h1;split at h
  ·rename_i h2;split at h
   ·rename_i h3;rw[aD] at h3;split at h
    ·cases h
    ·rename_i h4;have hg:=(vj h1).1;have hr:=Dx (xs:=p.2.1) hg.up;unfold sP at h4
     cases hb:i_ p.1 (qY p.2.1) with
     | none=>grind
     | some t=>exact ⟨hg,by omega,h2,h3.1,by grind [sP],t,hb⟩
   ·cases h
  grind
 grind
theorem HV {c:Change} (hc:kI c=0):ck (vq c)=ck c:=by
 grind [ck,vq,rk,Dy,kI]
theorem IC {xs:List Tx} (h:lW xs=0):∀ x ∈ xs,1<=x.1/\t8 x=0:=λx hx=>by
 have h1:=(aal h).1;obtain ⟨i,hi,rfl⟩:=bL hx;have:=CW (yk xs h1 i hi);grind
theorem DA {x:Tx} (h:t8 x=0):∀ c ∈ (x.2.1:List Change),jk x.2.2.2.1 (kg c)=true:=λc hc=>by
 unfold t8 at h;split at h
 ·rename_i hu;have h2:=Aj hu c hc;grind [wc]
 grind
theorem HW {xs:List Tx} (h:lW xs=0):(flatK xs).Nodup:=by
 unfold lW at h;split at h
 ·cases h
 ·split at h
  ·split at h
   ·rename_i ha;exact fO ha
   ·cases h
  grind
theorem BA {xs:List Tx} (h:lW xs=0) {i j:Nat} (hi:i < xs.length) (hj:j < i) {c d:Change} (hc:c ∈ fy (xs[j]'Bys).2.1) (hd:d ∈ fy xs[i].2.1):ck c≠ck d:=by
 have hn:=HW h;have t_:=(rR h).ch;obtain ⟨c0,yK,rfl⟩:=zP hc;obtain ⟨d0,YT,rfl⟩:=zP hd;have mj:xs[j]'Bys ∈ xs:=aJ _;have mi:xs[i] ∈ xs:=aJ _;rw[HV (t_ _ mj c0 yK),HV (t_ _ mi d0 YT)];have l1:=nY.1 (DA (IC h _ mj).2 c0 yK);have l2:=nY.1 (DA (IC h _ mi).2 d0 YT);intro he;have hx:xs=xs.take i++xs[i]::xs.drop (i+1):=by rw[fG,cE]
 unfold flatK at hn;rw[hx,eC,dU,dF] at hn;refine hn.2.2 (kg c0) ?_ (kg c0) ?_ rfl
 ·grind
 grind [kg]
theorem vu {p:Plain} (h:IB p) {i:Nat} (hi:i < List.length p.2.1):∃ t,i_ p.1 (fy (p.2.1[i]).2.1)=some t:=by
 obtain ⟨t,ht⟩:=h.back;exact aao h.tZ (rR h.vK).ch ht hi λj hj c hc d hd=>BA h.vK hi hj hc hd
theorem Es {α:Type} [DecidableEq α]:∀ (l m:List α),l.Nodup->(∀ x ∈ l,x ∈ m)->l.length<=m.length
 | [],_,_,_=>aW _
 | x::l,m,hn,h=>by
  rw[cL] at hn;have hx:=h x bF;have ih:=Es l (m.erase x) hn.2 λy hy=>(List.mem_erase_of_ne (λe=>hn.1 (by grind))).2 (h y (aX _ hy));grind
theorem BB {rows:List Row} {o:Op} (hg:Good rows) (CB:i7 o.2.2.1=0) (h:(df rows o).2=0):kI (df rows o).1=0/\ck (df rows o).1=rk o.2.2.1/\vg rows (df rows o).1=true/\cl (df rows o).1:=by
 have xk:rl o.2.2.1:=by grind [rl,AC,ao]
 have yf:rl Dz:=aW _
 have key:∀ c:Change,c=(df rows o).1->kI c=0/\ck c=rk o.2.2.1/\(if c.1=true then c.2.1 ∈ rows else ∀ r ∈ rows,rk r≠ck c)/\cl c:=by
  intro c hc;unfold df at h hc;have hrk:(o.2.2.1.1,o.2.2.1.2.1)=rk o.2.2.1:=rfl;simp only[hrk] at h hc
  cases hf:oU rows (rk o.2.2.1) with
  | true=>
   obtain ⟨hp,hk⟩:=vJ hf;have hm:rows[pos rows (rk o.2.2.1)] ∈ rows:=aJ hp;have hb:=hg.2 _ hm;have Qa:rl rows[pos rows (rk o.2.2.1)]:=by grind [rl,AC,ao]
   rw[hf,aB hp] at h hc;generalize hx:rows[pos rows (rk o.2.2.1)]=x at *
   cases h2:decide (o.1=2) with
   | true=>grind
   | false=>
    rw[h2] at hc;simp only[iB,aU,hU,aE,aR,aK,iL] at hc
    cases h4:decide (o.1=4) with
    | true=>
     rw[h4] at hc;subst hc;refine ⟨?_,hk,?_,Qa,yf⟩
     all_goals grind [kI]
    | false=>
     rw[h4] at hc;subst hc;refine ⟨?_,rfl,?_,Qa,xk⟩
     all_goals grind [FF,kI]
  | false=>
   have rQ:∀ r ∈ rows,rk r≠rk o.2.2.1:=λr hr he=>by
    obtain ⟨i,hi,hx⟩:=bL hr;have:=(AE hg.1 hi (k:=rk o.2.2.1) (by grind)).1;grind
   rw[hf] at h hc
   cases h2:decide (o.1=2) with
   | false=>grind
   | true=>
    have h4:decide (o.1=4)=false:=by
     grind
    rw[h2,h4] at hc;simp only[hU,aU,cI,iB,aE,aR] at hc;subst hc;refine ⟨?_,rfl,?_,yf,xk⟩
    ·grind [kI]
    ·exact rQ
 obtain ⟨k1,k2,k3,k4⟩:=key _ rfl;exact ⟨k1,k2,(CX hg.1 k1).2 k3,k4⟩
theorem Ry {r:Row} (h:i7 r=0):1<=r.2.1:=by
 grind [i7,dm]
theorem DB {rows:List Row} {xs:List Tx} {o:Op} (ht:(sK rows xs o).2.1=true):Bz xs o.2.1 (o.2.2.1.1,o.2.2.1.2.1,())=false/\(df rows o).2=0/\zi rows xs (o.2.2.1.1,o.2.2.1.2.1,())<=12/\oF xs < 12/\((df rows o).1.1&&((df rows o).1.2.2.1&&Ty.eq a8 (df rows o).1.2.1 (df rows o).1.2.2.2.1))=false/\sK rows xs o=(0,true,(df rows o).1,()):=by
 unfold sK at ht ⊢;grind
theorem YU {p:Plain} (h:IB p) {o:Op} (CB:i7 o.2.2.1=0) {j:Nat} (hj:j < List.length p.2.1) (ii:tJ p.2.1 o.2.1=(j:Int)) (AK:(p.2.1[j]).1=o.2.1) (ht:(sK p.1 p.2.1 o).2.1=true) :
  zQ p.2.1 o.2.1 (df p.1 o).1=((0:Int),ul p.2.1 j (df p.1 o).1,()):=by
 obtain ⟨r1,r2,r3,r4,r5,r6⟩:=DB ht;obtain ⟨w1,w2,w3,w4⟩:=BB h.tZ CB r2;have hk:kg (df p.1 o).1=(o.2.2.1.1,o.2.2.1.2.1,()):=by unfold kg;rw[w2];rfl
 have pA:Dp (df p.1 o).1=0:=by
  grind [Dp]
 have LL:∀ x ∈ (p.2.1:List Tx),x.1≠o.2.1->jk x.2.2.2.1 (o.2.2.1.1,o.2.2.1.2.1,())=false:=λx hx je=>by
  grind [jk,Bz,zn]
 have aea:¬ (py p.2.1 (kg (df p.1 o).1)≠0/\py p.2.1 (kg (df p.1 o).1)≠o.2.1):=by
  grind [Wf]
 have xH:¬ (py p.2.1 (kg (df p.1 o).1)=0/\12<=List.length (((p.2.1:List Tx).getD (tJ p.2.1 o.2.1).toNat (0,[],[],[],())).2.2.2.1:List Key)):=by
  rintro ⟨a1,a2⟩;rw[ii,aC,dH,aB hj,iL] at a2;rw[hk] at a1;have hz:=Wg a1 (λx hx=>(IC h.vK x hx).1) _ (aJ hj)
  have ut:((p.2.1[j]).2.2.2.1:List Key).Nodup:=by
   have:=HW h.vK;grind [flatK]
  have PD:¬ (o.2.2.1.2.1=0):=by have:=(Ry CB);omega
  have EH:=Es ((o.2.2.1.1,o.2.2.1.2.1,())::(p.2.1[j]).2.2.2.1) (dd [] (mV p.1 p.2.1++Ep (o.2.2.1.1,o.2.2.1.2.1,()))) (cL.2 ⟨λhm=>(by rw[nY.2 hm] at hz;cases hz),ut⟩) (λq hq=>by
   grind [HH,Ep,mV,flatK])
  grind [zi]
 unfold zQ;rw[aG h.vK,aL (by grind),aG pA,aL aea,aL Bys,aL xH,ii,aC]
end OT
namespace OT
open Go
end OT
namespace OT
open Go
theorem AL {p:Plain} {o:Op} (P:IB p) (h2:(jm p.1 p.2.1 o).1=0):qP o=0/\dm o.1 1 9=true/\jm p.1 p.2.1 o=rO p.1 p.2.1 o:=by
 have hr:mE p.1=0:=FX P.tZ (by have:=P.len;omega);unfold jm at h2 ⊢;rw[aG hr,aG P.vK] at h2 ⊢;by_cases ho:qP o=0;rotate_left
 ·rw[aL ho] at h2;exact absurd h2 ho
 rw[aG ho];refine ⟨ho,?_,rfl⟩
 unfold qP at ho;split at ho
 ·cases ho
 ·rename_i hn;simp only[dB,jD,cD,Bool.not_eq_false] at hn
  simpa using hn.1.1.1.1
section
variable {p:Plain} {o:Op} (hp:NZ p) (ho:rl o.2.2.1) (h:gq p=0) (h2:(jm p.1 p.2.1 o).1=0)
include hp ho h h2
end
end OT
namespace OT
open Go
theorem Rz {n:Int}:∀ (ms:List Int) (i:Nat) (last:Int),0<=last->bt (λ_ last m=>if dm m last n then .inr m else .inl false) (λ_=>true) i ms last=true->∀ m ∈ ms,0<=m/\m<=n
 | [],_,_,_,_,_,h=>by cases h
 | x::ms,i,last,h0,h,m,hm=>by
  simp only[bt] at h;by_cases hx:dm x last n=true
  ·rw[aG hx] at h;unfold dm at hx;simp only[aD,bA] at hx;rcases bB.1 hm with h1 | h1
   ·rw[h1];omega
   ·exact Rz ms (i+1) x Bys h m h1
  ·rw[aL hx] at h;cases h
theorem aas {x:Tx} (h:t8 x=0):∀ m ∈ (x.2.2.1:List Int),0<=m/\m<=(List.length x.2.1:Int):=by
 unfold t8 at h;split at h
 ·unfold tD at h;split at h
  ·cases h
  ·split at h
   ·rename_i hm;exact Rz _ 0 0 (fD 0) hm
   ·cases h
 ·rename_i hn;exact absurd h hn
section
variable {p:Plain} {o:Op} (hp:NZ p) (ho:rl o.2.2.1) (h:gq p=0) (h2:(jm p.1 p.2.1 o).1=0)
include hp ho h h2
end
theorem Un {e:Ty} (xs:List e.den) (n:Nat):zz (.aa e) (xs.take n)<=zz (.aa e) xs/\zz (.aa e) (xs.drop n)<=zz (.aa e) xs:=by
 have:=wA (e:=e) (xs.take n) (xs.drop n);rw[cE] at this;omega
theorem Wp (rows:List Row) (o:Op):zz aw (df rows o).1<=zz (.aa a8) rows+zz il o:=by
 have hc:∀ (a b:Bool) (x y:Row),zz aw (a,x,b,y,())=zz a8 x+zz a8 y:=λa b x y=>by
  show 0+(zz a8 x+(0+(zz a8 y+0)))=_;omega
 have ho:zz il o=0+(0+(zz a8 o.2.2.1+(0+0))):=rfl;have h0:zz a8 Dz=0:=rfl;unfold df;simp only;split
 ·exact aW _
 split
 ·exact aW _
 refine bI (gY (hc _ _ _ _)) ?_
 have h1:∀ r:Row,(r=Dz\/r ∈ rows)->zz a8 r<=zz (.aa a8) rows:=λr hr=>by
  rcases hr with hr | hr
  ·rw[hr];exact aW _
  ·have:zz a8 r+1<=zz (.aa a8) rows:=P6 (e:=a8) hr;omega
 refine Nat.add_le_add (h1 _ ?_) ?_
 ·split
  ·cases hg:rows[pos rows (o.2.2.1.1,o.2.2.1.2.1)]? with
   | none=>exact .inl rfl
   | some x=>exact .inr (bW hg)
  ·exact .inl rfl
 ·split
  ·exact aW _
  ·omega
theorem Kj {e:Ty} (xs:List e.den) (j:Nat) (hj:j < xs.length):zz (.aa e) xs=zz (.aa e) (xs.take j)+(zz e xs[j]+1)+zz (.aa e) (xs.drop (j+1)):=by
 have h1:=wA (e:=e) (xs.take j) (xs.drop j);rw[cE] at h1;have h2:=Mx (e:=e) xs[j] (xs.drop (j+1));rw[<-cJ hj] at h2;omega
theorem abX {e:Ty} (xs:List e.den) (j:Nat) (hj:j < xs.length) (y:e.den):zz (.aa e) (xs.set j y)+zz e xs[j]=zz (.aa e) xs+zz e y:=by
 have h1:=Kj xs j hj;have h2:=Kj (xs.set j y) j (by rw[bQ];exact hj);rw[gG,gU (aH _),gV (Nat.lt_succ_self _)] at h2;have h3:zz (.aa e) (xs.drop j.succ)=zz (.aa e) (xs.drop (j+1)):=rfl;omega
theorem abY {e:Ty} (xs:List e.den) (j:Nat) (hj:j < xs.length):zz (.aa e) (xs.take j++xs.drop (j+1))+(zz e xs[j]+1)=zz (.aa e) xs:=by
 have h1:=Kj xs j hj;have h2:=wA (e:=e) (xs.take j) (xs.drop (j+1));omega
end OT
namespace OT
open Go
section
variable {s:az} {r:bq} (hl:of s.2.2.1<=16000) (hs:wI r)
include hl hs
theorem Ak:mm.ab (s,r,())=some (uH s r):=by
 refine ag (k:=0) λk _=>(mm.ae k _).trans ?_;grind [mm.p,uH,ng,Lq,HL]
theorem Jm:nm.ab (s,r,())=some (uH s r):=by
 refine ag (k:=0) λk _=>(nm.ae k _).trans ?_;grind [nm.p,uH,ng,Lp,HL]
end
def qe (l:Log):Log:=(l.1++l.2.1,[],())
theorem MW {l:Log} (h:of l<=16000):oK.ab (l,())=some (qe l,()):=by
 unfold of at h;refine ag (k:=0) λk _=>(oK.ae k _).trans ?_;unfold oK.p
 have ha:sE.ab (l,())=some (l.1++l.2.1,()):=by
  refine ag (k:=0) λk hk=>(sE.ae k _).trans ?_;grind [sE.p,mg,c9]
 rw[ha];rfl
theorem D1 {l:Log} (h:of l<=16000):pB.ab (l,())=some (qe l,()):=by
 unfold of at h;refine ag (k:=0) λk _=>(pB.ae k _).trans ?_;unfold pB.p;rw[oT _ (by grind)];simp only[aA];rw[aG (c9 (by grind))];rfl
theorem RA {l:Log}:of (qe l)=of l:=by
 unfold of qe;simp
theorem SQ {x:Tx} (h:tl x) {m n:Nat} (Um:m < List.length x.2.2.1) (hn:x.2.2.1[m]?=some (n:Int)) (yf:n<=List.length x.2.1):rI.ab (x,(m:Int),())=some (x.2.1.drop n,D0 x n m,()):=by
 obtain ⟨g1,g2,g3,_⟩:=h;refine ag (k:=0) λk _=>(rI.ae k _).trans ?_;unfold rI.p;have k1:(0:Int)<=(m:Int)/\(m:Int) < (List.length x.2.2.1:Int):=by omega
 have k2:(0:Int)<=(n:Int)/\(n:Int)<=(List.length x.2.1:Int):=by omega
 have hw:af ((m:Int)+1)=((m+1:Nat):Int):=by grind [bi]
 have k3:(0:Int)<=((m+1:Nat):Int)/\((m+1:Nat):Int)<=(List.length x.2.2.1:Int):=by omega
 rw[aG k1,aC,hn];simp only[aA];rw[aG k2,aG (c9 (by grind)),aG k2,hw,aG k3];simp only[aC,cK,eS,eK];rfl
abbrev CY (i:Nat) (p:List UInt8):bq:=((4:Int),(0:Int),(i:Int),[((0:Int),p,())],())
def wg:Nat->bk->Log->Sum Log Log
 | _,[],l=>.inr l
 | i,p::ps,l=>match ng l (CY i p) with
  | none=>.inl l
  | some l'=>wg (i+1) ps l'
theorem HX {O:Type} {K fin:Log->O}:∀ (ps:bk) (i:Nat) (l:Log),bt (λi l p=>match ng l (CY i p) with | none=>.inl (K l) | some l'=>.inr l') fin i ps l=match wg i ps l with | .inl l=>K l | .inr l=>fin l
 | [],i,l=>rfl
 | p::ps,i,l=>by
  simp only[bt,wg]
  cases h:ng l (CY i p) with
  | none=>rfl
  | some l'=>exact HX ps (i+1) l'
theorem RB:∀ (ps:bk) (i:Nat) (l l':Log),wg i ps l=.inr l'->of l<=16000->of l'<=16000
 | [],i,l,l',h,hl=>by injection h with h;grind
 | p::ps,i,l,l',h,hl=>by
  simp only[wg] at h
  cases ha:ng l (CY i p) with
  | none=>grind
  | some q=>
   rw[ha] at h;exact RB ps (i+1) q l' h (tY ha)
theorem N3 {i:Nat} {p:List UInt8} (h:p.length=64):wI (CY i p):=⟨by simp,λx hx=>by
 grind⟩
section
variable {u:Bool} {ps:bk} {l:Log} {T:List Tx×Int×Unit} (hg:gp ps) (hl:of l<=16000)
include hg hl
theorem SR {o:Op} {C:br} {k:Nat} (hk:100<=k) :
  cy.r0 k ((u,ps,l,T),o,C,()) ((u,ps,l,T),(0:Int))=some (match wg 0 ps l with | .inl l'=>((0:Int),(9:Int),(u,ps,l',T),()) | .inr l'=>((0:Int),(0:Int),(u,ps,qe l',T),())):=by
 have hgl:=hg.1
 have:=c8 (B:=λself v=>cy.b0 self (cy.q0 ((u,ps,l,T),o,C,())) ((u,ps,l,T),o,C,()) v) ps (λ(q:Log) (i:Int)=>(((u,ps,q,T):az),i))
  (λi q p=>match ng q (CY i p) with | none=>.inl ((0:Int),(9:Int),(u,ps,q,T),()) | some l'=>.inr l') (λl'=>((0:Int),(0:Int),(u,ps,qe l',T),())) (λ_ q=>of q<=16000) (by rw[ao];omega)
  (λi hi q self hI=>by
   unfold cy.b0;have a7:(i:Int) < (ps.length:Int):=by omega
   have X4:=hg.2 _ (aJ hi)
   grind [Int.natCast_nonneg,Int.toNat_natCast,mg,Ak,N3,uH])
  (λi hi q q' hI hf=>by
   grind [tY]) (λq self hI=>by
   grind [cy.b0,cy.q0,MW]) l hl k Bys
 refine aQ this ?_;simp_all [HX]
theorem SS:jU.ab ((u,ps,l,T),())=some (match wg 0 ps l with | .inl l'=>((9:Int),(u,ps,l',T),()) | .inr l'=>((0:Int),(u,ps,qe l',T),())):=by
 refine ag (k:=100) λk hk=>(jU.ae k _).trans ?_;have hgl:=hg.1
 have:=c8 (B:=λself v=>jU.b0 self (jU.q0 ((u,ps,l,T),())) ((u,ps,l,T),()) v) ps (λ(q:Log) (i:Int)=>(((u,ps,q,T):az),i))
  (λi q p=>match ng q (CY i p) with | none=>.inl ((9:Int),(u,ps,q,T),()) | some l'=>.inr l') (λl'=>((0:Int),(u,ps,qe l',T),())) (λ_ q=>of q<=16000) (by rw[ao];omega)
  (λi hi q self hI=>by
   unfold jU.b0;have a7:(i:Int) < (ps.length:Int):=by omega
   have X4:=hg.2 _ (aJ hi)
   grind [oT,Int.natCast_nonneg,Int.toNat_natCast,Jk,N3,uH])
  (λi hi q q' hI hf=>by
   grind [tY]) (λq self hI=>by
   grind [jU.b0,jU.q0,D1]) l hl k Bys
 refine aQ this ?_;simp_all [HX]
end
end OT
namespace OT
open Go
def pu (q:bk×Log):Prop:=xr q.2=0/\z8 (sQ q.2)=(q.1,(0:Int),())
theorem N4 {r:bq} {ps vG:bk} (hs:px ps r=.inr vG):∀ (xs:List bq) (i:Nat) (p0:bk),bt (λ_ ps r=>match px ps r with | .inl c=>.inl (([]:oA),c,()) | .inr vG=>.inr vG) (λps=>(ps,(0:Int),())) i xs p0=(ps,(0:Int),()) ->
  bt (λ_ ps r=>match px ps r with | .inl c=>.inl (([]:oA),c,()) | .inr vG=>.inr vG) (λps=>(ps,(0:Int),())) i (xs++[r]) p0=(vG,(0:Int),())
 | [],i,p0,h=>by
  have h:(p0,(0:Int),())=(ps,(0:Int),()):=h;injection h with h _;subst h;simp only[cK,bt,hs]
 | x::xs,i,p0,h=>by
  simp only[dA,bt] at h ⊢
  cases hx:px p0 x with
  | inl c=>
   rw[hx] at h;injection h with _ h;injection h with h _;exact absurd h (Nw hx)
  | inr p1=>
   rw[hx] at h;exact N4 hs xs (i+1) p1 h
theorem abZ {r:bq} (h:rM r=0):vZ (l_ r)=([r],(l_ r).length):=by
 have:=X9 (rs:=[r]) (λq hq=>by rw[bE] at hq;rw[hq];exact h);have hp:uA [r]=l_ r:=by unfold uA;simp
 rwa [hp] at this
theorem YV {ps vG:bk} {r:bq} (h:px ps r=.inr vG):rM r=0:=by
 unfold px at h;split at h
 ·assumption
 ·cases h
theorem DC {ps vG:bk} {l l':Log} {r:bq} (h:pu (ps,l)) (hs:px ps r=.inr vG) (ha:ng l r=some l'):pu (vG,l'):=by
 obtain ⟨h1,h2⟩:=h;simp only at h1 h2;obtain ⟨w1,w2,w3⟩:=AF h1;have h1r:=abZ (YV hs);have MX:=N0 (b:=l_ r) w3;rw[h1r] at MX;unfold ng at ha;split at ha
 ·cases ha
 ·rename_i hn;injection ha with ha;subst ha
  have hwb:tC (l.2.1++l_ r)=true:=by
   unfold tC;rw[MX,bK];exact aY rfl
  constructor
  ·show xr (l.1,l.2.1++l_ r,())=0;unfold xr;simp only[bK];rw[aL Bys,w2,hwb];rfl
  ·have hr:sQ (l.1,l.2.1++l_ r,())=sQ l++[r]:=by
    unfold sQ;simp only[MX,bT]
   show z8 (sQ (l.1,l.2.1++l_ r,()))=_;rw[hr];exact N4 hs _ 0 [] h2
theorem all_nil:vZ []=([],0):=by
 unfold vZ;simp only[bR,lg,Nz]
theorem LR {ps:bk} {l:Log} (h:pu (ps,l)):pu (ps,qe l):=by
 obtain ⟨h1,h2⟩:=h;simp only at h1 h2;obtain ⟨w1,w2,w3⟩:=AF h1;have MX:=N0 (b:=l.2.1) w2
 have hr:sQ (qe l)=sQ l:=by
  unfold sQ qe;simp only[MX,all_nil,cV]
 refine ⟨?_,by rw[hr];exact h2⟩
 have hwb:tC (l.1++l.2.1)=true:=by
  unfold tC;rw[MX,bK,fO w3];exact aY rfl
 have hwn:tC []=true:=by
  unfold tC;rw[all_nil];rfl
 show xr (l.1++l.2.1,[],())=0;unfold xr;simp only[bK,bR];rw[aL Bys,hwb,hwn];rfl
theorem LS {k t:Int} (hk:k=1\/k=5\/k=6) (ht:1<=t/\t<=99) (ps:bk):px ps (k,t,(0:Int),([]:List ci),())=.inr ps:=by
 have hr:rM (k,t,(0:Int),([]:List ci),())=0:=by
  have B_:dm t 1 99=true:=by unfold dm;simp only[aD,bA];exact ht
  unfold rM
  rcases hk with rfl | rfl | rfl <;> (simp[dm];exact ht)
 have Lr:dm k 2 4=false:=by
  rcases hk with rfl | rfl | rfl <;> rfl
 unfold px;rw[aG hr];simp only[Lr,aE,aR]
theorem YW {ps:bk} (hg:gp ps) {kind tx:Int} (hk:kind=2\/kind=3) (ht:1<=tx/\tx<=99) {e:pz} (he:J9 ps e) (je:qZ ps e.1.toNat≠e.2.1):px ps (wP ps kind tx e)=.inr (lS ps e):=by
 obtain ⟨P,b,⟨⟩⟩:=e;obtain ⟨e1,e2,e3,e4⟩:=he;simp only at e1 e2 e3 e4 je
 obtain ⟨n,rfl⟩:∃ n:Nat,P=(n:Int):=⟨P.toNat,by omega⟩
 rw[aC] at je;have hb:=J_ hg n;obtain ⟨d1,d2⟩:=Ln hb e1;have d3:=abL hb e1 je;unfold wP;simp only[aC]
 obtain ⟨D,hD⟩:∃ D,D=xL (qZ ps n) b:=⟨_,rfl⟩
 rw[<-hD] at d1 d2 d3 ⊢;have Lr:dm kind 2 4=true:=by rcases hk with rfl | rfl <;> rfl
 have hr:rM (kind,tx,(n:Int),D,())=0:=by
  have B_:dm tx 1 99=true:=by unfold dm;simp only[aD,bA];exact ht
  have Pw:dm (n:Int) 0 11=true:=by unfold dm;simp only[aD,bA];omega
  have Yq:dm kind 1 6=true:=by rcases hk with rfl | rfl <;> rfl
  have h4:¬ kind=4:=by omega
  unfold rM;simp only[Yq,Lr,B_,Pw,h4,d2,aI,aU,iB,dP,Bool.or_false,hU,cI,aE,aR,aK]
  cases D with
  | nil=>exact absurd rfl d3
  | cons y ys=>simp[Lf,h4]
 unfold px;rw[aG hr];simp only[Lr,aK];rw[aL Bys];congr 1;unfold JR lS;simp only[aC];by_cases hn:n=ps.length
 ·subst hn
  have KQ:(ps++[uy]).getD ps.length []=qZ ps ps.length:=by
   unfold qZ;rw[aL (Nat.lt_irrefl _)];simp
  simp only[aK];rw[KQ,d1,List.set_append_right _ _ (aH _),Nat.sub_self];rfl
 ·have KQ:ps.getD n []=qZ ps n:=by
   unfold qZ;rw[aG Bys];rfl
  rw[aL Bys,aL hn,KQ,d1]
theorem aat {ps:bk} (hg:gp ps) {i:Nat} (hi:i < ps.length):px ps (CY i ps[i])=.inr ps:=by
 have hp:=hg.2 _ (aJ hi)
 have hr:rM (CY i ps[i])=0:=by
  have Pw:dm (i:Int) 0 11=true:=by have:=hg.1;unfold dm;simp only[aD,bA];omega
  have hru:ui [((0:Int),ps[i],())]=0:=by
   unfold ui;rw[aL (by simp)];unfold Fh;have h1:bl ((0:Int),ps[i],())=64:=by show ((ps[i]).length:Int)=_;rw[hp];rfl
   have h2:Gk 0 [((0:Int),ps[i],())]=some 65:=by
    simp only[Gk]
    have:mu 0 ((0:Int),ps[i],())=.inr 65:=by
     unfold mu;rw[h1];rfl
    rw[this]
   rw[JU _ 0 0 65 h2]
  unfold rM;simp only[Pw,hru];simp[dm,Lf,hp]
 unfold px;rw[aG hr];have Lr:dm (CY i ps[i]).1 2 4=true:=rfl;simp only[Lr,aK];rw[aL Bys,aL Bys];congr 1;unfold JR uz;simp only[aC,eD,List.foldl_nil];have hb:ps.getD i []=ps[i]:=by rw[dH,aB hi];rfl
 rw[hb]
 have hl:JQ ps[i] ((0:Int),ps[i],())=ps[i]:=by
  unfold JQ oM;simp
 rw[hl,fL]
theorem LT {ps:bk} (hg:gp ps):∀ (rest:bk) (i:Nat) (l l':Log),rest=ps.drop i->pu (ps,l)->wg i rest l=.inr l'->pu (ps,l')
 | [],i,l,l',_,h,e=>by injection e with e;rw[<-e];exact h
 | p::rest,i,l,l',hr,h,e=>by
  have hi:i < ps.length:=by
   have:=cP List.length hr;rw[bU,aZ] at this;omega
  rw[cJ hi] at hr;injection hr with hp hr;simp only[wg] at e
  cases ha:ng l (CY i p) with
  | none=>rw[ha] at e;cases e
  | some q=>
   rw[ha] at e;rw[hp] at ha;exact LT hg rest (i+1) q l' hr (DC h (aat hg hi) ha) e
def HY:bk->List pz->Prop
 | _,[]=>True
 | ps,e::es=>qZ ps e.1.toNat≠e.2.1/\HY (lS ps e) es
theorem Jn {kind tx:Int} (hk:kind=2\/kind=3) (ht:1<=tx/\tx<=99):∀ (es:List pz) (q p:bk×Log),gp q.1->zh q.1 es->HY q.1 es->pu q->nH true kind tx es q=.inr p->pu p
 | [],q,p,_,_,_,h,e=>by injection e with e;rw[<-e];exact h
 | x::es,q,p,hg,ho,hc,h,e=>by
  simp only[nH] at e
  cases ha:ng q.2 (wP q.1 kind tx x) with
  | none=>rw[ha] at e;cases e
  | some l=>
   rw[ha] at e;exact Jn hk ht es (lS q.1 x,l) p (Kb hg ho.1) ho.2 hc.2 (DC h (YW hg hk ht ho.1 hc.1) ha) e
end OT
namespace OT
open Go
theorem LU {ps:bk}:∀ {es:List pz} {e:pz},HY ps es->qZ (Gr ps es) e.1.toNat≠e.2.1->HY ps (es++[e])
 | [],e,_,h=>⟨h,trivial⟩
 | x::es,e,h,h2=>⟨h.1,LU (ps:=lS ps x) h.2 h2⟩
structure Ck (ps:bk) (w:ax):Prop where
 at_:Gr ps w.2.1=w.1
 ed:zh ps w.2.1
 chg:HY ps w.2.1
section
variable {ps:bk} {w:ax} {n:Nat}
theorem Ck.xO (h:Ck ps w) {P:Nat} {b:List UInt8} {m:Nat} (ho:okW (mf w P b) m) (hP:P<=List.length w.1) (hb:P=List.length w.1->uy≠b):Ck ps (mf w P b):=by
 by_cases he:P < List.length w.1/\fk w.1 P=b
 ·have:mf w P b=w:=by
   unfold mf;rw[aL Bys,aG he.2]
  rw[this];exact h
 ·rcases LK hP b with e | ⟨e1,e2⟩
  ·rw[e];exact h
  ·refine ⟨by rw[e1,Ue,h.at_,e2],?_,?_⟩
   ·rw[e1];exact HE h.ed (by rw[h.at_];exact Uf (by rw[<-e2];exact ho.ji) hP)
   ·rw[e1];refine LU h.chg ?_;rw[h.at_];show qZ w.1 P≠b;unfold qZ;by_cases hl:P < List.length w.1
    ·rw[aG hl];exact λhh=>he ⟨hl,hh⟩
    ·rw[aL hl];exact hb Bys
theorem Ck.ID (h:Ck ps w) {P:Nat} {b:List UInt8} {m:Nat} (ho:okW (mf w P b) m) (hP:P < List.length w.1):Ck ps (mf w P b):=h.xO ho (eB hP) λe=>absurd e Bys
theorem aau {c:List UInt8} (jX:1<=c.length) (hc:c.length<=20):uy≠rN uj c:=λhe=>by
 have h1:=(Ix jX hc).2.2.2 0;rw[aG rfl,<- he] at h1;have h2:cellOf uy 0=[]:=by decide +kernel
 rw[h2] at h1;rw[<-h1] at jX;exact absurd jX (by decide)
theorem Ck.comp (h:Ck ps w) (ho:okW w n) {P:Nat} (hP:P < List.length w.1):Ck ps (oB w P):=h.ID (wN ho hP) hP
theorem Ck.qW (h:Ck ps w) (ho:okW w n) {P:Nat} (hP:P < List.length w.1) {c:List UInt8} (hc:1<=c.length):Ck ps (qW w P c).2:=by
 have R:=(xV ho hP hc).ok;have hk:=h.comp ho hP;unfold OT.qW at R ⊢;by_cases h8:mw (fk w.1 P) c=8
 ·rw[aG h8] at R ⊢;by_cases h0:mw (mc (fk w.1 P)) c=0
  ·rw[aG h0] at R ⊢;exact hk.ID R (by rw[sn hP];omega)
  ·rw[aL h0];exact hk
 ·rw[aL h8] at R ⊢;by_cases h0:mw (fk w.1 P) c=0
  ·rw[aG h0] at R ⊢;exact h.ID R hP
  ·rw[aL h0];exact h
theorem Ck.j0 (h:Ck ps w) (ho:okW w n) {P s:Nat} (ii:bm w.1 P s≠[]) {c:List UInt8} (hc:1<=c.length):Ck ps (j0 w P s c).2:=by
 have R:=(o9 ho ii hc).ok;have hP:=(tF ho.ji ii).1;have hk:=h.comp ho hP;unfold OT.j0 at R ⊢;by_cases h8:rr (fk w.1 P) s c=8
 ·rw[aG h8] at R ⊢;by_cases h0:rr (mc (fk w.1 P)) s c=0
  ·rw[aG h0] at R ⊢;exact hk.ID R (by rw[sn hP];omega)
  ·rw[aL h0];exact hk
 ·rw[aL h8] at R ⊢;by_cases h0:rr (fk w.1 P) s c=0
  ·rw[aG h0] at R ⊢;exact h.ID R hP
  ·rw[aL h0];exact h
theorem Ck.jQ (h:Ck ps w) (ho:okW w n) {P s:Nat} (ii:bm w.1 P s≠[]):Ck ps (jQ w P s):=h.ID (pq ho ii).1 (tF ho.ji ii).1
end
theorem Ck.jg {ps:bk} {c:List UInt8} (hc:1<=c.length) (no:Int):∀ (l:List Nat) (w:ax) (n:Nat),Ck ps w->okW w n->(∀ P ∈ l,P < List.length w.1)->Ck ps (jg c no l w).2
 | [],w,n,h,_,_=>h
 | P::l,w,n,h,ho,hl=>by
  unfold OT.jg;split
  ·exact Ck.jg hc no l w n h ho λQ hQ=>hl Q (aX _ hQ)
  ·have hP:=hl P bF;have R:=xV ho hP hc;have hk:=h.qW ho hP hc;split
   ·exact hk
   ·exact Ck.jg hc no l _ _ hk R.ok λQ hQ=>by rw[R.len];exact hl Q (aX _ hQ)
section
variable {ps:bk} {w:ax} {n:Nat}
theorem Ck.lR (h:Ck ps w) (ho:okW w n) {c:List UInt8} (jX:1<=c.length) (hc:c.length<=20) (no:Int):Ck ps (lR w no c).2:=by
 have R:=(so ho jX hc no).ok;have G:=vl jX no (List.range (List.length w.1)) w n ho λP hP=>cC.1 hP;have hk:=Ck.jg jX no (List.range (List.length w.1)) w n h ho λP hP=>cC.1 hP;unfold OT.lR at R ⊢
 cases hr:(OT.jg c no (List.range (List.length w.1)) w).1 with
 | some a=>exact hk
 | none=>
  rw[hr] at R;simp only at R ⊢;by_cases Ay:12<=List.length w.1
  ·rw[aG Ay];exact hk
  ·rw[aL Ay] at R ⊢;exact hk.xO R (by rw[(G.no hr).1];omega) λ_=>aau jX hc
theorem Ck.oC (h:Ck ps w) (ho:okW w n) {P s A B:Nat} (h1:bm w.1 P s≠[]) (h2:bm w.1 A B≠[]) (mv:Bool) {r:Row} (hr:i7 r=0):Ck ps (oC w P s A B mv r).2:=by
 have R1:=o9 ho h2 (ff (f:=bif mv then 2 else 0) hr).1;have L1:=h.j0 ho h2 (ff (f:=bif mv then 2 else 0) hr).1;have R2:=so R1.ok (ff (f:=2) hr).1 (by have:=(ff (f:=2) hr).2;omega) (A:Int);have L2:=L1.lR R1.ok (ff (f:=2) hr).1 (by have:=(ff (f:=2) hr).2;omega) (A:Int);unfold OT.oC;split
 ·exact L1
 ·split
  ·exact L2
  ·rename_i a ha;have k1:=sr R2 (mU R1 h1 jd) jd;have k2:=sr R2 (mU R1 h2 jd) jd;have R3:=o9 R2.ok k1 (c:=j_ a.1 a.2) (by rw[pt];omega);have L3:=L2.j0 R2.ok k1 (c:=j_ a.1 a.2) (by rw[pt];omega)
   cases mv with
   | false=>exact L3
   | true=>exact L3.jQ R3.ok (mU R3 k2 (by unfold j_;simp))
end
theorem Ck.start {ps:bk}:Ck ps (dv ps):=⟨rfl,trivial,trivial⟩
theorem ab0 {ps:bk} (hv:gx ps=0) {c:Change} (hc:kI c=0) (h0:(jG ps c).1=0):∃ w:ax,jG ps c=((0:Int),w.2.1,w.1,())/\okW w 40/\Ck ps w:=by
 obtain ⟨hR,S⟩:=oE.1 hv;have ho:=qL hR;have hL:Ck ps (dv ps):=Ck.start;unfold jG at h0 ⊢;rw[aG hv,aG hc] at h0 ⊢
 cases hx:uk ps (ck c).1 (ck c).2 with
 | none=>
  rw[hx] at h0;simp only at h0 ⊢
  cases hw:c.1 with
  | true=>rw[hw] at h0;exact absurd h0 (show ¬ (8:Int)=0 by decide)
  | false=>
   rw[hw] at h0;simp only[aE,aR] at h0 ⊢;have hr:=(po hc).2 (En (ps:=[]) (λp hp=>by cases hp) hc hw);have hk:=hL.lR ho (ff (f:=0) hr).1 (by have:=(ff (f:=0) hr).2;omega) (-1);rw[(xh h0).2];exact ⟨_,rfl,(MR ho hr).ok.mono Bys,hk⟩
 | some x=>
  have hm:=cT hx;obtain ⟨P,s,c1,c2,x1,x2,x3,x4,x5,x6⟩:=Iy hv hm;rw[hx] at h0;simp only at h0 ⊢
  cases hb:(c.1&&Ty.eq a8 (jW x) c.2.1) with
  | false=>rw[hb] at h0;exact absurd h0 (show ¬ (8:Int)=0 by decide)
  | true=>
   rw[hb] at h0;simp only[aK] at h0 ⊢
   cases hi:c.2.2.1 with
   | true=>
    rw[hi] at h0;simp only[aK] at h0 ⊢;have hr:=(po hc).2 hi;unfold CT at h0 ⊢;by_cases he:Ty.eq a8 (jW x) c.2.2.2.1=true
    ·rw[aG he];exact ⟨_,rfl,ho.mono Bys,hL⟩
    ·rw[aL he] at h0 ⊢;rw[(xh h0).2];by_cases hf:fl (bm ps P s)=1
     ·obtain ⟨a1,a2⟩:=S.stub P s c1 hf;rw[x3,aG hf,aG hf,x1,x2,x4,x5,aY hf,aC,aC,aC,aC];exact ⟨_,rfl,(BI ho Bys c1 a1 true hr).mono Bys,hL.oC ho c1 a1 true hr⟩
     ·rw[x3,aL hf,aL hf,x1,x2,bD hf,aC,aC];exact ⟨_,rfl,(BI ho Bys c1 c1 false hr).mono Bys,hL.oC ho c1 c1 false hr⟩
   | false=>
    simp only[aE,aR];obtain ⟨d1,d2,d3⟩:=pq ho c1;have L1:=hL.jQ ho c1;unfold FU;rw[x1,x2,x4,x5,aC,aC,aC,aC,x3];by_cases hf:fl (bm ps P s)=1
    ·rw[aG hf];obtain ⟨a1,a2⟩:=S.stub P s c1 hf
     have ne:¬ (n_ (bm ps P s)=P/\oc (bm ps P s)=s):=λhe=>by
      rw[he.1,he.2] at a2;exact c2 a2
     have k1:bm (jQ (dv ps) P s).1 (n_ (bm ps P s)) (oc (bm ps P s))≠[]:=by rw[d3,aL ne];exact a1
     exact ⟨_,rfl,(pq d1 k1).1.mono Bys,L1.jQ d1 k1⟩
    ·rw[aL hf];exact ⟨_,rfl,d1.mono Bys,L1⟩
end OT
