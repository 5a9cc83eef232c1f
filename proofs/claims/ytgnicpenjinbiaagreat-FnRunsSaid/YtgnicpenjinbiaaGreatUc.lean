/- The proof's parts, merged: Calls, third part.. No conditions but those that each states. -/
import Derived.Test.YtgnicpenjinbiaaGreatUb
import Derived.MapKept
import Derived.WideMake
import Derived.OrdersHeld
import Derived.LoopN
import Derived.Scope
import Derived.ProofKit
import Derived.Deep.Slices
import Derived.Laws.BitsLemmas
set_option linter.unusedVariables false
set_option linter.unusedSimpArgs false
namespace OT
open Go
section
variable {P:Program} {C:Ctx} {A:Cells} {X:FP} {σ:St} {a:Act} {w:World} {F:Nat->FP} {R:Type} {x:R} {Q:Exit->Act->World->Prop} {o:Oper} {E:Env}
def Cq (b:Bool) (n:Nat):Nat:=match b with
 | true=>n
 | false=>0
theorem aaQ {w2:World} {A2:Cells}:∀ (q:Path) (t:Ty) {m':Md} {v':t.den} {cs:List Value} {G':FP} {ad:Option (Nat×Nat)} {pl:Pl},am P w2 A2 t m' [] v' cs G'->en q<=1->cd w q t [] cs ad=some pl ->
  ∃ H' cn,cd w2 q t [] cs ad=some ⟨pl.t,H',cn,pl.ad⟩/\(en q < 1->zw pl.t=true->cn=pl.cs):=by
 intro q
 induction q with
 | nil=>
  intro t m' v' cs G' ad pl h2 hq hp;simp only[cd,aQ] at hp;subst hp;exact ⟨_,_,rfl,λ_ _=>rfl⟩
 | cons s q ih=>
  intro t m' v' cs G' ad pl h2 hq hp
  cases t with
  | pair a b=>
   obtain ⟨h0,F1,F2,hs,r1,r2⟩:=h2
   cases s with
   | fst=>
    simp only[cd,h0,aU] at hp ⊢;exact ih a r1 (by simpa [en] using hq) (by simpa using hp)
   | snd=>
    simp only[cd,h0,aU] at hp ⊢;exact ih b r2 (by simpa [en] using hq) (by simpa using hp)
   | idx i=>simp[cd] at hp
   | sX i=>simp[cd] at hp
  | aa e=>
   cases s with
   | idx i=>
    obtain ⟨xa,cap,news,Fi,r1,r2,r3,r4,r5,r6,r7,r8⟩:=Ih h2;subst r1
    cases xa with
    | none=>grind [cd]
    | some dp=>
     simp only[cd,hole,bU,aF,aU,eK] at hp ⊢;split at hp
     ·rename_i hi;rw[aH hi];have jL:=r6 i _ (aB hi);obtain ⟨g1,g2⟩:=r3 dp rfl;have hl:=am.length _ jL
      have hh:Has w2 dp.block (dp.off+i*e.sz) ((news.drop (i*e.sz)).take e.sz):=λj u hu=>by
       rw[cG] at hu;split at hu
       ·rw[bP] at hu;rw[cW];exact g2 _ u hu
       ·cases hu
      rw[f_ hh hl];obtain ⟨H',cn,h1,h2⟩:=D1 (A:=λ_ _=>True) (m:=.leaf) (v:=v'[i]) (F:=λ_ _=>0) q e jL (.inl (by grind [en])) hp;grind [en]
     ·cases hp
   | _=>simp[cd] at hp
  | arr n e=>
   cases s with
   | fst=>simp[cd] at hp
   | snd=>simp[cd] at hp
   | idx i=>simp[cd] at hp
   | sX i=>
    obtain ⟨_,hf,hl,hlen,hr⟩:=h2;simp only[cd,cQ,aL] at hp ⊢;split at hp
    ·rename_i hi;rw[aH hi];exact ih e (Ro.flat e (m:=.leaf) (λ_ _=>0) hf (hr i _ (aB (by grind)))) (by simpa [en] using hq) hp
    ·cases hp
  | _=>grind [cd]
theorem YZ {t:Ty} {m':Md} {v':t.den} {cs:List Value} {G':FP} {w2:World} {A2:Cells} (ad:Option (Nat×Nat)) (h2:am P w2 A2 t m' [] v' cs G'):uk 1 False w t [] cs ad w2 [] cs:=by
 intro q pl hq hp;grind [aaQ]
theorem Rx (h:eo P C A σ a w F) {r:Nat} {ow:Bool} {b i:Nat} (ha:AX A F σ.n r ow b i):b < w.heap.size:=by
 rcases ha with ha | ⟨_,j,hj,_,hp⟩
 ·exact h.mr b i (.inr ha)
 ·exact h.mr b i (.inl (by grind [dw]))
def zM:List (PM×Ty)->Bool
 | []=>true
 | (.ii _ _,_)::_=>false
 | (.oS _,_)::_=>false
 | (.tq _,_)::_=>false
 | (.pN _,_)::_=>false
 | _::ps=>zM ps
theorem xP {ow:Bool} {y:Nat×Path} {ws:List (Nat×Path)}:∀ (ps:List (PM×Ty)) {v:(bq (ps.map (·.2))).den} {ss:List Slot} {qV:List Value},zM ps=true->Bs P A σ a w F ow ps v ss qV (y::ws)->False
 | [],_,_,_,_,h=>by cases h.2.2
 | (pm,t)::ps,_,_,_,hm,h=>by
  obtain ⟨s,Mu,tv,xq,wp,zL,_,_,hw,mX,qB⟩:=h
  cases pm with
  | ro=>obtain ⟨Bt,_⟩:=mX;subst Bt;have hw:_=zL:=hw;subst hw;exact xP ps hm qB
  | fix f=>obtain ⟨Bt,_⟩:=mX;subst Bt;have hw:_=zL:=hw;subst hw;exact xP ps hm qB
  | ii m m'=>cases hm
  | oS m=>cases hm
  | tq m=>cases hm
  | pN m=>cases hm
theorem WE (h:eo P C A σ a w F) {f:FuncId} {g:wY} (hs:Sound P f g) {ow:Bool} (Bu:ow=true->(zq g.rs&&oN g.ps)=true) {r:Nat} {p:Path} {t:Ty} {m:Md} {v1:t.den} {cs:List Value} {ad:Option (Nat×Nat)} {tu:Bool} {v:(bq (g.ps.map (·.2))).den} {qV:List Value} {out:(bq (g.rs.map (·.1)++mR g.ps)).den} (hF:g.F v=some out)
  (b1:At σ r p t m [] v1) (b2:place σ a w r p=some ⟨t,[],cs,ad⟩) (b3:tu=true->∃ b o,ad=some (b,o))
  (b5 : ∀ (A0:Cells) (F0 Fp:FP),(∀ b i,A b i->A0 b i)->(ow=true->∀ b i j,j < σ.n->j≠r->1<=F j b i->A0 b i)->am P w A0 t m [] v1 cs Fp ->
      (tu=true->∀ b o,ad=some (b,o)->Has w b o cs/\(∀ j,j < t.sz->w.frozen? ⟨b,o+j,none⟩=false)/\∀ b' i,d8 b o t.sz b' i+Fp b' i<=F0 b' i)->(tu=false->∀ b i,Fp b i<=F0 b i)->rx P w A0 (g.Hv v) g.ps v qV F0)
  {d:Option Tmp} {K:St->Option R} (q1:(match ym σ r p t m t.zero (λ_=>some ()) with | some _=>K ((σ.put r .dead).cq d (xM (mS g.rs out).1)) | none=>none)=some x) (aaR:zM g.ps=true->False) :
  Calls P f qV.toArray w λe w'=>∃ rv,e=.returned rv/\Nx P C K x (a.put d rv) w'/\(zM g.ps=true->Ext w w' (λ_ _=>0)):=by
 cases yL:ym σ r p t m t.zero (λ_=>some ()) with
 | none=>grind
 | some u=>
 rw[yL] at q1;simp only at q1;obtain ⟨hr,m2,H2,v2,dO,Fe,F2,s1,s2,s3,s4,s5,_⟩:=Fc h yL;obtain ⟨_,e3,e4,e5⟩:=b1.inj s1;subst e3;subst e4;have e5:=gI e5;subst e5;rw[b2] at s2;simp only[aQ,Pl.mk.injEq,eQ] at s2;obtain ⟨rfl,rfl⟩:=s2;obtain ⟨fp1,fp2⟩:=am.fp t s3
 obtain ⟨F0,J8⟩:∃ F0:FP,∀ b i,F0 b i=Cq tu (mH ad t.sz b i)+mu w t m [] cs b i:=⟨λb i=>Cq tu (mH ad t.sz b i)+mu w t m [] cs b i,λ_ _=>rfl⟩
 have agH:∀ b i,F0 b i<=mH ad t.sz b i+mu w t m [] cs b i:=λb i=>by
  rw[J8];cases tu <;> simp[Cq]
 have WF:∀ b i,F0 b i<=F r b i:=λb i=>by grind
 have sq:∀ b i,F r b i<=bh σ.n F b i:=λb i=>dw F hr b i;have zC:∀ b i,bh σ.n F b i<=1:=λb i=>by have:=h.ry b i;omega
 have O2:∀ b i,A b i->AX A F σ.n r ow b i:=λb i h=>.inl h;have Y0:∀ b i,1<=F r b i->b < w.heap.size:=λb i hp=>h.mr b i (.inl (by grind))
 have ny:=b5 (AX A F σ.n r ow) F0 (mu w t m [] cs) O2 (λBu b i j hj i7 hp=>.inr ⟨Bu,j,hj,i7,hp⟩)
  (am.mono O2 (λ_ _ _ _ h=>h) (λ_ _ h=>h) t fp1 (λ_ _=>aG _) (λ_ _ _ _ h=>h))
  (λhP b o e=>⟨(s5 b o e).1,(s5 b o e).2,λb' i=>by rw[J8,hP,e];exact aG _⟩) (λhP b i=>by grind)
 refine (hs w _ F0 v _ ny (λb i=>by grind) (λb i hp ha=>?_) (λb i hp=>?_) (h.F8 λb i hp=>by grind) out hF).mono λe w' Gg=>?_
 ·have h1:=WF b i;have h2:=sq b i
  rcases ha with ha | ⟨_,j,hj,i7,Y1⟩
  ·exact h.sr b i (by grind) ha
  grind [vT]
 ·rcases hp with hp | hp
  ·grind
  ·exact Rx h hp
 ·obtain ⟨rv,rfl,fq,A',G,GR,GM,g1,g2,g3,g4,g5,g6,g7,g8,g9⟩:=Gg;refine ⟨rv,rfl,?_⟩
  obtain ⟨x1,x2⟩:=KY fq
  obtain ⟨zf,A2,a1,a2,a3,a4,a6⟩:∃ zf A2:Cells,(∀ b i,A b i->zf b i)/\(∀ b i,zf b i->A b i\/(w.heap.size<=b/\b < w'.heap.size/\G b i=0))/\(∀ b i,zf b i->A2 b i)/\(∀ b i,A2 b i->zf b i\/(1<=F0 b i/\G b i=0)) /\
    pz P w' A2 (mS g.rs out).1 rv GR:=by
   cases ow with
   | true=>
    have ho:=Bu rfl;simp only[aC] at ho;exact ⟨A,A,λ_ _ h=>h,λ_ _ h=>.inl h,λ_ _ h=>h,λ_ _ h=>.inl h,pz.free (ze g.rs out ho.1) g8⟩
   | false=>
    have sa:∀ b i,A' b i->G b i=0:=λb i ha=>by
     grind
    refine ⟨λb i=>A b i\/(w.heap.size<=b/\A' b i),A',λ_ _ h=>.inl h,λb i ha=>ha.imp id λ⟨h1,h2⟩=>⟨h1,g6 b i (.inr h2),sa b i h2⟩,λb i ha=>?_,λb i ha=>?_,g8⟩
    ·grind
    ·rcases g2 b i ha with (Y2 | ⟨e,_⟩) | h0 | hn
     ·grind
     all_goals grind
  have aaS:=Br fq.size;have h1:=h.put hr (s:=.dead) (v:=tmp a r) (Fd:=λ_ _=>0) (X':=F r) trivial (λb k=>by omega) (λ_ _ _ _ e=>by cases e);rw[tM] at h1;have Kd:=h1.grow x1 (A1:=zf) (X1:=λb i=>if w.heap.size<=b then G b i else F r b i) a1 (λb i ha=>?_) (λb i=>?_);rotate_left
  ·grind
  ·grind
  have h3:=Kd.world x2 (λb i hp=>by
   grind)
  have h4:=h3.giveUp (A1:=A2) (X1:=GR) a3 (λb i ha=>by
   grind) (λb i=>by
   grind)
  have wV:=Ff (σ:=σ.put r .dead) (a:=a) a6;exact ⟨rU h4 q1 wV.1 (λ_ _=>aG _) wV.2,λhm=>(aaR hm).elim⟩
theorem TP (h:eo P C A σ a w F) {f:FuncId} {g:wY} (hs:Sound P f g) {ow:Bool} (Bu:ow=true->(zq g.rs&&oN g.ps)=true) {r:Nat} {p:Path} {t:Ty} {m:Md} {H:List Path} {v1:t.den} {cs:List Value} {ad:Option (Nat×Nat)} {tu:Bool} {v:(bq (g.ps.map (·.2))).den} {qV:List Value} {out:(bq (g.rs.map (·.1)++mR g.ps)).den} (hF:g.F v=some out)
  (b1:At σ r p t m H v1) (b2:place σ a w r p=some ⟨t,H,cs,ad⟩) (hP:tu=false)
  (b5 : ∀ (A0:Cells) (F0 Fp:FP),(∀ b i,A b i->A0 b i)->(ow=true->∀ b i j,j < σ.n->j≠r->1<=F j b i->A0 b i)->am P w A0 t m H v1 cs Fp ->
      (tu=true->∀ b o,ad=some (b,o)->Has w b o cs/\(∀ j,j < t.sz->w.frozen? ⟨b,o+j,none⟩=false)/\∀ b' i,d8 b o t.sz b' i+Fp b' i<=F0 b' i)->(tu=false->∀ b i,Fp b i<=F0 b i)->rx P w A0 (g.Hv v) g.ps v qV F0)
  {d:Option Tmp} {K:St->Option R} (q1:Ci σ r p (λσ=>K (σ.cq d (xM (mS g.rs out).1)))=some x) (aaR:zM g.ps=true->False) :
  Calls P f qV.toArray w λe w'=>∃ rv,e=.returned rv/\Nx P C K x (a.put d rv) w'/\(zM g.ps=true->Ext w w' (λ_ _=>0)):=by
 have hr:r < σ.n:=vU b2;obtain ⟨A1,qH,F1,sH,J6,F0,k1,k2,k3,k4,_,k5,k6,k7⟩:=Rb h q1 b1;rw[b2] at k5;simp only[aQ,Pl.mk.injEq,eQ] at k5;obtain ⟨rfl,rfl⟩:=k5;have sq:∀ b i,F r b i<=bh σ.n F b i:=λb i=>dw F hr b i;have zC:∀ b i,bh σ.n F b i<=1:=λb i=>by have:=h.ry b i;omega
 have k3t:∀ b i,F0 b i+bh qH.n F1 b i<=1:=λb i=>by have h:=k3.ry b i;simpa using h
 have k3d:∀ b i,1<=F0 b i->¬ A1 b i:=λb i hp=>k3.sr b i (by grind);have k3b:∀ b i,1<=F0 b i\/A1 b i->b < w.heap.size:=λb i hp=>k3.mr b i (hp.imp (λhp=>by grind) id);have O2:∀ b i,A1 b i->AX A1 F σ.n r ow b i:=λb i h=>.inl h
 have ny:=b5 (AX A1 F σ.n r ow) F0 F0 (λb i h=>.inl (k2 b i h)) (λBu b i j hj i7 hp=>.inr ⟨Bu,j,hj,i7,hp⟩)
  (am.mono (λb i h=>.inl (k2 b i h)) (λ_ _ _ _ h=>h) (λ_ _ h=>h) t k6 (λ_ _=>aG _) (λ_ _ _ _ h=>h))
  (λe=>by grind) (λ_ b i=>aG _)
 refine (hs w _ F0 v _ ny (λb i=>by grind) (λb i hp ha=>?_) (λb i hp=>?_) (k3.F8 λb i hp=>by grind) out hF).mono λe w' Gg=>?_
 ·rcases ha with ha | ⟨_,j,hj,i7,Y1⟩
  all_goals grind [vT]
 ·rcases hp with hp | hp | ⟨_,j,hj,i7,Y1⟩
  ·grind
  ·grind
  ·exact h.mr b i (.inl (by grind [dw]))
 ·obtain ⟨rv,rfl,fq,A',G,GR,GM,g1,g2,g3,g4,g5,g6,g7,g8,g9⟩:=Gg;refine ⟨rv,rfl,?_⟩
  obtain ⟨x1,x2⟩:=KY fq
  obtain ⟨zf,A2,a1,a2,a3,a4,a6⟩:∃ zf A2:Cells,(∀ b i,A1 b i->zf b i)/\(∀ b i,zf b i->A1 b i\/(w.heap.size<=b/\b < w'.heap.size/\G b i=0))/\(∀ b i,zf b i->A2 b i)/\(∀ b i,A2 b i->zf b i\/(1<=F0 b i/\G b i=0)) /\
    pz P w' A2 (mS g.rs out).1 rv GR:=by
   cases ow with
   | true=>
    have ho:=Bu rfl;simp only[aC] at ho;exact ⟨A1,A1,λ_ _ h=>h,λ_ _ h=>.inl h,λ_ _ h=>h,λ_ _ h=>.inl h,pz.free (ze g.rs out ho.1) g8⟩
   | false=>
    have sa:∀ b i,A' b i->G b i=0:=λb i ha=>by
     grind
    refine ⟨λb i=>A1 b i\/(w.heap.size<=b/\A' b i),A',λ_ _ h=>.inl h,λb i ha=>ha.imp id λ⟨h1,h2⟩=>⟨h1,g6 b i (.inr h2),sa b i h2⟩,λb i ha=>?_,λb i ha=>?_,g8⟩
    ·grind
    ·rcases g2 b i ha with (Y2 | ⟨e,_⟩) | h0 | hn
     all_goals grind
  have aaS:=Br fq.size;have Kd:=k3.grow x1 (A1:=zf) (X1:=λb i=>if w.heap.size<=b then G b i else F0 b i) a1 (λb i ha=>?_) (λb i=>?_);rotate_left
  ·grind
  ·grind
  have h3:=Kd.world x2 (λb i hp=>by
   grind)
  have h4:=h3.giveUp (A1:=A2) (X1:=GR) a3 (λb i ha=>by
   grind) (λb i=>by
   grind)
  have wV:=Ff (σ:=qH) (a:=a) a6;exact ⟨rU h4 k1 wV.1 (λ_ _=>aG _) wV.2,λhm=>(aaR hm).elim⟩
theorem acF {F2:Nat->FP} {n r0:Nat} {ow:Bool} (hF:∀ j b i,F2 j b i<=F j b i):∀ b i,AX A F2 n r0 ow b i->AX A F n r0 ow b i:=λb i h=>h.imp id λ⟨e,j,h1,h2,h3⟩=>⟨e,j,h1,h2,bB h3 (hF j b i)⟩
set_option maxHeartbeats 1000000 in
theorem Y3 (h:eo P C A σ a w F) {f:FuncId} {g:wY} (hs:Sound P f g) {ow:Bool} (Bu:ow=true->(zq g.rs&&(oN g.ps||va g.ps))=true) {xs:List Operand} {ex:List Slot} {Ij:List Value} (a_:xs.all (d_ P)=true)
  (hex:∀ (A':Cells) (σ':St),(∀ b i,A b i->A' b i)->yP P A' σ' a w ex Ij) {d:Option Tmp} {K:St->Option R} (hk:L4 g ow σ xs ex d K=some x) :
  Calls P f (xs.map a.eval++Ij).toArray w λe w'=>∃ rv,e=.returned rv/\Nx P C K x (a.put d rv) w'/\(zM g.ps=true->Ext w w' (λ_ _=>0)):=by
 unfold L4 at hk;obtain ⟨A1,qH,F1,k1,k2,k3,k4⟩:=adf g.ps xs h hk;have oH:=Mv k3 xs a_ (hex A1 qH k2);obtain ⟨v,ws,q1,q2⟩:=adh k3 g.ps oH k1
 obtain ⟨FX,Mx,q2,hU⟩:∃ FX:Nat->FP,(∀ j b i,FX j b i<=F1 j b i)/\Bs P A1 qH a w FX ow g.ps v (xs.map (eg qH)++ex) (xs.map a.eval++Ij) ws/\(ow=true->zq g.rs=true/\(oN g.ps=true\/(va g.ps=true/\∀ j b i,1<=FX j b i->Rw (ce w b i)=true))):=by
  by_cases jS:oN g.ps=true
  ·exact ⟨F1,λ_ _ _=>aG _,q2,λe=>by have:=Bu e;simp only[aC] at this;exact ⟨this.1,.inl jS⟩⟩
  ·by_cases hu:va g.ps=true
   ·exact ⟨KZ w F1,adj w F1,Cp g.ps hu q2,λe=>by have:=Bu e;simp only[aC] at this;exact ⟨this.1,.inr ⟨hu,λj b i hp=>aaP hp⟩⟩⟩
   ·exact ⟨F1,λ_ _ _=>aG _,q2,λe=>by have:=Bu e;simp only[aC,cN] at this;exact absurd this.2 (by simp[jS,hu])⟩
 split at q1;rotate_left
 ·cases q1
 rename_i hc;simp only[aC,dK] at hc;obtain ⟨hlen,Dh⟩:=hc
 match ws,hlen with
 | [],_=>
  have q1:((g.F v).bind λout=>uq qH g.ps [] (mS g.rs out).2 λσ=>K (σ.cq d (xM (mS g.rs out).1)))=some x:=by
   grind [aaF]
  cases hF:g.F v with
  | none=>grind
  | some out=>
  rw[hF] at q1;simp only[aA] at q1;obtain ⟨n1,n2⟩:=sd (R:=R) (A0:=AX A1 FX qH.n qH.n ow) (λb i h=>.inl h) (r0:=qH.n) (λBu b i j hj i7 hp=>.inr ⟨Bu,j,hj,i7,hp⟩) g.ps q2 (λr _ bc=>by omega);rw[n2] at q1;refine (hs w _ (λ_ _=>0) v _ (n1 _) (λ_ _=>aX _) (λb i hp=>by omega) (λb i hp=>?_) (k3.F8 λb i hp=>by omega) out hF).mono λe w' Gg=>?_
  ·rcases hp with hp | hp
   ·omega
   ·exact Rx k3 (acF Mx b i hp)
  ·obtain ⟨rv,rfl,fq,A',G,GR,GM,g1,g2,g3,g4,g5,g6,g7,g8,g9⟩:=Gg
   have hX:∀ b i,GR b i<=0\/(w.heap.size<=b/\b < w'.heap.size/\GR b i<=1):=λb i=>by
    grind
   refine ⟨rv,rfl,?_⟩
   cases ow with
   | true=>
    have ho:=hU rfl;have Kd:=k3.grow fq (A1:=A1) (X1:=GR) (λ_ _ h=>h) (λ_ _ h=>.inl h) hX;have wV:=Ff (σ:=qH) (a:=a) (pz.free (A':=A1) (ze g.rs out ho.1) g8);exact ⟨rU Kd q1 wV.1 (λ_ _=>aG _) wV.2,λ_=>fq⟩
   | false=>
    have Kd:=k3.grow fq (A1:=A') (X1:=GR) (λb i ha=>g1 b i (.inl ha)) (λb i ha=>by
     rcases g2 b i ha with (Y2 | ⟨e,_⟩) | h0 | hn
     all_goals grind) hX
    have wV:=Ff (σ:=qH) (a:=a) g8;exact ⟨rU Kd q1 wV.1 (λ_ _=>aG _) wV.2,λ_=>fq⟩
 | [(r,p)],_=>
  simp only[apart,aC,dK,eU] at Dh;obtain ⟨_,vB,tu,HB,t,m,H,v1,cs,ad,b0,b1,b2,b3,b4,b5,b8,b7,b6⟩:=WD g.ps q2 Dh
  have q3:(HB=true->g.Hv v H=true)/\((g.F v).bind λout=>uq qH g.ps [(r,p)] (mS g.rs out).2 λσ=>K (σ.cq d (xM (mS g.rs out).1)))=some x:=by
   cases hv:Wb g.ps with
   | false=>
    rw[hv] at q1;exact ⟨λe=>(by grind),q1⟩
   | true=>
    rw[hv] at q1;simp only[aaF] at q1;rw[b1.eq] at q1;grind
  obtain ⟨q0,q1⟩:=q3;replace b5:=λA0 F0 Fp a1 a2 a3 a4 a5=>b5 A0 F0 Fp a1 a2 a3 a4 a5 (g.Hv v) q0;have b5':=λA0 F0 Fp a1 (a2:ow=true->∀ b i j,j < qH.n->j≠r->1<=F1 j b i->A0 b i) a3 a4 a5=>b5 A0 F0 Fp a1 (λe b i j hj i7 hp=>a2 e b i j hj i7 (bB hp (Mx j b i))) a3 a4 a5
  have aeA:vB=true->ow=true->(zq g.rs&&oN g.ps)=true:=λe1 e2=>by
   obtain ⟨u1,u2 | u2⟩:=hU e2
   ·rw[u1,u2];rfl
   ·rw[b0.2.2.1 (D8 _ u2.1)] at e1;cases e1
  cases hF:g.F v with
  | none=>grind
  | some out=>
  rw[hF] at q1;simp only[aA] at q1
  cases HB with
  | true=>
   obtain ⟨hE,hP,_⟩:=b8 rfl;subst hE;exact TP k3 hs (aeA rfl) hF b1 b2 (b8 rfl).2.1 b5' (((b8 rfl).2.2 qH (λσ=>K (σ.cq d (xM (mS g.rs out).1))) (mS g.rs out).2).symm.trans q1) (λhm=>xP g.ps hm q2)
  | false=>
  obtain rfl:=b0.1 rfl
  cases vB with
  | true=>exact WE k3 hs (aeA rfl) hF b1 b2 b3 b5' ((b7 rfl rfl qH (λσ=>K (σ.cq d (xM (mS g.rs out).1))) (mS g.rs out).2).symm.trans q1) (λhm=>xP g.ps hm q2)
  | false=>
  obtain ⟨mo,o1,b6o,e1,e2⟩:=b6 rfl (mS g.rs out).2;rw[e1] at q1;have q1':=q1;obtain ⟨hr,m2,H2,v2,dO,Fe,F2,s1,s2,s3,s4,s5,_⟩:=Fc k3 q1;obtain ⟨_,e3,e4,e5⟩:=b1.inj s1;subst e3;subst e4;have e5:=gI e5;subst e5;rw[b2] at s2;simp only[aQ,Pl.mk.injEq,eQ] at s2;obtain ⟨rfl,rfl⟩:=s2;obtain ⟨fp1,fp2⟩:=am.fp t s3
  obtain ⟨F0,J8⟩:∃ F0:FP,∀ b i,F0 b i=Cq tu (mH ad t.sz b i)+mu w t m [] cs b i:=⟨λb i=>Cq tu (mH ad t.sz b i)+mu w t m [] cs b i,λ_ _=>rfl⟩
  have agH:∀ b i,F0 b i<=mH ad t.sz b i+mu w t m [] cs b i:=λb i=>by
   rw[J8];cases tu <;> simp[Cq]
  have WF:∀ b i,F0 b i<=F1 r b i:=λb i=>by grind
  have sq:∀ b i,F1 r b i<=bh qH.n F1 b i:=λb i=>dw F1 hr b i;have zC:∀ b i,bh qH.n F1 b i<=1:=λb i=>by have:=k3.ry b i;omega
  have O2:∀ b i,A1 b i->AX A1 FX qH.n r ow b i:=λb i h=>.inl h
  have ny:=b5 (AX A1 FX qH.n r ow) F0 (mu w t m [] cs) O2 (λBu b i j hj i7 hp=>.inr ⟨Bu,j,hj,i7,hp⟩)
   (am.mono O2 (λ_ _ _ _ h=>h) (λ_ _ h=>h) t fp1 (λ_ _=>aG _) (λ_ _ _ _ h=>h))
   (λhP b o e=>⟨(s5 b o e).1,(s5 b o e).2,λb' i=>by rw[J8,hP,e];exact aG _⟩) (λhP b i=>by grind)
  refine (hs w _ F0 v _ ny (λb i=>by grind) (λb i hp ha=>?_) (λb i hp=>?_) (k3.F8 λb i hp=>by grind) out hF).mono λe w' Gg=>?_
  ·have h1:=WF b i;have h2:=sq b i
   rcases ha with ha | ⟨_,j,hj,i7,Y1⟩
   ·exact k3.sr b i (by grind) ha
   have Y1:=bB Y1 (Mx j b i);grind [vT]
  ·rcases hp with hp | hp
   ·exact k3.mr b i (.inl (by grind))
   ·exact Rx k3 (acF Mx b i hp)
  ·obtain ⟨rv,rfl,fq,A',G,GR,GM,g1,g2,g3,g4,g5,g6,g7,g8,g9⟩:=Gg;refine ⟨rv,rfl,?_⟩
   obtain ⟨Y4,F3,t1,t2,t3,t4⟩:=e2 w' A' GM g9;obtain ⟨x1,x2⟩:=KY fq
   obtain ⟨zf,A2,a1,a2,a3,a4,a5,a6⟩:∃ zf A2:Cells,(∀ b i,A1 b i->zf b i)/\(∀ b i,zf b i->A1 b i\/(w.heap.size<=b/\b < w'.heap.size/\G b i=0))/\(∀ b i,zf b i->A2 b i)/\(∀ b i,A2 b i->zf b i\/(1<=F0 b i/\G b i=0)) /\
     am P w' A2 t mo [] o1 Y4 F3/\pz P w' A2 (mS g.rs out).1 rv GR:=by
    cases ow with
    | true=>
     obtain ⟨u1,u2 | ⟨u2,u3⟩⟩:=hU rfl
     ·exact ⟨A1,A1,λ_ _ h=>h,λ_ _ h=>.inl h,λ_ _ h=>h,λ_ _ h=>.inl h,am.free (b6o u2) (b4 u2).2 t1,pz.free (ze g.rs out u1) g8⟩
     ·have sa:∀ b i,A' b i->G b i=0:=λb i ha=>by
       rcases bK (G b i) with h0 | h0
       ·exact h0
       grind
      refine ⟨λb i=>A1 b i\/(w.heap.size<=b/\A' b i),λb i=>A' b i/\(A1 b i\/w.heap.size<=b\/1<=F0 b i),λ_ _ h=>.inl h,λb i ha=>ha.imp id λ⟨h1,h2⟩=>⟨h1,g6 b i (.inr h2),sa b i h2⟩,λb i ha=>?_,λb i ha=>?_,am.u8 (λb i n ha hn=>⟨ha,?_⟩) t (b0.2.2.2 u2) t1,pz.free (ze g.rs out u1) g8⟩
      ·rcases ha with ha | ⟨h1,h2⟩
       ·exact ⟨g1 b i (.inl ha),.inl ha⟩
       ·exact ⟨h2,.inr (.inl h1)⟩
      ·obtain ⟨h1,h2 | h2 | h2⟩:=ha
       ·exact .inl (.inl h2)
       ·exact .inl (.inr ⟨h2,h1⟩)
       ·exact .inr ⟨h2,sa b i h1⟩
      ·rcases g2 b i ha with (Y2 | ⟨_,j,hj,i7,hp⟩) | h0 | Rq
       ·exact .inl Y2
       ·exfalso;have hb:=u3 j b i hp;have hp1:=bB hp (Mx j b i)
        have hz:F0 b i=0:=by
         have:=WF b i;grind [vT]
        cases hc:ce w b i with
        | none=>rw[hc] at hb;cases hb
        | some u=>
         have:=fq.cell b i (yC hc) hz u hc;rw[this] at hn;injection hn with hn;rw[hc,hn] at hb;cases hb
       all_goals grind
    | false=>
     have sa:∀ b i,A' b i->G b i=0:=λb i ha=>by
      rcases bK (G b i) with h0 | h0
      ·exact h0
      grind
     refine ⟨λb i=>A1 b i\/(w.heap.size<=b/\A' b i),A',λ_ _ h=>.inl h,λb i ha=>ha.imp id λ⟨h1,h2⟩=>⟨h1,g6 b i (.inr h2),sa b i h2⟩,λb i ha=>?_,λb i ha=>?_,t1,g8⟩
     ·grind
     ·rcases g2 b i ha with (Y2 | ⟨e,_⟩) | h0 | hn
      ·grind
      ·cases e
      ·grind
      grind
   have aaS:=Br fq.size;have Kd:=k3.grow x1 (A1:=zf) (X1:=λb i=>if w.heap.size<=b then G b i else 0) a1 (λb i ha=>?_) (λb i=>?_);rotate_left
   ·rcases a2 b i ha with ha | ⟨h1,h2,h3⟩
    ·exact .inl ha
    grind
   ·by_cases hb:w.heap.size<=b
    ·rw[aH hb];rcases bK (G b i) with h0 | h0
     ·left;omega
     grind
    grind
   obtain ⟨_,m4,H4,v4,cs4,ad4,F4,u1,u2,u3,u4,u5,u6⟩:=Fc Kd q1';obtain ⟨_,e3,e4,e5⟩:=b1.inj u1;subst e3;subst e4;have e5:=gI e5;subst e5;have Y0:∀ b i,1<=F1 r b i->b < w.heap.size:=λb i hp=>k3.mr b i (.inl (by grind));have i9:=yt (σ':=qH) (a':=a) (w2:=World.news w w') (k3.jz r hr) rfl rfl (λb i ha u hu=>x1.cell b i (k3.mr b i (.inr ha)) rfl u hu) (λb i hp u hu=>x1.cell b i (Y0 b i hp) rfl u hu) b2;rw[i9] at u2;simp only[aQ,Pl.mk.injEq,eQ] at u2;obtain ⟨rfl,rfl⟩:=u2;have pk:mu (World.news w w') t m [] cs=mu w t m [] cs:=WC t s3 (λb i hp u hu=>x1.cell b i (Y0 b i (by grind)) rfl u hu);have hfp:∀ b i,mu w t m [] cs b i<=F4 b i:=λb i=>by have:=(am.fp t u3).2 b i;rw[pk] at this;exact this
   have UU:=am.length _ t1;have hl:=am.length _ s3;have pP:tu=false->Y4=cs:=λhP=>adi UU (am.one _ t1) hl (am.one _ s3) (t4 hP)
   have Mw:∀ b i,1<=mH ad t.sz b i->F4 b i=0:=λb i hp=>by
    grind
   have Ry:∀ b i,b < w.heap.size->1<=G b i->1<=mH ad t.sz b i\/1<=F4 b i:=λb i hb hp=>by
    grind
   have afX:∀ b i,GR b i+F3 b i<=(if w.heap.size<=b then G b i else 0)+F4 b i:=λb i=>by
    have h7:=g7 b i;have h2:=t2 b i
    by_cases hb:w.heap.size<=b
    ·grind
    ·rw[aN hb];rcases bK (GR b i+F3 b i) with h0 | h0
     ·omega
     ·have h4:=g4 b i;rcases g3 b i Bys with h1 | h1
      ·rw[J8] at h1
       cases hP:tu with
       | true=>
        obtain ⟨b',o',lI⟩:=b3 hP;grind [mH]
       | false=>
        grind [Cq]
      ·omega
   obtain ⟨A3,D2,Fr,n1,n2,n3,n4,n5⟩:=u6 w' A2 Y4 F3 GR (x2.mono λb i hz=>by
     grind) a3 (λb i ha=>by
     rcases a4 b i ha with ha | ⟨h1,h2⟩
     ·exact .inl ha
     ·refine .inr ⟨?_,by grind⟩;have hb:b < w.heap.size:=Y0 b i (by grind);rw[aN Bys];rw[J8] at h1
      cases hP:tu with
      | true=>
       obtain ⟨b',o',lI⟩:=b3 hP;grind [mH]
      | false=>
       grind [Cq]) afX (λb o e=>by
     cases hP:tu with
     | true=>grind
     | false=>
      rw[pP hP];intro j u hu;have hj:=(aO.1 hu).1;have h9:mH ad t.sz b (o+j)=1:=by grind [mH,d8]
      have h8:=Mw b (o+j) Bys;refine x2.cell b (o+j) ?_ ?_ u ((u5 b o e).1 j u hu)
      ·rw[aaS];exact dA (Y0 b (o+j) (by grind)) fq.size
      ·rw[J8,hP];have:=hfp b (o+j)
       simp only[Cq,bS];omega) (λe=>by
     cases hP:tu with
     | true=>obtain ⟨b',o',lI⟩:=b3 hP;rw[e] at lI;cases lI
     | false=>exact pP hP) a5
   have wV:=Ff (σ:=D2) (a:=a) (pz.mono n2 a6)
   cases hP:tu with
   | true=>
    subst hP;exact ⟨rU n3 n1 wV.1 (λ_ _=>aG _) wV.2,λhm=>(xP g.ps hm q2).elim⟩
   | false=>
    subst hP;have hc:=pP rfl;subst hc
    have h5:=n5 (wC (en p+1)) (xm _ (k3.nF r)) (F9 _ (k3.nF r)) rfl (λp' snap hb a_ hlen=>by
     have:=H9 (en p+1) (k3.nF r) hb a_
     exact ⟨1,False,by omega,λ_=>.inl Bys,λ_=>by omega,YZ ad a5⟩)
    have acG:=Ff (σ:={ D2 with vr:=(qH.oG r (wC (en p+1))).vr,az:=qH.az }) (a:=a) (pz.mono n2 a6);exact ⟨rU h5 n1 acG.1 (λ_ _=>aG _) acG.2,λhm=>(xP g.ps hm q2).elim⟩
 | _::_::_,hl=>simp at hl
theorem Rz (h:eo P C A σ a w F) {f:FuncId} {g:wY} (hs:Sound P f g) {xs:List Operand} {ex:List Slot} {Ij:List Value} (a_:xs.all (d_ P)=true)
  (hex:∀ (A':Cells) (σ':St),(∀ b i,A b i->A' b i)->yP P A' σ' a w ex Ij) {d:Option Tmp} {K:St->Option R} (hk:FT g σ xs ex d K=some x) :
  Calls P f (xs.map a.eval++Ij).toArray w λe w'=>∃ rv,e=.returned rv/\Nx P C K x (a.put d rv) w'/\(zM g.ps=true->Ext w w' (λ_ _=>0)):=by
 unfold FT at hk;split at hk
 all_goals grind [Y3,aey]
theorem Ik {f:FuncId} {cap:Bool} (he:xO P f cap) (args:Array Value):(callFunc f args).run P w=.ok (.enter f args) w:=by
 obtain ⟨fn,h1,h2,h3,_⟩:=he
 have h2':fn.name ≠ "runtime.NumGoroutine" := by simpa using h2
 have h3':fn.body≠none:=by grind
 simp_all [callFunc]
theorem TQ (h:eo P C A σ a w F) {f:FuncId} {args:Array Operand} {ts:Array TypeId} (ho:o.op=.call { callee:=.value (.func f),args:=args,argTypes:=ts }) (a_:args.toList.all (d_ P)=true) {g:wY} (hs:Sound P f g) (he:xO P f false)
  {K:St->Option R} (hk:FT g σ args.toList [] o.dst K=some x):o.wp P a w (λa' w'=>Nx P C K x a' w'/\(zM g.ps=true->Ext w w' (λ_ _=>0))) Q:=by
 have lW:(execOp a.eval o).run P w=.ok (.enter f (args.map a.eval)) w:=by
  have e:a.eval (.func f)=.func (.func f) #[] #[]:=rfl;grind [execOp,resolve,Deferred.ofValue,invoke,Ik]
 unfold Oper.wp;rw[lW,Oper.upon_enter];have hc:=Rz h hs (ex:=[]) (Ij:=[]) a_ (λ_ _ _=>trivial) hk;have:(args.toList.map a.eval++[]).toArray=args.map a.eval:=by grind
 rw[this] at hc;exact hc.mono λe w' ⟨rv,he,hn⟩=>by grind
theorem TR (h:eo P C A σ a w F) {i:Tmp} {args:Array Operand} {ts:Array TypeId} (ho:o.op=.call { callee:=.value (.tmp i),args:=args,argTypes:=ts }) (a_:args.toList.all (d_ P)=true) {f:FuncId} {n:Int} (oH:QT (σ.get i)=some (f,n)) {g:wY} (hs:Sound P f g) (he:xO P f g.cap)
  {K:St->Option R} (hk:FT g σ args.toList (match g.cap with | true=>[.cp (.int .i64) n] | false=>[]) o.dst K=some x):o.wp P a w (λa' w'=>Nx P C K x a' w'/\(zM g.ps=true->Ext w w' (λ_ _=>0))) Q:=by
 have hi:i < σ.n:=by
  rcases cR i σ.n with hi | hi
  ·exact hi
  ·rw[nQ (fT.2 hi)] at oH;cases oH
 have hsi:=h.jz i hi;unfold QT at oH;split at oH;rotate_left
 ·cases oH
 rename_i v hg;injection oH with hv;subst hv;rw[hg] at hsi;obtain ⟨cs,h1,BT,rfl,fn,h3,h4⟩:=hsi;have e:a.eval (.tmp i)=.func (.func f) #[] BT:=h1
 have lW:(execOp a.eval o).run P w=.ok (.enter f (args.map a.eval++BT)) w:=by
  grind [execOp,resolve,Deferred.ofValue,invoke,Ik]
 unfold Oper.wp;rw[lW,Oper.upon_enter];obtain ⟨fn',f1,f2,f3,f4⟩:=he;rw[h3] at f1;injection f1 with f1;subst f1
 have hex:∃ Ij:List Value,(args.toList.map a.eval++Ij).toArray=args.map a.eval++BT/\∀ (A':Cells) (σ':St),(∀ b i,A b i->A' b i)->yP P A' σ' a w (match g.cap with | true=>[.cp (.int .i64) n] | false=>[]) Ij:=by
  rcases h4 with ⟨h4,rfl⟩ | ⟨h4,ad,rfl,h5,h6,h7⟩
  ·have:g.cap=false:=by grind
   rw[this];exact ⟨[],by grind,λ_ _ _=>trivial⟩
  ·have:g.cap=true:=by grind
   rw[this];refine ⟨[.pointer (some ad)],by grind,λA' σ' hA=>⟨.inl ⟨ad,rfl,h5,[.int .i64 n],rfl,(λj u hu=>?_),rfl⟩,trivial⟩⟩
   grind
 obtain ⟨Ij,agI,hex⟩:=hex;have hc:=Rz h hs a_ hex hk;rw[agI] at hc;exact hc.mono λe w' ⟨rv,he,hn⟩=>by grind
end
section
variable {P:Program} {w:World} {A:Cells}
def N3:Value->Bool
 | .int _ _ | .bool _ | .string _=>true
 | _=>false
theorem Ro.simple:∀ (t:Ty) {v:t.den} {cs:List Value},t.qc=true->Ro P w A t v cs->∀ x ∈ cs,N3 x=true:=by
 intro t
 induction t with
 | int k=>intro v cs _ h x hx;simp only[Ro] at h;subst h;simp at hx;subst hx;rfl
 | bool=>intro v cs _ h x hx;simp only[Ro] at h;subst h;simp at hx;subst hx;rfl
 | str=>intro v cs _ h x hx;simp only[Ro] at h;subst h;simp at hx;subst hx;rfl
 | unit=>grind [Ro]
 | pair a b nY nH=>
  intro v cs he h x hx;simp only[Ty.qc,aC] at he;rw[<-cA a.sz cs] at hx;rcases bG.1 hx with hx | hx
  ·exact nY he.1 h.1 x hx
  ·exact nH he.2 h.2 x hx
 | arr n e ih=>
  intro v cs he h x hx;obtain ⟨_,hv,hl,hr⟩:=h;obtain ⟨j,hj,rfl⟩:=dD.1 hx
  have hs:0 < e.sz:=by
   grind
  have hi:j / e.sz < n:=by
   rw[eZ hs];omega
  have h1:=hr (j / e.sz) _ (aB Bys);refine ih he h1 _ (fA.2 ⟨j % e.sz,?_⟩);grind [Nat.mod_lt,Nat.div_add_mod]
 | _=>grind [Ty.qc]
theorem TS {x:Value} (h:N3 x=true) (n:Nat):Instr.sameBits n x x=true:=by
 cases x <;> simp[N3] at h <;> cases n <;> simp[Instr.sameBits,MapKept.bytes_beq]
theorem Y5 {t:Ty} {v:t.den} {cs:List Value} (ha:isAgg t=true) (he:t.qc=true) (h:Ro P w A t v cs):Instr.sameBits 10000 (dj t cs) (dj t cs)=true:=by
 have hs:=Ro.simple t he h;simp only[dj,ha,aL,Instr.sameBits,beq_self_eq_true,eB,bJ];rintro ⟨x,y⟩ ur;have hz:(x,y) ∈ cs.zip cs:=by simpa using ur
 have Va:x=y/\x ∈ cs:=by
  clear h hs ur
  induction cs with
  | nil=>simp at hz
  | cons c cs ih=>
   grind [List.zip_cons_cons]
 grind [TS]
theorem RA:∀ (t:Ty),(∀ (i:TypeId) (d:Nat) (e:Bool) (v:t.den) (cs:List Value),bn P t (.inl i)=true->uh P t (.inl i)=true->dep t<=d->Ro P w A t v cs->(Instr.checkKey e d i (dj t cs)).run P w=.ok () w) /\
  (∀ (fs:List Field) (off d:Nat) (e:Bool) (v:t.den) (xs:Array Value),bn P t (.inr (fs,off))=true->uh P t (.inr fs)=true->dep t<=d+1->Ro P w A t v (xs.toList.drop off) ->
   (forIn fs PUnit.unit λf _=>(if f.name ≠ "_" then do
     let x <- part f.type xs f.offset
     Instr.checkKey e d f.type x
     pure (ForInStep.yield PUnit.unit)
    else pure (ForInStep.yield PUnit.unit):Sem (ForInStep PUnit))).run P w=.ok () w):=by
 intro t
 induction t with
 | int k=>
  refine ⟨λi d e v cs hl he hd h=>?_,λfs off d e v xs hl=>by simp[bn] at hl⟩
  simp only[Ro] at h;subst h
  cases d with
  | zero=>simp[dep] at hd
  | succ d=>rw[ep _ _ rfl];simp[Instr.checkKey,run_underlying (sG hl)]
 | bool=>
  refine ⟨λi d e v cs hl he hd h=>?_,λfs off d e v xs hl=>by simp[bn] at hl⟩
  simp only[Ro] at h;subst h
  have hu:P.underlying i=some .bool:=by
   grind [bn]
  cases d <;> simp_all [dep,Instr.checkKey,run_underlying]
 | str=>
  refine ⟨λi d e v cs hl he hd h=>?_,λfs off d e v xs hl=>by simp[bn] at hl⟩
  simp only[Ro] at h;subst h;cases d <;> simp_all [dep,Instr.checkKey,run_underlying,oP]
 | unit=>
  refine ⟨λi d e v cs hl he hd h=>?_,λfs off d e v xs hl he hd h=>?_⟩
  ·simp only[Ro] at h;subst h;simp only[bn,aC] at hl;have h3:=hl.2;split at h3
   ·rename_i fs hu;have EI:fs.toList=[]:=bH.1 h3
    cases d with
    | zero=>simp[dep] at hd
    | succ d=>
     show (Instr.checkKey e (d+1) i (.agg #[])).run P w=_;simp_all [Instr.checkKey,run_underlying]
   ·cases h3
  simp_all [bn]
 | pair a b nY nH=>
  have second:∀ (fs:List Field) (off d:Nat) (e:Bool) (v:(Ty.pair a b).den) (xs:Array Value),bn P (.pair a b) (.inr (fs,off))=true->uh P (.pair a b) (.inr fs)=true->dep (.pair a b)<=d+1->Ro P w A (.pair a b) v (xs.toList.drop off) ->
    (forIn fs PUnit.unit λf _=>(if f.name ≠ "_" then do
      let x <- part f.type xs f.offset
      Instr.checkKey e d f.type x
      pure (ForInStep.yield PUnit.unit)
     else pure (ForInStep.yield PUnit.unit):Sem (ForInStep PUnit))).run P w=.ok () w:=by
   intro fs off d e v xs hl he hd h1
   cases fs with
   | nil=>simp_all
   | cons f r=>
    simp only[bn,aC,eW,dK] at hl;simp only[uh,aC,bne_iff_ne,ne_eq] at he;simp only[dep] at hd;obtain ⟨YQ,YR⟩:=h1;have p1:=xo (P:=P) (w:=w) hl.1.2 (cs:=xs) (off:=off) (Ro.length _ YQ);have e1:=nY.1 f.type d e v.1 _ hl.1.2 he.1.2 Bys YQ;rw[dF] at YR;have e2:=nH.2 r (off+a.sz) d e v.2 xs hl.2 he.2 Bys YR;simp_all
  refine ⟨λi d e v cs hl he hd h=>?_,second⟩
  simp only[bn,aC] at hl;simp only[uh,aC,cB] at he;have h3:=hl.2;have h4:=he.2;split at h3
  ·rename_i fs hu;rw[hu] at h4;simp only at h4;split at h3
   ·rename_i f r Mj;rw[Mj] at h4;simp only at h4
    cases d with
    | zero=>grind [dep]
    | succ d=>
     show (Instr.checkKey e (d+1) i (.agg cs.toArray)).run P w=_;rw[Instr.checkKey];simp only[Sem.run_bind,run_underlying hu,Result.andThen_ok];rw[<-Array.forIn_toList,Mj];have:=second (f::r) 0 d e v cs.toArray (by grind [bn]) (by grind [uh]) hd (by simpa using h);rw[this];rfl
   ·cases h3
  ·cases h3
 | arr n e ih=>
  refine ⟨λi d em v cs hl he hd h=>?_,λfs off d em v xs hl=>by simp[bn] at hl⟩
  simp only[bn,aC] at hl;have h3:=hl.2;simp only[uh] at he;split at h3
  ·rename_i n' el hu;simp only[aC,eW,dK] at h3;obtain ⟨⟨rfl,_⟩,hle⟩:=h3;rw[hu] at he;simp only at he;obtain ⟨inf,i1,i2,_⟩:=mI (nI hle);have oO:P.cellsOf el=e.sz:=by grind [Program.cellsOf]
   obtain ⟨_,l1,_,r1⟩:=h
   cases d with
   | zero=>simp[dep] at hd
   | succ d=>
    simp only[dep] at hd;show (Instr.checkKey em (d+1) i (.agg cs.toArray)).run P w=_;rw[Instr.checkKey];simp only[Sem.run_bind,run_underlying hu,Result.andThen_ok,Std.Legacy.Range.forIn_eq_forIn_range',Std.Legacy.Range.size,Nat.sub_zero,Nat.add_one_sub_one,Nat.div_one]
    have key:∀ (m j:Nat),j+m=n->(forIn (List.range' j m) PUnit.unit λi _=>(do
       let x <- part el cs.toArray (i*(<- Go.sizeOf el))
       Instr.checkKey em d el x
       pure (ForInStep.yield PUnit.unit):Sem (ForInStep PUnit))).run P w=.ok () w:=by
     intro m
     induction m with
     | zero=>simp_all
     | succ m ihm=>
      intro j hj;have a1:=r1 j _ (aB (l:=v) (i:=j) Bys);have p1:=xo (P:=P) (w:=w) hle (cs:=cs.toArray) (off:=j*e.sz) (Ro.length _ a1);have e1:=ih.1 el d em _ _ hle he Bys a1;rw[iP];simp only[List.forIn_cons,Sem.run_bind,run_sizeOf hle,p1,e1,Result.andThen_ok,Sem.run_pure];grind
    simp_all
  ·cases h3
 | _=>grind [uh]
def Gh (P:Program) (w:World) (A:Cells) (k v:Ty) (es:List (Value×Value)) (m:List (k.den×v.den)):Prop:=
 es.length=m.length/\∀ (i:Nat) (y:k.den×v.den),m[i]?=some y->∃ (kc vc:List Value),es[i]?=some (dj k kc,dj v vc)/\Ro P w A k y.1 kc/\Ro P w A v y.2 vc
structure Qm (P:Program) (k:Ty) (i:TypeId):Prop where
 lay:bn P k (.inl i)=true
 agg:isAgg k=true
 qc:k.qc=true
 flat:k.flat=true
 uh:uh P k (.inl i)=true
 dep:dep k<=9000
theorem N4 {k v:Ty} {i:TypeId} (h:bn P (.map k v) (.inl i)=true):∃ ki vi,P.underlying i=some (.map ki vi)/\Qm P k ki/\bn P v (.inl vi)=true/\zvB P v vi=true:=by
 simp only[bn,aC] at h;have h2:=h.2;split at h2
 ·rename_i ki vi hu;simp only[aC,aes,dK] at h2;obtain ⟨⟨⟨h3,h4⟩,⟨⟨⟨⟨h5,h6⟩,h7⟩,h8⟩,h9⟩⟩,Ke⟩:=h2;exact ⟨ki,vi,hu,⟨h3,h5,h6,h7,h8,h9⟩,h4,Ke⟩
 ·cases h2
theorem Y6 {k v:Ty} {ki:TypeId} (K:Qm P k ki) {x:k.den} {xc:List Value} (hx:Ro P w A k x xc):∀ (es:List MapEntry) (m:List (k.den×v.den)) (i:Nat),Gh P w A k v (es.map λe=>(e.key,e.val)) m ->
  (Instr.findAsking ki (dj k xc) es i).run P w=.ok ((m.findIdx? λy=>k.eq x y.1).bind λj=>(es[j]?).map λe=>(i+j,e.val)) w:=by
 intro es
 induction es with
 | nil=>
  simp_all [Instr.findAsking]
 | cons e es ih=>
  intro m i h
  cases m with
  | nil=>have:=h.1;simp at this
  | cons y m=>
   obtain ⟨kc,vc,h1,h2,h3⟩:=h.2 0 y rfl;simp only[dW,dZ,aQ,bN] at h1;have heq:(Op.equal ki (dj k xc) (dj k kc)).run P w=.ok (k.eq x y.1) w:=(acB (P:=P) (w:=w) (A:=A) k).1 ki Op.maxDepth x y.1 xc kc K.lay K.uh (by have:=K.dep;grind [Op.maxDepth]) hx h2
   have qB:Gh P w A k v (es.map λe=>(e.key,e.val)) m:=⟨by have:=h.1;simpa using this,λj z hz=>by
    have:=h.2 (j+1) z (by simpa using hz)
    simpa using this⟩
   simp only[Instr.findAsking,Sem.run_bind,h1.1,heq,Result.andThen_ok,List.findIdx?_cons]
   cases hq:k.eq x y.1 with
   | true=>simp
   | false=>
    simp only[aF,aU,ih m (i+1) qB,Option.bind_map];congr 2;grind
theorem Y7 {k:Ty} {ki:TypeId} (K:Qm P k ki):∃ d,P.underlying ki=some d/\∀ x y,Instr.sameNow d x y=none:=by
 have hl:=K.lay;have ha:=K.agg;have he:=K.qc
 cases k with
 | pair a b=>
  simp only[bn,aC] at hl;have h3:=hl.2;split at h3
  ·rename_i fs hu;exact ⟨_,hu,λ_ _=>rfl⟩
  ·cases h3
 | unit=>
  simp only[bn,aC] at hl;have h3:=hl.2;split at h3
  ·rename_i fs hu;exact ⟨_,hu,λ_ _=>rfl⟩
  ·cases h3
 | arr n e=>
  simp only[bn,aC] at hl;have h3:=hl.2;split at h3
  ·rename_i n' el hu;exact ⟨_,hu,λ_ _=>rfl⟩
  ·cases h3
 | _=>simp[isAgg] at ha
theorem Vb {k v:Ty} {ki:TypeId} (K:Qm P k ki) {x:k.den} {xc:List Value} (hx:Ro P w A k x xc) {es:List MapEntry} {m:List (k.den×v.den)} (h:Gh P w A k v (es.map λe=>(e.key,e.val)) m) :
  (Instr.findKey ki (dj k xc) es).run P w=.ok ((m.findIdx? λy=>k.eq x y.1).bind λj=>(es[j]?).map λe=>(j,e.val)) w:=by
 obtain ⟨d,hu,hd⟩:=Y7 K;have ha:=Y6 (v:=v) K hx es m 0 h;simp only[bS] at ha;unfold Instr.findKey;simp only[Sem.run_bind,run_underlying hu,Result.andThen_ok];cases es <;> simp_all [Instr.findNow]
theorem Il {k v:Ty} {m:Md} {y:List (k.den×v.den)} {cs:List Value} {F:FP} (h:am P w A (.map k v) m [] y cs F) :
  k.flat=true/\v.flat=true/\∃ (r:Nat) (es:Array MapEntry) (clock:Nat),cs=[.map (some r)]/\w.heap[r]?=some (.map es clock)/\Gh P w A k v (es.toList.map λe=>(e.key,e.val)) y/\(m.own=true->1<=F r 0):=by
 simp only[am,hole,bU,aF,aU] at h;split at h
 ·rename_i hm;obtain ⟨h1,h2,r,wD,h3,h4,h5,h6,h7⟩:=h;obtain ⟨es,clock,q1,q2⟩:=Ys h4;refine ⟨h1,h2,r,es,clock,h3,q1,?_,λ_=>h5⟩
  have q2:(es.toList.map λe=>(e.key,e.val))=wD:=q2;rw[q2];exact ⟨h6,h7⟩
 ·rename_i hm;obtain ⟨_,_,h1,h2,r,wD,h3,h4,h5,h6,h7⟩:=h;obtain ⟨es,clock,q1,q2⟩:=Ys h4;refine ⟨h1,h2,r,es,clock,h3,q1,?_,λe=>absurd e hm⟩
  have q2:(es.toList.map λe=>(e.key,e.val))=wD:=q2;rw[q2];exact ⟨h6,h7⟩
theorem Y8 {α:Type} {k:Ty} (m:List (k.den×α)) (x:k.den):lm k m x=(m.findIdx? λe=>k.eq x e.1).bind λj=>(m[j]?).map (·.2):=by
 unfold lm
 induction m with
 | nil=>rfl
 | cons y m ih=>
  simp only[jA,List.findIdx?_cons]
  cases hq:k.eq x y.1 with
  | true=>simp
  | false=>
   simp only[aF,aU];rw[ih];cases m.findIdx? (λe=>k.eq x e.1) <;> simp
theorem aaT {v:Ty} {i:TypeId} (hz:zvB P v i=true) (hv:bn P v (.inl i)=true) {z:Value} {L:List Value} (h1:(zeroValue i).run P w=.ok z w) (h2:z.cells.toList=L) (hl:L.length=v.sz):z=dj v L:=by
 obtain ⟨inf,i1,i2,i3,i4⟩:=mI (nI hv);unfold zvB at hz;rw[i1] at hz;simp only at hz
 cases hzz:inf.zero with
 | none=>grind
 | some z0=>
  have:z=z0:=by
   simp_all [zeroValue,typeInfo]
  subst this;rw[hzz] at hz;unfold dj
  cases ha:isAgg v with
  | true=>
   rw[ha] at hz;cases z <;> simp at hz;simp only[Value.cells] at h2;subst h2;simp
  | false=>
   grind [Value.cells]
theorem aaU:∀ (t:Ty),t.qc=true->∀ {v1 v2:t.den} {sH dO:List Value},Ro P w A t v1 sH->Ro P w A t v2 dO->t.eq v1 v2=true->dO=sH:=by
 intro t
 induction t with
 | int k=>
  intro _ v1 v2 sH dO h1 h2 he;simp only[Ro] at h1 h2;subst h1;subst h2;have:v1=v2:=by cases k <;> simpa [Ty.eq] using he
  rw[this]
 | bool=>
  grind [Ro,Ty.eq]
 | str=>
  grind [Ro,Ty.eq]
 | unit=>
  grind [Ro]
 | pair a b nY nH=>
  intro hq v1 v2 sH dO h1 h2 he;simp only[Ty.qc,aC] at hq;simp only[Ty.eq,aC] at he;have e1:=nY hq.1 h1.1 h2.1 he.1;have e2:=nH hq.2 h1.2 h2.2 he.2;grind [List.take_append_drop]
 | arr n e ih=>
  intro hq v1 v2 sH dO h1 h2 he;obtain ⟨_,l1,c1,r1⟩:=h1;obtain ⟨_,l2,c2,r2⟩:=h2;refine List.ext_getElem Bys λj hj2 hj1=>?_
  have hs:0 < e.sz:=by
   grind
  have hi:j / e.sz < n:=by
   rw[eZ hs];omega
  have a1:=r1 (j / e.sz) _ (aB Bys);have a2:=r2 (j / e.sz) _ (aB Bys)
  have My:e.eq (v1[j / e.sz]'Bys) (v2[j / e.sz]'Bys)=true:=by
   simp only[Ty.eq,bJ] at he;exact he (_,_) (fA.2 ⟨j / e.sz,by grind⟩)
  have h3:=ih hq a1 a2 My;have hm:=jH j hs;have hd:=Nat.div_add_mod j e.sz;have h4:=cV (·[j % e.sz]?) h3;grind
 | _=>grind [Ty.qc]
theorem WG {k v:Ty} {t:TypeId} (hl:bn P (.map k v) (.inl t)=true) (hz:v.yf=true) {x:k.den} {xc:List Value} (hx:Ro P w A k x xc) {r:Nat} {es:Array MapEntry} {clock:Nat} (hb:w.heap[r]?=some (.map es clock)) {y:List (k.den×v.den)}
  (he:Gh P w A k v (es.toList.map λe=>(e.key,e.val)) y) (ok:Bool) :
  ∃ vc,Ro P w A v (DZ (lm k y x) v.zero) vc/\(Instr.lookup t (.map (some r)) (dj k xc) ok).run P w=.ok (if ok then .tuple #[dj v vc,.bool (lm k y x).isSome] else dj v vc) w:=by
 obtain ⟨ki,vi,hu,K,hv,agJ⟩:=N4 hl;have hc:=(RA (P:=P) (w:=w) (A:=A) k).1 ki 10000 es.isEmpty x xc K.lay K.uh (by have:=K.dep;omega) hx;have hf:=Vb (v:=v) K hx he;obtain ⟨L,hL⟩:=vW v hz;obtain ⟨z,Ri,Mn⟩:=BW (P:=P) (w:=w) hv hL;obtain ⟨r1,r2,r3⟩:=Co (P:=P) (w:=w) (A:=A) v hL hv;rw[Y8]
 cases RB:y.findIdx? (λe=>k.eq x e.1) with
 | none=>
  rw[RB] at hf;simp only[Option.bind_none] at hf ⊢;refine ⟨L,r2,?_⟩
  have U6:z=dj v L:=aaT agJ hv Ri Mn r3;cases ok <;> simp[Instr.lookup,run_underlying hu,MapKept.run_getObj_map hb,hc,hf,Ri,U6]
 | some j=>
  rw[RB] at hf;have hj:j < y.length:=(eV.1 RB).1;obtain ⟨kc,vc,g1,g2,g3⟩:=he.2 j y[j] (aB hj);rw[fB] at g1
  cases hej:es.toList[j]? with
  | none=>grind
  | some e=>
   rw[hej] at g1;simp only[bR,aQ,bN] at g1;simp only[hej,aA,bR,aB hj] at hf ⊢;refine ⟨vc,g3,?_⟩
   cases ok <;> simp[Instr.lookup,run_underlying hu,MapKept.run_getObj_map hb,hc,hf,g1.2]
end
section
variable {P:Program} {C:Ctx} {A:Cells} {X:FP} {σ:St} {a:Act} {w:World} {F:Nat->FP} {R:Type} {x:R} {Q:Exit->Act->World->Prop} {o:Oper} {E:Env}
theorem TT (h:eo P C A σ a w F) (mY:∀ i T,E.TI i=some T->bn P T (.inl i)=true) {t:Nat} (ho:o.op=.makeMap t none) {K:St->Option R}
  (hk:(so E t λt=>match t with
  | .map k v=>if k.flat&&v.flat then K (σ.cq o.dst (.own (.map k v) (ai (.map k v)) [] [])) else none
  | _=>none)=some x):o.wp P a w (λa' w'=>Nx P C K x a' w'/\Ext w w' (λ_ _=>0)) Q:=by
 obtain ⟨T,hT,hk⟩:=iy hk;split at hk
 ·rename_i k v;split at hk
  ·rename_i hc;simp only[aC] at hc
   have lW:(execOp a.eval o).run P w=.ok (.value (.map (some w.heap.size))) (w.alloc (.map #[] 0)):=by
    simp[execOp,ho,run_makeMap_plain]
   have fq:=qn w (.map #[] 0)
   have h1:Rel P C A (λb i=>0+d8 w.heap.size 0 1 b i) σ a (w.alloc (.map #[] 0)) F:=by
    refine h.grow fq (λ_ _ h=>h) (λ_ _ h=>.inl h) (λb i=>?_);by_cases hb:b=w.heap.size
    ·subst hb;right;exact ⟨aG _,by simp,by grind [d8]⟩
    grind [d8]
   have AC:(w.alloc (.map #[] 0)).heap[w.heap.size]?=some (.map #[] 0):=heap_alloc_new w _;refine qm lW ⟨rU h1 hk (Fd:=d8 w.heap.size 0 1) ⟨_,(ep (.map k v) _ rfl).symm,?_⟩ (λb i=>by simp) (λ_ _ _ _ e=>by cases e),fq⟩;simp only[am,hole,bU,aF,aU,ai,wU,Md.own,aL];refine ⟨hc.1,hc.2,w.heap.size,[],rfl,?_,by simp[d8],rfl,λi y hy=>by cases hy⟩
   exact Yt AC
  ·cases hk
 ·cases hk
theorem TU (h:eo P C A σ a w F) (mY:∀ i T,E.TI i=some T->bn P T (.inl i)=true) {t:Nat} {y z:Operand} {ok:Bool} (ho:o.op=.lookup t y z ok) (a_:d_ P y=true/\d_ P z=true) {K:St->Option R}
  (hk:NN E σ t (eg σ y) (eg σ z) ok o.dst K=some x):o.wp P a w (λa' w'=>Nx P C K x a' w'/\Ext w w' (λ_ _=>0)) Q:=by
 unfold NN at hk;obtain ⟨T,hT,hk⟩:=iy hk;have kt:=mY _ _ hT;split at hk
 ·rename_i k v;split at hk
  ·rename_i hz
   rcases gk h a_.1 with hs | ⟨xs,e⟩
   rotate_left
   ·grind
   rcases gk h a_.2 with De | ⟨xs,e2⟩
   rotate_left
   ·exfalso;rw[e2] at hk;split at hk
    ·split at hk
     ·obtain ⟨_,_,_,_,_,_,_,_,h1,_⟩:=m_ h hk;grind [dh]
     ·cases hk
    ·cases hk
   split at hk
   ·rename_i r p snap hv;rw[hv] at hs;split at hk
    ·rename_i qT;obtain ⟨hr,t',m',H',v',cn,dp,F',h1,ey,h3,h4,h5,h6⟩:=m_ h hk;split at h1
     ·rename_i hH;have hH:=bH.1 hH;subst hH;obtain ⟨e1,h1⟩:=dh h1;subst e1;obtain ⟨pl,g1,g2,g3⟩:=hs.2 qT;rw[h3] at g1;injection g1 with g1;subst g1;obtain ⟨f1,f2,b,es,clock,q1,q2,q3,q4⟩:=Il h4;simp only at g2;subst q1;rw[ep (.map k v) _ rfl] at g2;split at h1
      ·rename_i t2 ix hix;rw[hix] at De;obtain ⟨e2,h1⟩:=dh h1;subst e2;obtain ⟨kc,OZ,oC⟩:=De;obtain ⟨vc,r1,r2⟩:=WG (P:=P) kt hz oC q2 q3 ok
       have lW:(execOp a.eval o).run P w=.ok (.value (if ok then .tuple #[dj v vc,.bool (lm t2 v' ix).isSome] else dj v vc)) w:=by
        simp_all [execOp]
       cases ok with
       | true=>
        simp only at h1;refine qm lW ⟨cx h h1 ⟨#[dj v vc,.bool (lm t2 v' ix).isSome],λ_ _ _=>0,rfl,λb i=>by grind [oB],λj y hy=>?_⟩ (λ_ _ _ _ e=>by cases e),Ext.refl _ _⟩
        match j with
        | 0=>simp at hy;subst hy;exact ⟨_,rfl,.inr ⟨vc,rfl,Ro.rep v _ (jh v) r1⟩⟩
        | 1=>simp at hy;subst hy;exact ⟨_,rfl,.inr ⟨[.bool _],rfl,rfl⟩⟩
        | n+2=>simp at hy
       | false=>
        simp only at h1;exact qm lW ⟨cx h h1 ⟨vc,rfl,r1⟩ (λ_ _ _ _ e=>by cases e),Ext.refl _ _⟩
      ·cases h1
     ·cases h1
    ·cases hk
   ·cases hk
  ·cases hk
 ·cases hk
theorem WH {r:Nat} {es Mz:Array MapEntry} {clock Fg:Nat} (hb:w.heap[r]?=some (.map es clock)):Ext w { w with heap:=w.heap.setIfInBounds r (.map Mz Fg) } (d8 r 0 1):=by
 have ais:∀ b,b≠r->(w.heap.setIfInBounds r (.map Mz Fg))[b]?=w.heap[b]?:=λb i7=>by grind
 refine ⟨by simp,λb i hbs hz u hu=>?_,λb n hn=>?_,λb i hbs=>?_,rfl,rfl,rfl,λb hbs hz=>?_,aG _⟩
 ·grind [d8,ce,CU]
 ·obtain ⟨c,e,fr,h1,h2,h3⟩:=hn;have hbr:b≠r:=λe=>by grind
  exact ⟨c,e,fr,by grind,h2,h3⟩
 ·grind [World.frozen?]
 ·have hbr:b≠r:=λe=>by simp_all [d8]
  grind
theorem WI {k v:Ty} {t:TypeId} (hl:bn P (.map k v) (.inl t)=true) {x:k.den} {xc:List Value} (hx:Ro P w A k x xc) {z:v.den} {zc':List Value} (hzr:Ro P w A v z zc') {r:Nat} {es:Array MapEntry} {clock:Nat} (hb:w.heap[r]?=some (.map es clock)) {y:List (k.den×v.den)}
  (he:Gh P w A k v (es.toList.map λe=>(e.key,e.val)) y) :
  ∃ (Mz:Array MapEntry) (Fg:Nat),(Instr.mapUpdate t (.map (some r)) (dj k xc) (dj v zc')).run P w=.ok () { w with heap:=w.heap.setIfInBounds r (.map Mz Fg) }/\Gh P w A k v (Mz.toList.map λe=>(e.key,e.val)) (oU k y x z):=by
 obtain ⟨ki,vi,hu,K,hv,_⟩:=N4 hl;have hc:=(RA (P:=P) (w:=w) (A:=A) k).1 ki 10000 false x xc K.lay K.uh (by have:=K.dep;omega) hx;have hf:=Vb (v:=v) K hx he;unfold oU
 cases RB:y.findIdx? (λe=>k.eq x e.1) with
 | none=>
  rw[RB] at hf;simp only[Option.bind_none] at hf ⊢;refine ⟨es.push { key:=dj k xc,val:=dj v zc',born:=clock },clock+1,?_,?_,λi q hq=>?_⟩
  ·simp[Instr.mapUpdate,run_underlying hu,MapKept.run_getObj_map hb,hc,hf,MapKept.run_setObj_map _ hb,Result.andThen]
  ·have:=he.1;grind
  ·have hlen:(es.toList.map λe=>(e.key,e.val)).length=y.length:=he.1;rw[Array.toList_push,fK];by_cases hi:i < y.length
   ·rw[cT hi] at hq;rw[cT (by grind)];exact he.2 i q hq
   grind
 | some j=>
  rw[RB] at hf;have hfj:=eV.1 RB;have hj:j < y.length:=hfj.1;obtain ⟨kc,vc,g1,g2,g3⟩:=he.2 j y[j] (aB hj);rw[fB] at g1;have hlen:es.size=y.length:=by have:=he.1;simpa using this
  have xr:es.toList[j]?=some es[j]:=by simp[hlen,hj]
  rw[xr] at g1;simp only[bR,aQ,bN] at g1;simp only[aA] at hf ⊢;rw[xr] at hf;simp only[bR] at hf
  have agK:k.eq x (y[j]).1=true:=by
   grind
  have aiy:dj k kc=dj k xc:=by
   have:=aaU k K.qc hx g2 agK;rw[this]
  have JM:(Instr.keyThatStays (dj k xc) (dj k xc)).run P w=.ok (dj k xc) w:=by
   simp[Instr.keyThatStays,Y5 K.agg K.qc hx]
  have yM:(es[j]?).map (·.key)=some (dj k xc):=by
   grind
  refine ⟨es.modify j λe=>{ e with key:=dj k xc,val:=dj v zc' },clock,?_,?_,λi q hq=>?_⟩
  ·simp[Instr.mapUpdate,run_underlying hu,MapKept.run_getObj_map hb,hc,hf,yM,JM,MapKept.run_setObj_map _ hb,Result.andThen]
  ·simp[hlen]
  ·rw[fC] at hq;rw[fB,dV,gF];by_cases sb:j=i
   ·grind
   ·rw[aN sb] at hq ⊢;have:=he.2 i q hq;grind
theorem N5 (h:eo P C A σ a w F) (mY:∀ i T,E.TI i=some T->bn P T (.inl i)=true) {t:Nat} {y z u:Operand} (ho:o.op=.mapUpdate t y z u) (hd:o.dst=none) (a_:d_ P y=true/\d_ P z=true/\d_ P u=true) {K:St->Option R}
  (hk:NO E σ t (eg σ y) (eg σ z) (eg σ u) K=some x):o.wp P a w (Nx P C K x) Q:=by
 unfold NO at hk;obtain ⟨T,hT,hk⟩:=iy hk;have kt:=mY _ _ hT;split at hk
 ·rename_i k v
  rcases gk h a_.1 with hs | ⟨xs,e⟩
  rotate_left
  ·grind
  split at hk
  ·rename_i r p snap hv;rw[hv] at hs;split at hk
   ·rename_i qT;obtain ⟨hr,t',m',H',v',cn,dp,F',h1,ey,h3,h4,h5,h6⟩:=m_ h hk;split at h1
    ·rename_i hH;simp only[aC,bH] at hH;obtain ⟨jS,hH⟩:=hH;subst hH;obtain ⟨e1,h1⟩:=dh h1;subst e1;obtain ⟨pl,g1,g2,g3⟩:=hs.2 qT;rw[h3] at g1;injection g1 with g1;subst g1;split at h1
     ·rename_i t2 ix t3 uv hix huv
      have De:dn P A σ a w (a.eval z) (.val t2 ix) (λ_ _=>0):=by
       grind [gk]
      have hs3:dn P A σ a w (a.eval u) (.val t3 uv) (λ_ _=>0):=by
       grind [gk]
      obtain ⟨e2,h1⟩:=dh h1;subst e2;obtain ⟨e3,h1⟩:=dh h1;subst e3;obtain ⟨kc,OZ,oC⟩:=De;obtain ⟨uc,hu1,hu2⟩:=hs3;obtain ⟨hr,m2,H2,v2,dO,Fe,F2,q1,q2,q3,q4,q5,q6⟩:=Fc h h1;obtain ⟨_,e2,e3,e4⟩:=At.inj ⟨ey⟩ q1;subst e2;subst e3;have e4:=gI e4;subst e4;rw[h3] at q2;injection q2 with q2;injection q2 with q21 q22 q23 q24;subst q23;subst q24;have jL:=q3;obtain ⟨f1,f2,b,es,clock,b1,b2,b3,b4⟩:=Il q3;have b4:=b4 jS;simp only at g2;subst b1;rw[ep (.map t2 t3) _ rfl] at g2;obtain ⟨Mz,Fg,r1,r2⟩:=WI (P:=P) kt oC hu2 b2 b3;generalize Dg:({ w with heap:=w.heap.setIfInBounds b (.map Mz Fg) }:World)=w2 at r1;have fq:Ext w w2 (d8 b 0 1):=by grind [WH]
      have J_:∀ b i,F r b i<=1:=λb i=>by have:=h.ry b i;grind [dw]
      have lW:(execOp a.eval o).run P w=.ok .skip w2:=by
       simp[execOp,ho,g2,OZ,hu1,r1]
      refine Rd lW hd ?_
      have hA:∀ b' i,A b' i->∀ u,ce w b' i=some u->ce w2 b' i=some u:=λb' i ha u hu=>by
       refine fq.cell b' i (h.mr b' i (.inr ha)) ?_ u hu;rcases bK (d8 b 0 1 b' i) with h0 | h0
       ·exact h0
       ·have:b'=b/\i=0:=by
         grind [d8]
        obtain ⟨rfl,rfl⟩:=this;exact absurd ha (h.sr b' 0 (by grind [dw]))
      have AC:ce w2 b 0=some (FU (entriesOf Mz)):=by
       grind [Yt]
      have JI:am P w2 A (.map t2 t3) m' [] (oU t2 v' ix uv) [.map (some b)] F2:=by
       simp only[am,hole,bU,aF,aU,jS,aL];refine ⟨f1,f2,b,entriesOf Mz,rfl,AC,b4,r2.1,λi q hq=>?_⟩
       obtain ⟨kc',vc',j1,j2,j3⟩:=r2.2 i q hq;exact ⟨kc',vc',j1,Ro.mono hA (λ_ _ h=>h) t2 j2,Ro.mono hA (λ_ _ h=>h) t3 j3⟩
      have Mx:∀ b' i,d8 b 0 1 b' i<=F2 b' i:=λb' i=>by
       grind [d8]
      have yn:∀ b' o',dp=some (b',o')->Has w2 b' o' [.map (some b)]:=λb' o' ea j u hu=>by
       have hh1:=(q5 b' o' ea).1 j u hu;have hj:=(aO.1 hu).1;have hj0:j=0:=by simpa using hj
       subst hj0;have h2:=q4 b' (o'+0);have h4:=Mx b' (o'+0);have h5:=J_ b' (o'+0);have h7:=dw F hr b' (o'+0)
       have h6:mH dp (Ty.map t2 t3).sz b' (o'+0)=1:=by
        grind [mH,d8,Ty.sz]
       exact fq.cell _ _ (h.mr b' (o'+0) (.inl (by grind))) Bys u hh1
      obtain ⟨A3,D2,Fr,n1,n2,n3,n4,n5⟩:=q6 w2 A [.map (some b)] F2 (λ_ _=>0) (fq.mono λb' i hz=>by
        grind) (λ_ _ h=>h) (λ_ _ h=>.inl h) (λb i=>by omega) yn (λ_=>rfl) JI
      refine ⟨_,n1,A3,_,n5 zo (AY (h.nF r)) (H8 (h.nF r)) rfl λp' snap hb a_ hlen=>?_⟩
      have h5:=KS (h.nF r) hb a_;refine ⟨en p'+1,False,by omega,λ_=>.inl Bys,λ_=>by omega,?_⟩
      intro q pl hq hp;grind [cd]
     ·cases h1
    ·cases h1
   ·cases hk
  ·cases hk
 ·cases hk
theorem TV (h:eo P C A σ a w F) (mY:∀ i T,E.TI i=some T->bn P T (.inl i)=true) {t:Nat} {y:Operand} (ho:o.op=.call { callee:=.builtin .len,args:=#[y],argTypes:=#[t] }) (a_:d_ P y=true) {K:St->Option R}
  (hk:NP E σ t (eg σ y) (λn=>K (σ.cq o.dst (.val (.int .i64) (n:Int))))=some x):o.wp P a w (Nx P C K x) Q:=by
 unfold NP at hk;obtain ⟨T,hT,hk⟩:=iy hk;have kt:=mY _ _ hT;split at hk
 ·rename_i k v
  rcases gk h a_ with hs | ⟨xs,e⟩
  rotate_left
  ·grind
  split at hk
  ·rename_i r p snap hv;rw[hv] at hs;split at hk
   ·rename_i qT;obtain ⟨hr,t',m',H',v',cn,dp,F',h1,ey,h3,h4,h5,h6⟩:=m_ h hk;split at h1
    ·rename_i hH;have hH:=bH.1 hH;subst hH;obtain ⟨e1,h1⟩:=dh h1;subst e1;obtain ⟨pl,g1,g2,g3⟩:=hs.2 qT;rw[h3] at g1;injection g1 with g1;subst g1;obtain ⟨f1,f2,b,es,clock,q1,q2,q3,q4⟩:=Il h4;simp only at g2;subst q1;rw[ep (.map k v) _ rfl] at g2;obtain ⟨ki,vi,hu,_,_,_⟩:=N4 kt;have hlen:es.size=List.length v':=by have:=q3.1;simpa using this
     have lW:(execOp a.eval o).run P w=.ok (.value (.int .i64 ((List.length v':Nat):Int))) w:=by
      rw[Da ho];simp[Builtin.len_,g2,run_underlying hu,MapKept.run_getObj_map q2,goInt,hlen]
     exact qm lW (cx h h1 ⟨[.int .i64 _],rfl,rfl⟩ (λ_ _ _ _ e=>by cases e))
    ·cases h1
   ·cases hk
  ·cases hk
 ·cases hk
end
structure vk (P:Program) (E:Env):Prop where
 ti:∀ i T,E.TI i=some T->bn P T (.inl i)=true
 eq:acC P E
 fn:∀ f g,E.G f=some g->Sound P f g/\xO P f g.cap
def WJ (P:Program) (t:TypeId):Bool:=match P.underlying t with
 | some (.slice _)=>true
 | some .string=>true
 | _=>false
theorem MA {P:Program} {t:TypeId} (h:WJ P t=true):(∃ e',P.underlying t=some (.slice e'))\/P.underlying t=some .string:=by
 grind [WJ]
def RD (P:Program) (c:Call):Bool:=match c.callee with
 | .builtin .append | .builtin .copy=>match c.argTypes.toList with
  | [_,tx]=>WJ P tx
  | _=>false
 | _=>true
def tN (P:Program):Op->Bool
 | .move x | .assign x | .nilCheck x | .box _ x | .load _ x | .unOp _ _ x | .convert _ _ x | .fieldAddr _ x _ | .field _ x _=>d_ P x
 | .pick c a b=>d_ P c&&d_ P a&&d_ P b
 | .mapUpdate _ m k v=>d_ P m&&d_ P k&&d_ P v
 | .lookup _ a x _ | .store _ a x | .binOp _ _ a x _ | .indexAddr _ a x | .index _ a x | .makeSlice _ a x=>d_ P a&&d_ P x
 | .build _ ps | .buildSlice _ _ ps=>ps.toList.all λp=>d_ P p.2
 | .slice _ x lo hi _=>d_ P x&&lo.all (d_ P)&&hi.all (d_ P)
 | .makeFunc (.func f) _ cs=>(P.funcs[f]?).any λfn=>fn.nfree == cs.size
 | .call c=>c.args.toList.all (d_ P)&&RD P c
 | _=>true
section
variable {P:Program} {C:Ctx} {A:Cells} {X:FP} {σ:St} {a:Act} {w:World} {F:Nat->FP} {R:Type} {x:R} {Q:Exit->Act->World->Prop} {o:Oper} {E:Env}
theorem Bv {α:Type} {l:Array α} {m:List α} (h:l.toList=m):l=m.toArray:=by grind
def yo (E:Env):Op->Bool
 | .move _ | .assign _ | .pick .. | .build .. | .load .. | .nilCheck _ | .binOp .. | .unOp .. | .fieldAddr .. | .field .. | .indexAddr .. | .index .. | .slice .. | .extract .. | .makeFunc ..=>true
 | .convert _ t _=>match E.TI t with
  | some T=>T.flat
  | none=>false
 | .call c=>match c.callee with
  | .builtin .len=>match c.argTypes.toList with
   | [t]=>!Yp (E.TI t)
   | _=>false
  | _=>false
 | _=>false
theorem Qn (hE:vk P E) (h:eo P C A σ a w F) {jm i:Nat} (dm:tN P o.op=true) (sF:yo E o.op=true) {K:St->Option R} (hk:t_ E jm i o σ K=some x):Tk P o a w (Nx P C K x):=by
 unfold t_ at hk
 cases ho:o.op with
 | move y=>rw[ho] at hk dm;exact YI h ho dm hk
 | assign y=>rw[ho] at hk dm;exact TO h ho dm hk
 | pick c y z=>
  grind [tN,YJ]
 | build t ps=>rw[ho] at hk dm;exact WA h hE.ti ho dm hk
 | load t y=>rw[ho] at hk dm;exact Wp h hE.ti ho dm hk
 | nilCheck y=>rw[ho] at hk dm;exact P9 h ho dm hk
 | binOp op t y z t2=>
  rw[ho] at hk dm;simp only[tN,aC] at dm;exact Wx h hE.ti hE.eq ho dm hk
 | unOp op t y=>
  rw[ho] at hk dm;refine YP h ho dm (K:=K) ?_;grind
 | convert s t y=>
  rw[ho] at hk dm sF;refine Rj h hE.ti ho dm (λT hT=>?_) hk;grind [yo]
 | fieldAddr t y j=>rw[ho] at hk dm;exact NX h hE.ti ho dm hk
 | field t y j=>rw[ho] at hk dm;exact Wu h hE.ti ho dm hk
 | indexAddr t y z=>
  rw[ho] at hk dm;simp only[tN,aC] at dm;exact NY h hE.ti ho dm hk
 | index t y z=>
  rw[ho] at hk dm;simp only[tN,aC] at dm;exact Wv h hE.ti ho dm hk
 | slice t y lo hi mx=>
  rw[ho] at hk dm
  cases mx with
  | none=>
   simp only[tN,aC] at dm;refine Ww h hE.ti ho ⟨dm.1.1,λz hz=>?_,λz hz=>?_⟩ hk
   all_goals grind
  | some m=>cases hk
 | extract y j=>
  grind [Rl]
 | makeFunc fn first cs=>
  rw[ho] at hk dm
  cases fn with
  | func f=>exact Qc h ho dm hk
  | _=>cases hk
 | call c=>
  rw[ho] at hk dm sF;simp only[tN,aC] at dm;obtain ⟨ny,hc⟩:=dm;obtain ⟨callee,args,ts⟩:=c
  cases callee with
  | builtin b=>
   cases b with
   | len=>
    simp only at hk;split at hk
    ·rename_i y t h1 h2;have e1:=Bv h1;have e2:=Bv h2
     subst e1;subst e2;simp only[eO,aC] at ny;simp only[yo,cB] at sF;rw[sF] at hk;exact aaN h hE.ti ho ny.1 hk
    ·cases hk
   | _=>grind [yo]
  | _=>grind [yo]
 | _=>grind [yo]
def quiet (E:Env):Op->Bool
 | .alloc _ | .box .. | .buildSlice .. | .makeSlice .. | .convert .. | .makeMap .. | .lookup ..=>true
 | .call c=>match c.callee with
  | .value (.func f)=>match E.G f with
   | some g=>zM g.ps
   | none=>false
  | _=>false
 | _=>false
theorem Y9 (hE:vk P E) (h:eo P C A σ a w F) {jm i:Nat} (dm:tN P o.op=true) (sF:yo E o.op=false) {K:St->Option R} (hk:t_ E jm i o σ K=some x) :
  o.wp P a w (λa' w'=>Nx P C K x a' w'/\(quiet E o.op=true->Ext w w' (λ_ _=>0))) Q:=by
 have wq:∀ {N:Act->World->Prop},o.wp P a w (λa' w'=>N a' w'/\Ext w w' (λ_ _=>0)) Q->o.wp P a w (λa' w'=>N a' w'/\(quiet E o.op=true->Ext w w' (λ_ _=>0))) Q:=λh=>Oper.wp_mono (λa' w' h=>⟨h.1,λ_=>h.2⟩) h;have wn:∀ {N:Act->World->Prop},quiet E o.op=false->o.wp P a w N Q->o.wp P a w (λa' w'=>N a' w'/\(quiet E o.op=true->Ext w w' (λ_ _=>0))) Q:=λhq h=>Oper.wp_mono (λa' w' h=>⟨h,λe=>by grind⟩) h;unfold t_ at hk
 cases ho:o.op with
 | alloc t=>rw[ho] at hk;rw[<-ho];exact wq (YS h hE.ti ho hk)
 | box t y=>rw[ho] at hk dm;rw[<-ho];exact wq (ada h ho dm hk)
 | buildSlice t n ps=>rw[ho] at hk dm;rw[<-ho];exact wq (N1 h hE.ti ho dm hk)
 | store t y z=>
  rw[ho] at hk dm;simp only[tN,aC] at dm;rw[<-ho];refine wn (by rw[ho];rfl) ?_
  cases hd:o.dst with
  | none=>rw[hd] at hk;exact Wr h hE.ti ho hd dm hk
  | some d=>grind
 | convert s t y=>rw[ho] at hk dm;rw[<-ho];exact wq (TN h hE.ti ho dm hk)
 | makeMap t rv=>
  rw[ho] at hk;rw[<-ho]
  cases rv with
  | none=>exact wq (TT h hE.ti ho hk)
  | some _=>cases hk
 | lookup t y z ok=>
  rw[ho] at hk dm;simp only[tN,aC] at dm;rw[<-ho];exact wq (TU h hE.ti ho dm hk)
 | mapUpdate t y z u=>
  rw[ho] at hk dm;simp only[tN,aC] at dm;rw[<-ho];refine wn (by rw[ho];rfl) ?_
  cases hd:o.dst with
  | none=>rw[hd] at hk;exact N5 h hE.ti ho hd ⟨dm.1.1,dm.1.2,dm.2⟩ hk
  | some d=>grind
 | makeSlice t y z=>
  rw[ho] at hk dm;simp only[tN,aC] at dm;rw[<-ho];exact wq (Qa h hE.ti ho dm hk)
 | call c=>
  rw[ho] at hk dm sF;simp only[tN,aC] at dm;obtain ⟨ny,hc⟩:=dm;obtain ⟨callee,args,ts⟩:=c;rw[<-ho]
  cases callee with
  | builtin b=>
   cases b with
   | len=>
    simp only at hk;split at hk
    ·rename_i y t h1 h2;have e1:=Bv h1;have e2:=Bv h2
     subst e1;subst e2;simp only[eO,aC] at ny;simp only[yo,Bool.not_eq_false'] at sF;rw[sF] at hk;exact wn (by rw[ho];rfl) (TV h hE.ti ho ny.1 hk)
    ·cases hk
   | append=>
    simp only at hk;split at hk
    ·rename_i y z t Bw h1 h2;have e1:=Bv h1;subst e1;simp only[RD] at hc;split at hc
     ·rename_i t0 tx h3;rw[h3] at h2;injection h2 with h2 h4;subst h2;have e2:=Bv h3;subst e2;simp only[eO,aC] at ny;exact wn (by rw[ho];rfl) (step_append h hE.ti ho ⟨ny.1,ny.2.1⟩ (MA hc) hk)
     ·cases hc
    ·cases hk
   | copy=>
    simp only at hk;split at hk
    ·rename_i y z t Bw h1 h2;have e1:=Bv h1;subst e1;simp only[RD] at hc;split at hc
     ·rename_i t0 tx h3;rw[h3] at h2;injection h2 with h2 h4;subst h2;have e2:=Bv h3;subst e2;simp only[eO,aC] at ny;exact wn (by rw[ho];rfl) (YX h hE.ti ho ⟨ny.1,ny.2.1⟩ (MA hc) hk)
     ·cases hc
    ·cases hk
   | _=>cases hk
  | value y=>
   cases y with
   | func f=>
    simp only at hk;split at hk
    ·rename_i g hg;split at hk
     ·rename_i oc;obtain ⟨h1,h2⟩:=hE.fn f g hg;rw[oc] at h2;refine Oper.wp_mono (λa' w' h=>⟨h.1,λe=>h.2 ?_⟩) (TQ h ho ny h1 h2 hk);grind [quiet]
     ·cases hk
    ·cases hk
   | tmp i=>
    refine wn (by rw[ho];rfl) ?_;simp only at hk;split at hk
    ·rename_i f n oH;split at hk
     ·rename_i g hg;obtain ⟨h1,h2⟩:=hE.fn f g hg;refine Oper.wp_mono (λa' w' h=>h.1) (TR h ho ny oH h1 h2 (K:=K) (x:=x) ?_);grind
     ·cases hk
    ·cases hk
   | _=>cases hk
  | _=>cases hk
 | _=>grind [yo]
theorem adk (hE:vk P E) (h:eo P C A σ a w F) {jm i:Nat} (dm:tN P o.op=true) {K:St->Option R} (hk:t_ E jm i o σ K=some x):o.wp P a w (Nx P C K x) Q:=by
 cases sF:yo E o.op with
 | true=>exact (Qn hE h dm sF hk).wp
 | false=>grind [Oper.wp_mono,Y9]
end
noncomputable def WK (e:Ty):Operand->Option e.den
 | .const v=>match vO v with
  | .val t y=>if h:t=e then some (h ▸ y) else none
  | _=>none
 | _=>none
noncomputable def Gj (e:Ty):List (Nat×Operand)->Nat->Option (List e.den)
 | [],_=>some []
 | (j,x)::ps,n=>if Nat.beq j n then (match WK e x,Gj e ps (n+1) with
  | some y,some ys=>some (y::ys)
  | _,_=>none) else none
noncomputable def Bx (E:Env):Op->Option Slot
 | .alloc t=>match E.TI t with
  | some T=>if T.yf then some (.box T (ai T) [] T.zero) else none
  | none=>none
 | .buildSlice t n ps=>match E.TI t with
  | some (.aa e)=>if Nat.beq n ps.size&&e.yf&&Nat.ble (n*e.sz) 16777216&&(Nat.beq n 0||decide (ah e=ai e)) then (Gj e ps.toList 0).map λvs=>.own (.aa e) (.aa true (ai e)) [] vs else none
  | _=>none
 | _=>none
section
variable {P:Program} {C:Ctx} {A:Cells} {X:FP} {σ:St} {a:Act} {w:World} {F:Nat->FP} {R:Type} {x:R} {Q:Exit->Act->World->Prop} {o:Oper} {E:Env}
theorem O3 {e:Ty} {y:Operand} {v:e.den} (h:WK e y=some v):∃ c,y=.const c/\vO c=.val e v:=by
 unfold WK at h;grind
theorem O4 {e:Ty} {j n:Nat} {y:Operand} {ps:List (Nat×Operand)} {vs:List e.den} (h:Gj e ((j,y)::ps) n=some vs):j=n/\∃ v ys,WK e y=some v/\Gj e ps (n+1)=some ys/\vs=v::ys:=by
 grind [Gj,Nat.eq_of_beq_eq_true]
theorem RF {e:Ty} {fz:Nat->Bool} {m:Md} {K:Md->List e.den->St->Option R}:∀ (ps:List (Nat×Operand)) {n:Nat} {vs acc:List e.den},(ps=[]\/ah e=m)->Gj e ps n=some vs->HR σ e fz ps n m acc K=K m (acc++vs) σ
 | [],n,vs,acc,_,h=>by
  injection h with h;rw[<-h,cZ];rfl
 | (j,y)::ps,n,vs,acc,hm,h=>by
  obtain ⟨hj,v,ys,h1,h2,rfl⟩:=O4 h;obtain ⟨c,rfl,hc⟩:=O3 h1;have hm:ah e=m:=hm.resolve_left (by simp);have:=RF (fz:=fz) (m:=m) (K:=K) (acc:=acc++[v]) ps (.inr hm) h2;simp only[HR];rw[hj,gY,aH rfl];show nZ σ (vO c) _ e _=_;grind [nZ,kT]
theorem Vc (h:Rel P C A X σ a w F) {e:Ty}:∀ (ps:List (Nat×Operand)) {n:Nat} {L Z:List Value} {vs:List e.den},L.length=n*e.sz->Z.length=ps.length*e.sz->Gj e ps n=some vs ->
  ∃ L':List Value,vs.length=ps.length/\L'.length=ps.length*e.sz/\(∀ (i:Nat) (y:e.den),vs[i]?=some y->Ro P w A e y ((L'.drop (i*e.sz)).take e.sz))/\Instr.fill (λi=>some (i*e.sz,e.sz)) (L++Z).toArray (ps.map λp=>(p.1,a.eval p.2))=some (L++L').toArray
 | [],n,L,Z,vs,hL,hZ,hc=>by
  injection hc with hc;grind [Instr.fill]
 | (j,y)::ps,n,L,Z,vs,hL,hZ,hc=>by
  obtain ⟨hj,v,ys,h1,h2,rfl⟩:=O4 hc;subst hj;obtain ⟨c,rfl,pP⟩:=O3 h1;have hs:=gk (P:=P) h (o:=.const c) rfl;have ho:eg σ (.const c)=.val e v:=pP;rw[ho] at hs
  rcases hs with ⟨cs,k1,k2⟩ | ⟨xs,e'⟩
  rotate_left
  ·cases e'
  have zd:=Ro.length _ k2;have hZ1:Z.length=e.sz+ps.length*e.sz:=by grind
  obtain ⟨L',g1,g2,g3,g4⟩:=Vc h ps (n:=j+1) (L:=L++cs) (Z:=Z.drop e.sz) (by grind) (by grind) h2;refine ⟨cs++L',by simp[g1],by grind,λi z hz=>?_,?_⟩
  ·cases i with
   | zero=>
    grind
   | succ i=>
    have hz:ys[i]?=some z:=by simpa using hz
    rw[eP,Nat.add_comm,<- zd,List.drop_length_add_append,zd];grind
  ·rw[dW,k1,D5 (pl:=λi=>some (i*e.sz,e.sz)) rfl zd (mq zd (Ro.one _ k2)) (by simp[hL,hZ1])];grind [List.drop_length_add_append]
theorem aaV {s:Slot} (hs:Bx E o.op=some s) {jm i:Nat} {K:St->Option R}:t_ E jm i o σ K=K (σ.cq o.dst s):=by
 unfold Bx at hs;split at hs
 ·grind [t_,so]
 ·rename_i t n ps ho;unfold t_;simp only[ho];split at hs
  ·rename_i e hT;simp only[so,hT];split at hs
   ·rename_i hc;simp only[aC,cN,bE] at hc;obtain ⟨⟨⟨h1,h2⟩,h3⟩,h4⟩:=hc;rw[h1,h2,h3];obtain ⟨vs,hv,hs⟩:=fH.1 hs;simp_all [RF]
   ·cases hs
  ·cases hs
 ·cases hs
theorem Y_ {N:Act->World->Prop} (hh:o.wp P a w N Q):o.wp P a w (λa' w'=>(∀ d,o.dst≠some d->tmp a' d=tmp a d)/\N a' w') Q:=by
 have key:∀ (a0:Act) v,a0.tmps=a.tmps->∀ d,o.dst≠some d->tmp (a0.put o.dst v) d=tmp a d:=λa0 v h0 d hd=>by
  unfold tmp Act.put;cases ho:o.dst <;> simp_all
 unfold Oper.wp at *;generalize (execOp a.eval o).run P w=r at *;simp_all [Oper.upon]
theorem O5 {d:Nat} (h:NR σ d=true):d < σ.n/\σ.get d=.dead/\(∀ k,(d,k,false) ∉ σ.az)/\∀ r p snap,(d,r,p,snap) ∉ σ.gh:=by
 unfold NR at h;simp only[aC,cB,Nat.blt_eq] at h;obtain ⟨⟨⟨h1,h2⟩,h3⟩,h4⟩:=h;refine ⟨h1,?_,λk hm=>?_,λr p snap hm=>?_⟩
 ·grind
 ·revert h3 hm
  generalize σ.az=l
  induction l with
  | nil=>grind
  | cons e l ih=>
   obtain ⟨k1,n1,b1⟩:=e;simp_all [FN]
 ·rw[List.any_eq_false] at h4;exact h4 _ hm (by simp)
theorem Rel.tmp (h:Rel P C A X σ a w F) {d:Nat} (hp:NR σ d=true) (v:Value):Rel P C A X σ (a.put (some d) v) w F:=by
 obtain ⟨hd,hg,hl,hgh⟩:=O5 hp;have oO:=h.size
 have ht:∀ i,i≠d->OT.tmp (a.put (some d) v) i=OT.tmp a i:=λi hi=>by
  grind [ql]
 have i9:∀ r p,place σ (a.put (some d) v) w r p=place σ a w r p:=λr p=>by
  unfold place;by_cases hr:r=d
  ·subst hr;rw[hg];rfl
  ·rw[ht r hr]
 have pH:Az σ a w σ (a.put (some d) v) w:=λr p snap hb=>⟨hb,λa_=>⟨a_,λ_ pl hp=>⟨pl.H,pl.cs,by simp_all,λ_=>rfl⟩⟩⟩
 refine { h with size:=by simp[Act.put,oO],defers:=by simpa [Act.put] using h.defers,jz:=λi hi=>?_,gh:=λd' r p snap hm=>?_,qA:=λj k hm=>?_,whole:=λr t m H v' hr hk=>?_,pp:=λj k hm R hR=>?_ }
 ·by_cases Vd:i=d
  ·subst Vd;rw[hg];trivial
  ·rw[ht i Vd];exact dn.oL pH (λ_ _ h=>h) (λ_ _ _ _ h=>h) (λ_ _ h=>h) (λ_ _ _=>⟨λ_ h=>h,rfl⟩) (h.jz i hi)
 ·rw[ht d' (λe=>by grind)];exact tL.oL pH (h.gh d' r p snap hm)
 ·rw[ht j (λe=>by grind)];exact h.qA j k hm
 ·rw[ht r (λe=>by grind)];exact h.whole r t m H v' hr hk
 ·have:j≠d:=λe=>by subst e;rw[hg] at hR;cases hR
  rw[ht j this] at hR;exact h.pp j k hm R hR
def PS (P:Program) (A:Cells) (w:World) (tv:Value):Slot->FP->Prop
 | .own t m H v,F=>∃ cs,tv=dj t cs/\am P w A t m H v cs F
 | .box t m H v,F=>∃ b L F1,tv=.pointer (some ⟨b,0,none⟩)/\L.length=t.sz/\Has w b 0 L/\(∀ j,j < t.sz->w.frozen? ⟨b,j,none⟩=false) /\
   (∀ x i,d8 b 0 t.sz x i+F1 x i<=F x i)/\am P w A t m H v L F1/\jR w b (t.sz,false)
 | _,_=>False
theorem PS.slot {tv:Value} {s:Slot} {G:FP} (h:PS P A w tv s G):dn P A σ a w tv s G:=by
 cases s with
 | own t m H v=>exact h
 | box t m H v=>
  obtain ⟨b,L,F1,h1,h2,h3,h4,h5,h6,h7⟩:=h;exact ⟨b,0,L,F1,h1,h2,h3,λj hj=>by grind,h5,h6⟩
 | _=>exact h.elim
theorem PS.whole {tv:Value} {s:Slot} {G:FP} (h:PS P A w tv s G):∀ t m H v',s=.box t m H v'->∃ b,tv=.pointer (some ⟨b,0,none⟩)/\jR w b (t.sz,false):=by
 rintro t m H v rfl;obtain ⟨b,L,F1,h1,h2,h3,h4,h5,h6,h7⟩:=h;grind
theorem PS.oL {A':Cells} {w':World} {tv:Value} {s:Slot} {G:FP} (hA:∀ b i,A b i->A' b i) (hc:∀ b i,A b i->∀ u,ce w b i=some u->ce w' b i=some u) (hb:∀ b n,jR w b n->jR w' b n)
  (hF:∀ b i,1<=G b i->(∀ u,ce w b i=some u->ce w' b i=some u)/\w'.frozen? ⟨b,i,none⟩=w.frozen? ⟨b,i,none⟩) (h:PS P A w tv s G):PS P A' w' tv s G:=by
 cases s with
 | own t m H v=>obtain ⟨cs,h1,h2⟩:=h;exact ⟨cs,h1,am.mono hA hc hb t h2 (λ_ _=>aG _) (λb i hp=>(hF b i hp).1)⟩
 | box t m H v=>
  obtain ⟨b,L,F1,h1,h2,h3,h4,h5,h6,h7⟩:=h
  have hr:∀ j,j < t.sz->1<=G b j:=λj hj=>by
   grind [d8]
  exact ⟨b,L,F1,h1,h2,λj u hu=>(hF _ _ (by grind)).1 u (h3 j u hu),λj hj=>by grind,h5,
   am.mono hA hc hb t h6 (λ_ _=>aG _) (λb i hp=>(hF b i (by grind)).1),hb _ _ h7⟩
 | _=>exact h.elim
def PF (P:Program) (E:Env) (ops:Array Oper) (A:Cells) (a:Act) (w:World):List Nat->FP->Prop
 | [],_=>True
 | j::D,X=>∃ (o:Oper) (d:Nat) (s:Slot) (Fj X':FP),ops[j]?=some o/\o.dst=some d/\Bx E o.op=some s/\PS P A w (tmp a d) s Fj/\(∀ b i,X' b i+Fj b i<=X b i)/\PF P E ops A a w D X'
theorem PF.oL {ops:Array Oper} {A':Cells} {a':Act} {w':World} (hA:∀ b i,A b i->A' b i) (hc:∀ b i,A b i->∀ u,ce w b i=some u->ce w' b i=some u) (hb:∀ b n,jR w b n->jR w' b n) :
  ∀ (D:List Nat) {X:FP},(∀ j ∈ D,∀ o d,ops[j]?=some o->o.dst=some d->tmp a' d=tmp a d)->(∀ b i,1<=X b i->(∀ u,ce w b i=some u->ce w' b i=some u)/\w'.frozen? ⟨b,i,none⟩=w.frozen? ⟨b,i,none⟩) ->
   PF P E ops A a w D X->PF P E ops A' a' w' D X
 | [],_,_,_,_=>trivial
 | j::D,X,ht,hF,h=>by
  obtain ⟨o,d,s,Fj,X',h1,h2,h3,h4,h5,h6⟩:=h
  exact ⟨o,d,s,Fj,X',h1,h2,h3,by
   rw[ht j (by simp) o d h1 h2]
   exact PS.oL hA hc hb (λb i hp=>hF b i (by have:=h5 b i;omega)) h4,h5,PF.oL hA hc hb D (λk hk=>ht k (by simp[hk])) (λb i hp=>hF b i (by have:=h5 b i;omega)) h6⟩
theorem PF.grow {ops:Array Oper}:∀ (D:List Nat) {X X1:FP},(∀ b i,X b i<=X1 b i)->PF P E ops A a w D X->PF P E ops A a w D X1
 | [],_,_,_,_=>trivial
 | j::D,X,X1,hx,h=>by
  obtain ⟨o,d,s,Fj,X',h1,h2,h3,h4,h5,h6⟩:=h;exact ⟨o,d,s,Fj,X',h1,h2,h3,h4,λb i=>bB (h5 b i) (hx b i),h6⟩
theorem PF.take {ops:Array Oper} {j:Nat}:∀ (D:List Nat) {X:FP},j ∈ D->PF P E ops A a w D X ->
  ∃ (o:Oper) (d:Nat) (s:Slot) (Fj X':FP),ops[j]?=some o/\o.dst=some d/\Bx E o.op=some s/\PS P A w (tmp a d) s Fj/\(∀ b i,X' b i+Fj b i<=X b i)/\PF P E ops A a w (D.erase j) X'
 | [],_,hj,_=>by cases hj
 | k::D,X,hj,h=>by
  by_cases D9:k=j
  ·subst D9;rw[List.erase_cons_head];exact h
  ·have Cd:j ∈ D:=by
    rcases aZ.1 hj with e | e
    ·exact absurd e.symm D9
    ·exact e
   obtain ⟨o,d,s,Fk,X1,h1,h2,h3,h4,h5,h6⟩:=h;obtain ⟨o',d',s',Fj,X2,g1,g2,g3,g4,g5,g6⟩:=PF.take D Cd h6;rw[List.erase_cons_tail (by simpa using D9)];exact ⟨o',d',s',Fj,λb i=>X2 b i+Fk b i,g1,g2,g3,g4,λb i=>by have:=g5 b i;have:=h5 b i;show X2 b i+Fk b i+Fj b i<=X b i;omega,o,d,s,Fk,X2,h1,h2,h3,h4,λb i=>aG _,g6⟩
theorem aaW (h:Rel P C A X σ a w F) (mY:∀ i T,E.TI i=some T->bn P T (.inl i)=true) {s:Slot} (hs:Bx E o.op=some s) {d:Nat} (hp:NR σ d=true) :
  ∃ (v:Value) (w':World) (Fj:FP),(execOp a.eval o).run P w=.ok (.value v) w'/\Ext w w' (λ_ _=>0)/\Rel P C A (λb i=>X b i+Fj b i) σ (a.put (some d) v) w' F/\PS P A w' v s Fj:=by
 unfold Bx at hs;split at hs
 ·rename_i t ho;split at hs
  ·rename_i T hT;split at hs
   ·rename_i Kb;injection hs with hs;subst hs;have kt:=mY _ _ hT;obtain ⟨L,hL⟩:=vW T Kb;obtain ⟨z,Ri,Mn⟩:=BW (P:=P) (w:=w) kt hL;obtain ⟨r1,r2,r3⟩:=Co (P:=P) (w:=w) (A:=A) T hL kt;have hc:z.cells=L.toArray:=by grind
    have h1:=h.alloc L.toArray t (0,0);have jS:=D4 w L.toArray t (0,0) false (.inr (aG _));have O6:L.length=T.sz:=am.length T r1;simp only[iG,O6] at jS h1;have xl:=am.alloc h r1 (λb i hp=>by simp at hp) (qn w (.cells L.toArray t));refine ⟨.pointer (some ⟨w.heap.size,0,none⟩),w.alloc (.cells L.toArray t),d8 w.heap.size 0 T.sz,?_,qn w _,h1.tmp hp _,w.heap.size,L,(λ_ _=>0),rfl,O6,Bq w L.toArray t (0,0) (λj u hu=>by simpa using hu) (am.one _ r1),λj hj=>jS.frozen hj,λ_ _=>aG _,xl,jS⟩
    simp_all [execOp,Instr.alloc,newVar,newRow]
   ·cases hs
  ·cases hs
 ·rename_i t n ps ho;split at hs
  ·rename_i e hT;split at hs
   ·rename_i hc;obtain ⟨vs,hv,hs⟩:=fH.1 hs;subst hs;simp only[aC,cN,bE,eW,dK] at hc;obtain ⟨⟨⟨hn,hz⟩,oc⟩,h4⟩:=hc;have hl:=mY _ _ hT;simp only[bn,aC] at hl;have h2:=hl.2;split at h2
    ·rename_i el hu;simp only[aC,dK] at h2;obtain ⟨oO,uj⟩:=h2;obtain ⟨Lz,YW⟩:=vW e hz;obtain ⟨r1,r2,r3⟩:=Co (P:=P) (w:=w) (A:=A) _ YW uj;obtain ⟨inf,i1,i2,i3,i4⟩:=mI (nI uj);obtain ⟨z,z1,z2⟩:=i4 Lz YW;have hzl:z.cells.size=e.sz:=by grind
     have vA:ps.toList.length=n:=by simpa using hn.symm
     obtain ⟨L',g1,g2,g3,g4⟩:=Vc h ps.toList (n:=0) (L:=[]) (Z:=((Array.range (n*e.sz)).map (z.cells[· % z.cells.size]!)).toList) (by simp) (by simp[hn]) hv;simp only[cJ,Array.toArray_toList] at g4;rw[vA] at g1 g2
     have lW:(execOp a.eval o).run P w=.ok (.value (.slice (some ⟨w.heap.size,0,none⟩) n n)) (w.alloc (.cells L'.toArray el)):=by
      by_cases HA:n*e.sz=0
      ·have:n=0:=by rcases Nat.mul_eq_zero.1 HA with h | h <;> omega
       subst this;have zH:ps=#[]:=by grind
       subst zH;have UT:L'=[]:=by simpa using g2
       subst UT;simp[execOp,ho,Instr.buildSlice,run_underlying hu,Go.sizeOf,typeInfo,i1,Instr.fill,newRow,show Array.range 0=#[] from rfl]
      simp_all [run_buildSlice,execOp]
     have Ia:=h.alloc L'.toArray el (0,0);have jS:=D4 w L'.toArray el (0,0) (KO e) (.inr (aG _));have hLs:L'.toArray.size=n*e.sz:=by simpa using g2
     rw[hLs] at jS Ia;have K1:n<=maxLen:=by simp only[maxLen];have:=Nat.le_mul_of_pos_right n oO;omega
     refine ⟨_,_,λb i=>d8 w.heap.size 0 (n*e.sz) b i+bh n (λ_ _ _=>0) b i,lW,qn w _,?_,?_⟩
     ·refine (Ia.less (λb i=>?_)).tmp hp _;simp[oB]
     ·refine ⟨_,(ep (.aa e) _ rfl).symm,?_⟩
      simp only[am,hole,bU,aF,aU,Md.own,aL,Md.e];refine ⟨_,n,by rw[g1],by grind,K1,(λe=>by cases e),λad lI=>?_⟩
      injection lI with lI;subst lI;refine ⟨rfl,rfl,jS,λ_ _ _=>0,λb i=>by grind,λi y hy=>?_⟩
      have hi:=(aO.1 hy).1;have yh:=g3 i y hy;have hm:ah e=ai e:=h4.resolve_left Bys;refine ⟨_,Ro.length _ yh,Bq w L'.toArray el (0,0) (λj u hu=>?_) (Ro.one _ yh),?_⟩
      all_goals grind [am.alloc,Ro.rep,jh,qn]
    ·cases h2
   ·cases hs
  ·cases hs
 ·cases hs
theorem Rel.adl (h:Rel P C A X σ a w F):∃ C':Ctx,C'.w0=w/\C'.A0=A/\(∀ b i,A b i->C'.F0 b i=0)/\Rel P C' A X σ a w F/\(∀ {A2:Cells} {X2:FP} {n_:St} {a2:Act} {w2:World} {F2:Nat->FP},Rel P C' A2 X2 n_ a2 w2 F2->Rel P C A2 X2 n_ a2 w2 F2):=by
 refine ⟨⟨w,A,λb i=>X b i+bh σ.n F b i,C.args⟩,rfl,rfl,λb i ha=>?_,?_,λ{A2 X2 n_ a2 w2 F2} h2=>?_⟩
 ·show X b i+bh σ.n F b i=0;rcases bK (X b i+bh σ.n F b i) with h0 | h0
  ·exact h0
  ·exact absurd ha (h.sr b i h0)
 ·exact { h with ext:=Ext.refl _ _,own:=λb i hp=>.inl hp,a0:=λ_ _ h=>h,a1:=λ_ _ h=>.inl h,qA:=h.qA,pp:=h.pp,zy:=h.F8 λb i hp=>hp }
 ·have oO:C.w0.heap.size<=w.heap.size:=h.ext.size;refine { h2 with ext:=h.ext.trans h2.ext (λb i hb hz=>?_),own:=λb i hp=>?_,a0:=λb i ha=>h2.a0 b i (h.a0 b i ha),a1:=λb i ha=>?_,qA:=h2.qA,pp:=h2.pp,zy:=h.zy }
  ·show X b i+bh σ.n F b i=0;rcases bK (X b i+bh σ.n F b i) with h0 | h0
   ·exact h0
   ·rcases h.own b i h0 with h1 | h1 <;> omega
  ·rcases h2.own b i hp with h1 | h1
   ·exact h.own b i h1
   grind
  ·rcases h2.a1 b i ha with h1 | h1 | h1
   ·exact h.a1 b i h1
   ·exact .inr (h.own b i h1)
   grind
theorem Rel.frame (h:Rel P C A X σ a w F):∃ C1:Ctx,eo P C1 A σ a w F/\∀ {A2:Cells} {n_:St} {a2:Act} {w2:World} {F2:Nat->FP},eo P C1 A2 n_ a2 w2 F2->Rel P C A2 X n_ a2 w2 F2 /\
  (∀ b i,A b i->A2 b i)/\(∀ b i,A b i->∀ u,ce w b i=some u->ce w2 b i=some u)/\(∀ b n,jR w b n->jR w2 b n)/\(∀ b i,1<=X b i->(∀ u,ce w b i=some u->ce w2 b i=some u)/\w2.frozen? ⟨b,i,none⟩=w.frozen? ⟨b,i,none⟩):=by
 have hX0:∀ b i,1<=X b i->bh σ.n F b i=0:=λb i hp=>by have:=h.ry b i;omega
 have hXb:∀ b i,1<=X b i->b < w.heap.size:=λb i hp=>h.mr b i (.inl Bys);refine ⟨⟨w,A,bh σ.n F,C.args⟩,?_,λ{A2 n_ a2 w2 F2} h2=>⟨?_,h2.a0,λb i ha u hu=>?_,h2.ext.y0,λb i hp=>⟨λu hu=>h2.ext.cell b i (hXb b i hp) (hX0 b i hp) u hu,h2.ext.BU b i (hXb b i hp)⟩⟩⟩
 ·exact { h with
   ry:=λb i=>by have:=h.ry b i;grind
   sr:=λb i hp=>h.sr b i (by grind)
   mr:=λb i hp=>h.mr b i (hp.imp (λhp=>by grind) id)
   ext:=Ext.refl _ _
   own:=λb i hp=>.inl (by grind)
   a0:=λ_ _ h=>h,a1:=λ_ _ h=>.inl h,qA:=h.qA,pp:=h.pp,zy:=h.F8 λb i hp=>by grind }
 ·have oO:C.w0.heap.size<=w.heap.size:=h.ext.size
  have yk:∀ b i,1<=X b i->bh n_.n F2 b i=0:=λb i hp=>by
   rcases bK (bh n_.n F2 b i) with h0 | h0
   ·exact h0
   ·rcases h2.own b i (by grind) with h1 | h1
    all_goals grind
  have jS:∀ b i,1<=bh σ.n F b i->1<=C.F0 b i\/C.w0.heap.size<=b:=λb i hp=>h.own b i Bys;refine { h2 with ry:=λb i=>?_,sr:=λb i hp=>?_,mr:=λb i hp=>?_,ext:=h.ext.trans h2.ext (λb i hb hz=>?_),own:=λb i hp=>?_,a0:=λb i ha=>h2.a0 b i (h.a0 b i ha),a1:=λb i ha=>?_,qA:=h2.qA,pp:=h2.pp,zy:=h.zy }
  ·have h1:0+bh n_.n F2 b i<=1:=h2.ry b i;have:=yk b i;have:=h.ry b i;omega
  ·by_cases hx:1<=X b i
   ·intro ha;rcases h2.a1 b i ha with h1 | h1 | h1
    ·exact h.sr b i Bys h1
    all_goals grind
   ·exact h2.sr b i (by grind)
  ·by_cases hx:1<=X b i
   ·exact dA (hXb b i hx) h2.ext.size
   ·exact h2.mr b i (hp.imp (λhp=>by grind) id)
  ·grind
  ·by_cases hx:1<=X b i
   ·exact h.own b i Bys
   ·rcases h2.own b i (by grind) with h1 | h1
    all_goals grind
  ·rcases h2.a1 b i ha with h1 | h1 | h1
   ·exact h.a1 b i h1
   all_goals grind
 ·refine h2.ext.cell b i (yC hu) ?_ u hu;show bh σ.n F b i=0;rcases bK (bh σ.n F b i) with h0 | h0
  ·exact h0
  ·exact absurd ha (h.sr b i Bys)
end
section
variable {P:Program} {C:Ctx} {A:Cells} {X:FP} {σ:St} {a:Act} {w:World} {F:Nat->FP} {R:Type} {x:R} {Q:Exit->Act->World->Prop} {o:Oper} {E:Env}
theorem Rel.congr (h:Rel P C A X σ a w F) {σ':St} (hn:σ'.n=σ.n) (hg:∀ i,σ'.get i=σ.get i) (hv:∀ i,σ'.mF i=σ.mF i) (hl:∀ e,e ∈ σ'.az↔e ∈ σ.az) (hgh:∀ e,e ∈ σ'.gh->e ∈ σ.gh):Rel P C A X σ' a w F:=by
 have pH:Az σ a w σ' a w:=λr p snap hb=>⟨by rw[hv];exact hb,λa_=>by
  unfold St.ok at a_ ⊢;rw[hv] at a_
  exact ⟨a_,λ_ pl i9=>⟨pl.H,pl.cs,by unfold place at i9 ⊢;rw[hg];exact i9,λ_=>rfl⟩⟩⟩
 refine ⟨by rw[hn];exact h.size,h.defers,λi hi=>?_,λd r p snap hm=>tL.oL pH (h.gh d r p snap (hgh _ hm)),λb i=>by rw[hn];exact h.ry b i,λb i hp=>by rw[hn] at hp;exact h.sr b i hp,λb i hp=>by rw[hn] at hp;exact h.mr b i hp,
  λi=>by rw[hv];exact h.nF i,h.ext,λb i hp=>by rw[hn] at hp;exact h.own b i hp,h.a0,h.a1,λj k hm=>h.qA j k ((hl _).1 hm),λr t m H v hr hk=>?_,λj k hm R hR=>?_,h.zy⟩
 ·rw[hg];exact dn.oL pH (λ_ _ h=>h) (λ_ _ _ _ h=>h) (λ_ _ h=>h) (λ_ _ _=>⟨λ_ h=>h,rfl⟩) (h.jz i (by rw[<-hn];exact hi))
 ·rw[hg] at hr;exact h.whole r t m H v hr λk hm=>hk k ((hl _).2 hm)
 ·rw[hg] at hR;exact h.pp j k ((hl _).1 hm) R hR
theorem Rel.same (h:Rel P C A X σ a w F) {t:Nat} {s:Slot} (hs:σ.get t=s):Rel P C A X (σ.nx t s) a w F:=
 h.congr rfl (λi=>by
  rw[JH];split
  ·rename_i hc;rw[<-hs,hc.1]
  ·rfl) (λi=>rfl) (λe=>iH) (λe he=>he)
theorem RG (h:Rel P C A X σ a w F) {ops:Array Oper} {o:Oper} {K:Bool->St->Option R} (hk:HS ops.toList σ o.guard K=some x):∃ (b:Bool) (σ':St),K b σ'=some x/\Rel P C A X σ' a w F/\Region.wanted o (yielded ops a.tmps)=b:=by
 unfold HS at hk;split at hk
 ·rename_i hg;exact ⟨true,σ,hk,h,by simp[Region.wanted,hg]⟩
 ·rename_i j want hg;split at hk
  ·cases hk
  ·rename_i t ht;rw[dV] at ht
   have hy:∀ v,tmp a t=v->t < σ.n->yielded ops a.tmps j=match v with | .bool b=>some b | _=>none:=λv hv D3=>by
    have bc:t < a.tmps.size:=by rw[h.size];exact D3
    unfold yielded;rw[ht];have:a.tmps[t]?=some v:=by rw[iD bc,<- hv];simp[tmp,bc]
    simp only[aA,this];cases v <;> rfl
   have bc:∀ s,σ.get t=s->s≠.dead->t < σ.n:=λs hs i7=>by
    rcases cR t σ.n with hi | hi
    ·exact hi
    ·rw[nQ (fT.2 hi)] at hs;exact absurd hs.symm i7
   split at hk
   ·rename_i b RH;have D3:=bc _ RH (by intro e;cases e);have hs:=h.jz t D3;rw[RH] at hs;have hv:=Rg hs;have Ve:=hy _ hv D3;simp only at Ve
    cases b with
    | true=>exact ⟨_,_,hk,Rel.same h RH,by simp only[Region.wanted,hg,Ve];cases want <;> rfl⟩
    | false=>exact ⟨_,_,hk,Rel.same h RH,by simp only[Region.wanted,hg,Ve];cases want <;> rfl⟩
   ·rename_i RH;have D3:=bc _ RH (by intro e;cases e);have hs:=h.jz t D3;rw[RH] at hs;obtain ⟨vs,Fi,h1,_⟩:=hs;have Ve:=hy _ h1 D3;simp only at Ve;exact ⟨false,σ,hk,h,by simp only[Region.wanted,hg,Ve];cases want <;> rfl⟩
   ·cases hk
theorem N6 (h:Rel P C A X σ a w F) (o:Oper):∃ F',Rel P C A X (σ.cq o.dst (.ug [])) (a.put o.dst undef) w F':=
 h.cq o.dst (s:=.ug []) (v:=undef) (Fd:=λ_ _=>0) (X':=X) ⟨#[],λ_ _ _=>0,rfl,λb i=>by simp[bh],λj y hy=>by cases hy⟩ (λb i=>aG _) (λ_ _ _ _ e=>by cases e)
theorem aeB (hE:vk P E) {jm:Nat} {ops:Array Oper} (dm:∀ o ∈ ops.toList,tN P o.op=true) {K:St->Option R} (hQ:∀ a w,Nx P C K x a w->Q .normal a w) :
  ∀ (rest:List Oper) (i:Nat) {σ:St} {A:Cells} {a:Act} {w:World} {F:Nat->FP},ops.toList.drop i=rest->eo P C A σ a w F->NQ E jm ops.toList rest i σ K=some x->wpOps P ops Q (List.range' i rest.length) a w:=by
 intro rest
 induction rest with
 | nil=>intro i σ A a w F hd h hk;exact hQ a w ⟨σ,hk,A,F,h⟩
 | cons o rest ih=>
  intro i σ A a w F hd h hk
  have hi:ops[i]?=some o:=by
   have:(ops.toList.drop i)[0]?=some o:=by rw[hd];rfl
   rw[bP] at this
   simpa using this
  have vw:ops.toList.drop (i+1)=rest:=by rw[<-dF,hd];rfl
  have BX:o ∈ ops.toList:=bT (i:=i) (by simpa using hi);simp only[NQ] at hk;obtain ⟨b,qH,hk,h1,hw⟩:=RG h hk;show wpOps P ops Q (i::List.range' (i+1) rest.length) a w;simp only[wpOps,hi,hw]
  cases b with
  | true=>
   simp only[aL];refine .inl (Oper.wp_mono (λa' w' hn=>?_) (adk hE h1 (dm o BX) hk));obtain ⟨n_,oC,A2,F2,h2⟩:=hn;exact ih (i+1) vw h2 oC
  | false=>
   simp only[aF,aU];obtain ⟨F2,h2⟩:=N6 h1 o;exact ih (i+1) vw h2 hk
theorem Za (hE:vk P E) {jm id:Nat} {ops:Array Oper} (dm:∀ o ∈ ops.toList,tN P o.op=true) (h:eo P C A σ a w F) {K:St->Option R} (hk:NQ E jm ops.toList ops.toList 0 σ K=some x) (hQ:∀ a w,Nx P C K x a w->Q .normal a w) :
  (Code.region id ops false).wp P Q a w:=by
 refine wp_region ?_;have:=aeB hE dm hQ ops.toList 0 (by simp) h hk
 simpa [fO] using this
def xt (P:Program) (md:Region.Mode) (ops:Array Oper) (Q:Exit->Act->World->Prop) (S:Array Bool->World->Prop):Nat->Array Bool->Act->World->Prop
 | 0,mT,a,w=>Region.ready md ops mT=[]/\Q .normal a w
 | fuel+1,mT,a,w=>
  (Region.ready md ops mT=[]->Q .normal a w) /\
  ∀ i ∈ Region.ready md ops mT,wpOp P ops Q i (λa' w'=>S (mT.setIfInBounds i true) w'/\xt P md ops Q S fuel (mT.setIfInBounds i true) a' w') a w
theorem MB {md:Region.Mode} {ops:Array Oper} {S:Array Bool->World->Prop}:∀ (fuel:Nat) (mT:Array Bool) (a:Act) (w:World),xt P md ops Q S fuel mT a w->wpAny P md ops Q fuel mT a w
 | 0,_,_,_,h=>h
 | fuel+1,_,_,_,h=>⟨h.1,λi hi=>wpOp_mono (λa' w' h'=>MB fuel _ a' w' h'.2) (h.2 i hi)⟩
def Fh (md:Region.Mode) (ops:Array Oper) (l:Array Bool):Prop:=∀ j o,ops[j]?=some o->l.getD j false=true->∀ e ∈ o.after,Region.binds md e=true->l.getD e.on false=true
theorem Gk {md:Region.Mode} {ops:Array Oper} {l:Array Bool} (h:Fh md ops l) {j:Nat} (hj:j ∈ Region.ready md ops l):Fh md ops (l.setIfInBounds j true):=by
 obtain ⟨_,oj,MC,st⟩:=mem_ready.1 hj;intro k o hk hl e he hb;by_cases D9:j=k
 ·subst D9;rw[MC] at hk;injection hk with hk;subst hk;exact getD_set_true (st e he hb)
 ·rw[getD_set_ne false D9] at hl;exact getD_set_true (h k o hk hl e he hb)
def SU (md:Region.Mode) (ops:Array Oper) (S:Array Bool->World->Prop) (i:Nat):World->Prop:=λw'=>∃ l,Fh md ops l/\l.getD i true=false/\S l w'
theorem zN {md:Region.Mode} {ops:Array Oper} {S:Array Bool->World->Prop} {i:Nat} {oi:Oper} {v:Value} (hi:ops[i]?=some oi) (Gl:∀ (j:Nat) (o:Oper) cs b,ops[j]?=some o->o.op≠.select cs b)
  (hQ:∀ c a w,Q (.panic c) (a.put oi.dst v) w->Q (.panic c) a w) (hS:∀ l w,S (l.setIfInBounds i true) w↔S l w) :
  ∀ (fuel:Nat) (mT:Array Bool) (a:Act) (w:World),
   (∀ j oj,ops[j]?=some oj->j≠i->mT.getD j true=false->(∀ e ∈ oj.after,Region.binds md e=true->e.on≠i)->oi.apart ops oj=true) ->
   i ∈ Region.ready md ops mT->Fh md ops mT->YieldsIf P ops (SU md ops S i) oi v a->S mT w ->
   xt P md ops Q S fuel (mT.setIfInBounds i true) (a.put oi.dst v) w->xt P md ops Q S (fuel+1) mT a w:=by
 intro fuel
 induction fuel with
 | zero=>
  intro mT a w _ hr hc hy hs H;have vC:mT.getD i true=false:=(mem_ready.1 hr).1;refine ⟨λh=>(by rw[h] at hr;cases hr),λj hj=>?_⟩
  by_cases qk:j=i
  ·subst qk;exact hy.wpOp hi ⟨mT,hc,vC,hs⟩ ⟨(hS _ _).2 hs,H⟩
  ·have:=ready_mono hj qk;rw[H.1] at this;cases this
 | succ fuel ih=>
  intro mT a w Qo hr hc hy hs H;have vC:mT.getD i true=false:=(mem_ready.1 hr).1;refine ⟨λh=>(by rw[h] at hr;cases hr),λj hj=>?_⟩
  by_cases qk:j=i
  ·subst qk;exact hy.wpOp hi ⟨mT,hc,vC,hs⟩ ⟨(hS _ _).2 hs,H⟩
  ·have h1:=H.2 j (ready_mono hj qk);obtain ⟨aeC,oj,MC,st⟩:=mem_ready.1 hj
   have aeD:∀ e ∈ oj.after,Region.binds md e=true->e.on≠i:=λe he hb heq=>by
    have h1:=st e he hb;have h0:=(mem_ready.1 hr).1;rw[heq] at h1;rcases cR i mT.size with h' | h'
    ·simp[h'] at h0 h1;rw[h0] at h1;cases h1
    ·simp[eE h'] at h1
   have h2:=wpOp_putIf MC (Qo j oj MC qk aeC aeD) (λcs b=>Gl i oi cs b hi) (λcs b=>Gl j oj cs b MC) hQ hy h1
   have aeE:∀ k ok,ops[k]?=some ok->k≠i->(mT.setIfInBounds j true).getD k true=false ->
     (∀ e ∈ ok.after,Region.binds md e=true->e.on≠i)->oi.apart ops ok=true:=λk ok hk hki vC sa=>by
    refine Qo k ok hk hki ?_ sa;by_cases hjk:j=k
    ·subst hjk;exact aeC
    ·rw[getD_set_ne true hjk] at vC;exact vC
   refine wpOp_mono (λa' w' h3=>?_) h2;have h4:=h3.2.1;have h5:=h3.2.2;rw[Array.setIfInBounds_comm _ _ (Ne.symm qk)] at h4 h5;have h6:=(hS _ _).1 h4;exact ⟨h6,ih (mT.setIfInBounds j true) a' w' aeE (ready_mono hr (Ne.symm qk)) (Gk hc hj) h3.1 h6 h5⟩
def O7 (ops:Array Oper):Nat->Nat->Nat->Bool
 | 0,_,_=>false
 | n+1,d,i=>match ops[d]? with
  | some o=>o.after.toList.any λe=>Region.binds .any e&&(Nat.beq e.on i||O7 ops n e.on i)
  | none=>false
theorem xQ {ops:Array Oper} {l:Array Bool} (h:Fh .any ops l):∀ (n d i:Nat),O7 ops n d i=true->l.getD d false=true->l.getD i false=true
 | 0,_,_,ha,_=>by cases ha
 | n+1,d,i,ha,hd=>by
  simp only[O7] at ha;split at ha
  ·rename_i o ho;obtain ⟨e,he,hb⟩:=eL.1 ha;simp only[aC,cN,eW] at hb;have hl:=h d o ho hd e (by simpa using he) hb.1;rcases hb.2 with hb | hb
   ·rw[<-hb];exact hl
   ·exact xQ h n e.on i hb hl
  ·cases ha
def sI (E:Env) (ops:Array Oper) (d:Nat):Bool:=match ops[d]? with
 | some o=>!yo E o.op&&!quiet E o.op
 | none=>false
def D_ (l:Array Bool):List Nat->Array Bool
 | []=>l
 | j::js=>D_ (l.setIfInBounds j true) js
def Di (E:Env) (jm:Nat) (ops:Array Oper) (pd:List Nat):List Nat->Array Bool->Bool->Bool
 | [],l,_=>(Region.ready .any ops l).isEmpty
 | i::is,l,f=>match ops[i]? with
  | none=>false
  | some o=>
   match pd.any (Nat.beq i) with
   | true=>!is.any (Nat.beq i)&&(Region.ready .any ops l).contains i&&(Region.ready .any ops (D_ l (pd.filter λj=>!Nat.beq i j))).all (λj=>pd.any (Nat.beq j))&&Di E jm ops pd is (l.setIfInBounds i true) f
   | false=>
   match yo E o.op&&(Region.free .any ops l i&&(Region.ready .any ops l).contains i&&(!reads o.op||QV E jm i||Wd E jm i||(f&&(List.range ops.size).all λd=>!sI E ops d||O7 ops ops.size d i))) with
   | true=>Di E jm ops pd is (l.setIfInBounds i true) f
   | false=>(Region.ready .any ops l).contains i&&(Region.ready .any ops (D_ l pd)).all (Nat.beq i)&&Di E jm ops pd is (l.setIfInBounds i true) false
noncomputable def Im (E:Env) (ops:Array Oper) (pd:List Nat):Bool:=pd.all λj=>match ops[j]? with
 | some o=>(match o.guard with
  | none=>true
  | some _=>false)&&(Bx E o.op).isSome&&(match o.dst with
   | some d=>(List.range ops.size).all λk=>Nat.beq k j||(match ops[k]? with
    | some o'=>(match o'.dst with
     | some d'=>!Nat.beq d' d
     | none=>true)
    | none=>true)
   | none=>false)
 | none=>false
def MD:List Nat->Bool
 | []=>true
 | i::is=>!is.any (Nat.beq i)&&MD is
noncomputable def Dj (E:Env) (ops:Array Oper) (pd:List Nat) (er:List (Nat×Nat)):Bool:=er.all λe=>!pd.any (Nat.beq e.1)&&(Nat.ble ops.size e.2||(sI E ops e.2&&!pd.any (Nat.beq e.2)&&O7 ops ops.size e.2 e.1))&&(match ops[e.1]? with
 | some o=>(match o.guard with
  | none=>true
  | some _=>false)&&(match o.op,o.dst with
   | .load _ (.tmp x),some d=>!Nat.beq x d&&(List.range ops.size).all λk=>Nat.beq k e.1||(match ops[k]? with
    | some o'=>(match o'.dst with
     | some d'=>!Nat.beq d' d&&(!Nat.beq d' x||O7 ops ops.size e.1 k)
     | none=>true)
    | none=>true)
   | _,_=>false)
 | none=>false)
noncomputable def RI (E:Env) (jm:Nat) (ops:Array Oper) (is:List Nat):Bool:=
 Region.noSelect ops&&Nat.ble is.length ops.size&&(Im E ops (qj E.pd jm)&&(qj E.pd jm).all λj=>is.any (Nat.beq j))&&(MD is&&(List.range ops.size).all (λk=>is.any (Nat.beq k))&&Dj E ops (qj E.pd jm) (L5 E.er jm))&&Di E jm ops (qj E.pd jm) is (Array.replicate ops.size false) (match qj E.pd jm with
  | []=>true
  | _::_=>false)
theorem acH {K:St->Option R}:∀ (is:List Nat) {σ:St} {A:Cells} {F:Nat->FP},eo P C A σ a w F->UO σ is K=some x->∃ (A':Cells) (σ':St) (F':Nat->FP),K σ'=some x/\eo P C A' σ' a w F':=by
 intro is
 induction is with
 | nil=>intro σ A F h hk;exact ⟨A,σ,F,hk,h⟩
 | cons i is ih=>
  intro σ A F h hk;simp only[UO] at hk;split at hk
  ·rename_i t m H v hg;split at hk
   ·rename_i hc;simp only[aC,bH] at hc;obtain ⟨hH,Dd⟩:=hc;subst hH;obtain ⟨A1,F1,_,h1,_,_⟩:=YY h hg;exact ih h1 hk
   ·cases hk
  ·cases hk
theorem Rel.aeF (h:eo P C A σ a w F):∃ C':Ctx,C'.w0=w/\C'.A0=A/\(∀ b i,A b i->C'.F0 b i=0)/\eo P C' A σ a w F/\(∀ {A2:Cells} {n_:St} {a2:Act} {w2:World} {F2:Nat->FP},eo P C' A2 n_ a2 w2 F2->eo P C A2 n_ a2 w2 F2):=by
 have jS:∀ b i,1<=bh σ.n F b i->1<=C.F0 b i\/C.w0.heap.size<=b:=λb i hp=>h.own b i (by show 1<=0+_;omega);refine ⟨⟨w,A,bh σ.n F,C.args⟩,rfl,rfl,λb i ha=>?_,?_,λ{A2 n_ a2 w2 F2} h2=>?_⟩
 ·rcases bK (bh σ.n F b i) with h0 | h0
  ·exact h0
  ·exact absurd ha (h.sr b i (by show 1<=0+_;omega))
 ·exact { h with ext:=Ext.refl _ _,own:=λb i hp=>.inl (by have hp:1<=0+bh σ.n F b i:=hp;show 1<=bh σ.n F b i;omega),a0:=λ_ _ h=>h,a1:=λ_ _ h=>.inl h,qA:=h.qA,pp:=h.pp,zy:=h.F8 λb i hp=>by have hp:1<=bh σ.n F b i:=hp;show 1<=0+_;omega }
 ·have oO:C.w0.heap.size<=w.heap.size:=h.ext.size;refine { h2 with ext:=h.ext.trans h2.ext (λb i hb hz=>?_),own:=λb i hp=>?_,a0:=λb i ha=>h2.a0 b i (h.a0 b i ha),a1:=λb i ha=>?_,qA:=h2.qA,pp:=h2.pp,zy:=h.zy }
  ·show bh σ.n F b i=0;rcases bK (bh σ.n F b i) with h0 | h0
   ·exact h0
   ·rcases jS b i h0 with h1 | h1 <;> omega
  ·rcases h2.own b i hp with h1 | h1
   ·exact jS b i h1
   ·exact .inr (bB oO h1)
  ·rcases h2.a1 b i ha with h1 | h1 | h1
   ·exact h.a1 b i h1
   ·exact .inr (jS b i h1)
   ·exact .inr (.inr (bB oO h1))
theorem adm (h:eo P C A σ a w F) (hE:vk P E) {jm i:Nat} (dm:tN P o.op=true) (sF:yo E o.op=true) (Mp:QU σ o=true) {K:St->Option R} (hk:t_ E jm i o σ K=some x) :
  ∃ v,(∀ w',(∀ b i,A b i->∀ u,ce w b i=some u->ce w' b i=some u)->(execOp a.eval o).run P w'=.ok (.value v) w')/\Nx P C K x (a.put o.dst v) w:=by
 unfold QU at Mp;split at Mp
 ·rename_i t y ho;split at Mp
  ·rename_i t' v hv;unfold t_ at hk;simp only[ho,LY] at hk
   cases hf:aaC E.fz jm i 8 with
   | true=>rw[hf] at hk;simp only[hv] at hk;cases hk
   | false=>
   rw[hf] at hk;simp only[hv,FO] at hk;obtain ⟨T,hT,hk⟩:=iy hk;have kt:=hE.ti _ _ hT;split at hk
   ·rename_i e;subst e;rw[ho] at dm
    rcases gk h dm with hs | ⟨xs,e⟩
    rotate_left
    ·rw[e] at hv;cases hv
    rw[hv] at hs;obtain ⟨⟨b,off,sp⟩,h1,h2,L,h3,h4,h5⟩:=hs;simp only[dP,eU] at h1;simp only at h2;subst h2;refine ⟨dj t' L,λw' ve=>?_,cx h hk ⟨L,rfl,h5⟩ (λ_ _ _ _ e=>by cases e)⟩
    simp[execOp,ho,h1,Instr.loadAt,Instr.sureAddr,A5 kt (λj u hu=>ve _ _ (h4 j u hu).2 u (h4 j u hu).1) h3 (Ro.one _ h5)]
   ·cases hk
  ·cases Mp
 ·rename_i s t y ho;unfold t_ at hk;simp only[ho] at hk;rw[ho] at dm;refine Mo h hE.ti ho dm (λT hT=>?_) Mp hk;rw[ho] at sF;simp only[yo,hT] at sF;exact sF
 ·cases Mp
def EK (ops:Array Oper) (l:Array Bool) (u:Nat):Prop:=ops.size<=u\/l.getD u false=false
def SD (E:Env) (ops:Array Oper) (w0:World) (C:Ctx) (RC:List (Nat×Nat×Nat×Nat×List Value)):Array Bool->World->Prop:=λl w'=>((∀ d,sI E ops d=true->l.getD d false=false)->Ext w0 w' (λ_ _=>0))/\(∀ b i,C.A0 b i->∀ u,ce C.w0 b i=some u->ce w' b i=some u)/\∀ e ∈ RC,EK ops l e.2.1->Has w' e.2.2.1 e.2.2.2.1 e.2.2.2.2
theorem adn {next:Act->World->Prop} (h:Tk P o a w next):o.wp P a w (λa' w'=>w=w'/\next a' w') Q:=by
 obtain ⟨v,h1,h2⟩:=h;exact qm (h1 w λ_=>Ext.refl _ _) ⟨rfl,h2⟩
theorem EL {md:Region.Mode} {ops:Array Oper} {S S':Array Bool->World->Prop} (hS:∀ l w,S l w->S' l w):∀ (fuel:Nat) (mT:Array Bool) (a:Act) (w:World),xt P md ops Q S fuel mT a w->xt P md ops Q S' fuel mT a w
 | 0,_,_,_,h=>h
 | fuel+1,_,_,_,h=>⟨h.1,λi hi=>wpOp_mono (λa' w' h'=>⟨hS _ _ h'.1,EL hS fuel _ a' w' h'.2⟩) (h.2 i hi)⟩
theorem RJ (a:Act) (d:Nat):a.put (some d) (tmp a d)=a:=by
 have:a.tmps.setIfInBounds d (tmp a d)=a.tmps:=by
  unfold tmp;apply Array.ext
  ·simp
  ·intro i h1 h2;rw[gX];split
   ·rename_i e;subst e;simp[h2]
   ·rfl
 show { a with tmps:=a.tmps.setIfInBounds d (tmp a d) }=a;rw[this]
theorem afY {ops:Array Oper} {K:St->Option R}:∀ (js:List Nat) {σ:St} {F:Nat->FP},eo P C A σ a w F->Yq ops.toList σ js K=some x->∃ (σ':St) (F':Nat->FP),K σ'=some x/\eo P C A σ' a w F':=by
 intro js
 induction js with
 | nil=>intro σ F h hk;exact ⟨σ,F,hk,h⟩
 | cons j js ih=>
  intro σ F h hk;simp only[Yq] at hk;split at hk
  ·rename_i d hd;obtain ⟨F1,h1⟩:=h.cq (some d) (s:=.dead) (v:=tmp a d) (Fd:=λ_ _=>0) (X':=λ_ _=>0) trivial (λb i=>aG _) (λ_ _ _ _ e=>by cases e);rw[RJ] at h1;exact ih h1 hk
  ·cases hk
theorem Gm:∀ (js:List Nat) (l:Array Bool) (k:Nat) (b:Bool),(D_ l js).getD k b=if k ∈ js/\k < l.size then true else l.getD k b
 | [],l,k,b=>by simp[D_]
 | j::js,l,k,b=>by
  rw[D_,Gm js];simp only[Array.size_setIfInBounds];by_cases h1:k ∈ js/\k < l.size
  ·rw[aH h1,aH ⟨by simp[h1.1],h1.2⟩]
  ·rw[aN h1];by_cases D9:j=k
   ·subst D9;by_cases bc:j < l.size
    ·rw[aH ⟨by simp,bc⟩];simp[bc]
    ·rw[aN (λh=>bc h.2)];simp[bc]
   ·rw[getD_set_ne b D9,aN];rintro ⟨h2,h3⟩;rcases aZ.1 h2 with e | e
    ·exact D9 e.symm
    ·exact h1 ⟨e,h3⟩
theorem sJ {l:List Nat} {i:Nat}:l.any (Nat.beq i)=true↔i ∈ l:=by
 rw[eL];constructor
 ·rintro ⟨y,h1,h2⟩;rw[dB h2];exact h1
 ·intro h;exact ⟨i,h,gY i⟩
theorem EM {ops:Array Oper} {pd:List Nat} (h:Im E ops pd=true) {j:Nat} (hj:j ∈ pd):∃ o d s,ops[j]?=some o/\o.guard=none/\o.dst=some d/\Bx E o.op=some s/\∀ k o',ops[k]?=some o'->k≠j->o'.dst≠some d:=by
 unfold Im at h;have h:=bJ.1 h j hj;split at h
 ·rename_i o ho;simp only[aC] at h;obtain ⟨⟨h1,h2⟩,h3⟩:=h;split at h3
  ·rename_i d hd;obtain ⟨s,hs⟩:=eN.1 h2;refine ⟨o,d,s,ho,?_,hd,hs,λk o' hk D9 e=>?_⟩
   ·split at h1
    ·assumption
    ·cases h1
   ·have:=bJ.1 h3 k (cD.2 (cH.1 hk).1);rw[hk] at this;simp only[e,cN] at this;rcases this with h4 | h4
    ·exact D9 (dB h4)
    ·simp at h4
  ·cases h3
 ·cases h
def RE (ops:Array Oper) (er:List (Nat×Nat)) (L:Array Bool) (a:Act) (w:World) (e:Nat×Nat×Nat×Nat×List Value):Prop:=(e.1,e.2.1) ∈ er/\L.getD e.1 false=true /\
 ∃ o t x d,ops[e.1]?=some o/\o.op=.load t (.tmp x)/\o.dst=some d/\tmp a x=.pointer (some ⟨e.2.2.1,e.2.2.2.1,none⟩)/\(tmp a d).cells.toList=e.2.2.2.2/\(EK ops L e.2.1->Has w e.2.2.1 e.2.2.2.1 e.2.2.2.2)
theorem Kg:∀ {is:List Nat},MD is=true->is.Nodup
 | [],_=>fG
 | i::is,h=>by
  simp only[MD,aC,cB] at h;refine cO.2 ⟨λhm=>?_,Kg h.2⟩;have:=h.1;rw[sJ.2 hm] at this;cases this
theorem yw {E:Env} {ops:Array Oper} {pd:List Nat} {er:List (Nat×Nat)} (h:Dj E ops pd er=true) {j u:Nat} (hj:(j,u) ∈ er):j ∉ pd/\(ops.size<=u\/(sI E ops u=true/\u ∉ pd/\O7 ops ops.size u j=true))/\∃ o t x d,ops[j]?=some o/\o.guard=none/\o.op=.load t (.tmp x)/\o.dst=some d/\x≠d /\
  ∀ k o',ops[k]?=some o'->k≠j->o'.dst≠some d/\(o'.dst=some x->O7 ops ops.size j k=true):=by
 unfold Dj at h;have h1:=bJ.1 h _ hj;simp only[aC,cN,cB,dK] at h1;obtain ⟨⟨h0,hu⟩,h1⟩:=h1;refine ⟨λhm=>?_,hu.imp id λq=>⟨q.1.1,λhm=>?_,q.2⟩,?_⟩
 ·rw[sJ.2 hm] at h0;cases h0
 ·have q2:=q.1.2;rw[sJ.2 hm] at q2;cases q2
 split at h1
 ·rename_i o ho;simp only[aC] at h1;obtain ⟨h2,h3⟩:=h1;split at h3
  ·rename_i t x d Rk hd;simp only[aC,cB,bJ,cD] at h3;obtain ⟨h4,h5⟩:=h3;refine ⟨o,t,x,d,ho,?_,Rk,hd,(λe=>by subst e;rw[gY] at h4;cases h4),λk o' hk D9=>?_⟩
   ·cases hg:o.guard with
    | none=>rfl
    | some g=>rw[hg] at h2;cases h2
   ·have h6:=h5 k (cH.1 hk).1;rw[hk] at h6;simp only[cN] at h6;rcases h6 with h6 | h6
    ·exact absurd (dB h6) D9
    ·cases vw:o'.dst with
     | none=>exact ⟨(λe=>by cases e),λe=>by cases e⟩
     | some d'=>
      rw[vw] at h6;simp only[aC,cN,cB] at h6;refine ⟨λe=>?_,λe=>?_⟩
      ·injection e with e;subst e;rw[gY] at h6;cases h6.1
      ·injection e with e;subst e;rcases h6.2 with h7 | h7
       ·rw[gY] at h7;cases h7
       ·exact h7
  ·cases h3
 ·cases h1
theorem AD:∀ {p q:Path},zr p q=true->p=q
 | [],[],_=>rfl
 | .fst::p,.fst::q,h=>by simp only[zr] at h;rw[AD h]
 | .snd::p,.snd::q,h=>by simp only[zr] at h;rw[AD h]
 | .idx i::p,.idx j::q,h=>by simp only[zr,aC] at h;rw[dB h.1,AD h.2]
 | .sX i::p,.sX j::q,h=>by simp only[zr,aC] at h;rw[dB h.1,AD h.2]
theorem Zb (h:Rel P C A X σ a w F) {o:Oper} (a_:aaG σ o=true) {t x d:Nat} (ho:o.op=.load t (.tmp x)) (hd:o.dst=some d) {b off:Nat} (hx:tmp a x=.pointer (some ⟨b,off,none⟩)):Has w b off (tmp a d).cells.toList/\d < a.tmps.size:=by
 unfold aaG at a_;rw[ho,hd] at a_;simp only at a_
 have lt:∀ {i:Nat},σ.get i≠.dead->i < σ.n:=λ{i} hi=>by
  rcases cR i σ.n with h1 | h1
  ·exact h1
  ·exact absurd (nQ (fT.2 h1)) hi
 split at a_
 ·rename_i r p s Vf;split at a_
  ·rename_i r' p' s' Ea;simp only[aC] at a_;obtain ⟨⟨h1,h2,h3⟩,h4⟩:=a_;have e1:=dB h1;have e2:=AD h4;subst e1;subst e2;have By:=h.jz x (lt (by rw[Vf];intro e;cases e));rw[Vf] at By;obtain ⟨pl,b',o',g1,g2,g3,_⟩:=By.2 h2;rw[hx] at g3;simp only[Value.pointer.injEq,aQ,Addr.mk.injEq,eU] at g3;obtain ⟨rfl,rfl⟩:=g3;have O8:=h.jz d (lt (by rw[Ea];intro e;cases e));rw[Ea] at O8;obtain ⟨ON,k1,k2,_⟩:=O8.2 h3;rw[g1] at k1;injection k1 with k1;subst k1;have hr:=vU g1;have i9:=g1;unfold place at i9
   cases hR:ej w (tmp a r) (σ.get r) with
   | none=>rw[hR] at i9;cases i9
   | some R=>
    rw[hR] at i9;simp only[aA] at i9;obtain ⟨m,v,F1,q1,_,q2,_⟩:=zA (h.jz r hr) hR;obtain ⟨z1,m',v',F',z2⟩:=UR p R.t q1 (λb o e=>(q2 b o e).1) i9;rw[k2,mq (am.length _ z2) (am.one _ z2)];exact ⟨z1 _ _ g2,by rw[h.size];exact lt (by rw[Ea];intro e;cases e)⟩
  ·rename_i v Ea;simp only[aC] at a_;obtain ⟨h2,hi⟩:=a_;unfold acv at hi;split at hi;rotate_left
   ·cases hi
   rename_i bb ey;subst hi;have By:=h.jz x (lt (by rw[Vf];intro e;cases e));rw[Vf] at By;obtain ⟨pl,b',o',g1,g2,g3,_⟩:=By.2 h2;rw[hx] at g3;simp only[Value.pointer.injEq,aQ,Addr.mk.injEq,eU] at g3;obtain ⟨rfl,rfl⟩:=g3;have O8:=h.jz d (lt (by rw[Ea];intro e;cases e));rw[Ea] at O8;obtain ⟨dO,k1,k2⟩:=O8;obtain ⟨hr,t',m',H',v',cn,dp,F',i1,i2,i3,i4,i5,i6⟩:=m_ h ey;rw[i3] at g1;injection g1 with g1;subst g1;simp only at g2;subst g2;obtain ⟨e,i1⟩:=dh i1;subst e;simp only[aQ,bE] at i1;have hh:Has w b off cn:=by first | exact (i6 b off rfl).1 | exact i6 b off rfl | exact (i5 b off rfl).1 | exact i5 b off rfl
   have c1:cn=[.int .i64 v]:=by
    have i4:_:=i4;simp only[am] at i4;rw[<-i1]
    first | exact i4.1 | exact i4 | exact i4.2 | simp_all
   have c2:dO=[.int .i64 v]:=k2;rw[k1,c2,mq rfl (λu hu=>by rw[bC] at hu;subst hu;rfl)];rw[c1] at hh;exact ⟨hh,by rw[h.size];exact lt (by rw[Ea];intro e;cases e)⟩
  ·cases a_
 ·rename_i tb mb Hb vb Vf;split at a_
  ·rename_i r' p' s' Ea;simp only[aC] at a_;obtain ⟨⟨h1,h3⟩,h4⟩:=a_;have e1:=dB h1;have e2:=AD h4;subst e1;subst e2;have O8:=h.jz d (lt (by rw[Ea];intro e;cases e));rw[Ea] at O8;obtain ⟨ON,k1,k2,_⟩:=O8.2 h3;have hr:=vU k1;have i9:=k1;unfold place at i9
   cases hR:ej w (tmp a x) (σ.get x) with
   | none=>rw[hR] at i9;cases i9
   | some R=>
    rw[hR] at i9;simp only[aA] at i9;obtain ⟨m,v,F1,q1,_,q2,_⟩:=zA (h.jz x hr) hR;obtain ⟨z1,m',v',F',z2⟩:=UR [] R.t q1 (λb o e=>(q2 b o e).1) i9;rw[k2,mq (am.length _ z2) (am.one _ z2)]
    have lI:ON.ad=some (b,off):=by
     rw[Vf,hx] at hR;simp only[ej,aQ] at hR;subst hR;simp only[cd,aQ] at i9;subst i9;rfl
    exact ⟨z1 _ _ lI,by rw[h.size];exact lt (by rw[Ea];intro e;cases e)⟩
  ·cases a_
 ·cases a_
theorem quiet_of {jm i:Nat} {o:Oper} {K:St->Option R} (hk:t_ E jm i o σ K=some x) (hm:JD o.op=false) (ht:yo E o.op=false):quiet E o.op=true:=by
 unfold t_ at hk;cases ho:o.op <;> rw[ho] at hk hm ht <;> first | rfl | (cases hm;done) | (cases ht;done) | (simp only[reduceCtorEq] at hk;done) | skip
theorem RK (h:eo P C A σ a w F) (hE:vk P E) {t x0:Nat} {mv:Bool} (dm:tN P o.op=true) (ho:o.op=.load t (.tmp x0)) {K:St->Option R} (hk:FO E σ t (eg σ (.tmp x0)) mv o.dst K=some x) :
  ∃ b off v cs,tmp a x0=.pointer (some ⟨b,off,none⟩)/\Has w b off cs/\v.cells.toList=cs/\∀ w',Has w' b off cs->(execOp a.eval o).run P w'=.ok (.value v) w':=by
 unfold FO at hk;obtain ⟨T,hT,hk⟩:=iy hk;have kt:=hE.ti _ _ hT
 have run:∀ b off L,a.eval (.tmp x0)=.pointer (some ⟨b,off,none⟩)->L.length=T.sz->(∀ u ∈ L,u.oneCell'=true)->∀ w',Has w' b off L->(execOp a.eval o).run P w'=.ok (.value (dj T L)) w':=λb off L hy hl qS w' hL=>by
  simp[execOp,ho,hy,Instr.loadAt,Instr.sureAddr,A5 kt hL hl qS]
 rw[ho] at dm
 rcases gk h (show d_ P (.tmp x0)=true from dm) with hs | ⟨xs,e⟩
 rotate_left
 ·rw[e] at hk;cases hk
 split at hk
 ·rename_i t' v hv;rw[hv] at hs;split at hk
  ·rename_i e;subst e;obtain ⟨⟨b,off,sp⟩,h1,h2,L,h3,h4,h5⟩:=hs;simp only[dP,eU] at h1;simp only at h2;subst h2;exact ⟨b,off,dj t' L,L,h1,λj u hu=>(h4 j u hu).1,mq h3 (Ro.one _ h5),run b off L h1 h3 (Ro.one _ h5)⟩
  ·cases hk
 ·rename_i r p snap hv;rw[hv] at hs;split at hk
  ·rename_i qT;obtain ⟨hr,t',m',H',v',cn,dp,F',h1,h2,h3,h4,h5,h6⟩:=m_ h hk;obtain ⟨pl,b,off,g1,g2,g3,g4⟩:=hs.2 qT;rw[h3] at g1;injection g1 with g1;subst g1;simp only at g2;subst g2;split at h1
   ·rename_i e;subst e;have hh:Has w b off cn:=by first | exact (h6 b off rfl).1 | exact h6 b off rfl | exact (h5 b off rfl).1 | exact h5 b off rfl
    exact ⟨b,off,dj t' cn,cn,g3,hh,mq (am.length _ h4) (am.one _ h4),run b off cn g3 (am.length _ h4) (am.one _ h4)⟩
   ·cases h1
  ·cases hk
 ·cases hk
theorem ado (h:eo P C A σ a w F) (hE:vk P E) {jm i t x0:Nat} (dm:tN P o.op=true) (ho:o.op=.load t (.tmp x0)) {K:St->Option R} (hk:t_ E jm i o σ K=some x) :
  ∃ b off v cs,tmp a x0=.pointer (some ⟨b,off,none⟩)/\Has w b off cs/\v.cells.toList=cs/\∀ w',Has w' b off cs->(execOp a.eval o).run P w'=.ok (.value v) w':=by
 unfold t_ at hk;simp only[ho,LY] at hk;split at hk
 ·exact RK h hE dm ho hk
 ·split at hk
  ·split at hk
   ·obtain ⟨A1,qH,F1,_,_,_,_,_,k1,_,k3,_⟩:=Bp h hk;exact RK k3 hE dm ho k1
   ·cases hk
  ·cases hk
structure Inv (P:Program) (E:Env) (ops:Array Oper) (pd:List Nat) (w0:World) (C:Ctx) (is:List Nat) (l:Array Bool) (f:Bool) (σ:St) (fuel:Nat) (A:Cells) (a:Act) (w:World) (X:FP) (F:Nat->FP) (D:List Nat) (L:Array Bool) (er:List (Nat×Nat)) (RC:List (Nat×Nat×Nat×Nat×List Value)):Prop where
 h:Rel P C A X σ a w F
 pf:PF P E ops A a w D X
 nd:D.Nodup
 O9:∀ j ∈ D,j ∈ pd
 dl:∀ j ∈ D,l.getD j false=false
 sr:∀ j ∈ D,j ∈ is
 cov:∀ j ∈ pd,l.getD j false=true\/j ∈ is
 Kh:(is.filter λk=>decide (k ∉ D)).length<=fuel
 cl:Fh .any ops L
 hS:(∀ d,sI E ops d=true->L.getD d false=false)->Ext w0 w (λ_ _=>0)
 hf:f=true->w=w0/\pd=[]
 ME:l.size=ops.size
 Dk:L.size=ops.size
 hL:∀ k,L.getD k false=true↔(l.getD k false=true\/k ∈ D)
 Zc:is.Nodup
 Zd:∀ k,k < ops.size->l.getD k false=true\/k ∈ is
 io:∀ k ∈ is,l.getD k false=false
 rc:∀ e ∈ RC,RE ops er L a w e
theorem xR {l:Array Bool} {k:Nat} (h:k < l.size):l.getD k true=l.getD k false:=by simp[h]
theorem jp {l:Array Bool} {i k:Nat} (hi:i < l.size):(l.setIfInBounds i true).getD k false=true↔(k=i\/l.getD k false=true):=by
 by_cases hk:i=k
 ·subst hk;simp[hi]
 ·rw[getD_set_ne false hk];constructor
  ·exact .inr
  ·rintro (h | h)
   ·exact absurd h.symm hk
   ·exact h
theorem TW {D:List Nat} {j:Nat} (hD:j ∉ D):∀ (is:List Nat),j ∈ is->(is.filter λk=>decide (k ∉ j::D)).length+1<=(is.filter λk=>decide (k ∉ D)).length:=by
 have hle:∀ (is:List Nat),(is.filter λk=>decide (k ∉ j::D)).length<=(is.filter λk=>decide (k ∉ D)).length:=by
  intro is
  induction is with
  | nil=>exact aG _
  | cons i is ih=>
   simp only[fQ];by_cases h1:i ∈ D
   ·have h2:i ∈ j::D:=by simp[h1]
    simp only[h1,h2,fM,aI,aF,aU];exact ih
   ·by_cases h2:i ∈ j::D
    ·simp only[h1,h2,fM,eR,aI,aP,aF,aU,aL,bI];omega
    ·simp only[h1,h2,eR,aP,aL,bI];omega
 intro is
 induction is with
 | nil=>intro h;cases h
 | cons i is ih=>
  intro h;simp only[fQ];by_cases sb:i=j
  ·subst sb;have h2:i ∈ i::D:=by simp
   simp only[hD,h2,fM,eR,aI,aP,aF,aU,aL,bI];have:=hle is;omega
  ·have h3:j ∈ is:=by
    rcases aZ.1 h with e | e
    ·exact absurd e.symm sb
    ·exact e
   have:=ih h3;by_cases h1:i ∈ D
   ·have h2:i ∈ j::D:=by simp[h1]
    simp only[h1,h2,fM,aI,aF,aU];exact this
   ·have h2:i ∉ j::D:=by simp[h1,sb]
    simp only[h1,h2,eR,aP,aL,bI];omega
section
variable {ops:Array Oper} {pd:List Nat} {w0:World} {is:List Nat} {l L:Array Bool} {f:Bool} {fuel:Nat} {D:List Nat} {i:Nat} {er:List (Nat×Nat)} {RC:List (Nat×Nat×Nat×Nat×List Value)}
theorem Inv.K3 (v:Inv P E ops pd w0 C is l f σ fuel A a w X F D L er RC) (hi:i ∈ Region.ready .any ops l) (hD:i ∉ D):i ∈ Region.ready .any ops L:=by
 obtain ⟨h0,o,ho,st⟩:=mem_ready.1 hi;have bc:i < ops.size:=(cH.1 ho).1;refine mem_ready.2 ⟨?_,o,ho,λe he hb=>(v.hL _).2 (.inl (st e he hb))⟩;rw[xR (by rw[v.Dk];exact bc)];rw[xR (by rw[v.ME];exact bc)] at h0
 cases hh:L.getD i false with
 | false=>rfl
 | true=>
  rcases (v.hL i).1 hh with h1 | h1
  ·rw[h0] at h1;cases h1
  ·exact absurd h1 hD
theorem Inv.In (v:Inv P E ops pd w0 C is l f σ fuel A a w X F D L er RC) {j:Nat} {S:List Nat} (hS:∀ k ∈ D,k ∈ S) (hj:j ∈ Region.ready .any ops L) (hjS:j ∉ S):j ∈ Region.ready .any ops (D_ l S):=by
 obtain ⟨h0,o,ho,st⟩:=mem_ready.1 hj;have bc:j < ops.size:=(cH.1 ho).1;refine mem_ready.2 ⟨?_,o,ho,λe he hb=>?_⟩
 ·rw[Gm,aN (λh=>hjS h.1),xR (by rw[v.ME];exact bc)];rw[xR (by rw[v.Dk];exact bc)] at h0
  cases hh:l.getD j false with
  | false=>rfl
  | true=>rw[(v.hL j).2 (.inl hh)] at h0;cases h0
 ·rw[Gm];have h1:=st e he hb;rcases (v.hL _).1 h1 with h2 | h2
  ·split
   ·rfl
   ·exact h2
  ·have bc:e.on < L.size:=by
    rcases cR e.on L.size with h' | h'
    ·exact h'
    ·simp[eE h'] at h1
   rw[aH ⟨hS _ h2,by rw[v.ME,<- v.Dk];exact bc⟩]
theorem Inv.MF (v:Inv P E ops pd w0 C is l f σ fuel A a w X F D L er RC) {j:Nat} (h:L.getD j true=false):j ∉ D/\l.getD j false=false/\l.getD j true=false:=by
 have bc:j < L.size:=by
  rcases cR j L.size with h' | h'
  ·exact h'
  ·simp[eE h'] at h
 rw[xR bc] at h
 have h1:l.getD j false=false:=by
  cases hh:l.getD j false with
  | false=>rfl
  | true=>rw[(v.hL j).2 (.inl hh)] at h;cases h
 have h2:j ∉ D:=λhD=>by
  rw[(v.hL j).2 (.inr hD)] at h;cases h
 exact ⟨h2,h1,by rw[xR (by rw[v.ME,<- v.Dk];exact bc)];exact h1⟩
theorem Inv.next (v:Inv P E ops pd w0 C (i::is) l f σ (fuel+1) A a w X F D L er RC) (hD:i ∉ D) (hr:i ∈ Region.ready .any ops L) {C2:Ctx} {f2:Bool} {n_:St} {A2:Cells} {a2:Act} {w2:World} {F2:Nat->FP}
  (h2:Rel P C2 A2 X n_ a2 w2 F2) (hp:PF P E ops A2 a2 w2 D X) (hS2:(∀ d,sI E ops d=true->(L.setIfInBounds i true).getD d false=false)->Ext w0 w2 (λ_ _=>0)) (hf2:f2=true->w2=w0/\pd=[]) {RC2:List (Nat×Nat×Nat×Nat×List Value)} (hrc:∀ e ∈ RC2,RE ops er (L.setIfInBounds i true) a2 w2 e) :
  Inv P E ops pd w0 C2 is (l.setIfInBounds i true) f2 n_ fuel A2 a2 w2 X F2 D (L.setIfInBounds i true) er RC2:=by
 obtain ⟨_,o,ho,_⟩:=mem_ready.1 hr;have bc:i < ops.size:=(cH.1 ho).1;have Dl:i < l.size:=by rw[v.ME];exact bc
 have Dm:i < L.size:=by rw[v.Dk];exact bc
 refine ⟨h2,hp,v.nd,v.O9,λj hj=>?_,λj hj=>?_,λj hj=>?_,?_,Gk v.cl hr,hS2,hf2,by simpa using v.ME,by simpa using v.Dk,λk=>?_,(cO.1 v.Zc).2,λk hk=>?_,λk hk=>?_,hrc⟩
 ·rw[getD_set_ne false (λe=>by subst e;exact hD hj)];exact v.dl j hj
 ·rcases aZ.1 (v.sr j hj) with e | e
  ·subst e;exact absurd hj hD
  ·exact e
 ·rcases v.cov j hj with h | h
  ·exact .inl ((jp Dl).2 (.inr h))
  ·rcases aZ.1 h with e | e
   ·exact .inl ((jp Dl).2 (.inl e))
   ·exact .inr e
 ·have:=v.Kh;simp only[fQ,hD,eR,aP,aL,bI] at this;omega
 ·rw[jp Dm,jp Dl,v.hL];exact or_assoc.symm
 ·rcases v.Zd k hk with h | h
  ·exact .inl ((jp Dl).2 (.inr h))
  ·rcases aZ.1 h with e | e
   ·exact .inl ((jp Dl).2 (.inl e))
   ·exact .inr e
 ·rw[getD_set_ne false (λe=>by subst e;exact (cO.1 v.Zc).1 hk)];exact v.io k (bA _ hk)
theorem Inv.WL (v:Inv P E ops pd w0 C (i::is) l f σ fuel A a w X F D L er RC) (hD:i ∈ D) (vf:i ∉ is) {n_:St} {X2:FP} {F2:Nat->FP} (h2:Rel P C A X2 n_ a w F2) (hp:PF P E ops A a w (D.erase i) X2) :
  Inv P E ops pd w0 C is (l.setIfInBounds i true) f n_ fuel A a w X2 F2 (D.erase i) L er RC:=by
 have Dm:i < L.size:=by
  have h1:=(v.hL i).2 (.inr hD);rcases cR i L.size with h' | h'
  ·exact h'
  ·simp[eE h'] at h1
 have Dl:i < l.size:=by rw[v.ME,<- v.Dk];exact Dm
 have Av:∀ k,k ∈ D.erase i↔k≠i/\k ∈ D:=λk=>v.nd.mem_erase_iff;refine ⟨h2,hp,v.nd.erase _,λj hj=>v.O9 j ((Av j).1 hj).2,λj hj=>?_,λj hj=>?_,λj hj=>?_,?_,v.cl,v.hS,v.hf,by simpa using v.ME,v.Dk,λk=>?_,(cO.1 v.Zc).2,λk hk=>?_,λk hk=>?_,v.rc⟩
 ·obtain ⟨h3,h4⟩:=(Av j).1 hj;rw[getD_set_ne false (λe=>h3 e.symm)];exact v.dl j h4
 ·obtain ⟨h3,h4⟩:=(Av j).1 hj;rcases aZ.1 (v.sr j h4) with e | e
  ·exact absurd e h3
  ·exact e
 ·rcases v.cov j hj with h | h
  ·exact .inl ((jp Dl).2 (.inr h))
  ·rcases aZ.1 h with e | e
   ·exact .inl ((jp Dl).2 (.inl e))
   ·exact .inr e
 ·have:=v.Kh;simp only[fQ,hD,fM,aI,aF,aU] at this;refine bB (dI (cV List.length (List.filter_congr λk hk=>?_))) this;have:k≠i:=λe=>by subst e;exact vf hk
  simp only[Av,this,ne_eq,eR,eQ]
 ·rw[v.hL,jp Dl,Av];constructor
  ·rintro (h | h)
   ·exact .inl (.inr h)
   ·by_cases hk:k=i
    ·exact .inl (.inl hk)
    ·exact .inr ⟨hk,h⟩
  ·rintro ((h | h) | h)
   ·subst h;exact .inr hD
   ·exact .inl h
   ·exact .inr h.2
 ·rcases v.Zd k hk with h | h
  ·exact .inl ((jp Dl).2 (.inr h))
  ·rcases aZ.1 h with e | e
   ·exact .inl ((jp Dl).2 (.inl e))
   ·exact .inr e
 ·rw[getD_set_ne false (λe=>by subst e;exact vf hk)];exact v.io k (bA _ hk)
theorem unl {j:Nat} (bc:j < L.size) {k:Nat} (hu:(L.setIfInBounds j true).getD k false=false):L.getD k false=false:=by
 cases hl:L.getD k false with
 | false=>rfl
 | true=>rw[(jp bc).2 (.inr hl)] at hu;cases hu
theorem Inv.BS (v:Inv P E ops pd w0 C is l f σ fuel A a w X F D L er RC) (xr:Dj E ops pd er=true) {j:Nat} {o':Oper} (hj:ops[j]?=some o') (vC:L.getD j false=false) {a2:Act} {w2:World}
  (ht:∀ d,o'.dst≠some d->tmp a2 d=tmp a d) (hh:∀ e ∈ RC,EK ops (L.setIfInBounds j true) e.2.1->Has w2 e.2.2.1 e.2.2.2.1 e.2.2.2.2):∀ e ∈ RC,RE ops er (L.setIfInBounds j true) a2 w2 e:=by
 intro e he;obtain ⟨h1,h2,o,t,x,d,h3,h4,h5,h6,h7,h8⟩:=v.rc e he;obtain ⟨_,_,o1,t1,x1,d1,g1,_,g2,g3,_,g4⟩:=yw xr h1;rw[h3] at g1;injection g1 with g1;subst g1;rw[h4] at g2;injection g2 with _ g2;injection g2 with g2;subst g2;rw[h5] at g3;injection g3 with g3;subst g3;have i7:j≠e.1:=λe'=>by rw[e'] at vC;rw[h2] at vC;cases vC
 obtain ⟨k1,k2⟩:=g4 j o' hj i7
 have k3:o'.dst≠some x:=λe'=>by
  have:=xQ v.cl _ _ _ (k2 e') h2;rw[this] at vC;cases vC
 exact ⟨h1,by rw[getD_set_ne false i7];exact h2,o,t,x,d,h3,h4,h5,by rw[ht x k3];exact h6,by rw[ht d k1];exact h7,hh e he⟩
theorem Inv.still (v:Inv P E ops pd w0 C (i::is) l f σ fuel A a w X F D L er RC) (xr:Dj E ops pd er=true) {jm:Nat} (Vg:L5 E.er jm=er) {o':Oper} (hj:ops[i]?=some o') (vC:L.getD i false=false) {C2:Ctx} {A2:Cells} {X2:FP} {n_:St} {a2:Act} {w2:World} {F2:Nat->FP} (h2:Rel P C2 A2 X2 n_ a2 w2 F2)
  (ht:∀ d,o'.dst≠some d->tmp a2 d=tmp a d) (fq:JD o'.op=false->Ext w w2 (λ_ _=>0)) (N7:L6 E jm ops.toList i o' is n_=true):∀ e ∈ RC,EK ops (L.setIfInBounds i true) e.2.1->Has w2 e.2.2.1 e.2.2.2.1 e.2.2.2.2:=by
 intro e he hu;obtain ⟨g1,g2,o,t,x,d,g3,g4,g5,g6,g7,g8⟩:=v.rc e he;have Dm:i < L.size:=by rw[v.Dk];exact (cH.1 hj).1
 have huL:EK ops L e.2.1:=hu.imp id λhu=>by
  cases hl:L.getD e.2.1 false with
  | false=>rfl
  | true=>rw[(jp Dm).2 (.inr hl)] at hu;cases hu
 cases hm:JD o'.op with
 | false=>exact (g8 huL).ext (fq hm)
 | true=>
  simp only[L6,hm,iS,aW,dQ,We,Vg,bJ] at N7;have:=N7 _ g1;obtain ⟨Ze,hu2,o1,t1,x1,d1,k1,_,k2,k3,_,k4⟩:=yw xr g1;rw[g3] at k1;injection k1 with k1;subst k1;rw[g4] at k2;injection k2 with _ k2;injection k2 with k2;subst k2;rw[g5] at k3;injection k3 with k3;subst k3;have i7:i≠e.1:=λe'=>by rw[e'] at vC;rw[g2] at vC;cases vC
  have hl:l.getD e.1 false=true:=((v.hL e.1).1 g2).resolve_right λhD=>Ze (v.O9 _ hD)
  have aaX:is.any (Nat.beq e.1)=false:=by
   cases hb:is.any (Nat.beq e.1) with
   | false=>rfl
   | true=>
    have:=v.io e.1 (bA _ (sJ.1 hb));rw[hl] at this;cases this
  have aaY:(is.any (Nat.beq e.2.1)||Nat.ble ops.toList.length e.2.1)=true:=by
   rcases cR e.2.1 ops.size with h9 | h9
   ·have aeG:=huL.resolve_left Bys
    have hui:e.2.1≠i:=λe'=>by
     have:=hu.resolve_left Bys;rw[(jp Dm).2 (.inl e')] at this;cases this
    rcases v.Zd _ h9 with Ke | Ke
    ·rw[(v.hL _).2 (.inl Ke)] at aeG;cases aeG
    ·rcases aZ.1 Ke with Vh | Vh
     ·exact absurd Vh hui
     ·rw[sJ.2 Vh,iS]
   ·have:Nat.ble ops.toList.length e.2.1=true:=by simpa using h9
    rw[this,Bool.or_true]
  rw[aaX,aaY,aW,dQ,dQ,dV,g3] at this;simp only at this;obtain ⟨q1,q2⟩:=k4 i o' hj i7
  have q3:o'.dst≠some x:=λe'=>by
   have:=xQ v.cl _ _ _ (q2 e') g2;rw[this] at vC;cases vC
  have hx:tmp a2 x=.pointer (some ⟨e.2.2.1,e.2.2.2.1,none⟩):=by rw[ht x q3];exact g6
  obtain ⟨z1,z2⟩:=Zb h2 this g4 g5 hx;rw[ht d q1,g7] at z1;exact z1
theorem Inv.early (hE:vk P E) (zH:Im E ops pd=true) {jm:Nat} (Ze:qj E.pd jm=pd) (xr:Dj E ops pd er=true) (st:Wf E jm ops.toList is σ=true) (hC:∀ b i,C.A0 b i->C.F0 b i=0)
  (v:Inv P E ops pd w0 C is l f σ (fuel+1) A a w X F D L er RC) {j:Nat} (hj:j ∈ pd) (hr:j ∈ Region.ready .any ops L) {S:Array Bool->World->Prop}
  (hS:∀ w',Ext w w' (λ_ _=>0)->((∀ d,sI E ops d=true->(L.setIfInBounds j true).getD d false=false)->Ext w0 w' (λ_ _=>0))->S (L.setIfInBounds j true) w')
  (next:∀ (a':Act) (w':World) (X':FP),Inv P E ops pd w0 C is l f σ fuel A a' w' X' F (j::D) (L.setIfInBounds j true) er RC->xt P .any ops Q S fuel (L.setIfInBounds j true) a' w') :
  wpOp P ops Q j (λa' w'=>S (L.setIfInBounds j true) w'/\xt P .any ops Q S fuel (L.setIfInBounds j true) a' w') a w:=by
 obtain ⟨o,d,s,ho,hg,hd,hs,i7⟩:=EM zH hj;have Dm:j < L.size:=by rw[v.Dk];exact (cH.1 ho).1
 obtain ⟨hjD,hjl,_⟩:=v.MF (mem_ready.1 hr).1;have aaZ:j ∈ is:=(v.cov j hj).resolve_left (by rw[hjl];simp)
 have a_:NR σ d=true:=by
  unfold Wf at st;rw[Ze] at st;have:=bJ.1 st j hj;rw[dV,ho,sJ.2 aaZ] at this
  simpa [hd] using this
 obtain ⟨val,w',Fj,lW,fq,h2,hPS⟩:=aaW (o:=o) v.h hE.ti hs a_
 have xu:(∀ d,sI E ops d=true->(L.setIfInBounds j true).getD d false=false)->Ext w0 w' (λ_ _=>0):=λKi=>(v.hS λd' vw=>by
  cases hh:L.getD d' false with
  | false=>rfl
  | true=>rw[<-Ki d' vw,(jp Dm).2 (.inr hh)]).trans fq (λ_ _ _ _=>rfl)
 have hw:Region.wanted o (yielded ops a.tmps)=true:=by simp[Region.wanted,hg]
 unfold wpOp;simp only[ho,hw,aL];refine .inl (qm lW ⟨hS w' fq xu,?_⟩);rw[hd];have hdn:d < σ.n:=(O5 a_).1
 refine next _ _ (λb i=>X b i+Fj b i) ⟨h2,⟨o,d,s,Fj,X,ho,hd,hs,?_,λb i=>aG _,?_⟩,cO.2 ⟨hjD,v.nd⟩,?_,?_,?_,v.cov,?_,Gk v.cl hr,xu,λhf=>?_,v.ME,by simpa using v.Dk,λk=>?_,v.Zc,v.Zd,v.io,v.BS xr ho (by have:=(mem_ready.1 hr).1;rw[xR Dm] at this;exact this) (λd' vw=>by rw[ql,aN (λe=>vw (by rw[hd,e.1]))]) (λe he hu=>by
  obtain ⟨_,_,_,_,_,_,_,_,_,_,_,q⟩:=v.rc e he
  exact (q (hu.imp id λhu=>unl Dm hu)).ext fq)⟩
 ·have:tmp (a.put (some d) val) d=val:=by rw[ql,v.h.size,aH ⟨rfl,hdn⟩]
  rw[this];exact hPS
 ·refine PF.oL (λ_ _ h=>h) (λb i ha u hu=>fq.cell b i (yC hu) rfl u hu) fq.y0 D (λk hk o' d' Dn vw=>?_) (λb i hp=>⟨λu hu=>fq.cell b i (yC hu) rfl u hu,fq.BU b i (v.h.mr b i (.inl Bys))⟩) v.pf;have:d'≠d:=λe=>i7 k o' Dn (λe'=>by subst e';exact hjD hk) (by rw[vw,e]);rw[ql,aN (λh=>this h.1.symm)]
 ·intro k hk;rcases aZ.1 hk with e | e
  ·subst e;exact hj
  ·exact v.O9 k e
 ·intro k hk;rcases aZ.1 hk with e | e
  ·subst e;exact hjl
  ·exact v.dl k e
 ·intro k hk;rcases aZ.1 hk with e | e
  ·subst e;exact aaZ
  ·exact v.sr k e
 ·have:=TW hjD is aaZ;have:=v.Kh;omega
 ·have:=(v.hf hf).2;rw[this] at hj;cases hj
 ·rw[jp Dm,v.hL,aZ];constructor
  ·rintro (h | h | h)
   ·exact .inr (.inl h)
   ·exact .inl h
   ·exact .inr (.inr h)
  ·rintro (h | h | h)
   ·exact .inr (.inl h)
   ·exact .inl h
   ·exact .inr (.inr h)
theorem Zf (hE:vk P E) {jm:Nat} (dm:∀ o ∈ ops.toList,tN P o.op=true) {K:St->Option R} (hP:∀ c a w,¬ Q (.panic c) a w) (Gl:Region.noSelect ops=true) (zH:Im E ops pd=true) (Ze:qj E.pd jm=pd) {er:List (Nat×Nat)} (Vg:L5 E.er jm=er) (xr:Dj E ops pd er=true) :
  ∀ (is:List Nat) (l:Array Bool) (f:Bool) {C:Ctx} {σ:St},(∀ a w,Nx P C K x a w->Q .normal a w)->(∀ b i,C.A0 b i->C.F0 b i=0)->Di E jm ops pd is l f=true->HT E jm ops.toList is σ K=some x ->
   ∀ (fuel:Nat) {A:Cells} {a:Act} {w:World} {X:FP} {F:Nat->FP} {D:List Nat} {L:Array Bool} {RC:List (Nat×Nat×Nat×Nat×List Value)},Inv P E ops pd w0 C is l f σ fuel A a w X F D L er RC->xt P .any ops Q (SD E ops w0 C RC) fuel L a w:=by
 intro is
 induction is with
 | nil=>
  intro l f C σ hQ hC hg hk fuel A a w X F D L RC v;simp only[Di,bH] at hg
  have hD:D=[]:=by
   cases D with
   | nil=>rfl
   | cons j D=>have:=v.sr j (by simp);cases this
  subst hD
  have hr:Region.ready .any ops L=[]:=by
   rw[List.eq_nil_iff_forall_not_mem];intro j hj;have:=v.In (S:=[]) (λ_ h=>h) hj (by simp);rw[D_,hg] at this;cases this
  have hq:=hQ a w ⟨σ,hk,A,F,v.h.less λ_ _=>aX _⟩
  cases fuel with
  | zero=>exact ⟨hr,hq⟩
  | succ fuel=>exact ⟨λ_=>hq,by rw[hr];simp⟩
 | cons i is ih=>
  intro l f C σ hQ hC hg hk;simp only[HT] at hk;split at hk
  ·cases hk
  rename_i st;simp only[Di] at hg
  cases hi:ops[i]? with
  | none=>rw[hi] at hg;cases hg
  | some o=>
  rw[dV,hi] at hk;rw[hi] at hg;simp only at hk hg;have Rr:i < ops.size:=(cH.1 hi).1;have BX:o ∈ ops.toList:=bT (i:=i) (by simpa using hi)
  have WL:∀ (fuel:Nat) {A:Cells} {a:Act} {w:World} {X:FP} {F:Nat->FP} {D:List Nat} {L:Array Bool} {RC:List (Nat×Nat×Nat×Nat×List Value)},Inv P E ops pd w0 C (i::is) l f σ fuel A a w X F D L er RC->i ∈ D->xt P .any ops Q (SD E ops w0 C RC) fuel L a w:=by
   intro fuel A a w X F D L RC v hD;have Fl:=v.O9 i hD;rw[sJ.2 Fl] at hg;simp only[aC,cB] at hg;obtain ⟨⟨⟨vf,_⟩,_⟩,hg⟩:=hg;have vf:i ∉ is:=λhm=>by rw[sJ.2 hm] at vf;cases vf
   obtain ⟨o',d',s',Dn,HC,vw,O_,_⟩:=EM zH Fl;rw[hi] at Dn;injection Dn with Dn;subst Dn;obtain ⟨o2,d,s,Fi,X',g1,g2,g3,g4,g5,g6⟩:=PF.take D hD v.pf;rw[hi] at g1;injection g1 with g1;subst g1;simp only[HS,HC] at hk;split at hk
   ·cases hk
   rw[aaV g3,g2] at hk;split at hk;rotate_left
   ·cases hk
   obtain ⟨F2,h2⟩:=v.h.cq (some d) g4.slot g5 g4.whole;rw[RJ] at h2;exact ih _ f hQ hC hg hk fuel (v.WL hD vf h2 g6)
  intro fuel
  induction fuel with
  | zero=>
   intro A a w X F D L RC v;by_cases hD:i ∈ D
   ·exact WL 0 v hD
   ·have:=v.Kh;simp[fQ,hD] at this
  | succ fuel ihf=>
  intro A a w X F D L RC v;by_cases hD:i ∈ D
  ·exact WL _ v hD
  have MG:∀ e ∈ RC,EK ops L e.2.1->Has w e.2.2.1 e.2.2.2.1 e.2.2.2.2:=λe he=>by obtain ⟨_,_,_,_,_,_,_,_,_,_,_,q⟩:=v.rc e he;exact q
  have agL:∀ w',Ext w w' (λ_ _=>0)->∀ (l':Array Bool),(∀ k,l'.getD k false=false->L.getD k false=false)->((∀ d,sI E ops d=true->l'.getD d false=false)->Ext w0 w' (λ_ _=>0))->SD E ops w0 C RC l' w':=λw' ve l' Eb hh=>⟨hh,(λb i ha u hu=>by
   have:=v.h.ext.cell b i (yC hu) (hC b i ha) u hu
   exact ve.cell b i (yC this) rfl u this),λe he hu=>(MG e he (hu.imp id (Eb _))).ext ve⟩
  have Zg:∀ j,j ∈ pd->j ∈ Region.ready .any ops L->wpOp P ops Q j (λa' w'=>SD E ops w0 C RC (L.setIfInBounds j true) w'/\xt P .any ops Q (SD E ops w0 C RC) fuel (L.setIfInBounds j true) a' w') a w:=λj hj hr=>
   v.early hE zH Ze xr st hC hj hr (λw' ve hh=>agL w' ve _ (λk hk=>unl (by rw[v.Dk];obtain ⟨_,oj,MC,_⟩:=mem_ready.1 hr;exact (cH.1 MC).1) hk) hh) (λa' w' X' v'=>ihf v')
  have RL:SD E ops w0 C RC L w:=⟨v.hS,(λb i ha u hu=>v.h.ext.cell b i (yC hu) (hC b i ha) u hu),MG⟩
  cases Kj:pd.any (Nat.beq i) with
  | true=>
   rw[Kj] at hg;simp only[aC,cB,bJ] at hg;obtain ⟨⟨⟨vf,Ec⟩,N7⟩,hg⟩:=hg;have vX:i ∈ Region.ready .any ops L:=v.K3 (by simpa using Ec) hD;refine ⟨λh0=>(by rw[h0] at vX;cases vX),λj hj=>Zg j ?_ hj⟩
   by_cases hjS:j ∈ pd.filter (λj=>!Nat.beq i j)
   ·exact (List.mem_filter.1 hjS).1
   ·refine sJ.1 (N7 j (v.In (λk hk=>List.mem_filter.2 ⟨v.O9 k hk,?_⟩) hj hjS))
    cases hb:Nat.beq i k with
    | false=>rfl
    | true=>rw[dB hb] at hD;exact absurd hk hD
  | false=>
  rw[Kj] at hg;simp only at hg;have aiN:i ∉ pd:=λhm=>by rw[sJ.2 hm] at Kj;cases Kj
  have aa0:∀ j ∈ D,∀ o' d,ops[j]?=some o'->o'.dst=some d->o.dst≠some d:=λj hj o' d Dn vw=>by
   obtain ⟨o2,d2,s2,g1,_,g2,_,g3⟩:=EM zH (v.O9 j hj);rw[Dn] at g1;injection g1 with g1;subst g1;rw[vw] at g2;injection g2 with g2;subst g2;exact g3 i o hi (λe=>by subst e;exact hD hj)
  obtain ⟨b,qH,hk,h1,hw⟩:=RG v.h hk
  have U9:(match (generalizing:=false) b with
    | true=>t_ E jm i o qH λσ=>match L6 E jm ops.toList i o is σ with
     | true=>HT E jm ops.toList is σ K
     | false=>none
    | false=>HT E jm ops.toList is (qH.cq o.dst (.ug [])) K)=some x/\(b=true->QV E jm i=true->QU qH o=true):=by
   cases b with
   | true=>
    simp only at hk
    cases hn:(QV E jm i&&!QU qH o) with
    | true=>rw[hn] at hk;cases hk
    | false=>
     rw[hn] at hk;exact ⟨hk,λ_ Mp=>by rw[Mp] at hn;simpa using hn⟩
   | false=>exact ⟨hk,λe=>by cases e⟩
  obtain ⟨hk,agM⟩:=U9
  have C7:∀ (val:Value),∀ j ∈ D,∀ o' d,ops[j]?=some o'->o'.dst=some d->tmp (a.put o.dst val) d=tmp a d:=λval j hj o' d Dn vw=>by
   have:=aa0 j hj o' d Dn vw
   cases hod:o.dst with
   | none=>rfl
   | some e=>rw[ql,aN (λh=>this (by rw[hod,h.1]))]
  split at hg
  ·rename_i acI;simp only[aC,cN,cB,bJ,cD] at acI;obtain ⟨sF,⟨Qo,RM⟩,Ec⟩:=acI;have vX:i ∈ Region.ready .any ops L:=v.K3 (by simpa using RM) hD;have MH:∀ j oj,ops[j]?=some oj->j≠i->L.getD j true=false->(∀ e ∈ oj.after,Region.binds .any e=true->e.on≠i)->o.apart ops oj=true:=λj oj MC qk vC sa=>Region.free_spec hi Qo j oj MC qk (v.MF vC).2.2 sa;have vD:sI E ops i=false:=by simp[sI,hi,sF]
   have Ki:∀ (l':Array Bool),(∀ d,sI E ops d=true->(l'.setIfInBounds i true).getD d false=false)↔∀ d,sI E ops d=true->l'.getD d false=false:=λl'=>by
    constructor
    ·intro hh d hd;have:=hh d hd;rw[getD_set_ne false (λe=>by subst e;rw[vD] at hd;cases hd)] at this;exact this
    ·intro hh d hd;rw[getD_set_ne false (λe=>by subst e;rw[vD] at hd;cases hd)];exact hh d hd
   have hSD:∀ (C:Ctx) (RC:List (Nat×Nat×Nat×Nat×List Value)),(∀ e ∈ RC,(e.1,e.2.1) ∈ er)->∀ l w,SD E ops w0 C RC (l.setIfInBounds i true) w↔SD E ops w0 C RC l w:=λC RC gb l' w'=>by
    unfold SD;rw[Ki];refine and_congr iH (and_congr iH (forall_congr' λe=>forall_congr' λhe=>?_))
    have i7:i≠e.2.1:=λe'=>by
     rcases (yw xr (gb e he)).2.1 with h | ⟨h,_⟩
     ·omega
     ·rw[<-e',vD] at h;cases h
    unfold EK;rw[getD_set_ne false i7]
   have gb:∀ e ∈ RC,(e.1,e.2.1) ∈ er:=λe he=>(v.rc e he).1
   have afZ:∀ {l':Array Bool} {u:Nat},(∃ j,(j,u) ∈ er)->(EK ops (l'.setIfInBounds i true) u->EK ops l' u):=λ{l' u} ⟨j,hj⟩ hu=>by
    have i7:i≠u:=λe'=>by
     rcases (yw xr hj).2.1 with h | ⟨h,_⟩
     ·omega
     ·rw[<-e',vD] at h;cases h
    unfold EK at hu ⊢
    rwa [getD_set_ne false i7] at hu
   have hS1:(∀ d,sI E ops d=true->(L.setIfInBounds i true).getD d false=false)->Ext w0 w (λ_ _=>0):=λhd=>v.hS ((Ki L).1 hd)
   have K4:L.getD i false=false:=by
    have h0:=(mem_ready.1 vX).1;rw[xR (by rw[v.Dk];exact Rr)] at h0;exact h0
   have JM:∀ (val:Value),∀ e ∈ RC,RE ops er (L.setIfInBounds i true) (a.put o.dst val) w e:=λval=>v.BS xr hi K4 (λd hd=>by
    cases ho:o.dst with
    | none=>rfl
    | some d'=>rw[ql,aN (λe=>hd (by rw[ho,e.1]))]) (λe he hu=>MG e he (afZ ⟨_,gb e he⟩ hu))
   cases b with
   | true=>
    simp only at hk
    cases aeH:QV E jm i with
    | true=>
     obtain ⟨C',c1,c2,c3,c4,c5⟩:=h1.adl;obtain ⟨C1,f1,f2⟩:=c4.frame;obtain ⟨val,lW,n_,oC,A2,F2,h2⟩:=adm f1 hE (dm o BX) sF (agM rfl aeH) hk;simp only at oC;split at oC;rotate_left
     ·cases oC
     have hC':∀ b i,C'.A0 b i->C'.F0 b i=0:=λb i ha=>c3 b i (by rw[<-c2];exact ha);obtain ⟨e1,e2,e3,e4,e5⟩:=f2 h2
     refine EL (S:=SD E ops w0 C' RC) (λl' w' hs=>⟨hs.1,(λb i ha u hu=>hs.2.1 b i (by rw[c2];exact h1.a0 b i ha) u (by rw[c1];exact h1.ext.cell b i (yC hu) (hC b i ha) u hu)),hs.2.2⟩) _ _ _ _
      (zN hi (Region.noSelect_spec Gl) (λc a w hq=>(hP c _ _ hq).elim) (hSD C' RC gb) fuel L a w MH vX v.cl (.inl ⟨hw,λw' xu=>lW w' λb i ha u hu=>?_⟩) ⟨v.hS,(λb i ha u hu=>by rw[c1] at hu;exact hu),MG⟩
      (ih _ f (λa w ⟨D2,q1,A3,F3,q2⟩=>hQ a w ⟨D2,q1,A3,F3,c5 q2⟩) hC' hg oC fuel (v.next hD vX e1 (PF.oL e2 e3 e4 D (C7 val) e5 v.pf) hS1 v.hf (JM val))))
     obtain ⟨l',CV,vC,xu⟩:=xu;exact xu.2.1 b i (by rw[c2];exact ha) u (by rw[c1];exact hu)
    | false=>
    cases RN:Wd E jm i with
    | true=>
     obtain ⟨u,Qp⟩:∃ u,(i,u) ∈ er:=by
      unfold Wd at RN;rw[Vg] at RN;obtain ⟨e,he1,he2⟩:=eL.1 RN;rw[dB he2];exact ⟨e.2,he1⟩
     obtain ⟨_,hu0,o1,t1,x1,d1,g1,_,g2,g3,g4,_⟩:=yw xr Qp;rw[hi] at g1;injection g1 with g1;subst g1;obtain ⟨C1,f1,f2⟩:=h1.frame;obtain ⟨b0,off,agN,cs,q1,q2,q3,q4⟩:=ado f1 hE (dm o BX) g2 hk;obtain ⟨val,lW,n_,oC,A2,F2,h2⟩:=Qn hE f1 (dm o BX) sF hk
     have Rf:val=agN:=by
      have r1:=lW w λ_=>Ext.refl _ _;have r2:=q4 w q2;rw[r1] at r2;injection r2 with r2 _;injection r2
     subst Rf;simp only at oC;split at oC;rotate_left
     ·cases oC
     rename_i Qq;obtain ⟨e1,e2,e3,e4,e5⟩:=f2 h2
     have AC:RE ops er (L.setIfInBounds i true) (a.put o.dst val) w (i,u,b0,off,cs):=by
      refine ⟨Qp,(jp (by rw[v.Dk];exact Rr)).2 (.inl rfl),o,t1,x1,d1,hi,g2,g3,?_,?_,λ_=>q2⟩
      ·rw[g3,ql,aN (λe=>g4 e.1.symm)];exact q1
      ·simp only[L6,RN,Bool.or_true,aW,dQ,We,Vg,bJ] at Qq;have h9:=Qq _ Qp
       have aaX:is.any (Nat.beq i)=false:=by
        cases hb:is.any (Nat.beq i) with
        | false=>rfl
        | true=>exact absurd (sJ.1 hb) (cO.1 v.Zc).1
       have aaY:(is.any (Nat.beq u)||Nat.ble ops.toList.length u)=true:=by
        rcases cR u ops.size with k1 | k1
        ·obtain ⟨k2,_,k3⟩:=hu0.resolve_left Bys;rcases v.Zd u k1 with k4 | k4
         ·have k5:=(v.hL u).2 (.inl k4);have:=xQ v.cl _ _ _ k3 k5;rw[K4] at this;cases this
         ·rcases aZ.1 k4 with k5 | k5
          ·rw[k5,vD] at k2;cases k2
          ·rw[sJ.2 k5,iS]
        ·have:Nat.ble ops.toList.length u=true:=by simpa using k1
         rw[this,Bool.or_true]
       rw[aaX,aaY,aW,dQ,dQ,dV,hi] at h9;simp only at h9;have Ke:=(Zb h2 h9 g2 g3 (b:=b0) (off:=off) (by rw[g3,ql,aN (λe=>g4 e.1.symm)];exact q1)).2;rw[g3] at Ke ⊢;rw[ql,aH ⟨rfl,by simpa [Act.put] using Ke⟩];exact q3
     refine EL (S:=SD E ops w0 C ((i,u,b0,off,cs)::RC)) (λl' w' hs=>⟨hs.1,hs.2.1,λe he=>hs.2.2 e (bA _ he)⟩) _ _ _ _
      (zN hi (Region.noSelect_spec Gl) (λc a w hq=>(hP c _ _ hq).elim) (hSD C _ (λe he=>by rcases aZ.1 he with rfl | he;exact Qp;exact gb e he)) fuel L a w MH vX v.cl (.inl ⟨hw,λw' xu=>?_⟩) ⟨RL.1,RL.2.1,λe he hu=>?_⟩
      (ih _ f hQ hC hg oC fuel (v.next hD vX e1 (PF.oL e2 e3 e4 D (C7 val) e5 v.pf) hS1 v.hf (λe he=>?_))))
     ·obtain ⟨l',CV,vC,xu⟩:=xu;refine q4 w' (xu.2.2 _ bF ?_)
      rcases hu0 with k1 | ⟨_,_,k3⟩
      ·exact .inl k1
      ·right;show l'.getD u false=false
       cases hld:l'.getD u false with
       | false=>rfl
       | true=>
        have:=xQ CV _ _ _ k3 hld;rcases cR i l'.size with h' | h'
        ·simp[h'] at this vC;rw[vC] at this;cases this
        ·simp[eE h'] at this
     ·rcases aZ.1 he with rfl | he
      ·exact q2
      ·exact MG e he hu
     ·rcases aZ.1 he with rfl | he
      ·exact AC
      ·exact JM val e he
    | false=>
    obtain ⟨C1,f1,f2⟩:=h1.frame;obtain ⟨val,lW,n_,oC,A2,F2,h2⟩:=Qn hE f1 (dm o BX) sF hk;simp only at oC;split at oC;rotate_left
    ·cases oC
    obtain ⟨e1,e2,e3,e4,e5⟩:=f2 h2;refine zN hi (Region.noSelect_spec Gl) (λc a w hq=>(hP c _ _ hq).elim) (hSD C RC gb) fuel L a w MH vX v.cl (.inl ⟨hw,λw' xu=>lW w' λhr=>?_⟩) RL (ih _ f hQ hC hg oC fuel (v.next hD vX e1 (PF.oL e2 e3 e4 D (C7 val) e5 v.pf) hS1 v.hf (JM val)))
    rcases Ec with ((Ec | Ec) | Ec) | ⟨pk,agO⟩
    ·rw[hr] at Ec;cases Ec
    ·rw[aeH] at Ec;cases Ec
    ·rw[RN] at Ec;cases Ec
    ·rw[(v.hf pk).1];obtain ⟨l',CV,vC,xu⟩:=xu;refine xu.1 λd hd=>?_
     have hdl:d < ops.size:=by
      unfold sI at hd;split at hd
      ·rename_i od hod;exact (cH.1 hod).1
      ·cases hd
     rcases agO d hdl with hh | hh
     ·rw[hd] at hh;cases hh
     ·cases hld:l'.getD d false with
      | false=>rfl
      | true=>
       have:=xQ CV _ _ _ hh hld;rcases cR i l'.size with h' | h'
       ·simp[h'] at this vC;rw[vC] at this;cases this
       ·simp[eE h'] at this
   | false=>
    obtain ⟨F2,h2⟩:=N6 h1 o;exact zN hi (Region.noSelect_spec Gl) (λc a w hq=>(hP c _ _ hq).elim) (hSD C RC gb) fuel L a w MH vX v.cl (v:=undef) (.inr ⟨hw,rfl⟩) RL (ih _ f hQ hC hg hk fuel (v.next hD vX h2 (PF.oL (λ_ _ h=>h) (λ_ _ _ _ h=>h) (λ_ _ h=>h) D (C7 undef) (λ_ _ _=>⟨λ_ h=>h,rfl⟩) v.pf) hS1 v.hf (JM undef)))
  ·simp only[aC,bJ] at hg;obtain ⟨⟨RM,N7⟩,hg⟩:=hg;have vX:i ∈ Region.ready .any ops L:=v.K3 (by simpa using RM) hD;have WM:i < L.size:=by rw[v.Dk];exact Rr
   have K4:L.getD i false=false:=by
    have h0:=(mem_ready.1 vX).1;rw[xR WM] at h0;exact h0
   refine ⟨λh0=>(by rw[h0] at vX;cases vX),λj hj=>?_⟩
   by_cases hjp:j ∈ pd
   ·exact Zg j hjp hj
   have sb:i=j:=dB (N7 j (v.In v.O9 hj hjp));subst sb;unfold wpOp;simp only[hi,hw]
   have hold:∀ {d},(L.setIfInBounds i true).getD d false=false->L.getD d false=false:=λ{d} hh=>by
    cases hl:L.getD d false with
    | false=>rfl
    | true=>rw[(jp WM).2 (.inr hl)] at hh;cases hh
   have yL:(L.setIfInBounds i true).getD i false=true:=(jp WM).2 (.inl rfl)
   cases b with
   | true=>
    simp only[aL];obtain ⟨C1,f1,f2⟩:=h1.frame;have Ea:∀ w',(∀ b i,A b i->∀ u,ce w b i=some u->ce w' b i=some u)->∀ b i,C.A0 b i->∀ u,ce C.w0 b i=some u->ce w' b i=some u:=λw' he b i ha u hu=>he b i (v.h.a0 b i ha) u (v.h.ext.cell b i (yC hu) (hC b i ha) u hu)
    cases sF:yo E o.op with
    | true=>
     refine .inl (Oper.wp_mono (λa' w' hn=>?_) (Y_ (adn (Qn hE f1 (dm o BX) sF hk))));obtain ⟨ht,hww,n_,oC,A2,F2,h2⟩:=hn;subst hww;simp only at oC;split at oC;rotate_left
     ·cases oC
     obtain ⟨e1,e2,e3,e4,e5⟩:=f2 h2;have xu:(∀ d,sI E ops d=true->(L.setIfInBounds i true).getD d false=false)->Ext w0 w (λ_ _=>0):=λhd=>v.hS λd Ki=>hold (hd d Ki);exact ⟨⟨xu,Ea _ e3,λe he hu=>MG e he (hu.imp id hold)⟩,ih _ false hQ hC hg oC fuel (v.next hD vX e1 (PF.oL e2 e3 e4 D (λj hj o' d Dn vw=>ht d (aa0 j hj o' d Dn vw)) e5 v.pf) xu (λe=>by cases e) (v.BS xr hi K4 ht λe he hu=>MG e he (hu.imp id hold)))⟩
    | false=>
    refine .inl (Oper.wp_mono (λa' w' hn=>?_) (Y_ (Y9 hE f1 (dm o BX) sF hk)));obtain ⟨ht,⟨n_,oC,A2,F2,h2⟩,hq⟩:=hn;simp only at oC;split at oC;rotate_left
    ·cases oC
    rename_i Qq;obtain ⟨e1,e2,e3,e4,e5⟩:=f2 h2
    have xu:(∀ d,sI E ops d=true->(L.setIfInBounds i true).getD d false=false)->Ext w0 w' (λ_ _=>0):=λhd=>by
     have hqq:quiet E o.op=true:=by
      cases hqq:quiet E o.op with
      | true=>rfl
      | false=>
       have hdj:sI E ops i=true:=by simp[sI,hi,sF,hqq]
       have:=hd i hdj;rw[yL] at this;cases this
     exact (v.hS λd Ki=>hold (hd d Ki)).trans (hq hqq) (λ_ _ _ _=>rfl)
    have aeI:=v.still xr Vg hi K4 h2 ht (λhm=>hq (quiet_of hk hm sF)) Qq;exact ⟨⟨xu,Ea _ e3,aeI⟩,ih _ false hQ hC hg oC fuel (v.next hD vX e1 (PF.oL e2 e3 e4 D (λj hj o' d Dn vw=>ht d (aa0 j hj o' d Dn vw)) e5 v.pf) xu (λe=>by cases e) (v.BS xr hi K4 ht aeI))⟩
   | false=>
    simp only[aF,aU];obtain ⟨F2,h2⟩:=N6 h1 o;have xu:(∀ d,sI E ops d=true->(L.setIfInBounds i true).getD d false=false)->Ext w0 w (λ_ _=>0):=λhd=>v.hS λd Ki=>hold (hd d Ki)
    exact ⟨⟨xu,RL.2.1,λe he hu=>MG e he (hu.imp id hold)⟩,ih _ false hQ hC hg hk fuel (v.next hD vX h2 (PF.oL (λ_ _ h=>h) (λ_ _ _ _ h=>h) (λ_ _ h=>h) D (C7 undef) (λ_ _ _=>⟨λ_ h=>h,rfl⟩) v.pf) xu (λe=>by cases e) (v.BS xr hi K4 (λd hd=>by
     cases ho:o.dst with
     | none=>rfl
     | some d'=>rw[ql,aN (λe=>hd (by rw[ho,e.1]))]) λe he hu=>MG e he (hu.imp id hold)))⟩
end
theorem adq (hE:vk P E) (hm:P.follows .mixedOrders=true) {jm id:Nat} {ops:Array Oper} (dm:∀ o ∈ ops.toList,tN P o.op=true) {is bx:List Nat} (hd:RI E jm ops is=true) (h:eo P C A σ a w F) {K:St->Option R} (hk:UO σ bx (λσ=>Yq ops.toList σ (qj E.pd jm) λσ=>HT E jm ops.toList is σ K)=some x)
  (hQ:∀ a w,Nx P C K x a w->Q .normal a w) (hP:∀ c a w,¬ Q (.panic c) a w):(Code.region id ops true).wp P Q a w:=by
 simp only[RI,aC,dK] at hd;obtain ⟨⟨⟨⟨Gl,hlen⟩,zH,agP⟩,⟨vD,agQ⟩,xr⟩,hg⟩:=hd;have h0:=h.drew;obtain ⟨A1,qH,F1,hk,h1⟩:=acH bx h0 hk;obtain ⟨n_,F2,hk,h1⟩:=afY (qj E.pd jm) h1 hk;obtain ⟨C',c1,c2,c3,c4,c5⟩:=h1.aeF;have hC':∀ b i,C'.A0 b i->C'.F0 b i=0:=λb i ha=>c3 b i (by rw[<-c2];exact ha)
 have Kc:∀ k,(Array.replicate ops.size false).getD k false=false:=λk=>by
  by_cases hk:k < ops.size <;> simp[hk]
 refine wp_region_any hm (MB _ _ _ _ (Zf hE dm hP Gl zH rfl rfl xr is _ _ (λa w ⟨D2,q1,A3,F3,q2⟩=>hQ a w ⟨D2,q1,A3,F3,c5 q2⟩) hC' hg hk ops.size (w0:=w.drew) (D:=[]) (RC:=[]) ⟨c4,trivial,fG,(λ_ h=>by cases h),(λ_ h=>by cases h),(λ_ h=>by cases h),λj hj=>.inr (sJ.1 (bJ.1 agP j hj)),
  bB (List.length_filter_le _ _) hlen,λj o hj hl=>?_,λ_=>Ext.refl _ _,λhf=>⟨rfl,?_⟩,by simp,by simp,(λk=>by simp),Kg vD,λk hk=>.inr (sJ.1 (bJ.1 agQ k (cD.2 hk))),λk _=>Kc k,λe he=>by cases he⟩))
 ·rw[Kc] at hl;cases hl
 ·split at hf
  ·assumption
  ·cases hf
end
section
variable {P:Program} {C:Ctx} {A:Cells} {X:FP} {σ:St} {a:Act} {w:World} {F:Nat->FP} {R:Type} {x:R} {E:Env}
theorem RP (f:Nat->Slot):∀ (live:List Nat) (i:Nat),pG (live.map λj=>(j,f j)) i=if live.any (Nat.beq i) then some (f i) else none
 | [],i=>rfl
 | j::live,i=>by
  simp only[dW,pG,gL];by_cases sb:i=j
  ·simp_all
  ·have h1:Nat.beq j i=false:=by
    grind [Nat.eq_of_beq_eq_true]
   have h2:Nat.beq i j=false:=by
    grind [Nat.eq_of_beq_eq_true]
   simp only[h1,h2,aF,aU,dQ,RP f live i]
theorem Do (live:List Nat) (fr:List (Nat×Md)) (σ:St) (i:Nat):(iv live fr σ).get i=if i < σ.n/\live.any (Nat.beq i)=true then D0 fr i (mG live fr σ i) else .dead:=by
 unfold St.get iv;simp only[RP];grind [Nat.blt_eq]
theorem Gn (live:List Nat) (fr:List (Nat×Md)) (σ:St) (i:Nat):(iv live fr σ).mF i=[0,0,0,0,0]:=rfl
theorem Gp {s:List Nat} (h:s.length<=5):Below (s.map λ_=>0) [0,0,0,0,0]:=by
 intro j y hj;grind
theorem Gq {live:List Nat} {fr:List (Nat×Md)} {r:Nat} (hr:HU live fr r=true) {p:Path} {pl:Pl} (hp:place σ a w r p=some pl):place (iv live fr σ) a w r p=some pl:=by
 grind [vU,HU,place,Do,D0,mG,ej]
theorem Zh {live:List Nat} {fr:List (Nat×Md)} {i:Nat} {G:FP} (hs:dn P A σ a w (tmp a i) (σ.get i) G) (hG:∀ b k,G b k<=1) :
  ∃ G':FP,(∀ b k,G' b k<=G b k)/\∀ A':Cells,(∀ b k,A b k->A' b k)->(∀ b k,1<=G b k->G' b k=0->A' b k)->dn P A' (iv live fr σ) a w (tmp a i) (D0 fr i (mG live fr σ i)) G':=by
 have same:∀ b k,A b k->∀ u,ce w b k=some u->ce w b k=some u:=λ_ _ _ _ h=>h;have dead:D0 fr i .dead=.dead:=by grind [D0]
 have Gr:∀ {s:Slot},(∀ t m H v,s≠.own t m H v)->(∀ t m H v,s≠.box t m H v)->D0 fr i s=s:=λ{s} h1 h2=>by
  grind [D0]
 cases hg:σ.get i with
 | dead=>exact ⟨λ_ _=>0,λ_ _=>aX _,λA' _ _=>by simp only[mG,hg,dead];trivial⟩
 | zn=>
  rw[hg] at hs;exact ⟨λ_ _=>0,λ_ _=>aX _,λA' _ _=>by simp only[mG,hg];rw[Gr (by intros;simp) (by intros;simp)];exact hs⟩
 | val t v=>
  rw[hg] at hs;obtain ⟨cs,h1,h2⟩:=hs;exact ⟨λ_ _=>0,λ_ _=>aX _,λA' hA _=>by simp only[mG,hg];rw[Gr (by intros;simp) (by intros;simp)];exact ⟨cs,h1,Ro.mono same hA t h2⟩⟩
 | cp t v=>
  rw[hg] at hs;exact ⟨λ_ _=>0,λ_ _=>aX _,λA' hA _=>by simp only[mG,hg];rw[Gr (by intros;simp) (by intros;simp)];exact Ro.mono same hA (.ptr t) hs⟩
 | own t m H v=>
  rw[hg] at hs;obtain ⟨cs,h1,h2⟩:=hs;have hk:mG live fr σ i=.own t m H v:=by grind [mG]
  rw[hk];unfold D0;split
  ·exact ⟨G,λ_ _=>aG _,λA' hA _=>⟨cs,h1,am.mono hA same (λ_ _ h=>h) t h2 (λ_ _=>aG _) (λ_ _ _ _ h=>h)⟩⟩
  ·rename_i m1 hm;simp only;split
   ·rename_i hc;simp only[aC,bH] at hc;obtain ⟨hH,hf⟩:=hc;subst hH;obtain ⟨G1,g1,g2⟩:=am.fits t hf h2 hG;refine ⟨G1,g1,λA' hA Ed=>?_⟩
    have hr:=g2 A' hA Ed;split
    ·rename_i e;subst e;exact ⟨cs,h1,am.ro t (jh t) hr⟩
    ·exact ⟨cs,h1,hr⟩
   ·exact ⟨λ_ _=>0,λ_ _=>aX _,λA' _ _=>trivial⟩
 | box t m H v=>
  rw[hg] at hs;obtain ⟨b,o,L,F1,s1,s2,s3,s4,s5,s6⟩:=hs;have hk:mG live fr σ i=.box t m H v:=by grind [mG]
  rw[hk];unfold D0;split
  ·exact ⟨G,λ_ _=>aG _,λA' hA _=>⟨b,o,L,F1,s1,s2,s3,s4,s5,am.mono hA same (λ_ _ h=>h) t s6 (λ_ _=>aG _) (λ_ _ _ _ h=>h)⟩⟩
  ·rename_i m1 hm;simp only;split
   ·rename_i hc;simp only[aC,bH] at hc;obtain ⟨hH,hf⟩:=hc;subst hH;obtain ⟨G1,g1,g2⟩:=am.fits t hf s6 (λb' k=>by grind);refine ⟨λb' k=>d8 b o t.sz b' k+G1 b' k,λb' k=>by grind,λA' hA Ed=>⟨b,o,L,G1,s1,s2,s3,s4,λ_ _=>aG _,g2 A' hA λb' k hp hz=>?_⟩⟩
    grind
   ·exact ⟨λ_ _=>0,λ_ _=>aX _,λA' _ _=>trivial⟩
 | ref r p snap=>
  rw[hg] at hs;refine ⟨λ_ _=>0,λ_ _=>aX _,λA' _ _=>?_⟩
  simp only[mG,hg];split
  ·rename_i hc;simp only[aC] at hc;rw[Gr (by intros;simp) (by intros;simp)];obtain ⟨pl,h1,h2,h3⟩:=hs.2 hc.1;have hl:snap.length<=5:=by grind
   exact ⟨by grind [Gn,Gp],λ_=>⟨pl,Gq hc.2 h1,h2,by simpa using h3⟩⟩
  ·rw[dead];trivial
 | ptr r p snap=>
  rw[hg] at hs;refine ⟨λ_ _=>0,λ_ _=>aX _,λA' _ _=>?_⟩
  simp only[mG,hg];split
  ·rename_i hc;simp only[aC] at hc;rw[Gr (by intros;simp) (by intros;simp)];obtain ⟨pl,b,o,h1,h2,h3,h4⟩:=hs.2 hc.1;have hl:snap.length<=5:=by omega
   exact ⟨by grind [Gn,Gp],λ_=>⟨pl,b,o,Gq hc.2 h1,h2,h3,by simpa using h4⟩⟩
  ·rw[dead];trivial
 | sub r p snap lo hi=>
  rw[hg] at hs;refine ⟨λ_ _=>0,λ_ _=>aX _,λA' _ _=>?_⟩
  simp only[mG,hg];split
  ·rename_i hc;simp only[aC] at hc;rw[Gr (by intros;simp) (by intros;simp)];obtain ⟨pl,e,xa,n,cap,yu,cap',h1,h2,h3,h4,h5,h6,h7,h8,h9,Ke,Vh⟩:=hs.2 hc.1;have hl:snap.length<=5:=by grind
   exact ⟨by grind [Gn,Gp],λ_=>⟨pl,e,xa,n,cap,yu,cap',Gq hc.2 h1,h2,h3,h4,h5,h6,h7,h8,h9,Ke,by simpa using Vh⟩⟩
  ·rw[dead];trivial
 | ug xs=>
  rw[hg] at hs;obtain ⟨vs,Fi,h1,h2,h3⟩:=hs;refine ⟨G,λ_ _=>aG _,λA' hA _=>?_⟩
  simp only[mG,hg];rw[Gr (by intros;simp) (by intros;simp)]
  exact ⟨vs,Fi,h1,h2,λj y hy=>by
   obtain ⟨v,g1,g2⟩:=h3 j y hy
   exact ⟨v,g1,g2.imp id λ⟨cs,g3,g4⟩=>⟨cs,g3,am.mono hA same (λ_ _ h=>h) _ g4 (λ_ _=>aG _) (λ_ _ _ _ h=>h)⟩⟩⟩
theorem K5 (h:eo P C A σ a w F) (live:List Nat) (fr:List (Nat×Md)):Ic P C (iv live fr σ) a w:=by
 have hle:∀ i,i < σ.n->∀ b k,F i b k<=1:=λi hi b k=>by have:=h.ry b k;grind [dw]
 have each:∀ i,∃ G':FP,(∀ b k,i < σ.n->G' b k<=F i b k)/\(¬ i < σ.n->∀ b k,G' b k=0)/\∀ A':Cells,(∀ b k,A b k->A' b k)->(∀ b k,1<=F i b k->G' b k=0->A' b k)->i < σ.n->dn P A' (iv live fr σ) a w (tmp a i) ((iv live fr σ).get i) G':=by
  intro i;by_cases hi:i < σ.n
  ·by_cases hl:live.any (Nat.beq i)=true
   ·obtain ⟨G',g1,g2⟩:=Zh (live:=live) (fr:=fr) (h.jz i hi) (hle i hi);exact ⟨G',λb k _=>g1 b k,λhn=>absurd hi hn,λA' hA Ed _=>by grind [Do]⟩
   ·exact ⟨λ_ _=>0,λ_ _ _=>aX _,λ_ _ _=>rfl,λA' _ _ _=>by rw[Do,aN (λhc=>hl hc.2)];trivial⟩
  ·exact ⟨λ_ _=>0,λ_ _ _=>aX _,λ_ _ _=>rfl,λA' _ _ vP=>absurd vP hi⟩
 obtain ⟨F',hF'⟩:=fV each;have sq:∀ b k,bh σ.n F' b k<=bh σ.n F b k:=λb k=>NS b k λj hj=>(hF' j).1 b k hj;refine ⟨λb k=>A b k\/∃ j,j < σ.n/\1<=F j b k/\F' j b k=0,F',?_⟩
 have hold:∀ {b k j},j < σ.n->1<=F j b k->1<=0+bh σ.n F b k:=λ{b k j} hj hp=>by grind [dw]
 refine ⟨h.size,h.defers,λi hi=>(hF' i).2.2 _ (λ_ _ h=>.inl h) (λb k hp hz=>.inr ⟨i,hi,hp,hz⟩) hi,(λd r p snap hm=>by cases hm),λb k=>by have:=h.ry b k;have:=sq b k;show 0+bh σ.n F' b k<=1;omega,λb k hp ha=>?_,λb k hp=>?_,
  λi=>by rw[Gn];rfl,h.ext,λb k hp=>h.own b k (by have:=sq b k;have hp:1<=0+bh σ.n F' b k:=hp;grind),λb k ha=>.inl (h.a0 b k ha),λb k ha=>?_,h.qA,λr t m H v hg hl=>?_,λj k hm R' rz=>?_,h.zy⟩
 ·have hp:1<=0+bh σ.n F' b k:=hp
  rcases ha with ha | ⟨j,hj,h1,h2⟩
  ·exact h.sr b k (by grind) ha
  ·obtain ⟨i,hi,Kj⟩:=QY (show 1<=bh σ.n F' b k by omega);have i7:i≠j:=λe=>by grind
   have:=vT F hi hj i7 b k;have:=(hF' i).1 b k hi;have:=h.ry b k;omega
 ·rcases hp with hp | (ha | ⟨j,hj,h1,_⟩)
  ·exact h.mr b k (.inl (by have:=sq b k;have hp:1<=0+bh σ.n F' b k:=hp;grind))
  ·exact h.mr b k (.inr ha)
  ·exact h.mr b k (.inl (hold hj h1))
 ·rcases ha with ha | ⟨j,hj,h1,_⟩
  ·exact h.a1 b k ha
  ·exact .inr (h.own b k (hold hj h1))
 ·rw[Do] at hg;split at hg
  ·have:∃ m0 H0 v0,σ.get r=.box t m0 H0 v0:=by
    grind [D0,mG]
   obtain ⟨m0,H0,v0,hg0⟩:=this;exact h.whole r t m0 H0 v0 hg0 hl
  ·cases hg
 ·have Wn:ej w (tmp a j) (σ.get j)=some R'\/∃ H0,ej w (tmp a j) (σ.get j)=some { R' with H:=H0 }:=by
   rw[Do] at rz;split at rz
   ·unfold D0 at rz;split at rz
    ·grind [mG,ej]
    ·split at rz
     ·grind [mG,ej]
     ·rename_i t0 m0 H0 v0 hk
      have Kd:σ.get j=.box t0 m0 H0 v0:=by
       grind [mG]
      split at rz
      all_goals simp_all [ej]
     grind [ej]
   grind [ej]
  rcases Wn with hr | ⟨H0,hr⟩
  ·exact h.pp j k hm R' hr
  ·have:=h.pp j k hm _ hr;exact this
theorem adr (live:List Nat) (σ:St):BS live σ=iv live [] σ:=rfl
theorem ads (h:eo P C A σ a w F) (live:List Nat):Ic P C (BS live σ) a w:=by grind [adr,K5]
end
def QK (P:Program) (C:Ctx) {R:Type} (K:Ex->St->Option R) (fin:St->Option R) (x:R):Exit->Act->World->Prop
 | .normal,a,w=>∃ σ,K .normal σ=some x/\Ic P C σ a w
 | .exit id,a,w=>∃ σ,K (.exit id) σ=some x/\Ic P C σ a w
 | .ret,a,w=>∃ σ,fin σ=some x/\Ic P C σ a w
 | _,_,_=>False
noncomputable def codeOk (P:Program) (E:Env):Code->Bool
 | .skip=>true
 | .region id ops d=>ops.toList.all (λo=>tN P o.op)&&(match d with
  | false=>true
  | true=>P.follows .mixedOrders&&RI E id ops (qj E.od id))
 | .seq a b=>codeOk P E a&&codeOk P E b
 | .cond c a b=>d_ P c&&codeOk P E a&&codeOk P E b
 | .block _ b=>codeOk P E b
 | .loop b=>codeOk P E b
 | .scope b=>codeOk P E b
 | .exit _=>true
 | .ret=>true
 | _=>true
section
variable {P:Program} {C:Ctx} {R:Type} {x:R} {E:Env} {fin:St->Option R} {n:Nat}
theorem adt (hE:vk P E):∀ (c:Code),codeOk P E c=true->∀ {σ:St} {A:Cells} {a:Act} {w:World} {F:Nat->FP} {K:Ex->St->Option R},eo P C A σ a w F->w9 E n fin c σ K=some x->c.wp P (QK P C K fin x) a w:=by
 intro c
 induction c with
 | skip=>intro _ σ A a w F K h hk;exact wp_skip ⟨σ,hk,A,F,h⟩
 | region id ops d=>
  intro hc σ A a w F K h hk;simp only[codeOk,aC] at hc;have dm:∀ o ∈ ops.toList,tN P o.op=true:=λo ho=>bJ.1 hc.1 o ho
  cases d with
  | false=>exact Za hE dm h hk (λa w ⟨σ',h1,A',F',h2⟩=>by
    obtain ⟨A2,n_,F2,h3,h4⟩:=acH _ h2 h1
    exact ⟨n_,h3,A2,F2,h4⟩)
  | true=>
   have h2:=hc.2;simp only[aC] at h2;exact adq hE h2.1 dm h2.2 h hk (λa w ⟨σ',h1,h2⟩=>⟨σ',h1,h2⟩) (λc a w hq=>hq)
 | seq a b nY nH=>
  intro hc σ A ac w F K h hk;simp only[codeOk,aC] at hc;refine wp_seq (wp_mono (nY hc.1 h hk) λe a' w' hq=>?_)
  cases e with
  | normal=>obtain ⟨σ',h1,A',F',h2⟩:=hq;exact nH hc.2 h2 h1
  | exit j=>obtain ⟨σ',h1,h2⟩:=hq;exact ⟨σ',h1,h2⟩
  | ret=>exact hq
  | _=>exact hq.elim
 | cond c a b nY nH=>
  intro hc σ A ac w F K h hk;simp only[codeOk,aC] at hc;simp only[w9] at hk
  rcases gk h hc.1.1 with hs | ⟨xs,e⟩
  rotate_left
  ·rw[e] at hk;cases hk
  grind [Mh,wp_cond_true,wp_cond_false]
 | block id b ih=>
  intro hc σ A ac w F K h hk;refine wp_block (wp_mono (ih hc h hk) λe a' w' hq=>?_)
  cases e with
  | normal=>exact hq
  | exit j=>
   obtain ⟨σ',h1,h2⟩:=hq;simp only[ak] at h1;simp only[Exit.inBlock];by_cases hj:j=id
   ·subst hj;rw[aH (by simp)] at h1;rw[aH rfl];exact ⟨σ',h1,h2⟩
   ·have:Nat.beq j id=false:=by
     grind [Nat.eq_of_beq_eq_true]
    rw[this,aN (by simp)] at h1;rw[aN hj];exact ⟨σ',h1,h2⟩
  | ret=>exact hq
  | _=>exact hq.elim
 | loop b ih=>
  intro hc σ A ac w F K h hk;simp only[w9] at hk
  have key:∀ (m:Nat) (σ:St) (ac:Act) (w:World),Ic P C σ ac w->JE (w9 E n fin b) (iv (qj E.lv (uP b)) (Wg E.lf (uP b))) K m σ=some x->Code.rounds P b (QK P C K fin x) m ac w:=by
   intro m
   induction m with
   | zero=>intro σ ac w h hk;cases hk
   | succ m ihm=>
    intro σ ac w h hk;obtain ⟨A',F',h⟩:=h;rw[rounds_succ];refine wp_mono (ih hc h hk) λe a' w' hq=>?_
    cases e with
    | normal=>
     obtain ⟨σ',h1,A2,F2,h2⟩:=hq;exact ihm _ a' w' (K5 h2 _ _) h1
    | exit j=>exact hq
    | ret=>exact hq
    | _=>exact hq.elim
  exact wp_loop_rounds n (key n _ ac w (K5 h _ _) hk)
 | scope b ih=>
  intro hc σ A ac w F K h hk;refine wp_scope_straight (wp_mono (ih hc h hk) λe a' w' hq=>?_)
  cases e with
  | normal=>exact hq
  | exit j=>exact hq
  | ret=>exact hq
  | _=>exact hq.elim
 | exit id=>
  intro hc σ A ac w F K h hk;exact wp_exit ⟨_,hk,ads h _⟩
 | ret=>
  intro hc σ A ac w F K h hk;exact wp_ret ⟨σ,hk,A,F,h⟩
 | _=>grind [w9]
end
section
variable {P:Program} {C:Ctx} {A:Cells} {X:FP} {σ:St} {a:Act} {w:World} {F:Nat->FP} {R:Type} {x:R} {E:Env}
def Gs (tmps:Array Value):ResultVar->Sem Value
 | .tmp t=>pure (tmps.getD t undef)
 | .cell a t=>do loadVar t (<- asAddr (tmps.getD a undef))
theorem RR {α:Type} (f:α->Sem Value):∀ (l:List α) (vs:List Value),l.length=vs.length->(∀ (j:Nat) (y:α) (v:Value),l[j]?=some y->vs[j]?=some v->(f y).run P w=.ok v w)->(l.mapM f).run P w=.ok vs w
 | [],[],_,_=>rfl
 | y::l,v::vs,hl,h=>by
  have h0:=h 0 y v rfl rfl;have ih:=RR f l vs (by simpa using hl) (λj y v hy hv=>h (j+1) y v hy hv);simp_all
 | [],_::_,h,_=>by simp at h
 | _::_,[],h,_=>by simp at h
theorem TX {fn:Func} {tmps:Array Value} {vs:List Value} (hl:fn.results.toList.length=vs.length) (h:∀ (j:Nat) (y:ResultVar) (v:Value),fn.results.toList[j]?=some y->vs[j]?=some v->(Gs tmps y).run P w=.ok v w) :
  (results fn tmps).run P w=.ok (if h:vs.toArray.size=1 then vs.toArray[0] else .tuple vs.toArray) w:=by
 have h1:=RR (P:=P) (w:=w) (Gs tmps) fn.results.toList vs hl h
 have h2:(fn.results.mapM (Gs tmps)).run P w=.ok vs.toArray w:=by
  have e:fn.results=fn.results.toList.toArray:=by simp
  rw[e,List.mapM_toArray,map_eq_pure_bind,Sem.run_bind,h1,Result.andThen_ok,Sem.run_pure]
 have e:results fn tmps=(do
  let vs <- fn.results.mapM (Gs tmps)
  pure (if h:vs.size=1 then vs[0] else .tuple vs)):=by
  unfold results;congr 1
 simp_all
def K6 (E:Env):List (Ty×Md)->List ResultVar->Bool
 | [],[]=>true
 | _::rs,.tmp _::xs=>K6 E rs xs
 | (t,_)::rs,.cell _ ty::xs=>(match E.TI ty with
  | some T=>decide (T=t)
  | none=>false)&&K6 E rs xs
 | _,_=>false
theorem af0 (hE:vk P E) (h:Rel P C A X σ a w F) {rv:ResultVar} {t:Ty} (C9:∀ b ty,rv=.cell b ty->E.TI ty=some t) {mv:Bool} {K:Md->t.den->St->Option R} (hk:nZ σ (L7 σ rv) mv t K=some x) :
  ∃ (tv:Value),(Gs a.tmps rv).run P w=.ok tv w/\∃ (A':Cells) (σ':St) (F':Nat->FP) (m:Md) (v:t.den) (cs:List Value) (Fv:FP),K m v σ'=some x/\(∀ b i,A b i->A' b i)/\Rel P C A' (λb i=>X b i+Fv b i) σ' a w F'/\tv=dj t cs/\am P w A' t m [] v cs Fv:=by
 cases rv with
 | tmp i=>
  rcases gk h (o:=.tmp i) rfl with hs | ⟨xs,e⟩
  rotate_left
  ·grind [L7,nZ]
  obtain ⟨A',σ',F',m,v,cs,Fv,k1,k2,k3,k4,kr,k5,k6⟩:=wH h hs hk;exact ⟨_,rfl,A',σ',F',m,v,cs,Fv,k1,k2,k3,k5,k6⟩
 | cell i ty=>
  have hT:=C9 i ty rfl;have kt:=hE.ti _ _ hT;simp only[L7] at hk;split at hk
  ·rename_i t0 m0 H0 v0 hg
   have hi:i < σ.n:=by
    grind [nQ]
   have hs:=h.jz i hi;rw[hg] at hs;obtain ⟨b,o,L,F1,s1,s2,s3,s4,s5,s6⟩:=hs
   have i9:place σ a w i []=some ⟨t0,H0,L,some (b,o)⟩:=by
    grind [place,ej,f_,cd]
   have Ql:dn P A σ a w (dj t0 L) (.ref i [] (σ.mF i)) (λ_ _=>0):=⟨Below.refl _,λ_=>⟨_,i9,rfl,.inr (h.nF i)⟩⟩
   have ht:t0=t:=by
    grind [nZ,m_,dh]
   subst ht;obtain ⟨A',σ',F',m,v,cs,Fv,k1,k2,k3,k4,kr,k5,k6⟩:=wH h Ql hk;refine ⟨dj t0 L,?_,A',σ',F',m,v,cs,Fv,k1,k2,k3,k5,k6⟩
   have e:a.tmps.getD i undef=.pointer (some ⟨b,o,none⟩):=s1;grind [A5,am.one,Gs,asAddr]
  grind [nZ]
theorem aeJ (hE:vk P E) {ts:List Ty} {mv:Nat->Bool} {fin:St->((bq ts).den->Option R)->Option R}:∀ (rs:List (Ty×Md)) (E8:List ResultVar) (j:Nat) {σ:St} {A:Cells} {X:FP} {F:Nat->FP} {K:(bq (rs.map (·.1)++ts)).den->Option R},
  K6 E rs E8=true->Rel P C A X σ a w F->Wh σ ts mv fin rs E8 j K=some x ->
  ∃ (A':Cells) (σ':St) (X':FP) (F':Nat->FP) (Gt:List Value) (L:List LV) (Fi:Nat->FP) (pre:(bq ts).den->(bq (rs.map (·.1)++ts)).den),(∀ b i,A b i->A' b i)/\Rel P C A' X' σ' a w F'/\fin σ' (λy=>K (pre y))=some x/\(∀ y,mS rs (pre y)=(L,y)) /\
   Gt.length=L.length/\Gt.length=E8.length/\(∀ (k:Nat) (y:ResultVar) (v:Value),E8[k]?=some y->Gt[k]?=some v->(Gs a.tmps y).run P w=.ok v w)/\(∀ b i,X b i+bh L.length Fi b i<=X' b i) /\
   ∀ A2:Cells,(∀ b i,A' b i->A2 b i)->(∀ b i,1<=X' b i->X b i=0->bh L.length Fi b i=0->A2 b i)->∀ k y,L[k]?=some y->∃ v cs,Gt[k]?=some v/\v=dj y.t cs/\am P w A2 y.t y.m [] y.v cs (Fi k):=by
 intro rs
 induction rs with
 | nil=>
  intro E8 j σ A X F K hrv h hk
  cases E8 with
  | nil=>exact ⟨A,σ,X,F,[],[],λ_ _ _=>0,id,λ_ _ h=>h,h,hk,λy=>rfl,rfl,rfl,(λk y v hy=>by cases hy),(λb i=>by simp[bh]),λA2 _ _ k y hy=>by cases hy⟩
  | cons _ _=>cases hrv
 | cons p rs ih=>
  intro E8 j σ A X F K hrv h hk;obtain ⟨t,m⟩:=p
  cases E8 with
  | nil=>cases hk
  | cons rv E8=>
   simp only[Wh] at hk
   have C9:∀ b ty,rv=.cell b ty->E.TI ty=some t:=λb ty e=>by
    grind [K6]
   have agR:K6 E rs E8=true:=by
    cases rv <;> grind [K6]
   obtain ⟨tv,lW,A1,qH,F1,m1,v1,cs,Fv,k1,k2,k3,k4,k5⟩:=af0 hE h C9 hk;split at k1
   ·rename_i hm;obtain ⟨A',σ',X',F',Gt,L,Fi,pre,g1,g2,g3,g4,g5,g6,g7,g8,g9⟩:=ih E8 (j+1) agR k3 k1;have zC:∀ b i,X' b i<=1:=λb i=>by have:=g2.ry b i;omega
    have Dd:∃ G:FP,(∀ b i,G b i<=Fv b i)/\∀ A2:Cells,(∀ b i,A1 b i->A2 b i)->(∀ b i,1<=Fv b i->G b i=0->A2 b i)->am P w A2 t m [] v1 cs G:=by
     by_cases hmm:m1=m
     ·subst hmm;exact ⟨Fv,λ_ _=>aG _,λA2 hA _=>am.mono hA (λ_ _ _ _ h=>h) (λ_ _ h=>h) t k5 (λ_ _=>aG _) (λ_ _ _ _ h=>h)⟩
     ·rcases hm with hm | hm
      ·grind
      ·exact am.fits t hm k5 (λb i=>by grind)
    obtain ⟨G,G1,G2⟩:=Dd
    have sq:∀ b i,bh (L.length+1) (λk=>match k with | 0=>G | k+1=>Fi k) b i=G b i+bh L.length Fi b i:=λb i=>by
     rw[Nat.add_comm,xi];congr 1
     ·simp[bh]
     grind
    refine ⟨A',σ',X',F',tv::Gt,⟨t,m,v1⟩::L,λk=>match k with | 0=>G | k+1=>Fi k,λy=>(v1,pre y),λb i ha=>g1 b i (k2 b i ha),g2,g3,λy=>by grind [mS],by simp[g5],by simp[g6],λk y v hy hv=>?_,λb i=>?_,λA2 hA Ed k y hy=>?_⟩
    ·grind
    ·grind
    ·have agS:∀ b i,1<=X' b i->X b i=0->G b i+bh L.length Fi b i=0->A2 b i:=λb i h1 h2 h3=>Ed b i h1 h2 (by grind)
     cases k with
     | zero=>
      grind
     | succ k=>
      refine g9 A2 hA (λb i h1 h2 h3=>agS b i h1 Bys (by grind)) k y hy
   ·cases k1
theorem RS {l:List (Nat×Nat×Bool)} {i j:Nat} {c:Bool} (h:E6 l i j c=true):(i,j,c) ∈ l:=by
 induction l <;> grind [E6,Nat.beq_eq]
def rM (F:Nat->FP):List Nat->FP
 | []=>λ_ _=>0
 | i::l=>λb k=>F i b k+rM F l b k
theorem Gu (F:Nat->FP) (i:Nat) (G:FP) (b k:Nat):∀ (l:List Nat),i ∉ l->rM (il F i G) l b k=rM F l b k
 | [],_=>rfl
 | j::l,hj=>by
  simp only[aZ,jI] at hj;simp only[rM,Gu F i G b k l hj.2];rw[show il F i G j=F j by grind [il]]
theorem Vi:∀ (l:List Nat) {n:Nat} (F:Nat->FP),l.Nodup->(∀ i ∈ l,i < n)->∀ b k,rM F l b k<=bh n F b k
 | [],n,F,_,_,b,k=>aX _
 | i::l,n,F,hn,hl,b,k=>by
  have Rq:=cO.1 hn;have h1:=Vi l (il F i λ_ _=>0) Rq.2 (λj hj=>hl j (bA _ hj)) b k;grind [Gu,vS,rM]
theorem RU {F:Nat->FP} {b k:Nat}:∀ {l:List Nat},1<=rM F l b k->∃ i ∈ l,1<=F i b k
 | [],h=>by simp[rM] at h
 | i::l,h=>by
  simp only[rM] at h;rcases bK (F i b k) with h0 | h0
  ·obtain ⟨j,hj,hp⟩:=RU (F:=F) (b:=b) (k:=k) (l:=l) Bys;grind
  grind
def K7:List (PM×Ty)->Bool
 | []=>true
 | _::ps=>K7 ps
theorem adu (h:Rel P C A X σ a w F):∀ (j:Nat) (ps:List (PM×Ty)) (es:List Nat) {K:(bq (mR ps)).den->Option R},K7 ps=true->es.Nodup->j+ps.length<=C.args.size->zs σ j ps es K=some x ->
  ∃ (vs:(bq (mR ps)).den) (us:List Nat) (Gi:Nat->FP),K vs=some x/\(∀ i ∈ us,i ∈ es)/\us.Nodup/\(∀ i ∈ us,i < σ.n)/\(∀ i b k,i ∈ us->Gi i b k<=F i b k) /\
   ∀ A2:Cells,(∀ b k,A b k->A2 b k)->(∀ i b k,i ∈ us->1<=F i b k->Gi i b k=0->A2 b k)->qo P w A2 ps vs (C.args.toList.drop j) (rM Gi us):=by
 intro j ps
 induction ps generalizing j with
 | nil=>intro es K _ _ _ hk;exact ⟨(),[],λ_ _ _=>0,by cases es <;> exact hk,(λi hi=>by cases hi),fG,(λi hi=>by cases hi),(λi b k hi=>by cases hi),λ_ _ _=>trivial⟩
 | cons p ps ih=>
  intro es K hp vD hj hk;obtain ⟨pm,t⟩:=p;have Cd:j+1+ps.length<=C.args.size:=by grind
  have acJ:(C.args.toList.drop j).tail=C.args.toList.drop (j+1):=by rw[List.tail_drop]
  have af1:(C.args.toList.drop j).head?=some (C.args.getD j undef):=by
   simp only[bI] at hj;rw[List.head?_drop,dV,iD Bys];simp[show j < C.args.size by omega]
  have hF1:∀ i,i < σ.n->∀ b k,F i b k<=1:=λi hi b k=>by have:=h.ry b k;grind [dw]
  cases pm with
  | ro=>
   obtain ⟨vs,us,Gi,g1,g2,g3,g4,g5,g6⟩:=ih (j+1) es hp vD Cd hk;exact ⟨vs,us,Gi,g1,g2,g3,g4,g5,λA2 hA Ed=>by grind [qo]⟩
  | fix f=>
   obtain ⟨vs,us,Gi,g1,g2,g3,g4,g5,g6⟩:=ih (j+1) es hp vD Cd hk;exact ⟨vs,us,Gi,g1,g2,g3,g4,g5,λA2 hA Ed=>by grind [qo]⟩
  | tq f=>
   obtain ⟨vs,us,Gi,g1,g2,g3,g4,g5,g6⟩:=ih (j+1) es hp vD Cd hk;exact ⟨vs,us,Gi,g1,g2,g3,g4,g5,λA2 hA Ed=>by grind [qo]⟩
  | pN f=>
   obtain ⟨vs,us,Gi,g1,g2,g3,g4,g5,g6⟩:=ih (j+1) es hp vD Cd hk;exact ⟨vs,us,Gi,g1,g2,g3,g4,g5,λA2 hA Ed=>by grind [qo]⟩
  | ii m0 m=>
   cases es with
   | nil=>cases hk
   | cons i es=>
    have RV:=cO.1 vD;simp only[zs] at hk;split at hk
    ·rename_i t' m' H v hg;split at hk
     ·rename_i hc;simp only[aC,bH,cN,bE] at hc;obtain ⟨⟨hH,hm⟩,F_⟩:=hc;subst hH;obtain ⟨e,hk⟩:=dh hk;subst e;obtain ⟨vs,us,Gi,g1,g2,g3,g4,g5,g6⟩:=ih (j+1) es hp RV.2 Cd hk
      have hi:i < σ.n:=by
       grind [nQ]
      have hs:=h.jz i hi;rw[hg] at hs;obtain ⟨b,o,L,F1,s1,s2,s3,s4,s5,s6⟩:=hs;have aiO:=h.qA i j (RS F_);have hiu:i ∉ us:=λhu=>RV.1 (g2 i hu)
      have Dd:∃ G:FP,(∀ b k,G b k<=F1 b k)/\∀ A2:Cells,(∀ b i,A b i->A2 b i)->(∀ b i,1<=F1 b i->G b i=0->A2 b i)->am P w A2 t' m [] v L G:=by
       rcases hm with hm | hm
       ·subst hm;exact ⟨F1,λ_ _=>aG _,λA2 hA _=>am.mono hA (λ_ _ _ _ h=>h) (λ_ _ h=>h) t' s6 (λ_ _=>aG _) (λ_ _ _ _ h=>h)⟩
       ·exact am.fits t' hm s6 (λb' k=>by grind)
      obtain ⟨G,G1,G2⟩:=Dd;refine ⟨(v,vs),i::us,il Gi i λb' k=>d8 b o t'.sz b' k+G b' k,g1,λi' vP=>?_,cO.2 ⟨hiu,g3⟩,λi' vP=>?_,λi' b' k vP=>?_,λA2 hA Ed=>?_⟩
      ·grind
      ·grind
      ·by_cases hii:i'=i
       ·grind [il]
       ·simp only[il,aN hii];grind
      ·refine ⟨λb' k=>d8 b o t'.sz b' k+G b' k,rM Gi us,λb' k=>?_,⟨b,o,L,G,by grind,s2,s3,λ_ _=>aG _,G2 A2 hA λb' k hp hz=>?_⟩,?_⟩
       ·grind [rM,Gu,il]
       ·grind [il]
       ·rw[acJ];refine g6 A2 hA λi' b' k vP hp hz=>Ed i' b' k (bA _ vP) hp ?_;have i7:i'≠i:=λe=>by grind
        simp only[il,aN i7];exact hz
     ·cases hk
    ·cases hk
  | oS m=>
   cases es with
   | nil=>cases hk
   | cons i es=>
    have RV:=cO.1 vD;simp only[zs] at hk
    have main:∀ (t':Ty) (m':Md) (H:List Path) (v:t'.den),(σ.get i=.own t' m' H v\/σ.get i=.box t' m' H v)->(if H.isEmpty&&(decide (m'=m)||fits m' m)&&E6 σ.az i j true then kT t' t v λv=>zs σ (j+1) ps es λvs=>K (v,vs) else none)=some x ->
      ∃ (vs:(bq (mR ((PM.oS m,t)::ps))).den) (us:List Nat) (Gi:Nat->FP),K vs=some x/\(∀ i' ∈ us,i' ∈ i::es)/\us.Nodup/\(∀ i ∈ us,i < σ.n)/\(∀ i b k,i ∈ us->Gi i b k<=F i b k) /\
       ∀ A2:Cells,(∀ b k,A b k->A2 b k)->(∀ i b k,i ∈ us->1<=F i b k->Gi i b k=0->A2 b k)->qo P w A2 ((PM.oS m,t)::ps) vs (C.args.toList.drop j) (rM Gi us):=by
     intro t' m' H v hg hk;split at hk
     ·rename_i hc;simp only[aC,bH,cN,bE] at hc;obtain ⟨⟨hH,hm⟩,F_⟩:=hc;subst hH;obtain ⟨e,hk⟩:=dh hk;subst e;obtain ⟨vs,us,Gi,g1,g2,g3,g4,g5,g6⟩:=ih (j+1) es hp RV.2 Cd hk
      have hi:i < σ.n:=by
       grind [nQ]
      have hs:=h.jz i hi
      have jL:∃ (cs:List Value) (F1:FP),dj t' cs=C.args.getD j undef/\(∀ b k,F1 b k<=F i b k)/\am P w A t' m' [] v cs F1:=by
       have hl:=h.pp i j (RS F_);rcases hg with hg | hg
       ·rw[hg] at hs hl;obtain ⟨cs,h1,h2⟩:=hs;have:=hl _ rfl;grind [mq,am.length,am.one]
       ·rw[hg] at hs hl;obtain ⟨b,o,L,F1,s1,s2,s3,s4,s5,s6⟩:=hs;rw[s1] at hl;have:=hl _ rfl;grind [f_]
      obtain ⟨sH,F1,agT,hF,s6⟩:=jL;have hiu:i ∉ us:=λhu=>RV.1 (g2 i hu)
      have Dd:∃ G:FP,(∀ b k,G b k<=F1 b k)/\∀ A2:Cells,(∀ b i,A b i->A2 b i)->(∀ b i,1<=F1 b i->G b i=0->A2 b i)->am P w A2 t' m [] v sH G:=by
       rcases hm with hm | hm
       ·subst hm;exact ⟨F1,λ_ _=>aG _,λA2 hA _=>am.mono hA (λ_ _ _ _ h=>h) (λ_ _ h=>h) t' s6 (λ_ _=>aG _) (λ_ _ _ _ h=>h)⟩
       ·exact am.fits t' hm s6 (λb' k=>by grind)
      obtain ⟨G,G1,G2⟩:=Dd;refine ⟨(v,vs),i::us,il Gi i G,g1,λi' vP=>?_,cO.2 ⟨hiu,g3⟩,λi' vP=>?_,λi' b' k vP=>?_,λA2 hA Ed=>?_⟩
      ·grind
      ·grind
      ·by_cases hii:i'=i
       ·subst hii;simp only[il,aL];grind
       ·simp only[il,aN hii];grind
      ·refine ⟨G,rM Gi us,λb' k=>?_,⟨sH,by rw[af1,agT],G2 A2 hA λb' k hp hz=>?_⟩,?_⟩
       ·simp only[rM,Gu Gi i _ b' k us hiu];simp only[il,aL];exact aG _
       ·refine Ed i b' k bF (by grind) ?_;simp only[il,aL];exact hz
       ·rw[acJ];refine g6 A2 hA λi' b' k vP hp hz=>Ed i' b' k (bA _ vP) hp ?_;have i7:i'≠i:=λe=>by grind
        simp only[il,aN i7];exact hz
     ·cases hk
    split at hk
    ·rename_i t' m' H v hg;exact main t' m' H v (.inl hg) hk
    ·rename_i t' m' H v hg;exact main t' m' H v (.inr hg) hk
    ·cases hk
end
section
variable {P:Program} {w:World} {A:Cells} {R:Type} {x:R} {E:Env}
theorem yQ:∀ (ps:List (PM×Ty)) (v:(bq (ps.map (·.2))).den),(jU ps v).length=ps.length
 | [],_=>rfl
 | (.ro,t)::ps,v=>by cases t <;> simp[jU,yQ ps v.2]
 | (.fix f,t)::ps,v=>by cases t <;> simp[jU,yQ ps v.2]
 | (.ii m m',t)::ps,v=>by simp[jU,yQ ps v.2]
 | (.oS m,t)::ps,v=>by simp[jU,yQ ps v.2]
 | (.tq m,t)::ps,v=>by simp[jU,yQ ps v.2]
 | (.pN m,t)::ps,v=>by simp[jU,yQ ps v.2]
theorem K8:∀ (ps:List (PM×Ty)) {v:(bq (ps.map (·.2))).den} {xs:List Value} {G:FP},rx P w A Ru ps v xs G->xs.length=ps.length
 | [],_,_,_,h=>by have h:_=[]:=h;rw[h];rfl
 | (pm,t)::ps,_,_,_,h=>by
  obtain ⟨y,ys,F1,F2,rfl,_,_,h2⟩:=h;simp[K8 ps h2]
theorem adv:∀ (ps:List (PM×Ty)) {v:(bq (ps.map (·.2))).den} {xs:List Value} {G:FP},rx P w A Ru ps v xs G->K7 ps=true ->
  ∃ Fi:Nat->FP,(∀ b k,bh ps.length Fi b k<=G b k)/\∀ i s,(jU ps v)[i]?=some s->∃ y,xs[i]?=some y/\(∀ σ a,dn P A σ a w y s (Fi i))/\(∀ t m H v,s=.box t m H v->(i,i,false) ∈ xh 0 ps) /\
   ((i,i,true) ∈ xh 0 ps->∃ t m H v,s=.own t m H v):=by
 have main:∀ (ps:List (PM×Ty)) (n:Nat) {v:(bq (ps.map (·.2))).den} {xs:List Value} {G:FP},rx P w A Ru ps v xs G->K7 ps=true ->
   ∃ Fi:Nat->FP,(∀ b k,bh ps.length Fi b k<=G b k)/\∀ i s,(jU ps v)[i]?=some s->∃ y,xs[i]?=some y/\(∀ σ a,dn P A σ a w y s (Fi i))/\(∀ t m H v,s=.box t m H v->(n+i,n+i,false) ∈ xh n ps) /\
    ((n+i,n+i,true) ∈ xh n ps->∃ t m H v,s=.own t m H v):=by
  have bc:∀ (ps:List (PM×Ty)) (n j k:Nat) (c:Bool),(j,k,c) ∈ xh n ps->n<=j/\j=k:=by
   intro ps
   induction ps with
   | nil=>intro n j k c h;cases h
   | cons p ps ih=>
    intro n j k c h;obtain ⟨pm,t⟩:=p
    cases pm with
    | ro=>have:=ih (n+1) j k c h;omega
    | fix f=>have:=ih (n+1) j k c h;omega
    | pN m=>have:=ih (n+1) j k c h;omega
    | ii m m'=>
     rcases aZ.1 h with e | h
     all_goals grind
    | tq m=>
     rcases aZ.1 h with e | h
     all_goals grind
    | oS m=>
     rcases aZ.1 h with e | h
     all_goals grind
  intro ps
  induction ps with
  | nil=>intro n v xs G h _;exact ⟨λ_ _ _=>0,λb k=>aX _,λi s hs=>by cases hs⟩
  | cons p ps ih=>
   intro n v xs G h hp;obtain ⟨pm,t⟩:=p;obtain ⟨y,ys,F1,F2,rfl,hs,ha,hr⟩:=h;have hp':K7 ps=true:=hp;obtain ⟨Fi,g1,g2⟩:=ih (n+1) hr hp'
   obtain ⟨s0,hs0,aa1,aen,jS⟩:∃ s0,jU ((pm,t)::ps) v=s0::jU ps v.2/\(∀ σ a,dn P A σ a w y s0 F1)/\(∀ t' m' H' v',s0=.box t' m' H' v'->∃ m,(∃ m',pm=.ii m m')\/pm=.tq m)/\((∃ m,pm=.oS m)->∃ t' m H v,s0=.own t' m H v):=by
    cases pm with
    | ro=>
     obtain ⟨cs,h1,h2⟩:=ha
     cases t with
     | ptr e=>
      refine ⟨.cp e v.1,rfl,λσ a=>?_,(λ_ _ _ _ e=>by cases e),λ⟨m,e⟩=>by cases e⟩
      have hl:=Ro.length _ h2
      match cs,hl with
      | [u],_=>
       rw[ep _ _ rfl] at h1;subst h1;exact h2
     | _=>exact ⟨.val _ v.1,rfl,λσ a=>⟨cs,h1,h2⟩,(λ_ _ _ _ e=>by cases e),λ⟨m,e⟩=>by cases e⟩
    | fix f=>
     obtain ⟨⟨cs,h1,h2⟩,h3⟩:=ha
     cases t with
     | fn=>
      refine ⟨.val .fn (f,v.1.2),rfl,λσ a=>⟨cs,h1,?_⟩,(λ_ _ _ _ e=>by cases e),λ⟨m,e⟩=>by cases e⟩
      grind
     | _=>exact ⟨.dead,rfl,λσ a=>trivial,(λ_ _ _ _ e=>by cases e),λ⟨m,e⟩=>by cases e⟩
    | ii m m'=>
     obtain ⟨b,o,L,F3,h1,h2,h3,h4,h5,h6⟩:=ha;exact ⟨.box t m [] v.1,rfl,λσ a=>⟨b,o,L,F3,h1,h2,h3,h4,h5,h6⟩,λ_ _ _ _ _=>⟨m,.inl ⟨m',rfl⟩⟩,λ⟨m,e⟩=>by cases e⟩
    | tq m=>
     obtain ⟨b,o,L,F3,h1,h2,h3,h4,h5,h6⟩:=ha;exact ⟨.box t m [] v.1,rfl,λσ a=>⟨b,o,L,F3,h1,h2,h3,h4,h5,h6⟩,λ_ _ _ _ _=>⟨m,.inr rfl⟩,λ⟨m,e⟩=>by cases e⟩
    | oS m=>
     obtain ⟨cs,h1,h2⟩:=ha;exact ⟨.own t m [] v.1,rfl,λσ a=>⟨cs,h1,h2⟩,(λ_ _ _ _ e=>by cases e),λ_=>⟨_,_,_,_,rfl⟩⟩
    | pN m=>
     obtain ⟨H,cs,hH,h1,h2⟩:=ha;obtain rfl:=bH.1 hH;exact ⟨.own t m [] v.1,rfl,λσ a=>⟨cs,h1,h2⟩,(λ_ _ _ _ e=>by cases e),λ_=>⟨_,_,_,_,rfl⟩⟩
   refine ⟨λk=>match k with | 0=>F1 | k+1=>Fi k,λb k=>?_,λi s hi=>?_⟩
   ·have:bh (ps.length+1) (λk=>match k with | 0=>F1 | k+1=>Fi k) b k=F1 b k+bh ps.length Fi b k:=by
     rw[Nat.add_comm,xi];grind [bh]
    grind
   ·rw[hs0] at hi
    cases i with
    | zero=>
     injection hi with hi;subst hi;refine ⟨y,rfl,aa1,λt' m' H' v' e=>?_,λhm=>?_⟩
     ·obtain ⟨m,⟨_,rfl⟩ | rfl⟩:=aen t' m' H' v' e
      ·exact bF
      ·exact bF
     ·refine jS ?_
      cases pm with
      | oS m=>exact ⟨m,rfl⟩
      | ro=>have:=bc ps (n+1) _ _ _ hm;omega
      | fix f=>have:=bc ps (n+1) _ _ _ hm;omega
      | pN m=>have:=bc ps (n+1) _ _ _ hm;omega
      | ii m m'=>
       rcases aZ.1 hm with e | hm
       all_goals grind
      | tq m=>
       rcases aZ.1 hm with e | hm
       all_goals grind
    | succ i=>
     obtain ⟨y',q1,q2,q3,q4⟩:=g2 i s hi;have agU:n+1+i=n+(i+1):=by omega
     rw[agU] at q3 q4;refine ⟨y',q1,q2,λt' m' H' v' e=>?_,λhm=>q4 ?_⟩
     ·have:=q3 t' m' H' v' e
      cases pm with
      | ro=>exact this
      | fix f=>exact this
      | pN m=>exact this
      | ii m m'=>exact bA _ this
      | tq m=>exact bA _ this
      | oS m=>exact bA _ this
     ·cases pm with
      | ro=>exact hm
      | fix f=>exact hm
      | pN m=>exact hm
      | ii m m'=>
       rcases aZ.1 hm with e | hm
       all_goals grind
      | tq m=>
       rcases aZ.1 hm with e | hm
       all_goals grind
      | oS m=>
       rcases aZ.1 hm with e | hm
       all_goals grind
 intro ps v xs G h hp;obtain ⟨Fi,g1,g2⟩:=main ps 0 h hp;exact ⟨Fi,g1,λi s hi=>by grind⟩
theorem RW:∀ (ps:List (PM×Ty)) (n j k:Nat) (c:Bool),(j,k,c) ∈ xh n ps->n<=j/\j=k/\j < n+ps.length:=by
 intro ps
 induction ps with
 | nil=>intro n j k c h;cases h
 | cons p ps ih=>
  intro n j k c h;obtain ⟨pm,t⟩:=p;simp only[bI]
  cases pm with
  | ro=>have:=ih (n+1) j k c h;omega
  | fix f=>have:=ih (n+1) j k c h;omega
  | pN m=>have:=ih (n+1) j k c h;omega
  | ii m m'=>
   rcases aZ.1 h with e | h
   all_goals grind
  | tq m=>
   rcases aZ.1 h with e | h
   all_goals grind
  | oS m=>
   rcases aZ.1 h with e | h
   all_goals grind
theorem RX:∀ (ss:List Slot) (n i:Nat),pG (CT n ss) i=if n<=i then ss[i - n]? else none
 | [],n,i=>by simp[CT,pG]
 | s::ss,n,i=>by
  simp only[CT,pG,RX ss (n+1) i];by_cases hi:n=i
  ·simp_all
  grind [Nat.eq_of_beq_eq_true]
theorem aa2 {g:wY} {v:(bq (g.ps.map (·.2))).den} {xs:List Value} {F0:FP} {n:Nat} (h:rx P w A Ru g.ps v xs F0) (hp:K7 g.ps=true) (hn:g.ps.length<=n) (h1:∀ b i,F0 b i<=1) (h2:∀ b i,1<=F0 b i->¬ A b i) (h3:∀ b i,1<=F0 b i\/A b i->b < w.heap.size) (N8:yB P w F0) :
  ∃ F,eo P { w0:=w,A0:=A,F0:=F0,args:=xs.toArray } A (E7 g.ps v n) { tmps:=xs.toArray++Array.replicate (n - xs.toArray.size) undef,defers:=[] } w F:=by
 obtain ⟨Fi,g1,g2⟩:=adv g.ps h hp;have hlen:=K8 g.ps h;have Ii:=yQ g.ps v
 have yM:∀ i,(E7 g.ps v n).get i=if i < n then (match (jU g.ps v)[i]? with | some s=>s | none=>.dead) else .dead:=λi=>by
  grind [St.get,E7,RX,Nat.blt_eq]
 have agV:∀ i (y:Value),xs[i]?=some y->tmp { tmps:=xs.toArray++Array.replicate (n - xs.toArray.size) undef,defers:=[] } i=y:=λi y hy=>by
  have hi:=(aO.1 hy).1;simp_all [tmp,fP]
 have sq:∀ b k,bh n (λi=>if i < g.ps.length then Fi i else λ_ _=>0) b k<=F0 b k:=λb k=>by
  have e:n=g.ps.length+(n - g.ps.length):=by omega
  rw[e,xi];have e1:=congrFun (congrFun (zt (n:=g.ps.length) (f:=λi=>if i < g.ps.length then Fi i else λ_ _=>0) (g:=Fi) (λj hj=>by grind)) b) k;grind [oB]
 refine ⟨λi=>if i < g.ps.length then Fi i else λ_ _=>0,?_,rfl,λi hi=>?_,(λd r p snap hm=>by cases hm),λb k=>?_,λb k hp=>?_,λb k hp=>?_,λi=>rfl,Ext.refl _ _,λb k hp=>?_,λ_ _ h=>h,λ_ _ h=>.inl h,λj k hm=>?_,λr t m H v' hg hl=>?_,λj k hm R hR=>?_,N8⟩
 ·grind [E7]
 ·rw[yM];have hi:i < n:=hi;rw[aH hi]
  cases hs:(jU g.ps v)[i]? with
  | none=>trivial
  | some s=>
   grind
 ·have:=sq b k;have:=h1 b k;show 0+bh n _ b k<=1;omega
 ·have hp:1<=0+bh n (λi=>if i < g.ps.length then Fi i else λ_ _=>0) b k:=hp;grind
 ·refine h3 b k (hp.imp (λhp=>?_) id);have hp:1<=0+bh n (λi=>if i < g.ps.length then Fi i else λ_ _=>0) b k:=hp;grind
 ·have hp:1<=0+bh n (λi=>if i < g.ps.length then Fi i else λ_ _=>0) b k:=hp;grind
 ·obtain ⟨_,rfl,hj⟩:=RW g.ps 0 j k false hm;simp_all
 ·exfalso;rw[yM] at hg;split at hg
  ·cases hs:(jU g.ps v)[r]? with
   | none=>grind
   | some s=>
    rw[hs] at hg;obtain ⟨y,_,_,q3,_⟩:=g2 r s hs;exact hl r (q3 t m H v' hg)
  ·cases hg
 ·obtain ⟨_,rfl,hj⟩:=RW g.ps 0 j k true hm;have Cd:j < (jU g.ps v).length:=by omega
  have hs:=aB Cd;obtain ⟨y,q1,q2,_,q4⟩:=g2 j _ hs;obtain ⟨t,m,H,v',e⟩:=q4 hm;have hjn:j < n:=by omega
  rw[yM,aH hjn,hs] at hR;simp only[e,ej,aQ] at hR;subst hR;rw[agV j y q1];have h2:=q2 (E7 g.ps v n) { tmps:=#[],defers:=[] };rw[e] at h2;obtain ⟨cs,c1,c2⟩:=h2;have:=mq (am.length _ c2) (am.one _ c2);simp_all
noncomputable def Qr (P:Program) (E:Env) (fn:Func) (ps:List (PM×Ty)) (rs:List (Ty×Md)) (es:List Nat):Bool:=
 codeOk P E (HV fn)&&K6 E rs fn.results.toList&&K7 ps&&Nat.ble ps.length fn.ntmps&&decide es.Nodup
theorem Qd (hE:vk P E) {f:FuncId} {fn:Func} (hf:P.funcs[f]?=some fn) (hb:fn.body.isSome=true) {g:wY} (hh:∀ v H,g.Hv v H=true->H=[]) {es fr:List Nat} (a_:Qr P E fn g.ps g.rs es=true) (hF:∀ v out,g.F v=some out->∃ k,Qk E k fn g.ps g.rs es fr v=some out):Sound P f g:=by
 intro w A F0 v xs ny h1 h2 h3 N8 out qW;replace ny:=ny.none (hh v);obtain ⟨k,hk⟩:=hF v out qW;simp only[Qr,aC,dK,bE] at a_;obtain ⟨⟨⟨⟨acK,hrv⟩,zH⟩,hnt⟩,vD⟩:=a_;obtain ⟨c,hc⟩:=eN.1 hb;have hbo:HV fn=c:=by simp[HV,hc]
 rw[hbo] at acK;obtain ⟨F,aa1⟩:=aa2 ny zH hnt h1 h2 h3 N8;unfold Qk at hk;rw[hbo] at hk;have hxl:=K8 g.ps ny
 have EN:∀ (a':Act) (w':World) (σ':St),QW g.ps g.rs es fn.results.toList (mvs fr) σ'=some out->Ic P { w0:=w,A0:=A,F0:=F0,args:=xs.toArray } σ' a' w' ->
   a'.defers=[]/\∃ rv,(results fn a'.tmps).run P w'=.ok rv w'/\(∃ Zi,Ending.returned rv=.returned Zi/\Ext w w' F0/\∃ (A':Cells) (G GR GM:FP),(∀ b i,A b i->A' b i)/\(∀ b i,A' b i->A b i\/1<=F0 b i\/w.heap.size<=b) /\
    (∀ b i,1<=G b i->1<=F0 b i\/w.heap.size<=b)/\(∀ b i,G b i<=1)/\(∀ b i,1<=G b i->¬ A' b i)/\(∀ b i,1<=G b i\/A' b i->b < w'.heap.size)/\(∀ b i,GR b i+GM b i<=G b i) /\
    pz P w' A' (mS g.rs out).1 Zi GR/\qo P w' A' g.ps (mS g.rs out).2 xs GM):=by
  intro a' w' σ' ho hr;obtain ⟨A1,F1,hr⟩:=hr;unfold QW at ho;obtain ⟨A2,n_,X2,F2,Gt,L,Fi,pre,r1,r2,r3,r4,r5,r6,r7,r8,r9⟩:=aeJ hE g.rs fn.results.toList 0 hrv hr ho;obtain ⟨vs,us,Gi,m1,m2,m3,m4,m5,m6⟩:=adu r2 0 g.ps es zH vD (by simp[hxl]) r3;have agW:pre vs=out:=Option.some.inj m1;have rT:mS g.rs out=(L,vs):=by rw[<-agW,r4]
  have hGR:∀ b i,bh L.length Fi b i<=X2 b i:=λb i=>by grind
  have agX:∀ b i,rM Gi us b i<=rM F2 us b i:=λb i=>by
   have:∀ l:List Nat,(∀ j ∈ l,j ∈ us)->rM Gi l b i<=rM F2 l b i:=by
    intro l
    induction l <;> grind [rM]
   grind
  have hGM:∀ b i,rM Gi us b i<=bh n_.n F2 b i:=λb i=>bB (agX b i) (Vi us F2 m3 m4 b i);refine ⟨r2.defers,_,TX (by rw[r6]) r7,_,rfl,r2.ext,?_⟩
  obtain ⟨A3,tK⟩:∃ A3:Cells,∀ b i,A3 b i↔(A2 b i\/(1<=X2 b i+bh n_.n F2 b i/\bh L.length Fi b i+rM Gi us b i=0)):=⟨λb i=>A2 b i\/(1<=X2 b i+bh n_.n F2 b i/\bh L.length Fi b i+rM Gi us b i=0),λ_ _=>iH⟩
  have aeK:∀ b i,A2 b i->A3 b i:=λb i h=>(tK b i).2 (.inl h);have zC:∀ b i,X2 b i+bh n_.n F2 b i<=1:=λb i=>r2.ry b i;refine ⟨A3,λb i=>bh L.length Fi b i+rM Gi us b i,bh L.length Fi,rM Gi us,λb i ha=>aeK b i (r2.a0 b i ha),λb i ha=>?_,λb i hp=>?_,λb i=>?_,λb i hp ha=>?_,λb i hp=>?_,λ_ _=>aG _,?_,?_⟩
  ·rcases (tK b i).1 ha with ha | ⟨hp,_⟩
   ·exact r2.a1 b i ha
   ·exact .inr (r2.own b i hp)
  ·have hp:1<=bh L.length Fi b i+rM Gi us b i:=hp;exact r2.own b i (by grind)
  ·grind
  ·have hp:1<=bh L.length Fi b i+rM Gi us b i:=hp
   rcases (tK b i).1 ha with ha | ⟨_,hz⟩
   ·exact r2.sr b i (by grind) ha
   ·omega
  ·rcases hp with hp | ha
   ·have hp:1<=bh L.length Fi b i+rM Gi us b i:=hp;exact r2.mr b i (.inl (by grind))
   ·rcases (tK b i).1 ha with ha | ⟨hp,_⟩
    ·exact r2.mr b i (.inr ha)
    ·exact r2.mr b i (.inl hp)
  ·rw[rT]
   have WN:=r9 A3 aeK (λb i hx _ hz=>(tK b i).2 (.inr ⟨by omega,by
    grind⟩))
   show pz P w' A3 L _ _
   match L,r5,WN with
   | [],_,_=>trivial
   | [y],hl,WN=>
    match Gt,hl with
    | [u],_=>
     obtain ⟨u',cs,e1,e2,e3⟩:=WN 0 y rfl;injection e1 with e1;subst e1;refine ⟨cs,by simpa using e2,e3.le λb i=>by simp[bh]⟩
   | y::z::L,hl,WN=>
    refine ⟨Gt.toArray,Fi,?_,λ_ _=>aG _,λj q hq=>?_⟩
    all_goals grind
  grind [dw,RU,vT]
 refine calls_of_wp hf hc (wp_mono (adt hE c acK aa1 hk) λe a' w' hq=>?_)
 cases e with
 | normal=>obtain ⟨σ',h4,h5⟩:=hq;exact EN a' w' σ' h4 h5
 | ret=>obtain ⟨σ',h4,h5⟩:=hq;exact EN a' w' σ' h4 h5
 | exit j=>obtain ⟨σ',h4,h5⟩:=hq;cases h4
 | _=>exact hq.elim
end
def RY (w:World):Cells:=λb _=>b < w.heap.size
def EO:Ty->Bool
 | .int _ | .bool | .str | .unit=>true
 | .pair a b=>EO a&&EO b
 | .aa e=>EO e
 | _=>false
def Pa:(T:Ty)->T.den->Prop
 | .int k,n=>k.min<=qR k n/\qR k n<=k.max
 | .str,s=>List.length s<=maxLen
 | .pair a b,v=>Pa a v.1/\Pa b v.2
 | .aa e,v=>List.length v<=maxLen/\∀ x ∈ (v:List e.den),Pa e x
 | _,_=>True
def Zj:(ps:List (PM×Ty))->(bq (ps.map (·.2))).den->Prop
 | [],_=>True
 | (_,T)::ps,v=>Pa T v.1/\Zj ps v.2
section
variable {P:Program} {w:World} {H:Type} {enc:TypeId×Value->H}
theorem K9 {T:Ty} {i:TypeId} (h:bn P T (.inl i)=true):P.cellsOf i=T.sz:=by
 obtain ⟨inf,h1,h2,_⟩:=mI (nI h);grind [Program.cellsOf]
theorem aa3 {a:Addr} {k:Nat} {u:Value} (h:w.cell? (a.add k)=some u) (hk:k=0\/a.spot=none):a.spot=none:=by
 rcases hk with rfl | hk
 ·unfold Addr.add at h;rw[aH rfl] at h;unfold World.cell? at h;split at h
  all_goals simp_all
 ·exact hk
theorem adw:∀ (T:Ty),EO T=true ->
  (∀ i,bn P T (.inl i)=true->∀ fuel cs x,DataW.trod enc P w 0 (λ_=>true) true fuel i cs=some x->∃ v:T.den,Pa T v/\Ro P w (RY w) T v cs) /\
  (∀ fs off,bn P T (.inr (fs,off))=true->∀ n (cs:List Value),cs.length=off+T.sz->(∀ f ∈ fs,∃ x,DataW.trod enc P w 0 (λ_=>true) true n f.type ((cs.drop f.offset).take (P.cellsOf f.type))=some x)->∃ v:T.den,Pa T v/\Ro P w (RY w) T v (cs.drop off)):=by
 intro T
 induction T with
 | int k=>
  intro _;refine ⟨λi hl fuel cs x h=>?_,λfs off hl=>by simp[bn] at hl⟩
  obtain ⟨n,rfl,_,hwf⟩:=DataW.trod_int (sG hl) h;simp only[Lit.wf,aC,bE] at hwf
  cases k with
  | u8=>
   have h1:qR .u8 (UInt8.ofInt n)=n:=by
    have:=N0 .u8 n (λ_=>by
     have h1:(0:Int)<=n:=hwf.1;have h2:n<=(255:Int):=hwf.2
     omega)
    exact this
   refine ⟨(UInt8.ofInt n:UInt8),?_,?_⟩
   ·show IntKind.u8.min<=qR .u8 (UInt8.ofInt n)/\qR .u8 (UInt8.ofInt n)<=IntKind.u8.max;grind
   ·show [Value.int .u8 n]=[Value.int .u8 (qR .u8 (UInt8.ofInt n))]
    rw[h1]
  | _=>exact ⟨n,hwf,rfl⟩
 | bool=>
  intro _;refine ⟨λi hl fuel cs x h=>?_,λfs off hl=>by simp[bn] at hl⟩
  have hu:P.underlying i=some .bool:=by
   grind [bn]
  obtain ⟨b,rfl,_⟩:=DataW.trod_bool hu h;exact ⟨b,trivial,rfl⟩
 | str=>
  intro _;refine ⟨λi hl fuel cs x h=>?_,λfs off hl=>by simp[bn] at hl⟩
  obtain ⟨s,rfl,_,hsm⟩:=DataW.trod_string (oP hl) h;exact ⟨s.data.toList,(by show s.data.toList.length<=maxLen;simp_all),by simp only[Ro]⟩
 | unit=>
  intro _;refine ⟨λi hl fuel cs x h=>?_,λfs off hl n cs hlen _=>⟨(),trivial,?_⟩⟩
  ·simp only[bn,aC] at hl;have h2:=hl.2;split at h2
   ·rename_i fs hu;obtain ⟨xs,n,_,_,hlen,_⟩:=DataW.trod_struct hu h
    have oO:P.cellsOf i=0:=by
     grind [mI,Program.cellsOf,Ty.sz]
    rw[oO] at hlen;exact ⟨(),trivial,by grind [Ro]⟩
   ·cases h2
  grind [Ro,List.drop_of_length_le,Ty.sz]
 | pair a b nY nH=>
  intro ha;simp only[EO,aC] at ha
  have aeL:∀ fs off,bn P (.pair a b) (.inr (fs,off))=true->∀ n (cs:List Value),cs.length=off+(Ty.pair a b).sz->(∀ f ∈ fs,∃ x,DataW.trod enc P w 0 (λ_=>true) true n f.type ((cs.drop f.offset).take (P.cellsOf f.type))=some x)->∃ v:(Ty.pair a b).den,Pa (.pair a b) v/\Ro P w (RY w) (.pair a b) v (cs.drop off):=by
   intro fs off hl n cs hlen hf
   cases fs with
   | nil=>simp[bn] at hl
   | cons f r=>
    simp only[bn,aC,eW,dK] at hl;obtain ⟨⟨⟨ho,_⟩,h1⟩,h2⟩:=hl;simp only[Ty.sz] at hlen;obtain ⟨x,hx⟩:=hf f bF;rw[ho,K9 h1] at hx;obtain ⟨v1,o1,r1⟩:=(nY ha.1).1 _ h1 _ _ _ hx;obtain ⟨v2,o2,r2⟩:=(nH ha.2).2 r (off+a.sz) h2 n cs Bys (λf' hf'=>hf f' (bA _ hf'));exact ⟨(v1,v2),⟨o1,o2⟩,r1,by simp_all⟩
  refine ⟨λi hl fuel cs x h=>?_,aeL⟩
  have hl0:=hl;simp only[bn,aC] at hl;have h2:=hl.2;split at h2
  ·rename_i fs hu;split at h2
   ·rename_i f r Mj
    have h3:bn P (.pair a b) (.inr (f::r,0))=true:=by
     grind [bn]
    obtain ⟨xs,n,_,_,hlen,hxl,adx⟩:=DataW.trod_struct hu h;rw[K9 hl0] at hlen
    have:=aeL (f::r) 0 h3 n cs Bys (λf' hf'=>by
     rw[<-Mj] at hf';obtain ⟨j,hj,e⟩:=dD.1 hf';have Cd:j < fs.size:=by simpa using hj
     have:=adx j f' (by grind)
     grind)
    simpa using this
   ·cases h2
  ·cases h2
 | aa e ih=>
  intro ha;simp only[EO] at ha;refine ⟨λi hl fuel cs x h=>?_,λfs off hl=>by simp[bn] at hl⟩
  obtain ⟨el,hu,oO,hle⟩:=wP hl
  rcases DataW.trod_slice hu h with ⟨rfl,_⟩ | ⟨a,len,cap,elems,rest,n,_,rfl,_,_,hlc,hcm,uj,aa4,qB,_⟩
  ·exact ⟨[],⟨aX _,λx hx=>by cases hx⟩,none,0,rfl,aG _,λ_=>rfl,λad e=>by cases e⟩
  ·rw[K9 hle] at aa4 qB
   have uu:∀ k y,(w.cells? 0 (a.add (k*e.sz)) e.sz).bind (DataW.trod enc P w 0 (λ_=>true) true n el)=some y->∃ cn,w.cells? 0 (a.add (k*e.sz)) e.sz=some cn/\DataW.trod enc P w 0 (λ_=>true) true n el cn=some y:=λk y hk=>by
    cases hc:w.cells? 0 (a.add (k*e.sz)) e.sz <;> grind
   have acL:0 < cap->a.spot=none:=λGc=>by
    have Rs:∃ cn,w.cells? 0 (a.add (0*e.sz)) e.sz=some cn:=by
     by_cases hlen:0 < len
     ·have h0:=aa4 0 hlen;rw[aB Bys] at h0;obtain ⟨cn,h1,_⟩:=uu 0 _ h0;grind
     ·obtain rfl:len=0:=by omega
      obtain ⟨xl,vd⟩:=qB rfl;have h0:=vd 0 Bys;rw[aB Bys] at h0;obtain ⟨cn,h1,_⟩:=uu (0+0) _ h0;grind
    obtain ⟨cn,h1⟩:=Rs;obtain ⟨_,zd,h2⟩:=World.cells?_some h1;grind [Addr.add,aa3]
   have each:∀ k:Fin len,∃ v:e.den,Pa e v/\∃ L:List Value,L.length=e.sz/\(∀ j u,L[j]?=some u->ce w a.block (a.off+k.val*e.sz+j)=some u/\RY w a.block (a.off+k.val*e.sz+j))/\Ro P w (RY w) e v L:=λk=>by
    have h0:=aa4 k.val k.isLt;rw[aB (by grind)] at h0;obtain ⟨cn,h1,h2⟩:=uu k.val _ h0;obtain ⟨v,ho,hv⟩:=(ih ha).1 _ hle _ _ _ h2;obtain ⟨_,zd,h3⟩:=World.cells?_some h1;refine ⟨v,ho,cn,zd,λj u hu=>?_,hv⟩
    have hj:=(aO.1 hu).1;have h4:=h3 j Bys;rw[hu] at h4;have rT:=acL (by grind);obtain ⟨b,off,sp⟩:=a;simp only at rT;subst rT;rw[sO,sO] at h4;have h5:ce w b (off+k.val*e.sz+j)=some u:=JF h4 (Ro.one e hv u (bT hu));exact ⟨h5,yC h5⟩
   obtain ⟨f,hf⟩:=fV each;refine ⟨List.ofFn f,⟨by simp;omega,λx hx=>?_⟩,some a,cap,by simp,by simpa using hlc,(λe=>by cases e),λad e=>?_⟩
   ·grind
   injection e with e;subst e;refine ⟨acL,λk y hk=>?_⟩
   rw[List.getElem?_ofFn] at hk;split at hk
   ·rename_i bc;injection hk with hk;subst hk;exact (hf ⟨k,bc⟩).2
   ·cases hk
 | _=>grind [EO]
theorem arg_val {T:Ty} (ha:EO T=true) {i:TypeId} (hl:bn P T (.inl i)=true) {r:Reach} {b0:Nat} {v:Value} (h:Value.okWide P w r b0 i v):v=dj T v.cells.toList:=by
 cases T with
 | int k=>
  have hu:=sG hl;cases v <;> simp[Value.okWide,Cell.okWide,Cell.ok,hu] at h <;> simp[dj,isAgg,Value.cells]
 | bool=>
  have hu:P.underlying i=some .bool:=by
   grind [bn]
  cases v <;> simp[Value.okWide,Cell.okWide,Cell.ok,hu] at h <;> simp[dj,isAgg,Value.cells]
 | str=>
  have hu:=oP hl;cases v <;> simp[Value.okWide,Cell.okWide,Cell.ok,hu] at h <;> simp[dj,isAgg,Value.cells]
 | aa e=>
  obtain ⟨el,hu,_⟩:=wP hl;cases v <;> simp[Value.okWide,Cell.okWide,Cell.ok,hu] at h <;> simp[dj,isAgg,Value.cells]
 | unit=>
  simp only[bn,aC] at hl;have h2:=hl.2;split at h2
  ·rename_i fs hu;simp only[Value.okWide,hu] at h;obtain ⟨cs,rfl,_⟩:=h;simp[dj,isAgg,Value.cells]
  ·cases h2
 | pair a b=>
  simp only[bn,aC] at hl;have h2:=hl.2;split at h2
  ·rename_i fs hu;simp only[Value.okWide,hu] at h;obtain ⟨cs,rfl,_⟩:=h;simp[dj,isAgg,Value.cells]
  ·cases h2
 | _=>simp[EO] at ha
def Ee (P:Program):List (PM×Ty)->List TypeId->Bool
 | [],[]=>true
 | (.ro,T)::ps,t::ts=>EO T&&bn P T (.inl t)&&P.readableRec t&&Nat.blt t P.types.size&&Ee P ps ts
 | _,_=>false
theorem Vj:∀ (ps:List (PM×Ty)) (ts:List TypeId) (args:List Value) (ds:List (DataW H)) (p:List MemPlace) {b0:Nat},Ee P ps ts=true->DataW.TrodAll enc P w 0 (λ_=>true) true ts args ds p ->
  (∀ (j:Nat) t v,ts[j]?=some t->args[j]?=some v->Value.okWide P w .any b0 t v)->∃ v,Zj ps v/\rx P w (RY w) Ru ps v args (λ_ _=>0)
 | [],[],args,ds,p,b0,_,h,_=>by
  cases args with
  | nil=>exact ⟨(),trivial,rfl⟩
  | cons _ _=>simp[DataW.TrodAll] at h
 | (.ro,T)::ps,t::ts,args,ds,p,b0,hl,h,a_=>by
  simp only[Ee,aC] at hl
  cases args with
  | nil=>simp[DataW.TrodAll] at h
  | cons v args=>
   cases ds with
   | nil=>simp[DataW.TrodAll] at h
   | cons d ds=>
    obtain ⟨p1,q1,⟨fuel,h1⟩,h2,_⟩:=h;obtain ⟨x,hox,hx⟩:=(adw T hl.1.1.1.1).1 t hl.1.1.1.2 _ _ _ h1;obtain ⟨xs,agY,hxs⟩:=Vj ps ts args ds q1 (b0:=b0) hl.2 h2 (λj t' v' ht hv=>a_ (j+1) t' v' ht hv);exact ⟨(x,xs),⟨hox,agY⟩,v,args,λ_ _=>0,λ_ _=>0,rfl,λ_ _=>aG _,⟨_,arg_val hl.1.1.1.1 hl.1.1.1.2 (a_ 0 t v rfl rfl),hx⟩,hxs⟩
theorem Pb (za:laidOutB P=true) {W W':World} (hb:RowKit.Below W.heap.size W W') {sp:Nat->Bool}:∀ (ps:List (PM×Ty)) (ts:List TypeId) (args:List Value) (ds:List (DataW H)) (p:List MemPlace),Ee P ps ts=true->DataW.TrodAll enc P W 0 (λ_=>true) true ts args ds p ->
  (∀ x ∈ p,x.block < W.heap.size)->(∀ x ∈ p,sp x.block=true)->DataW.TrodAll enc P W' 0 sp true ts args ds p
 | [],[],args,ds,p,_,h,_,_=>by
  grind [DataW.TrodAll]
 | (.ro,T)::ps,t::ts,args,ds,p,hl,h,bc,rT=>by
  simp only[Ee,aC] at hl
  cases args with
  | nil=>simp[DataW.TrodAll] at h
  | cons v args=>
   cases ds with
   | nil=>simp[DataW.TrodAll] at h
   | cons d ds=>
    obtain ⟨p1,q1,h1,h2,rfl⟩:=h;have ht:t < P.types.size:=by simp_all
    exact ⟨p1,q1,WideElems.Trod_stays za hl.1.1.2 ht h1 (λx hx=>hb.same (bc x (eA _ hx))) (λx hx=>rT x (eA _ hx)),
     Pb za hb ps ts args ds q1 hl.2 h2 (λx hx=>bc x (cK _ hx)) (λx hx=>rT x (cK _ hx)),rfl⟩
theorem Zk {f:FuncId} {cap:Bool} {ps:List (PM×Ty)} {Fn:(bq (ps.map (·.2))).den->Option (bq ([((Ty.bool,ah .bool):Ty×Md)].map (·.1)++mR ps)).den} (hs:Sound P f { cap:=cap,ps:=ps,rs:=[(.bool,ah .bool)],F:=Fn }) (WO:∀ v,Zj ps v->∃ u,Fn v=some (true,u))
  {ts:List TypeId} (hl:Ee P ps ts=true) {args:List Value} {ds:List (DataW H)} {p:List MemPlace} (hA:DataW.TrodAll enc P w 0 (λ_=>true) true ts args ds p) {b0:Nat} (a_:∀ (j:Nat) t v,ts[j]?=some t->args[j]?=some v->Value.okWide P w .any b0 t v) (ht:yB P w λ_ _=>0) :
  Calls P f args.toArray w λe W'=>e=.returned (.bool true)/\RowKit.Below w.heap.size w W':=by
 obtain ⟨v,hov,hv⟩:=Vj ps ts args ds p hl hA a_;obtain ⟨u,hu⟩:=WO v hov;refine (hs w (RY w) (λ_ _=>0) v args hv (λ_ _=>aX _) (λb i h=>by omega) (λb i h=>?_) ht _ hu).mono λe W' h=>?_
 ·rcases h with h | h
  ·omega
  ·exact h
 ·obtain ⟨rv,rfl,fq,A',G,GR,GM,_,_,_,_,_,_,_,wV,_⟩:=h;obtain ⟨cs,h1,h2⟩:=wV;simp only[mS] at h1 h2;have h2:cs=[.bool true]:=h2;subst h2;exact ⟨by rw[h1];rfl,fq.os,fq.tape,fq.output,fq.size,λb hb=>fq.obj b hb λ_=>rfl⟩
theorem aa5 {C:Checked} {f:Func} {s:ChangeSpec} {W W':World} {args:Array Value} {ds:List (DataW H)} {p:List MemPlace} {apart fresh handsOn:Bool} (za:laidOutB P=true) {ps:List (PM×Ty)} {ts:List TypeId} (hts:f.params.toList=ts) (hl:Ee P ps ts=true) {tb:TypeId} (hr:f.resultTypes=#[tb]) (hu:P.underlying tb=some .bool)
  (af2:s.vars=[]) (hW:DataW.Whole enc P f.params.toList s.vars apart W args.toList ds [] p) (hA:DataW.TrodAll enc P W 0 (λ_=>true) true ts args.toList ds p) (hfn:s.fn H (ds++[])={ results:=[.lit (.bool true)],args:=ds }) (hb:RowKit.Below W.heap.size W W') :
  s.post enc P f apart fresh handsOn false W args (.bool true) W':=by
 have bc:∀ x ∈ p,x.block < W.heap.size:=λx hx=>by simpa using hW.lt x hx
 refine ⟨ds,[],p,[],p,[],hW,?_,?_,?_,World.keptBut_mono (λx hx=>⟨hx,.inr (.inl hx)⟩) (hb.frame (· ∈ p)),λe=>by cases e⟩
 ·rw[hfn,hr];exact ⟨[],[],RowKit.shut_bool hu true,rfl,rfl⟩
 ·grind [Pb]
 ·rw[hfn,af2];rfl
end
def WP (P:Program) (l:List (Nat×Ty)):Bool:=l.all λp=>bn P p.2 (.inl p.1)
def Qs (P:Program) (l:List (Nat×Ty)):Bool:=l.all λp=>!(p.2.qc&&isAgg p.2)||(uh P p.2 (.inl p.1)&&(P.eqGuardType P.depth p.1 == false)&&Nat.ble (dep p.2) 10000)
theorem K_ {α:Type}:∀ {l:List (Nat×α)} {i:Nat} {x:α},pG l i=some x->(i,x) ∈ l
 | (k,y)::l,i,x,h=>by
  simp only[pG] at h;split at h
  ·simp_all
  ·exact bA _ (K_ h)
def Ip (P:Program) (l:List (Nat×wY)):Prop:=∀ f g,pG l f=some g->Sound P f g/\xO P f g.cap
theorem aj (P:Program):Ip P []:=λf g h=>by cases h
theorem ady {P:Program} {f:Nat} {g:wY} {l:List (Nat×wY)} (h1:Sound P f g) (h2:xO P f g.cap) (h3:Ip P l):Ip P ((f,g)::l):=λf' g' h=>by
 simp only[pG] at h;split at h
 ·simp_all
 ·exact h3 f' g' h
theorem aeM {P:Program} {E:Env} {tl:List (Nat×Ty)} {gl:List (Nat×wY)} (h1:E.TI=pG tl) (h2:E.G=pG gl) (h3:WP P tl=true) (h4:Qs P tl=true) (h5:Ip P gl):vk P E where
 ti i T h:=by rw[h1] at h;exact bJ.1 h3 _ (K_ h)
 eq i T h hq ha:=by
  rw[h1] at h;have:=bJ.1 h4 _ (K_ h);simp_all
 fn f g h:=by rw[h2] at h;exact h5 f g h
def Ok (P:Program) (f:FuncId) (g:wY):Prop:=Sound P f g/\xO P f g.cap
theorem fc {P:Program} {f:Nat} {g:wY} {l:List (Nat×wY)} (h:Ok P f g) (h3:Ip P l):Ip P ((f,g)::l):=ady h.1 h.2 h3
def RZ (fn:Func) (cap:Bool):Bool:=!(fn.name == "runtime.NumGoroutine")&&!fn.body.isNone&&Nat.beq fn.nfree (match cap with | true=>1 | false=>0)
noncomputable def okB (P:Program) (E:Env) (fn:Func) (ps:PQ) (rs:RQ) (es:List Nat) (cap:Bool) (tl:TL):Bool:=(WP P tl&&Qs P tl)&&(RZ fn cap&&Qr P E fn ps rs es)
theorem af3 {P:Program} {E:Env} {f:FuncId} {fn:Func} (hf:P.funcs[f]?=some fn) {g:wY} (hh:∀ v H,g.Hv v H=true->H=[]) {es fr:List Nat} {tl:TL} {gl:GL} (h1:E.TI=pG tl) (h2:E.G=pG gl) (a_:okB P E fn g.ps g.rs es g.cap tl=true) (hg:Ip P gl) (hF:∀ v,g.F v=lift λk=>Qk E k fn g.ps g.rs es fr v):Ok P f g:=by
 simp only[okB,RZ,aC,cB,eW] at a_;obtain ⟨⟨a1,a2⟩,⟨⟨b1,b2⟩,b3⟩,c⟩:=a_
 have hb:fn.body.isSome=true:=by
  simp_all
 exact ⟨Qd (aeM h1 h2 a1 a2 hg) hf hb hh c λv out h=>Yr (by rw[<-hF];exact h),fn,hf,b1,b2,b3⟩
structure FD where
 fn:Func
 tl:TL
 ps:PQ
 rs:RQ
 gl:GL:=[]
 es:List Nat:=[]
 fr:List Nat:=[]
 cap:Bool:=false
 fz:List (Nat×Nat×Nat):=[]
 lv:List (Nat×List Nat):=[]
 lx:List (Nat×List Nat):=[]
 lf:List (Nat×List (Nat×Md)):=[]
 od:List (Nat×List Nat):=[]
 ar:List (Nat×List Nat):=[]
 bx:List (Nat×List Nat):=[]
 pd:List (Nat×List Nat):=[]
 er:List (Nat×List (Nat×Nat)):=[]
noncomputable def FD.E (D:FD):Env:={ TI:=pG D.tl,G:=pG D.gl,fz:=D.fz,lv:=D.lv,lx:=D.lx,lf:=D.lf,od:=D.od,ar:=D.ar,bx:=D.bx,pd:=D.pd,er:=D.er }
noncomputable def FD.W (D:FD) (k:Nat) (a:(bq (D.ps.map (·.2))).den):Option (bq (D.rs.map (·.1)++mR D.ps)).den:=Qk D.E k D.fn D.ps D.rs D.es D.fr a
noncomputable def FD.F (D:FD) (a:(bq (D.ps.map (·.2))).den):Option (bq (D.rs.map (·.1)++mR D.ps)).den:=lift λk=>D.W k a
noncomputable def FD.sig (D:FD):wY:={ cap:=D.cap,ps:=D.ps,rs:=D.rs,F:=D.F }
noncomputable def FD.fin (D:FD):St->Option (bq (D.rs.map (·.1)++mR D.ps)).den:=QW D.ps D.rs D.es D.fn.results.toList (mvs D.fr)
noncomputable def FD.K0 (D:FD):KT (bq (D.rs.map (·.1)++mR D.ps)).den:=aed D.fin
noncomputable def FD.N (D:FD) (k:Nat) (p:List Nat):St->KT (bq (D.rs.map (·.1)++mR D.ps)).den->Option (bq (D.rs.map (·.1)++mR D.ps)).den:=w9 D.E k D.fin (sub p (HV D.fn))
noncomputable def FD.L (D:FD) (k:Nat) (p live:List Nat) (D0:List (Nat×Md)) (K:KT (bq (D.rs.map (·.1)++mR D.ps)).den) (σ:St):Option (bq (D.rs.map (·.1)++mR D.ps)).den:=JE (D.N k p) (iv live D0) K k σ
theorem al {P:Program} {D:FD} {f:FuncId} (hf:P.funcs[f]?=some D.fn) (ht:(WP P D.tl&&Qs P D.tl)=true) (a_:(RZ D.fn D.cap&&Qr P D.E D.fn D.ps D.rs D.es)=true) (hg:Ip P D.gl):Ok P f D.sig:=
 af3 (hh:=λ_ _ h=>bH.1 h) (es:=D.es) (fr:=D.fr) (tl:=D.tl) (gl:=D.gl) (E:=D.E) hf rfl rfl (by rw[okB,ht,eB];exact a_) hg λ_=>rfl
theorem bf {n:Int} (h:-9223372036854775808<=n/\n<=9223372036854775807):ae n=n:=by
 grind [ae,IntKind.wrap_i64]
theorem an:maxLen=9223372036854775807:=by simp[maxLen]
theorem vY {V R:Type} {B:(V->Option R)->V->Option R} (f:V->R) (I:V->Prop) (μ:V->Nat)
  (h:∀ v,I v->∀ self,B self v=some (f v)\/∃ v',B self v=self v'/\f v'=f v/\I v'/\μ v' < μ v):∀ (k:Nat) (v:V),I v->μ v < k->ao B k v=some (f v)
 | 0,v,_,hk=>by omega
 | k+1,v,hI,hk=>by
  show B (ao B k) v=some (f v)
  rcases h v hI (ao B k) with h1 | ⟨v',h1,h2,h3,h4⟩
  ·exact h1
  ·rw[h1,vY f I μ h k v' h3 Bys,h2]
def Gw {α:Type} (e:α->α->Bool) (xs ys:List α):Bool:=(xs.zip ys).all λp=>e p.1 p.2
theorem Zl {α:Type} (e:α->α->Bool) (xs ys:List α) (i:Nat) (hx:i < xs.length) (hy:i < ys.length):Gw e (xs.drop i) (ys.drop i)=(e xs[i] ys[i]&&Gw e (xs.drop (i+1)) (ys.drop (i+1))):=by
 grind [Gw,List.drop_eq_getElem_cons,List.zip_cons_cons]
theorem aa6 {α:Type} {B:(Int->Option (Bool×Unit))->Int->Option (Bool×Unit)} {xs ys:List α} (e:α->α->Bool) (hlen:xs.length=ys.length) (K1:xs.length<=maxLen)
  (gb:∀ (i:Nat) (hx:i < xs.length) (hy:i < ys.length) self,B self (i:Int)=if e xs[i] ys[i]=true then self (ae ((i:Int)+1)) else some (false,()))
  (qW:∀ self,B self (xs.length:Int)=some (true,())):∀ k,xs.length < k->ao B k 0=some (Gw e xs ys,()):=by
 intro k hk
 have h:=vY (B:=B) (λv=>(Gw e (xs.drop v.toNat) (ys.drop v.toNat),())) (λv=>0<=v/\v<=(xs.length:Int)) (λv=>xs.length - v.toNat) (λv hv self=>by
  obtain ⟨h0,h1⟩:=hv;obtain ⟨i,rfl⟩:=dJ h0;simp only[aD];by_cases hi:i < xs.length
  ·have hy:i < ys.length:=by omega
   rw[Zl e xs ys i hi hy,gb i hi hy];cases he:e xs[i] ys[i] <;> grind [bf,an]
  ·have vP:i=xs.length:=by omega
   simp_all [Gw]) k 0 ⟨by omega,by omega⟩ (by simpa using hk)
 simpa using h
theorem zO {V R:Type} (B:(V->Option R)->V->Option R) (k:Nat) (v:V):ao B (k+1) v=B (ao B k) v:=rfl
def tO {α:Type} (f:α->Nat):List α->Nat
 | []=>0
 | x::xs=>f x+tO f xs
theorem R4 {α:Type} (f:α->Nat):∀ (xs:List α) (x:α),x ∈ xs->f x<=tO f xs
 | y::xs,x,h=>by
  simp only[tO];rcases aZ.1 h with rfl | h
  ·omega
  ·have:=R4 f xs x h;omega
 | [],_,h=>by cases h
theorem Kk {α:Type} (f:α->Nat):∀ (xs ys:List α),tO f (xs++ys)=tO f xs+tO f ys
 | [],ys=>by simp[tO]
 | x::xs,ys=>by simp only[cY,tO,Kk f xs ys];omega
theorem Ef {α:Type} (f:α->Nat) (h:∀ x,f x=0):∀ (xs:List α),tO f xs=0
 | []=>rfl
 | x::xs=>by simp[tO,h x,Ef f h xs]
def zz:(t:Ty)->t.den->Nat
 | .str,v=>List.length v
 | .pair a b,v=>zz a v.1+zz b v.2
 | .aa e,v=>List.length v+tO (zz e) v
 | _,_=>0
theorem Iq {e:Ty} {xs:List e.den} {x:e.den} (h:x ∈ xs):zz e x+1<=zz (.aa e) xs:=by
 have:=R4 (zz e) xs x h;have:1<=xs.length:=List.length_pos_of_mem h;show _<=List.length xs+_;omega
theorem Dp {e:Ty} (xs:List e.den):xs.length<=zz (.aa e) xs:=gJ _ _
theorem Vk {e:Ty} (x:e.den) (xs:List e.den):zz (.aa e) (x::xs)=zz e x+1+zz (.aa e) xs:=by
 grind [zz,tO]
theorem su {e:Ty} (xs ys:List e.den):zz (.aa e) (xs++ys)=zz (.aa e) xs+zz (.aa e) ys:=by
 grind [zz,Kk]
def bu {S O α:Type} (f:Nat->S->α->Sum O S) (fin:S->O):Nat->List α->S->O
 | _,[],s=>fin s
 | i,x::xs,s=>match f i s x with
  | .inl o=>o
  | .inr s'=>bu f fin (i+1) xs s'
theorem cy {V S O α:Type} {B:(V->Option O)->V->Option O} (xs:List α) (enc:S->Int->V) (f:Nat->S->α->Sum O S) (fin:S->O) (I:Nat->S->Prop) (K1:xs.length<=maxLen)
  (gb:∀ (i:Nat) (hi:i < xs.length) (s:S) self,I i s->B self (enc s (i:Int))=match f i s xs[i] with | .inl o=>some o | .inr s'=>self (enc s' (ae ((i:Int)+1))))
  (hI:∀ (i:Nat) (hi:i < xs.length) (s s':S),I i s->f i s xs[i]=.inr s'->I (i+1) s')
  (qW:∀ (s:S) self,I xs.length s->B self (enc s (xs.length:Int))=some (fin s)) (s:S) (h0:I 0 s):∀ k,xs.length < k->ao B k (enc s 0)=some (bu f fin 0 xs s):=by
 have main:∀ (m i:Nat) (s:S),xs.length - i=m->i<=xs.length->I i s->∀ k,m < k->ao B k (enc s (i:Int))=some (bu f fin i (xs.drop i) s):=by
  intro m
  induction m with
  | zero=>
   intro i s hm hi hs k hk;have vP:i=xs.length:=by omega
   subst vP;cases k <;> grind [ao,bu]
  | succ m ih=>
   intro i s hm hi hs k hk;have bc:i < xs.length:=by omega
   cases k <;> grind [ao,List.drop_eq_getElem_cons,bu,bf,an]
 intro k hk
 simpa using main xs.length 0 s Bys Bys h0 k hk
theorem vZ {O α:Type} (p:α->Bool) (bad:O) (fin:Unit->O):∀ (xs:List α) (i:Nat),bu (λ_ _ x=>if p x then .inr () else .inl bad) fin i xs ()=if xs.all p then fin () else bad
 | [],_=>rfl
 | x::xs,i=>by
  simp only[bu,eO];by_cases h:p x=true
  ·simp[h,vZ p bad fin xs (i+1)]
  ·simp[h]
def pQ {α:Type} (c:α->Int):List α->Int
 | []=>0
 | x::xs=>if c x=0 then pQ c xs else c x
theorem Gx {O α:Type} (c:α->Int) (bad:Int->O) (fin:Unit->O):∀ (xs:List α) (i:Nat),bu (λ_ _ x=>if c x=0 then .inr () else .inl (bad (c x))) fin i xs ()=if pQ c xs=0 then fin () else bad (pQ c xs)
 | [],_=>rfl
 | x::xs,i=>by
  simp only[bu,pQ];by_cases h:c x=0
  ·simp[h,Gx c bad fin xs (i+1)]
  ·simp[h]
theorem Zm {R:Type} (a:Option R):both a a=a:=by simp[both]
theorem Fm {R α:Type} {v:List α} {a b r:Option R} (h1:v=[]->a=r) (h2:b=r):CQ v a b=r:=by
 cases v <;> grind [CQ,Zm]
theorem cr {n:Nat} (h:n<=200000000000):n<=be:=by grind [be]
def zP:Ty->Bool
 | .int _ | .bool | .str | .unit=>true
 | .pair a b=>zP a&&zP b
 | _=>false
def ta:(t:Ty)->t.den->List Value
 | .int k,v=>[.int k (qR k v)]
 | .bool,v=>[.bool v]
 | .str,v=>[.string ⟨List.toArray v⟩]
 | .unit,_=>[]
 | .pair a b,v=>ta a v.1++ta b v.2
 | _,_=>[]
section
variable {P:Program} {w:World} {A:Cells}
theorem yx:∀ (t:Ty),zP t=true->∀ (v:t.den),Ro P w A t v (ta t v):=by
 intro t
 induction t <;> grind [zP,Ro.length,Ro,ta]
theorem aeN:∀ (t:Ty),zP t=true->∀ {v:t.den} {cs:List Value},Ro P w A t v cs->cs=ta t v:=by
 intro t
 induction t with
 | pair a b nY nH=>
  intro h v cs hr;simp only[zP,aC] at h;have h1:=nY h.1 hr.1;have h2:=nH h.2 hr.2;rw[<-cA a.sz cs,h1,h2];rfl
 | int k=>intro _ v cs h;exact h
 | bool=>intro _ v cs h;exact h
 | str=>intro _ v cs h;exact h
 | unit=>intro _ v cs h;exact h
 | _=>grind [zP]
theorem Pc:∀ (t:Ty),zP t=true->t.flat=true:=by
 intro t
 induction t <;> grind [zP,Ty.flat]
end
theorem aa7 {w:World} {b i:Nat} {u:Value} {c:Array Value} {e:TypeId} {fr:Nat×Nat} (h:w.heap[b]?=some (.cells c e fr)) (hu:ce w b i=some u):c[i]?=some u:=by
 unfold ce at hu;simp only[h,World.cell?] at hu
 cases hc:c[i]? with
 | none=>grind
 | some v=>
  simp only[hc,Option.isSome_none,aF,aU,aA] at hu;rw[(HW hu).1]
theorem TY {w:World} {b i:Nat} {u:Value} {c:Array Value} {e:TypeId} {fr:Nat×Nat} (h:w.heap[b]?=some (.cells c e fr)) (hg:c[i]?=some u) (hu:u.oneCell'=true):ce w b i=some u:=by
 grind [JF,World.cell?]
end OT
