/- The proof's parts, merged: Calls, third part.. No conditions but those that each states. -/
import Derived.Test.YtaebhfnbgkbdhaaGreatQb
import Derived.MapKept
import Derived.WideMake
import Derived.OrdersHeld
import Derived.LoopN
import Derived.Scope
import Derived.ProofKit
import Derived.Deep.Slices
import Derived.Laws.BitsLemmas
import Derived.Shelf.SlSortCmp.NoneTotal
set_option linter.unusedVariables false
set_option linter.unusedSimpArgs false
namespace OT
open Go
section
variable {P:Program} {C:Ctx} {A:Cells} {X:FP} {σ:St} {a:Act} {w:World} {F:Nat->FP} {R:Type} {x:R} {Q:Exit->Act->World->Prop} {o:Oper} {E:Env}
def o5 (b:Bool) (n:Nat):Nat:=match b with
 | true=>n
 | false=>0
theorem Is {w2:World} {A2:Cells}:∀ (q:Path) (t:Ty) {m':Md} {v':t.den} {cs:List Value} {G':FP} {ad:Option (Nat×Nat)} {pl:Pl},af P w2 A2 t m' [] v' cs G'->bm q<=1->aC w q t [] cs ad=some pl ->
  ∃ H' aJ,aC w2 q t [] cs ad=some ⟨pl.t,H',aJ,pl.ad⟩/\(bm q < 1->mt pl.t=true->aJ=pl.cs):=by
 intro q
 induction q with
 | nil=>
  intro t m' v' cs G' ad pl h2 hq hp
  simp only[aC,Option.some.injEq] at hp
  subst hp
  exact ⟨_,_,rfl,λ_ _=>rfl⟩
 | cons s q ih=>
  intro t m' v' cs G' ad pl h2 hq hp
  cases t with
  | pair a b=>
   obtain ⟨h0,F1,F2,hs,r1,r2⟩:=h2
   cases s with
   | fst=>
    simp only[aC,h0,if_false] at hp ⊢
    exact ih a r1 (by simpa [bm] using hq) (by simpa using hp)
   | snd=>
    simp only[aC,h0,if_false] at hp ⊢
    exact ih b r2 (by simpa [bm] using hq) (by simpa using hp)
   | idx i=>simp[aC] at hp
   | hO i=>simp[aC] at hp
  | aa e=>
   cases s with
   | idx i=>
    obtain ⟨xa,cap,news,Fi,r1,r2,r3,r4,r5,r6,r7,r8⟩:=tP h2
    subst r1
    cases xa with
    | none=>grind [aC]
    | some aY=>
     simp only[aC,hole,List.any_nil,Bool.false_eq_true,if_false,List.filterMap_nil] at hp ⊢
     split at hp
     ·rename_i hi
      rw[if_pos hi]
      have cH:=r6 i _ (List.getElem?_eq_getElem hi)
      obtain ⟨g1,g2⟩:=r3 aY rfl
      have hl:=af.length _ cH
      have hh:Has w2 aY.block (aY.off+i*e.sz) ((news.drop (i*e.sz)).take e.sz):=λj u hu=>by
       rw[List.getElem?_take] at hu
       split at hu
       ·rw[List.getElem?_drop] at hu
        rw[Nat.add_assoc];exact g2 _ u hu
       ·cases hu
      rw[bB hh hl]
      obtain ⟨H',aJ,h1,h2⟩:=qu (A:=λ_ _=>True) (m:=.leaf) (v:=v'[i]) (F:=λ_ _=>0) q e cH (.inl (by grind [bm])) hp
      grind [bm]
     ·cases hp
   | _=>simp[aC] at hp
  | arr n e=>
   cases s with
   | fst=>simp[aC] at hp
   | snd=>simp[aC] at hp
   | idx i=>simp[aC] at hp
   | hO i=>
    obtain ⟨_,hf,hl,hlen,hr⟩:=h2
    simp only[aC,List.isEmpty_nil,if_true] at hp ⊢
    split at hp
    ·rename_i hi
     rw[if_pos hi]
     exact ih e (Ro.flat e (m:=.leaf) (λ_ _=>0) hf (hr i _ (List.getElem?_eq_getElem (by grind)))) (by simpa [bm] using hq) hp
    ·cases hp
  | _=>grind [aC]
theorem GG {t:Ty} {m':Md} {v':t.den} {cs:List Value} {G':FP} {w2:World} {A2:Cells} (ad:Option (Nat×Nat)) (h2:af P w2 A2 t m' [] v' cs G'):iQ 1 False w t [] cs ad w2 [] cs:=by
 intro q pl hq hp
 grind [Is]
theorem Bo (h:bn P C A σ a w F) {r:Nat} {ow:Bool} {b i:Nat} (ha:AX A F σ.n r ow b i):b < w.heap.size:=by
 rcases ha with ha | ⟨_,j,hj,_,hp⟩
 ·exact h.dC b i (.inr ha)
 ·exact h.dC b i (.inl (by grind [a_]))
def mK:List (PM×Ty)->Bool
 | []=>true
 | (.dt _ _,_)::_=>false
 | (.fC _,_)::_=>false
 | (.iW _,_)::_=>false
 | (.fi _,_)::_=>false
 | _::ps=>mK ps
theorem lg {ow:Bool} {y:Nat×Path} {ws:List (Nat×Path)}:∀ (ps:List (PM×Ty)) {v:(ba (ps.map (·.2))).den} {ss:List Slot} {fY:List Value},mK ps=true->oo P A σ a w F ow ps v ss fY (y::ws)->False
 | [],_,_,_,_,h=>by cases h.2.2
 | (pm,t)::ps,_,_,_,hm,h=>by
  obtain ⟨s,xi,tv,kO,wp,mI,_,_,hw,dY,fO⟩:=h
  cases pm with
  | ro=>obtain ⟨ot,_⟩:=dY;subst ot;have hw:_=mI:=hw;subst hw;exact lg ps hm fO
  | fix f=>obtain ⟨ot,_⟩:=dY;subst ot;have hw:_=mI:=hw;subst hw;exact lg ps hm fO
  | dt m m'=>cases hm
  | fC m=>cases hm
  | iW m=>cases hm
  | fi m=>cases hm
theorem EJ (h:bn P C A σ a w F) {f:FuncId} {g:kE} (hs:Sound P f g) {ow:Bool} (mJ:ow=true->(mm g.rs&&eO g.ps)=true) {r:Nat} {p:Path} {t:Ty} {m:Md} {v1:t.den} {cs:List Value} {ad:Option (Nat×Nat)} {it:Bool} {v:(ba (g.ps.map (·.2))).den} {fY:List Value} {out:(ba (g.rs.map (·.1)++dT g.ps)).den} (hF:g.F v=some out)
  (b1:At σ r p t m [] v1) (b2:place σ a w r p=some ⟨t,[],cs,ad⟩) (b3:it=true->∃ b o,ad=some (b,o))
  (b5 : ∀ (A0:Cells) (F0 Fp:FP),(∀ b i,A b i->A0 b i)->(ow=true->∀ b i j,j < σ.n->j≠r->1<=F j b i->A0 b i)->af P w A0 t m [] v1 cs Fp ->
      (it=true->∀ b o,ad=some (b,o)->Has w b o cs/\(∀ j,j < t.sz->w.frozen? ⟨b,o+j,none⟩=false)/\∀ b' i,bk b o t.sz b' i+Fp b' i<=F0 b' i)->(it=false->∀ b i,Fp b i<=F0 b i)->gv P w A0 (g.vd v) g.ps v fY F0)
  {d:Option Tmp} {K:St->Option R} (q1:(match lz σ r p t m t.zero (λ_=>some ()) with | some _=>K ((σ.put r .dead).aH d (k_ (dU g.rs out).1)) | none=>none)=some x) (It:mK g.ps=true->False) :
  Calls P f fY.toArray w λe w'=>∃ rv,e=.returned rv/\Nx P C K x (a.put d rv) w'/\(mK g.ps=true->Ext w w' (λ_ _=>0)):=by
 cases pJ:lz σ r p t m t.zero (λ_=>some ()) with
 | none=>grind
 | some u=>
 rw[pJ] at q1
 simp only at q1
 obtain ⟨hr,m2,H2,v2,bf,rC,F2,s1,s2,s3,s4,s5,_⟩:=rB h pJ
 obtain ⟨_,e3,e4,e5⟩:=b1.inj s1
 subst e3;subst e4
 have e5:=eq_of_heq e5
 subst e5
 rw[b2] at s2
 simp only[Option.some.injEq,Pl.mk.injEq,true_and] at s2
 obtain ⟨rfl,rfl⟩:=s2
 obtain ⟨Mj,Rd⟩:=af.fp t s3
 obtain ⟨F0,vk⟩:∃ F0:FP,∀ b i,F0 b i=o5 it (dL ad t.sz b i)+dE w t m [] cs b i:=⟨λb i=>o5 it (dL ad t.sz b i)+dE w t m [] cs b i,λ_ _=>rfl⟩
 have P0:∀ b i,F0 b i<=dL ad t.sz b i+dE w t m [] cs b i:=λb i=>by
  rw[vk];cases it <;> simp[o5]
 have EK:∀ b i,F0 b i<=F r b i:=λb i=>by grind
 have gH:∀ b i,F r b i<=ao σ.n F b i:=λb i=>a_ F hr b i
 have mA:∀ b i,ao σ.n F b i<=1:=λb i=>by have:=h.ge b i;omega
 have zn:∀ b i,A b i->AX A F σ.n r ow b i:=λb i h=>.inl h
 have GH:∀ b i,1<=F r b i->b < w.heap.size:=λb i hp=>h.dC b i (.inl (by grind))
 have eQ:=b5 (AX A F σ.n r ow) F0 (dE w t m [] cs) zn (λmJ b i j hj ci hp=>.inr ⟨mJ,j,hj,ci,hp⟩)
  (af.mono zn (λ_ _ _ _ h=>h) (λ_ _ h=>h) t Mj (λ_ _=>Nat.le_refl _) (λ_ _ _ _ h=>h))
  (λhP b o e=>⟨(s5 b o e).1,(s5 b o e).2,λb' i=>by rw[vk,hP,e];exact Nat.le_refl _⟩) (λhP b i=>by grind)
 refine (hs w _ F0 v _ eQ (λb i=>by grind) (λb i hp ha=>?_) (λb i hp=>?_) (h.sg λb i hp=>by grind) out hF).mono λe w' sr=>?_
 ·have h1:=EK b i;have h2:=gH b i
  rcases ha with ha | ⟨_,j,hj,ci,GI⟩
  ·exact h.gI b i (by grind) ha
  grind [jN]
 ·rcases hp with hp | hp
  ·grind
  ·exact Bo h hp
 ·obtain ⟨rv,rfl,bH,A',G,GR,GM,g1,g2,g3,g4,g5,g6,g7,g8,g9⟩:=sr
  refine ⟨rv,rfl,?_⟩
  obtain ⟨x1,x2⟩:=vY bH
  obtain ⟨l7,A2,J,a2,a3,a4,a6⟩:∃ l7 A2:Cells,(∀ b i,A b i->l7 b i)/\(∀ b i,l7 b i->A b i\/(w.heap.size<=b/\b < w'.heap.size/\G b i=0))/\(∀ b i,l7 b i->A2 b i)/\(∀ b i,A2 b i->l7 b i\/(1<=F0 b i/\G b i=0)) /\
    fl P w' A2 (dU g.rs out).1 rv GR:=by
   cases ow with
   | true=>
    have ho:=mJ rfl
    simp only[Bool.and_eq_true] at ho
    exact ⟨A,A,λ_ _ h=>h,λ_ _ h=>.inl h,λ_ _ h=>h,λ_ _ h=>.inl h,fl.free (l6 g.rs out ho.1) g8⟩
   | false=>
    have jt:∀ b i,A' b i->G b i=0:=λb i ha=>by
     grind
    refine ⟨λb i=>A b i\/(w.heap.size<=b/\A' b i),A',λ_ _ h=>.inl h,λb i ha=>ha.imp id λ⟨h1,h2⟩=>⟨h1,g6 b i (.inr h2),jt b i h2⟩,λb i ha=>?_,λb i ha=>?_,g8⟩
    ·grind
    ·rcases g2 b i ha with (GJ | ⟨e,_⟩) | h0 | hn
     ·grind
     all_goals grind
  have Iu:=om bH.size
  have h1:=h.put hr (s:=.dead) (v:=tmp a r) (Fd:=λ_ _=>0) (X':=F r) trivial (λb k=>by omega) (λ_ _ _ _ e=>by cases e)
  rw[iA] at h1
  have vp:=h1.grow x1 (A1:=l7) (X1:=λb i=>if w.heap.size<=b then G b i else F r b i) J (λb i ha=>?_) (λb i=>?_)
  rotate_left
  ·grind
  ·grind
  have h3:=vp.world x2 (λb i hp=>by
   grind)
  have h4:=h3.giveUp (A1:=A2) (X1:=GR) a3 (λb i ha=>by
   grind) (λb i=>by
   grind)
  have lB:=rG (σ:=σ.put r .dead) (a:=a) a6
  exact ⟨gu h4 q1 lB.1 (λ_ _=>Nat.le_refl _) lB.2,λhm=>(It hm).elim⟩
theorem CI (h:bn P C A σ a w F) {f:FuncId} {g:kE} (hs:Sound P f g) {ow:Bool} (mJ:ow=true->(mm g.rs&&eO g.ps)=true) {r:Nat} {p:Path} {t:Ty} {m:Md} {H:List Path} {v1:t.den} {cs:List Value} {ad:Option (Nat×Nat)} {it:Bool} {v:(ba (g.ps.map (·.2))).den} {fY:List Value} {out:(ba (g.rs.map (·.1)++dT g.ps)).den} (hF:g.F v=some out)
  (b1:At σ r p t m H v1) (b2:place σ a w r p=some ⟨t,H,cs,ad⟩) (hP:it=false)
  (b5 : ∀ (A0:Cells) (F0 Fp:FP),(∀ b i,A b i->A0 b i)->(ow=true->∀ b i j,j < σ.n->j≠r->1<=F j b i->A0 b i)->af P w A0 t m H v1 cs Fp ->
      (it=true->∀ b o,ad=some (b,o)->Has w b o cs/\(∀ j,j < t.sz->w.frozen? ⟨b,o+j,none⟩=false)/\∀ b' i,bk b o t.sz b' i+Fp b' i<=F0 b' i)->(it=false->∀ b i,Fp b i<=F0 b i)->gv P w A0 (g.vd v) g.ps v fY F0)
  {d:Option Tmp} {K:St->Option R} (q1:oU σ r p (λσ=>K (σ.aH d (k_ (dU g.rs out).1)))=some x) (It:mK g.ps=true->False) :
  Calls P f fY.toArray w λe w'=>∃ rv,e=.returned rv/\Nx P C K x (a.put d rv) w'/\(mK g.ps=true->Ext w w' (λ_ _=>0)):=by
 have hr:r < σ.n:=jO b2
 obtain ⟨A1,fT,F1,gU,vh,F0,k1,k2,k3,k4,_,k5,k6,k7⟩:=A5 h q1 b1
 rw[b2] at k5
 simp only[Option.some.injEq,Pl.mk.injEq,true_and] at k5
 obtain ⟨rfl,rfl⟩:=k5
 have gH:∀ b i,F r b i<=ao σ.n F b i:=λb i=>a_ F hr b i
 have mA:∀ b i,ao σ.n F b i<=1:=λb i=>by have:=h.ge b i;omega
 have TD:∀ b i,F0 b i+ao fT.n F1 b i<=1:=λb i=>by have h:=k3.ge b i;simpa using h
 have TE:∀ b i,1<=F0 b i->¬ A1 b i:=λb i hp=>k3.gI b i (by grind)
 have TF:∀ b i,1<=F0 b i\/A1 b i->b < w.heap.size:=λb i hp=>k3.dC b i (hp.imp (λhp=>by grind) id)
 have zn:∀ b i,A1 b i->AX A1 F σ.n r ow b i:=λb i h=>.inl h
 have eQ:=b5 (AX A1 F σ.n r ow) F0 F0 (λb i h=>.inl (k2 b i h)) (λmJ b i j hj ci hp=>.inr ⟨mJ,j,hj,ci,hp⟩)
  (af.mono (λb i h=>.inl (k2 b i h)) (λ_ _ _ _ h=>h) (λ_ _ h=>h) t k6 (λ_ _=>Nat.le_refl _) (λ_ _ _ _ h=>h))
  (λe=>by grind) (λ_ b i=>Nat.le_refl _)
 refine (hs w _ F0 v _ eQ (λb i=>by grind) (λb i hp ha=>?_) (λb i hp=>?_) (k3.sg λb i hp=>by grind) out hF).mono λe w' sr=>?_
 ·rcases ha with ha | ⟨_,j,hj,ci,GI⟩
  all_goals grind [jN]
 ·rcases hp with hp | hp | ⟨_,j,hj,ci,GI⟩
  ·grind
  ·grind
  ·exact h.dC b i (.inl (by grind [a_]))
 ·obtain ⟨rv,rfl,bH,A',G,GR,GM,g1,g2,g3,g4,g5,g6,g7,g8,g9⟩:=sr
  refine ⟨rv,rfl,?_⟩
  obtain ⟨x1,x2⟩:=vY bH
  obtain ⟨l7,A2,J,a2,a3,a4,a6⟩:∃ l7 A2:Cells,(∀ b i,A1 b i->l7 b i)/\(∀ b i,l7 b i->A1 b i\/(w.heap.size<=b/\b < w'.heap.size/\G b i=0))/\(∀ b i,l7 b i->A2 b i)/\(∀ b i,A2 b i->l7 b i\/(1<=F0 b i/\G b i=0)) /\
    fl P w' A2 (dU g.rs out).1 rv GR:=by
   cases ow with
   | true=>
    have ho:=mJ rfl
    simp only[Bool.and_eq_true] at ho
    exact ⟨A1,A1,λ_ _ h=>h,λ_ _ h=>.inl h,λ_ _ h=>h,λ_ _ h=>.inl h,fl.free (l6 g.rs out ho.1) g8⟩
   | false=>
    have jt:∀ b i,A' b i->G b i=0:=λb i ha=>by
     grind
    refine ⟨λb i=>A1 b i\/(w.heap.size<=b/\A' b i),A',λ_ _ h=>.inl h,λb i ha=>ha.imp id λ⟨h1,h2⟩=>⟨h1,g6 b i (.inr h2),jt b i h2⟩,λb i ha=>?_,λb i ha=>?_,g8⟩
    ·grind
    ·rcases g2 b i ha with (GJ | ⟨e,_⟩) | h0 | hn
     all_goals grind
  have Iu:=om bH.size
  have vp:=k3.grow x1 (A1:=l7) (X1:=λb i=>if w.heap.size<=b then G b i else F0 b i) J (λb i ha=>?_) (λb i=>?_)
  rotate_left
  ·grind
  ·grind
  have h3:=vp.world x2 (λb i hp=>by
   grind)
  have h4:=h3.giveUp (A1:=A2) (X1:=GR) a3 (λb i ha=>by
   grind) (λb i=>by
   grind)
  have lB:=rG (σ:=fT) (a:=a) a6
  exact ⟨gu h4 k1 lB.1 (λ_ _=>Nat.le_refl _) lB.2,λhm=>(It hm).elim⟩
theorem JZ {F2:Nat->FP} {n r0:Nat} {ow:Bool} (hF:∀ j b i,F2 j b i<=F j b i):∀ b i,AX A F2 n r0 ow b i->AX A F n r0 ow b i:=λb i h=>h.imp id λ⟨e,j,h1,h2,h3⟩=>⟨e,j,h1,h2,Nat.le_trans h3 (hF j b i)⟩
set_option maxHeartbeats 1000000 in
theorem GK (h:bn P C A σ a w F) {f:FuncId} {g:kE} (hs:Sound P f g) {ow:Bool} (mJ:ow=true->(mm g.rs&&(eO g.ps||jr g.ps))=true) {xs:List Operand} {ex:List Slot} {tT:List Value} (ap:xs.all (bh P)=true)
  (hex:∀ (A':Cells) (σ':St),(∀ b i,A b i->A' b i)->lQ P A' σ' a w ex tT) {d:Option Tmp} {K:St->Option R} (hk:wJ g ow σ xs ex d K=some x) :
  Calls P f (xs.map a.eval++tT).toArray w λe w'=>∃ rv,e=.returned rv/\Nx P C K x (a.put d rv) w'/\(mK g.ps=true->Ext w w' (λ_ _=>0)):=by
 unfold wJ at hk
 obtain ⟨A1,fT,F1,k1,k2,k3,k4⟩:=KZ g.ps xs h hk
 have iM:=xj k3 xs ap (hex A1 fT k2)
 obtain ⟨v,ws,q1,q2⟩:=K3 k3 g.ps iM k1
 obtain ⟨FX,zo,q2,hU⟩:∃ FX:Nat->FP,(∀ j b i,FX j b i<=F1 j b i)/\oo P A1 fT a w FX ow g.ps v (xs.map (bi fT)++ex) (xs.map a.eval++tT) ws/\(ow=true->mm g.rs=true/\(eO g.ps=true\/(jr g.ps=true/\∀ j b i,1<=FX j b i->Bn (ce w b i)=true))):=by
  by_cases cz:eO g.ps=true
  ·exact ⟨F1,λ_ _ _=>Nat.le_refl _,q2,λe=>by have:=mJ e;simp only[Bool.and_eq_true] at this;exact ⟨this.1,.inl cz⟩⟩
  ·by_cases hu:jr g.ps=true
   ·exact ⟨vZ w F1,K5 w F1,o4 g.ps hu q2,λe=>by have:=mJ e;simp only[Bool.and_eq_true] at this;exact ⟨this.1,.inr ⟨hu,λj b i hp=>Ir hp⟩⟩⟩
   ·exact ⟨F1,λ_ _ _=>Nat.le_refl _,q2,λe=>by have:=mJ e;simp only[Bool.and_eq_true,Bool.or_eq_true] at this;exact absurd this.2 (by simp[cz,hu])⟩
 split at q1
 rotate_left
 ·cases q1
 rename_i hc
 simp only[Bool.and_eq_true,Nat.ble_eq] at hc
 obtain ⟨hlen,GN⟩:=hc
 match ws,hlen with
 | [],_=>
  have q1:((g.F v).bind λout=>iY fT g.ps [] (dU g.rs out).2 λσ=>K (σ.aH d (k_ (dU g.rs out).1)))=some x:=by
   grind [Ig]
  cases hF:g.F v with
  | none=>grind
  | some out=>
  rw[hF] at q1
  simp only[Option.bind_some] at q1
  obtain ⟨n1,n2⟩:=gz (R:=R) (A0:=AX A1 FX fT.n fT.n ow) (λb i h=>.inl h) (r0:=fT.n) (λmJ b i j hj ci hp=>.inr ⟨mJ,j,hj,ci,hp⟩) g.ps q2 (λr _ aE=>by omega)
  rw[n2] at q1
  refine (hs w _ (λ_ _=>0) v _ (n1 _) (λ_ _=>Nat.zero_le _) (λb i hp=>by omega) (λb i hp=>?_) (k3.sg λb i hp=>by omega) out hF).mono λe w' sr=>?_
  ·rcases hp with hp | hp
   ·omega
   ·exact Bo k3 (JZ zo b i hp)
  ·obtain ⟨rv,rfl,bH,A',G,GR,GM,g1,g2,g3,g4,g5,g6,g7,g8,g9⟩:=sr
   have hX:∀ b i,GR b i<=0\/(w.heap.size<=b/\b < w'.heap.size/\GR b i<=1):=λb i=>by
    grind
   refine ⟨rv,rfl,?_⟩
   cases ow with
   | true=>
    have ho:=hU rfl
    have vp:=k3.grow bH (A1:=A1) (X1:=GR) (λ_ _ h=>h) (λ_ _ h=>.inl h) hX
    have lB:=rG (σ:=fT) (a:=a) (fl.free (A':=A1) (l6 g.rs out ho.1) g8)
    exact ⟨gu vp q1 lB.1 (λ_ _=>Nat.le_refl _) lB.2,λ_=>bH⟩
   | false=>
    have vp:=k3.grow bH (A1:=A') (X1:=GR) (λb i ha=>g1 b i (.inl ha)) (λb i ha=>by
     rcases g2 b i ha with (GJ | ⟨e,_⟩) | h0 | hn
     all_goals grind) hX
    have lB:=rG (σ:=fT) (a:=a) g8
    exact ⟨gu vp q1 lB.1 (λ_ _=>Nat.le_refl _) lB.2,λ_=>bH⟩
 | [(r,p)],_=>
  simp only[apart,Bool.and_eq_true,Nat.ble_eq,and_true] at GN
  obtain ⟨_,tR,it,tg,t,m,H,v1,cs,ad,b0,b1,b2,b3,b4,b5,b8,b7,b6⟩:=EI g.ps q2 GN
  have q3:(tg=true->g.vd v H=true)/\((g.F v).bind λout=>iY fT g.ps [(r,p)] (dU g.rs out).2 λσ=>K (σ.aH d (k_ (dU g.rs out).1)))=some x:=by
   cases hv:Ee g.ps with
   | false=>
    rw[hv] at q1
    exact ⟨λe=>(by grind),q1⟩
   | true=>
    rw[hv] at q1
    simp only[Ig] at q1
    rw[b1.eq] at q1
    grind
  obtain ⟨q0,q1⟩:=q3
  replace b5:=λA0 F0 Fp J a2 a3 a4 a5=>b5 A0 F0 Fp J a2 a3 a4 a5 (g.vd v) q0
  have OY:=λA0 F0 Fp J (a2:ow=true->∀ b i j,j < fT.n->j≠r->1<=F1 j b i->A0 b i) a3 a4 a5=>b5 A0 F0 Fp J (λe b i j hj ci hp=>a2 e b i j hj ci (Nat.le_trans hp (zo j b i))) a3 a4 a5
  have Mk:tR=true->ow=true->(mm g.rs&&eO g.ps)=true:=λe1 e2=>by
   obtain ⟨u1,u2 | u2⟩:=hU e2
   ·rw[u1,u2];rfl
   ·rw[b0.2.2.1 (qz _ u2.1)] at e1;cases e1
  cases hF:g.F v with
  | none=>grind
  | some out=>
  rw[hF] at q1
  simp only[Option.bind_some] at q1
  cases tg with
  | true=>
   obtain ⟨hE,hP,_⟩:=b8 rfl
   subst hE
   exact CI k3 hs (Mk rfl) hF b1 b2 (b8 rfl).2.1 OY (((b8 rfl).2.2 fT (λσ=>K (σ.aH d (k_ (dU g.rs out).1))) (dU g.rs out).2).symm.trans q1) (λhm=>lg g.ps hm q2)
  | false=>
  obtain rfl:=b0.1 rfl
  cases tR with
  | true=>exact EJ k3 hs (Mk rfl) hF b1 b2 b3 OY ((b7 rfl rfl fT (λσ=>K (σ.aH d (k_ (dU g.rs out).1))) (dU g.rs out).2).symm.trans q1) (λhm=>lg g.ps hm q2)
  | false=>
  obtain ⟨mo,o1,Re,e1,e2⟩:=b6 rfl (dU g.rs out).2
  rw[e1] at q1
  have Rf:=q1
  obtain ⟨hr,m2,H2,v2,bf,rC,F2,s1,s2,s3,s4,s5,_⟩:=rB k3 q1
  obtain ⟨_,e3,e4,e5⟩:=b1.inj s1
  subst e3;subst e4
  have e5:=eq_of_heq e5
  subst e5
  rw[b2] at s2
  simp only[Option.some.injEq,Pl.mk.injEq,true_and] at s2
  obtain ⟨rfl,rfl⟩:=s2
  obtain ⟨Mj,Rd⟩:=af.fp t s3
  obtain ⟨F0,vk⟩:∃ F0:FP,∀ b i,F0 b i=o5 it (dL ad t.sz b i)+dE w t m [] cs b i:=⟨λb i=>o5 it (dL ad t.sz b i)+dE w t m [] cs b i,λ_ _=>rfl⟩
  have P0:∀ b i,F0 b i<=dL ad t.sz b i+dE w t m [] cs b i:=λb i=>by
   rw[vk];cases it <;> simp[o5]
  have EK:∀ b i,F0 b i<=F1 r b i:=λb i=>by grind
  have gH:∀ b i,F1 r b i<=ao fT.n F1 b i:=λb i=>a_ F1 hr b i
  have mA:∀ b i,ao fT.n F1 b i<=1:=λb i=>by have:=k3.ge b i;omega
  have zn:∀ b i,A1 b i->AX A1 FX fT.n r ow b i:=λb i h=>.inl h
  have eQ:=b5 (AX A1 FX fT.n r ow) F0 (dE w t m [] cs) zn (λmJ b i j hj ci hp=>.inr ⟨mJ,j,hj,ci,hp⟩)
   (af.mono zn (λ_ _ _ _ h=>h) (λ_ _ h=>h) t Mj (λ_ _=>Nat.le_refl _) (λ_ _ _ _ h=>h))
   (λhP b o e=>⟨(s5 b o e).1,(s5 b o e).2,λb' i=>by rw[vk,hP,e];exact Nat.le_refl _⟩) (λhP b i=>by grind)
  refine (hs w _ F0 v _ eQ (λb i=>by grind) (λb i hp ha=>?_) (λb i hp=>?_) (k3.sg λb i hp=>by grind) out hF).mono λe w' sr=>?_
  ·have h1:=EK b i;have h2:=gH b i
   rcases ha with ha | ⟨_,j,hj,ci,GI⟩
   ·exact k3.gI b i (by grind) ha
   have GI:=Nat.le_trans GI (zo j b i)
   grind [jN]
  ·rcases hp with hp | hp
   ·exact k3.dC b i (.inl (by grind))
   ·exact Bo k3 (JZ zo b i hp)
  ·obtain ⟨rv,rfl,bH,A',G,GR,GM,g1,g2,g3,g4,g5,g6,g7,g8,g9⟩:=sr
   refine ⟨rv,rfl,?_⟩
   obtain ⟨GO,F3,t1,t2,t3,t4⟩:=e2 w' A' GM g9
   obtain ⟨x1,x2⟩:=vY bH
   obtain ⟨l7,A2,J,a2,a3,a4,a5,a6⟩:∃ l7 A2:Cells,(∀ b i,A1 b i->l7 b i)/\(∀ b i,l7 b i->A1 b i\/(w.heap.size<=b/\b < w'.heap.size/\G b i=0))/\(∀ b i,l7 b i->A2 b i)/\(∀ b i,A2 b i->l7 b i\/(1<=F0 b i/\G b i=0)) /\
     af P w' A2 t mo [] o1 GO F3/\fl P w' A2 (dU g.rs out).1 rv GR:=by
    cases ow with
    | true=>
     obtain ⟨u1,u2 | ⟨u2,u3⟩⟩:=hU rfl
     ·exact ⟨A1,A1,λ_ _ h=>h,λ_ _ h=>.inl h,λ_ _ h=>h,λ_ _ h=>.inl h,af.free (Re u2) (b4 u2).2 t1,fl.free (l6 g.rs out u1) g8⟩
     ·have jt:∀ b i,A' b i->G b i=0:=λb i ha=>by
       rcases Nat.eq_zero_or_pos (G b i) with h0 | h0
       ·exact h0
       grind
      refine ⟨λb i=>A1 b i\/(w.heap.size<=b/\A' b i),λb i=>A' b i/\(A1 b i\/w.heap.size<=b\/1<=F0 b i),λ_ _ h=>.inl h,λb i ha=>ha.imp id λ⟨h1,h2⟩=>⟨h1,g6 b i (.inr h2),jt b i h2⟩,λb i ha=>?_,λb i ha=>?_,af.u8 (λb i n ha hn=>⟨ha,?_⟩) t (b0.2.2.2 u2) t1,fl.free (l6 g.rs out u1) g8⟩
      ·rcases ha with ha | ⟨h1,h2⟩
       ·exact ⟨g1 b i (.inl ha),.inl ha⟩
       ·exact ⟨h2,.inr (.inl h1)⟩
      ·obtain ⟨h1,h2 | h2 | h2⟩:=ha
       ·exact .inl (.inl h2)
       ·exact .inl (.inr ⟨h2,h1⟩)
       ·exact .inr ⟨h2,jt b i h1⟩
      ·rcases g2 b i ha with (GJ | ⟨_,j,hj,ci,hp⟩) | h0 | JW
       ·exact .inl GJ
       ·exfalso
        have hb:=u3 j b i hp
        have TG:=Nat.le_trans hp (zo j b i)
        have hz:F0 b i=0:=by
         have:=EK b i
         grind [jN]
        cases hc:ce w b i with
        | none=>rw[hc] at hb;cases hb
        | some u=>
         have:=bH.cell b i (lJ hc) hz u hc
         rw[this] at hn
         injection hn with hn
         rw[hc,hn] at hb
         cases hb
       all_goals grind
    | false=>
     have jt:∀ b i,A' b i->G b i=0:=λb i ha=>by
      rcases Nat.eq_zero_or_pos (G b i) with h0 | h0
      ·exact h0
      grind
     refine ⟨λb i=>A1 b i\/(w.heap.size<=b/\A' b i),A',λ_ _ h=>.inl h,λb i ha=>ha.imp id λ⟨h1,h2⟩=>⟨h1,g6 b i (.inr h2),jt b i h2⟩,λb i ha=>?_,λb i ha=>?_,t1,g8⟩
     ·grind
     ·rcases g2 b i ha with (GJ | ⟨e,_⟩) | h0 | hn
      ·grind
      ·cases e
      ·grind
      grind
   have Iu:=om bH.size
   have vp:=k3.grow x1 (A1:=l7) (X1:=λb i=>if w.heap.size<=b then G b i else 0) J (λb i ha=>?_) (λb i=>?_)
   rotate_left
   ·rcases a2 b i ha with ha | ⟨h1,h2,h3⟩
    ·exact .inl ha
    grind
   ·by_cases hb:w.heap.size<=b
    ·rw[if_pos hb]
     rcases Nat.eq_zero_or_pos (G b i) with h0 | h0
     ·left;omega
     grind
    grind
   obtain ⟨_,m4,H4,v4,JD,TH,F4,u1,u2,u3,u4,u5,u6⟩:=rB vp Rf
   obtain ⟨_,e3,e4,e5⟩:=b1.inj u1
   subst e3;subst e4
   have e5:=eq_of_heq e5
   subst e5
   have GH:∀ b i,1<=F1 r b i->b < w.heap.size:=λb i hp=>k3.dC b i (.inl (by grind))
   have de:=lF (σ':=fT) (a':=a) (w2:=World.news w w') (k3.cj r hr) rfl rfl (λb i ha u hu=>x1.cell b i (k3.dC b i (.inr ha)) rfl u hu) (λb i hp u hu=>x1.cell b i (GH b i hp) rfl u hu) b2
   rw[de] at u2
   simp only[Option.some.injEq,Pl.mk.injEq,true_and] at u2
   obtain ⟨rfl,rfl⟩:=u2
   have hY:dE (World.news w w') t m [] cs=dE w t m [] cs:=EH t s3 (λb i hp u hu=>x1.cell b i (GH b i (by grind)) rfl u hu)
   have Rg:∀ b i,dE w t m [] cs b i<=F4 b i:=λb i=>by have:=(af.fp t u3).2 b i;rw[hY] at this;exact this
   have Dn:=af.length _ t1
   have hl:=af.length _ s3
   have fj:it=false->GO=cs:=λhP=>K4 Dn (af.one _ t1) hl (af.one _ s3) (t4 hP)
   have xk:∀ b i,1<=dL ad t.sz b i->F4 b i=0:=λb i hp=>by
    grind
   have Bp:∀ b i,b < w.heap.size->1<=G b i->1<=dL ad t.sz b i\/1<=F4 b i:=λb i hb hp=>by
    grind
   have N3:∀ b i,GR b i+F3 b i<=(if w.heap.size<=b then G b i else 0)+F4 b i:=λb i=>by
    have h7:=g7 b i;have h2:=t2 b i
    by_cases hb:w.heap.size<=b
    ·grind
    ·rw[if_neg hb]
     rcases Nat.eq_zero_or_pos (GR b i+F3 b i) with h0 | h0
     ·omega
     ·have h4:=g4 b i
      rcases g3 b i (by omega) with h1 | h1
      ·rw[vk] at h1
       cases hP:it with
       | true=>
        obtain ⟨b',o',di⟩:=b3 hP
        grind [dL]
       | false=>
        grind [o5]
      ·omega
   obtain ⟨A3,qv,Fr,n1,n2,n3,n4,n5⟩:=u6 w' A2 GO F3 GR (x2.mono λb i hz=>by
     grind) a3 (λb i ha=>by
     rcases a4 b i ha with ha | ⟨h1,h2⟩
     ·exact .inl ha
     ·refine .inr ⟨?_,by grind⟩
      have hb:b < w.heap.size:=GH b i (by grind)
      rw[if_neg (by omega)]
      rw[vk] at h1
      cases hP:it with
      | true=>
       obtain ⟨b',o',di⟩:=b3 hP
       grind [dL]
      | false=>
       grind [o5]) N3 (λb o e=>by
     cases hP:it with
     | true=>grind
     | false=>
      rw[fj hP]
      intro j u hu
      have hj:=(List.getElem?_eq_some_iff.1 hu).1
      have h9:dL ad t.sz b (o+j)=1:=by grind [dL,bk]
      have h8:=xk b (o+j) (by omega)
      refine x2.cell b (o+j) ?_ ?_ u ((u5 b o e).1 j u hu)
      ·rw[Iu];exact Nat.lt_of_lt_of_le (GH b (o+j) (by grind)) bH.size
      ·rw[vk,hP]
       have:=Rg b (o+j)
       simp only[o5,Nat.zero_add];omega) (λe=>by
     cases hP:it with
     | true=>obtain ⟨b',o',di⟩:=b3 hP;rw[e] at di;cases di
     | false=>exact fj hP) a5
   have lB:=rG (σ:=qv) (a:=a) (fl.mono n2 a6)
   cases hP:it with
   | true=>
    subst hP
    exact ⟨gu n3 n1 lB.1 (λ_ _=>Nat.le_refl _) lB.2,λhm=>(lg g.ps hm q2).elim⟩
   | false=>
    subst hP
    have hc:=fj rfl
    subst hc
    have h5:=n5 (j_ (bm p+1)) (kJ _ (k3.ei r)) (sh _ (k3.ei r)) rfl (λp' snap hb ap hlen=>by
     have:=tI (bm p+1) (k3.ei r) hb ap
     exact ⟨1,False,by omega,λ_=>.inl (by omega),λ_=>by omega,GG ad a5⟩)
    have J0:=rG (σ:={ qv with vr:=(fT.eJ r (j_ (bm p+1))).vr,aA:=fT.aA }) (a:=a) (fl.mono n2 a6)
    exact ⟨gu h5 n1 J0.1 (λ_ _=>Nat.le_refl _) J0.2,λhm=>(lg g.ps hm q2).elim⟩
 | _::_::_,hl=>simp at hl
theorem Bq (h:bn P C A σ a w F) {f:FuncId} {g:kE} (hs:Sound P f g) {xs:List Operand} {ex:List Slot} {tT:List Value} (ap:xs.all (bh P)=true)
  (hex:∀ (A':Cells) (σ':St),(∀ b i,A b i->A' b i)->lQ P A' σ' a w ex tT) {d:Option Tmp} {K:St->Option R} (hk:rZ g σ xs ex d K=some x) :
  Calls P f (xs.map a.eval++tT).toArray w λe w'=>∃ rv,e=.returned rv/\Nx P C K x (a.put d rv) w'/\(mK g.ps=true->Ext w w' (λ_ _=>0)):=by
 unfold rZ at hk
 split at hk
 all_goals grind [GK,Mh]
theorem zp {f:FuncId} {cap:Bool} (he:l5 P f cap) (args:Array Value):(callFunc f args).run P w=.ok (.enter f args) w:=by
 obtain ⟨fn,h1,h2,h3,_⟩:=he
 have TJ:fn.name ≠ "runtime.NumGoroutine" := by simpa using h2
 have OW:fn.body≠none:=by grind
 simp_all [callFunc]
theorem CJ (h:bn P C A σ a w F) {f:FuncId} {args:Array Operand} {ts:Array TypeId} (ho:o.op=.call { callee:=.value (.func f),args:=args,argTypes:=ts }) (ap:args.toList.all (bh P)=true) {g:kE} (hs:Sound P f g) (he:l5 P f false)
  {K:St->Option R} (hk:rZ g σ args.toList [] o.dst K=some x):o.wp P a w (λa' w'=>Nx P C K x a' w'/\(mK g.ps=true->Ext w w' (λ_ _=>0))) Q:=by
 have dD:(execOp a.eval o).run P w=.ok (.enter f (args.map a.eval)) w:=by
  have e:a.eval (.func f)=.func (.func f) #[] #[]:=rfl
  grind [execOp,resolve,Deferred.ofValue,invoke,zp]
 unfold Oper.wp
 rw[dD,Oper.upon_enter]
 have hc:=Bq h hs (ex:=[]) (tT:=[]) ap (λ_ _ _=>trivial) hk
 have:(args.toList.map a.eval++[]).toArray=args.map a.eval:=by grind
 rw[this] at hc
 exact hc.mono λe w' ⟨rv,he,hn⟩=>by grind
theorem CK (h:bn P C A σ a w F) {i:Tmp} {args:Array Operand} {ts:Array TypeId} (ho:o.op=.call { callee:=.value (.tmp i),args:=args,argTypes:=ts }) (ap:args.toList.all (bh P)=true) {f:FuncId} {n:Int} (iM:AJ (σ.get i)=some (f,n)) {g:kE} (hs:Sound P f g) (he:l5 P f g.cap)
  {K:St->Option R} (hk:rZ g σ args.toList (match g.cap with | true=>[.cp (.int .i64) n] | false=>[]) o.dst K=some x):o.wp P a w (λa' w'=>Nx P C K x a' w'/\(mK g.ps=true->Ext w w' (λ_ _=>0))) Q:=by
 have hi:i < σ.n:=by
  rcases Nat.lt_or_ge i σ.n with hi | hi
  ·exact hi
  ·rw[ep (Nat.not_lt.2 hi)] at iM;cases iM
 have OZ:=h.cj i hi
 unfold AJ at iM
 split at iM
 rotate_left
 ·cases iM
 rename_i v hg
 injection iM with hv
 subst hv
 rw[hg] at OZ
 obtain ⟨cs,h1,qS,rfl,fn,h3,h4⟩:=OZ
 have e:a.eval (.tmp i)=.func (.func f) #[] qS:=h1
 have dD:(execOp a.eval o).run P w=.ok (.enter f (args.map a.eval++qS)) w:=by
  grind [execOp,resolve,Deferred.ofValue,invoke,zp]
 unfold Oper.wp
 rw[dD,Oper.upon_enter]
 obtain ⟨TK,f1,f2,f3,f4⟩:=he
 rw[h3] at f1
 injection f1 with f1
 subst f1
 have hex:∃ tT:List Value,(args.toList.map a.eval++tT).toArray=args.map a.eval++qS/\∀ (A':Cells) (σ':St),(∀ b i,A b i->A' b i)->lQ P A' σ' a w (match g.cap with | true=>[.cp (.int .i64) n] | false=>[]) tT:=by
  rcases h4 with ⟨h4,rfl⟩ | ⟨h4,ad,rfl,h5,h6,h7⟩
  ·have:g.cap=false:=by grind
   rw[this]
   exact ⟨[],by grind,λ_ _ _=>trivial⟩
  ·have:g.cap=true:=by grind
   rw[this]
   refine ⟨[.pointer (some ad)],by grind,λA' σ' hA=>⟨.inl ⟨ad,rfl,h5,[.int .i64 n],rfl,(λj u hu=>?_),rfl⟩,trivial⟩⟩
   grind
 obtain ⟨tT,P1,hex⟩:=hex
 have hc:=Bq h hs ap hex hk
 rw[P1] at hc
 exact hc.mono λe w' ⟨rv,he,hn⟩=>by grind
end
end OT
set_option linter.unusedVariables false
set_option linter.unusedSimpArgs false
namespace OT
open Go
section
variable {P:Program} {w:World} {A:Cells}
def yD:Value->Bool
 | .int _ _ | .bool _ | .string _=>true
 | _=>false
theorem Ro.simple:∀ (t:Ty) {v:t.den} {cs:List Value},t.fA=true->Ro P w A t v cs->∀ x ∈ cs,yD x=true:=by
 intro t
 induction t with
 | int k=>intro v cs _ h x hx;simp only[Ro] at h;subst h;simp at hx;subst hx;rfl
 | bool=>intro v cs _ h x hx;simp only[Ro] at h;subst h;simp at hx;subst hx;rfl
 | str=>intro v cs _ h x hx;simp only[Ro] at h;subst h;simp at hx;subst hx;rfl
 | unit=>grind [Ro]
 | pair a b eI ey=>
  intro v cs he h x hx
  simp only[Ty.fA,Bool.and_eq_true] at he
  rw[<-List.take_append_drop a.sz cs] at hx
  rcases List.mem_append.1 hx with hx | hx
  ·exact eI he.1 h.1 x hx
  ·exact ey he.2 h.2 x hx
 | arr n e ih=>
  intro v cs he h x hx
  obtain ⟨_,hv,hl,hr⟩:=h
  obtain ⟨j,hj,rfl⟩:=List.mem_iff_getElem.1 hx
  have hs:0 < e.sz:=by
   grind
  have hi:j / e.sz < n:=by
   rw[Nat.div_lt_iff_lt_mul hs];omega
  have h1:=hr (j / e.sz) _ (List.getElem?_eq_getElem (by omega))
  refine ih he h1 _ (List.mem_iff_getElem?.2 ⟨j % e.sz,?_⟩)
  grind [Nat.mod_lt,Nat.div_add_mod]
 | _=>grind [Ty.fA]
theorem CL {x:Value} (h:yD x=true) (n:Nat):Instr.sameBits n x x=true:=by
 cases x <;> simp[yD] at h <;> cases n <;> simp[Instr.sameBits,MapKept.bytes_beq]
theorem GP {t:Ty} {v:t.den} {cs:List Value} (ha:isAgg t=true) (he:t.fA=true) (h:Ro P w A t v cs):Instr.sameBits 10000 (aZ t cs) (aZ t cs)=true:=by
 have hs:=Ro.simple t he h
 simp only[aZ,ha,if_true,Instr.sameBits,beq_self_eq_true,Bool.true_and,List.all_eq_true]
 rintro ⟨x,y⟩ tD
 have hz:(x,y) ∈ cs.zip cs:=by simpa using tD
 have TM:x=y/\x ∈ cs:=by
  clear h hs tD
  induction cs with
  | nil=>simp at hz
  | cons c cs ih=>
   grind [List.zip_cons_cons]
 grind [CL]
theorem Br:∀ (t:Ty),(∀ (i:TypeId) (d:Nat) (e:Bool) (v:t.den) (cs:List Value),aq P t (.inl i)=true->iN P t (.inl i)=true->dep t<=d->Ro P w A t v cs->(Instr.checkKey e d i (aZ t cs)).run P w=.ok () w) /\
  (∀ (fs:List Field) (off d:Nat) (e:Bool) (v:t.den) (xs:Array Value),aq P t (.inr (fs,off))=true->iN P t (.inr fs)=true->dep t<=d+1->Ro P w A t v (xs.toList.drop off) ->
   (forIn fs PUnit.unit λf _=>(if f.name ≠ "_" then do
     let x <- part f.type xs f.offset
     Instr.checkKey e d f.type x
     pure (ForInStep.yield PUnit.unit)
    else pure (ForInStep.yield PUnit.unit):Sem (ForInStep PUnit))).run P w=.ok () w):=by
 intro t
 induction t with
 | int k=>
  refine ⟨λi d e v cs hl he hd h=>?_,λfs off d e v xs hl=>by simp[aq] at hl⟩
  simp only[Ro] at h
  subst h
  cases d with
  | zero=>simp[dep] at hd
  | succ d=>rw[bp _ _ rfl];simp[Instr.checkKey,run_underlying (gT hl)]
 | bool=>
  refine ⟨λi d e v cs hl he hd h=>?_,λfs off d e v xs hl=>by simp[aq] at hl⟩
  simp only[Ro] at h
  subst h
  have hu:P.underlying i=some .bool:=by
   grind [aq]
  cases d <;> simp_all [dep,Instr.checkKey,run_underlying]
 | str=>
  refine ⟨λi d e v cs hl he hd h=>?_,λfs off d e v xs hl=>by simp[aq] at hl⟩
  simp only[Ro] at h
  subst h
  cases d <;> simp_all [dep,Instr.checkKey,run_underlying,eP]
 | unit=>
  refine ⟨λi d e v cs hl he hd h=>?_,λfs off d e v xs hl he hd h=>?_⟩
  ·simp only[Ro] at h
   subst h
   simp only[aq,Bool.and_eq_true] at hl
   have h3:=hl.2
   split at h3
   ·rename_i fs hu
    have yA:fs.toList=[]:=List.isEmpty_iff.1 h3
    cases d with
    | zero=>simp[dep] at hd
    | succ d=>
     show (Instr.checkKey e (d+1) i (.agg #[])).run P w=_
     simp_all [Instr.checkKey,run_underlying]
   ·cases h3
  simp_all [aq]
 | pair a b eI ey=>
  have second:∀ (fs:List Field) (off d:Nat) (e:Bool) (v:(Ty.pair a b).den) (xs:Array Value),aq P (.pair a b) (.inr (fs,off))=true->iN P (.pair a b) (.inr fs)=true->dep (.pair a b)<=d+1->Ro P w A (.pair a b) v (xs.toList.drop off) ->
    (forIn fs PUnit.unit λf _=>(if f.name ≠ "_" then do
      let x <- part f.type xs f.offset
      Instr.checkKey e d f.type x
      pure (ForInStep.yield PUnit.unit)
     else pure (ForInStep.yield PUnit.unit):Sem (ForInStep PUnit))).run P w=.ok () w:=by
   intro fs off d e v xs hl he hd h1
   cases fs with
   | nil=>simp_all
   | cons f r=>
    simp only[aq,Bool.and_eq_true,Nat.beq_eq,Nat.ble_eq] at hl
    simp only[iN,Bool.and_eq_true,bne_iff_ne,ne_eq] at he
    simp only[dep] at hd
    obtain ⟨Gs,Gt⟩:=h1
    have p1:=kM (P:=P) (w:=w) hl.1.2 (cs:=xs) (off:=off) (Ro.length _ Gs)
    have e1:=eI.1 f.type d e v.1 _ hl.1.2 he.1.2 (by omega) Gs
    rw[List.drop_drop] at Gt
    have e2:=ey.2 r (off+a.sz) d e v.2 xs hl.2 he.2 (by omega) Gt
    simp_all
  refine ⟨λi d e v cs hl he hd h=>?_,second⟩
  simp only[aq,Bool.and_eq_true] at hl
  simp only[iN,Bool.and_eq_true,Bool.not_eq_true'] at he
  have h3:=hl.2
  have h4:=he.2
  split at h3
  ·rename_i fs hu
   rw[hu] at h4
   simp only at h4
   split at h3
   ·rename_i f r wY
    rw[wY] at h4
    simp only at h4
    cases d with
    | zero=>grind [dep]
    | succ d=>
     show (Instr.checkKey e (d+1) i (.agg cs.toArray)).run P w=_
     rw[Instr.checkKey]
     simp only[Sem.run_bind,run_underlying hu,Result.andThen_ok]
     rw[<-Array.forIn_toList,wY]
     have:=second (f::r) 0 d e v cs.toArray (by grind [aq]) (by grind [iN]) hd (by simpa using h)
     rw[this]
     rfl
   ·cases h3
  ·cases h3
 | arr n e ih=>
  refine ⟨λi d em v cs hl he hd h=>?_,λfs off d em v xs hl=>by simp[aq] at hl⟩
  simp only[aq,Bool.and_eq_true] at hl
  have h3:=hl.2
  simp only[iN] at he
  split at h3
  ·rename_i n' el hu
   simp only[Bool.and_eq_true,Nat.beq_eq,Nat.ble_eq] at h3
   obtain ⟨⟨rfl,_⟩,hle⟩:=h3
   rw[hu] at he
   simp only at he
   obtain ⟨inf,i1,i2,_⟩:=dM (ej hle)
   have fk:P.cellsOf el=e.sz:=by grind [Program.cellsOf]
   obtain ⟨_,l1,_,r1⟩:=h
   cases d with
   | zero=>simp[dep] at hd
   | succ d=>
    simp only[dep] at hd
    show (Instr.checkKey em (d+1) i (.agg cs.toArray)).run P w=_
    rw[Instr.checkKey]
    simp only[Sem.run_bind,run_underlying hu,Result.andThen_ok,Std.Legacy.Range.forIn_eq_forIn_range',Std.Legacy.Range.size,Nat.sub_zero,Nat.add_one_sub_one,Nat.div_one]
    have key:∀ (m j:Nat),j+m=n->(forIn (List.range' j m) PUnit.unit λi _=>(do
       let x <- part el cs.toArray (i*(<- Go.sizeOf el))
       Instr.checkKey em d el x
       pure (ForInStep.yield PUnit.unit):Sem (ForInStep PUnit))).run P w=.ok () w:=by
     intro m
     induction m with
     | zero=>simp_all
     | succ m Mb=>
      intro j hj
      have J:=r1 j _ (List.getElem?_eq_getElem (l:=v) (i:=j) (by omega))
      have p1:=kM (P:=P) (w:=w) hle (cs:=cs.toArray) (off:=j*e.sz) (Ro.length _ J)
      have e1:=ih.1 el d em _ _ hle he (by omega) J
      rw[List.range'_succ]
      simp only[List.forIn_cons,Sem.run_bind,run_sizeOf hle,p1,e1,Result.andThen_ok,Sem.run_pure]
      grind
    simp_all
  ·cases h3
 | _=>grind [iN]
def st (P:Program) (w:World) (A:Cells) (k v:Ty) (es:List (Value×Value)) (m:List (k.den×v.den)):Prop:=
 es.length=m.length/\∀ (i:Nat) (y:k.den×v.den),m[i]?=some y->∃ (kc vc:List Value),es[i]?=some (aZ k kc,aZ v vc)/\Ro P w A k y.1 kc/\Ro P w A v y.2 vc
structure Ak (P:Program) (k:Ty) (i:TypeId):Prop where
 lay:aq P k (.inl i)=true
 agg:isAgg k=true
 fA:k.fA=true
 flat:k.flat=true
 iN:iN P k (.inl i)=true
 dep:dep k<=9000
theorem yE {k v:Ty} {i:TypeId} (h:aq P (.map k v) (.inl i)=true):∃ ki vi,P.underlying i=some (.map ki vi)/\Ak P k ki/\aq P v (.inl vi)=true/\JM P v vi=true:=by
 simp only[aq,Bool.and_eq_true] at h
 have h2:=h.2
 split at h2
 ·rename_i ki vi hu
  simp only[Bool.and_eq_true,L6,Nat.ble_eq] at h2
  obtain ⟨⟨⟨h3,h4⟩,⟨⟨⟨⟨h5,h6⟩,h7⟩,h8⟩,h9⟩⟩,vq⟩:=h2
  exact ⟨ki,vi,hu,⟨h3,h5,h6,h7,h8,h9⟩,h4,vq⟩
 ·cases h2
theorem GQ {k v:Ty} {ki:TypeId} (K:Ak P k ki) {x:k.den} {xc:List Value} (hx:Ro P w A k x xc):∀ (es:List MapEntry) (m:List (k.den×v.den)) (i:Nat),st P w A k v (es.map λe=>(e.key,e.val)) m ->
  (Instr.findAsking ki (aZ k xc) es i).run P w=.ok ((m.findIdx? λy=>k.eq x y.1).bind λj=>(es[j]?).map λe=>(i+j,e.val)) w:=by
 intro es
 induction es with
 | nil=>
  simp_all [Instr.findAsking]
 | cons e es ih=>
  intro m i h
  cases m with
  | nil=>have:=h.1;simp at this
  | cons y m=>
   obtain ⟨kc,vc,h1,h2,h3⟩:=h.2 0 y rfl
   simp only[List.map_cons,List.getElem?_cons_zero,Option.some.injEq,Prod.mk.injEq] at h1
   have heq:(Op.equal ki (aZ k xc) (aZ k kc)).run P w=.ok (k.eq x y.1) w:=(JR (P:=P) (w:=w) (A:=A) k).1 ki Op.maxDepth x y.1 xc kc K.lay K.iN (by have:=K.dep;grind [Op.maxDepth]) hx h2
   have fO:st P w A k v (es.map λe=>(e.key,e.val)) m:=⟨by have:=h.1;simpa using this,λj z hz=>by
    have:=h.2 (j+1) z (by simpa using hz)
    simpa using this⟩
   simp only[Instr.findAsking,Sem.run_bind,h1.1,heq,Result.andThen_ok,List.findIdx?_cons]
   cases hq:k.eq x y.1 with
   | true=>simp
   | false=>
    simp only[Bool.false_eq_true,if_false,ih m (i+1) fO,Option.bind_map]
    congr 2
    grind
theorem GS {k:Ty} {ki:TypeId} (K:Ak P k ki):∃ d,P.underlying ki=some d/\∀ x y,Instr.sameNow d x y=none:=by
 have hl:=K.lay
 have ha:=K.agg
 have he:=K.fA
 cases k with
 | pair a b=>
  simp only[aq,Bool.and_eq_true] at hl
  have h3:=hl.2
  split at h3
  ·rename_i fs hu;exact ⟨_,hu,λ_ _=>rfl⟩
  ·cases h3
 | unit=>
  simp only[aq,Bool.and_eq_true] at hl
  have h3:=hl.2
  split at h3
  ·rename_i fs hu;exact ⟨_,hu,λ_ _=>rfl⟩
  ·cases h3
 | arr n e=>
  simp only[aq,Bool.and_eq_true] at hl
  have h3:=hl.2
  split at h3
  ·rename_i n' el hu;exact ⟨_,hu,λ_ _=>rfl⟩
  ·cases h3
 | _=>simp[isAgg] at ha
theorem DF {k v:Ty} {ki:TypeId} (K:Ak P k ki) {x:k.den} {xc:List Value} (hx:Ro P w A k x xc) {es:List MapEntry} {m:List (k.den×v.den)} (h:st P w A k v (es.map λe=>(e.key,e.val)) m) :
  (Instr.findKey ki (aZ k xc) es).run P w=.ok ((m.findIdx? λy=>k.eq x y.1).bind λj=>(es[j]?).map λe=>(j,e.val)) w:=by
 obtain ⟨d,hu,hd⟩:=GS K
 have ha:=GQ (v:=v) K hx es m 0 h
 simp only[Nat.zero_add] at ha
 unfold Instr.findKey
 simp only[Sem.run_bind,run_underlying hu,Result.andThen_ok]
 cases es <;> simp_all [Instr.findNow]
theorem tU {k v:Ty} {m:Md} {y:List (k.den×v.den)} {cs:List Value} {F:FP} (h:af P w A (.map k v) m [] y cs F) :
  k.flat=true/\v.flat=true/\∃ (r:Nat) (es:Array MapEntry) (clock:Nat),cs=[.map (some r)]/\w.heap[r]?=some (.map es clock)/\st P w A k v (es.toList.map λe=>(e.key,e.val)) y/\(m.own=true->1<=F r 0):=by
 simp only[af,hole,List.any_nil,Bool.false_eq_true,if_false] at h
 split at h
 ·rename_i hm
  obtain ⟨h1,h2,r,ka,h3,h4,h5,h6,h7⟩:=h
  obtain ⟨es,clock,q1,q2⟩:=FV h4
  refine ⟨h1,h2,r,es,clock,h3,q1,?_,λ_=>h5⟩
  have q2:(es.toList.map λe=>(e.key,e.val))=ka:=q2
  rw[q2]
  exact ⟨h6,h7⟩
 ·rename_i hm
  obtain ⟨_,_,h1,h2,r,ka,h3,h4,h5,h6,h7⟩:=h
  obtain ⟨es,clock,q1,q2⟩:=FV h4
  refine ⟨h1,h2,r,es,clock,h3,q1,?_,λe=>absurd e hm⟩
  have q2:(es.toList.map λe=>(e.key,e.val))=ka:=q2
  rw[q2]
  exact ⟨h6,h7⟩
theorem GT {α:Type} {k:Ty} (m:List (k.den×α)) (x:k.den):gq k m x=(m.findIdx? λe=>k.eq x e.1).bind λj=>(m[j]?).map (·.2):=by
 unfold gq
 induction m with
 | nil=>rfl
 | cons y m ih=>
  simp only[List.find?_cons,List.findIdx?_cons]
  cases hq:k.eq x y.1 with
  | true=>simp
  | false=>
   simp only[Bool.false_eq_true,if_false]
   rw[ih]
   cases m.findIdx? (λe=>k.eq x e.1) <;> simp
theorem Iv {v:Ty} {i:TypeId} (hz:JM P v i=true) (hv:aq P v (.inl i)=true) {z:Value} {L:List Value} (h1:(zeroValue i).run P w=.ok z w) (h2:z.cells.toList=L) (hl:L.length=v.sz):z=aZ v L:=by
 obtain ⟨inf,i1,i2,i3,i4⟩:=dM (ej hv)
 unfold JM at hz
 rw[i1] at hz
 simp only at hz
 cases Rh:inf.zero with
 | none=>grind
 | some z0=>
  have:z=z0:=by
   simp_all [zeroValue,typeInfo]
  subst this
  rw[Rh] at hz
  unfold aZ
  cases ha:isAgg v with
  | true=>
   rw[ha] at hz
   cases z <;> simp at hz
   simp only[Value.cells] at h2
   subst h2
   simp
  | false=>
   grind [Value.cells]
theorem Iw:∀ (t:Ty),t.fA=true->∀ {v1 v2:t.den} {gU bf:List Value},Ro P w A t v1 gU->Ro P w A t v2 bf->t.eq v1 v2=true->bf=gU:=by
 intro t
 induction t with
 | int k=>
  intro _ v1 v2 gU bf h1 h2 he
  simp only[Ro] at h1 h2
  subst h1;subst h2
  have:v1=v2:=by cases k <;> simpa [Ty.eq] using he
  rw[this]
 | bool=>
  grind [Ro,Ty.eq]
 | str=>
  grind [Ro,Ty.eq]
 | unit=>
  grind [Ro]
 | pair a b eI ey=>
  intro hq v1 v2 gU bf h1 h2 he
  simp only[Ty.fA,Bool.and_eq_true] at hq
  simp only[Ty.eq,Bool.and_eq_true] at he
  have e1:=eI hq.1 h1.1 h2.1 he.1
  have e2:=ey hq.2 h1.2 h2.2 he.2
  grind [List.take_append_drop]
 | arr n e ih=>
  intro hq v1 v2 gU bf h1 h2 he
  obtain ⟨_,l1,c1,r1⟩:=h1
  obtain ⟨_,l2,c2,r2⟩:=h2
  refine List.ext_getElem (by omega) λj J1 TN=>?_
  have hs:0 < e.sz:=by
   grind
  have hi:j / e.sz < n:=by
   rw[Nat.div_lt_iff_lt_mul hs];omega
  have J:=r1 (j / e.sz) _ (List.getElem?_eq_getElem (by omega))
  have a2:=r2 (j / e.sz) _ (List.getElem?_eq_getElem (by omega))
  have Ri:e.eq (v1[j / e.sz]'(by omega)) (v2[j / e.sz]'(by omega))=true:=by
   simp only[Ty.eq,List.all_eq_true] at he
   exact he (_,_) (List.mem_iff_getElem?.2 ⟨j / e.sz,by grind⟩)
  have h3:=ih hq J a2 Ri
  have hm:=Nat.mod_lt j hs
  have hd:=Nat.div_add_mod j e.sz
  have h4:=congrArg (·[j % e.sz]?) h3
  grind
 | _=>grind [Ty.fA]
theorem EL {k v:Ty} {t:TypeId} (hl:aq P (.map k v) (.inl t)=true) (hz:v.lu=true) {x:k.den} {xc:List Value} (hx:Ro P w A k x xc) {r:Nat} {es:Array MapEntry} {clock:Nat} (hb:w.heap[r]?=some (.map es clock)) {y:List (k.den×v.den)}
  (he:st P w A k v (es.toList.map λe=>(e.key,e.val)) y) (ok:Bool) :
  ∃ vc,Ro P w A v (AK (gq k y x) v.zero) vc/\(Instr.lookup t (.map (some r)) (aZ k xc) ok).run P w=.ok (if ok then .tuple #[aZ v vc,.bool (gq k y x).isSome] else aZ v vc) w:=by
 obtain ⟨ki,vi,hu,K,hv,P2⟩:=yE hl
 have hc:=(Br (P:=P) (w:=w) (A:=A) k).1 ki 10000 es.isEmpty x xc K.lay K.iN (by have:=K.dep;omega) hx
 have hf:=DF (v:=v) K hx he
 obtain ⟨L,hL⟩:=jQ v hz
 obtain ⟨z,Bd,Gw⟩:=oM (P:=P) (w:=w) hv hL
 obtain ⟨r1,r2,r3⟩:=o3 (P:=P) (w:=w) (A:=A) v hL hv
 rw[GT]
 cases Bs:y.findIdx? (λe=>k.eq x e.1) with
 | none=>
  rw[Bs] at hf
  simp only[Option.bind_none] at hf ⊢
  refine ⟨L,r2,?_⟩
  have Dy:z=aZ v L:=Iv P2 hv Bd Gw r3
  cases ok <;> simp[Instr.lookup,run_underlying hu,MapKept.run_getObj_map hb,hc,hf,Bd,Dy]
 | some j=>
  rw[Bs] at hf
  have hj:j < y.length:=(List.findIdx?_eq_some_iff_findIdx_eq.1 Bs).1
  obtain ⟨kc,vc,g1,g2,g3⟩:=he.2 j y[j] (List.getElem?_eq_getElem hj)
  rw[List.getElem?_map] at g1
  cases O0:es.toList[j]? with
  | none=>grind
  | some e=>
   rw[O0] at g1
   simp only[Option.map_some,Option.some.injEq,Prod.mk.injEq] at g1
   simp only[O0,Option.bind_some,Option.map_some,List.getElem?_eq_getElem hj] at hf ⊢
   refine ⟨vc,g3,?_⟩
   cases ok <;> simp[Instr.lookup,run_underlying hu,MapKept.run_getObj_map hb,hc,hf,g1.2]
end
section
variable {P:Program} {C:Ctx} {A:Cells} {X:FP} {σ:St} {a:Act} {w:World} {F:Nat->FP} {R:Type} {x:R} {Q:Exit->Act->World->Prop} {o:Oper} {E:Env}
theorem CM (h:bn P C A σ a w F) (dZ:∀ i T,E.TI i=some T->aq P T (.inl i)=true) {t:Nat} (ho:o.op=.makeMap t none) {K:St->Option R}
  (hk:(gF E t λt=>match t with
  | .map k v=>if k.flat&&v.flat then K (σ.aH o.dst (.own (.map k v) (av (.map k v)) [] [])) else none
  | _=>none)=some x):o.wp P a w (λa' w'=>Nx P C K x a' w'/\Ext w w' (λ_ _=>0)) Q:=by
 obtain ⟨T,hT,hk⟩:=bM hk
 split at hk
 ·rename_i k v
  split at hk
  ·rename_i hc
   simp only[Bool.and_eq_true] at hc
   have dD:(execOp a.eval o).run P w=.ok (.value (.map (some w.heap.size))) (w.alloc (.map #[] 0)):=by
    simp[execOp,ho,run_makeMap_plain]
   have bH:=fJ w (.map #[] 0)
   have h1:Rel P C A (λb i=>0+bk w.heap.size 0 1 b i) σ a (w.alloc (.map #[] 0)) F:=by
    refine h.grow bH (λ_ _ h=>h) (λ_ _ h=>.inl h) (λb i=>?_)
    by_cases hb:b=w.heap.size
    ·subst hb
     right
     exact ⟨Nat.le_refl _,by simp,by grind [bk]⟩
    grind [bk]
   have qW:(w.alloc (.map #[] 0)).heap[w.heap.size]?=some (.map #[] 0):=heap_alloc_new w _
   refine fI dD ⟨gu h1 hk (Fd:=bk w.heap.size 0 1) ⟨_,(bp (.map k v) _ rfl).symm,?_⟩ (λb i=>by simp) (λ_ _ _ _ e=>by cases e),bH⟩
   simp only[af,hole,List.any_nil,Bool.false_eq_true,if_false,av,ly,Md.own,if_true]
   refine ⟨hc.1,hc.2,w.heap.size,[],rfl,?_,by simp[bk],rfl,λi y hy=>by cases hy⟩
   exact FW qW
  ·cases hk
 ·cases hk
theorem CN (h:bn P C A σ a w F) (dZ:∀ i T,E.TI i=some T->aq P T (.inl i)=true) {t:Nat} {y z:Operand} {ok:Bool} (ho:o.op=.lookup t y z ok) (ap:bh P y=true/\bh P z=true) {K:St->Option R}
  (hk:yh E σ t (bi σ y) (bi σ z) ok o.dst K=some x):o.wp P a w (λa' w'=>Nx P C K x a' w'/\Ext w w' (λ_ _=>0)) Q:=by
 unfold yh at hk
 obtain ⟨T,hT,hk⟩:=bM hk
 have cI:=dZ _ _ hT
 split at hk
 ·rename_i k v
  split at hk
  ·rename_i hz
   rcases bE h ap.1 with hs | ⟨xs,e⟩
   rotate_left
   ·grind
   rcases bE h ap.2 with ol | ⟨xs,e2⟩
   rotate_left
   ·exfalso
    rw[e2] at hk
    split at hk
    ·split at hk
     ·obtain ⟨_,_,_,_,_,_,_,_,h1,_⟩:=d7 h hk
      grind [aV]
     ·cases hk
    ·cases hk
   split at hk
   ·rename_i r p snap hv
    rw[hv] at hs
    split at hk
    ·rename_i fW
     obtain ⟨hr,t',m',H',v',aJ,aY,F',h1,dw,h3,h4,h5,h6⟩:=d7 h hk
     split at h1
     ·rename_i hH
      have hH:=List.isEmpty_iff.1 hH
      subst hH
      obtain ⟨e1,h1⟩:=aV h1
      subst e1
      obtain ⟨pl,g1,g2,g3⟩:=hs.2 fW
      rw[h3] at g1
      injection g1 with g1
      subst g1
      obtain ⟨f1,f2,b,es,clock,q1,q2,q3,q4⟩:=tU h4
      simp only at g2
      subst q1
      rw[bp (.map k v) _ rfl] at g2
      split at h1
      ·rename_i t2 ix Ml
       rw[Ml] at ol
       obtain ⟨e2,h1⟩:=aV h1
       subst e2
       obtain ⟨kc,DA,fg⟩:=ol
       obtain ⟨vc,r1,r2⟩:=EL (P:=P) cI hz fg q2 q3 ok
       have dD:(execOp a.eval o).run P w=.ok (.value (if ok then .tuple #[aZ v vc,.bool (gq t2 v' ix).isSome] else aZ v vc)) w:=by
        simp_all [execOp]
       cases ok with
       | true=>
        simp only at h1
        refine fI dD ⟨aP h h1 ⟨#[aZ v vc,.bool (gq t2 v' ix).isSome],λ_ _ _=>0,rfl,λb i=>by grind [eH],λj y hy=>?_⟩ (λ_ _ _ _ e=>by cases e),Ext.refl _ _⟩
        match j with
        | 0=>simp at hy;subst hy;exact ⟨_,rfl,.inr ⟨vc,rfl,Ro.rep v _ (bQ v) r1⟩⟩
        | 1=>simp at hy;subst hy;exact ⟨_,rfl,.inr ⟨[.bool _],rfl,rfl⟩⟩
        | n+2=>simp at hy
       | false=>
        simp only at h1
        exact fI dD ⟨aP h h1 ⟨vc,rfl,r1⟩ (λ_ _ _ _ e=>by cases e),Ext.refl _ _⟩
      ·cases h1
     ·cases h1
    ·cases hk
   ·cases hk
  ·cases hk
 ·cases hk
theorem EM {r:Nat} {es xl:Array MapEntry} {clock rH:Nat} (hb:w.heap[r]?=some (.map es clock)):Ext w { w with heap:=w.heap.setIfInBounds r (.map xl rH) } (bk r 0 1):=by
 have Rj:∀ b,b≠r->(w.heap.setIfInBounds r (.map xl rH))[b]?=w.heap[b]?:=λb ci=>by grind
 refine ⟨by simp,λb i O1 hz u hu=>?_,λb n hn=>?_,λb i O1=>?_,rfl,rfl,rfl,λb O1 hz=>?_,Nat.le_refl _⟩
 ·grind [bk,ce,sa]
 ·obtain ⟨c,e,fr,h1,h2,h3⟩:=hn
  have Rk:b≠r:=λe=>by grind
  exact ⟨c,e,fr,by grind,h2,h3⟩
 ·grind [World.frozen?]
 ·have Rk:b≠r:=λe=>by simp_all [bk]
  grind
theorem EN {k v:Ty} {t:TypeId} (hl:aq P (.map k v) (.inl t)=true) {x:k.den} {xc:List Value} (hx:Ro P w A k x xc) {z:v.den} {J2:List Value} (TO:Ro P w A v z J2) {r:Nat} {es:Array MapEntry} {clock:Nat} (hb:w.heap[r]?=some (.map es clock)) {y:List (k.den×v.den)}
  (he:st P w A k v (es.toList.map λe=>(e.key,e.val)) y) :
  ∃ (xl:Array MapEntry) (rH:Nat),(Instr.mapUpdate t (.map (some r)) (aZ k xc) (aZ v J2)).run P w=.ok () { w with heap:=w.heap.setIfInBounds r (.map xl rH) }/\st P w A k v (xl.toList.map λe=>(e.key,e.val)) (gr k y x z):=by
 obtain ⟨ki,vi,hu,K,hv,_⟩:=yE hl
 have hc:=(Br (P:=P) (w:=w) (A:=A) k).1 ki 10000 false x xc K.lay K.iN (by have:=K.dep;omega) hx
 have hf:=DF (v:=v) K hx he
 unfold gr
 cases Bs:y.findIdx? (λe=>k.eq x e.1) with
 | none=>
  rw[Bs] at hf
  simp only[Option.bind_none] at hf ⊢
  refine ⟨es.push { key:=aZ k xc,val:=aZ v J2,born:=clock },clock+1,?_,?_,λi q hq=>?_⟩
  ·simp[Instr.mapUpdate,run_underlying hu,MapKept.run_getObj_map hb,hc,hf,MapKept.run_setObj_map _ hb,Result.andThen]
  ·have:=he.1;grind
  ·have hlen:(es.toList.map λe=>(e.key,e.val)).length=y.length:=he.1
   rw[Array.toList_push,List.map_append]
   by_cases hi:i < y.length
   ·rw[List.getElem?_append_left hi] at hq
    rw[List.getElem?_append_left (by grind)]
    exact he.2 i q hq
   grind
 | some j=>
  rw[Bs] at hf
  have Rl:=List.findIdx?_eq_some_iff_findIdx_eq.1 Bs
  have hj:j < y.length:=Rl.1
  obtain ⟨kc,vc,g1,g2,g3⟩:=he.2 j y[j] (List.getElem?_eq_getElem hj)
  rw[List.getElem?_map] at g1
  have hlen:es.size=y.length:=by have:=he.1;simpa using this
  have l8:es.toList[j]?=some es[j]:=by simp[hlen,hj]
  rw[l8] at g1
  simp only[Option.map_some,Option.some.injEq,Prod.mk.injEq] at g1
  simp only[Option.bind_some] at hf ⊢
  rw[l8] at hf
  simp only[Option.map_some] at hf
  have P3:k.eq x (y[j]).1=true:=by
   grind
  have SP:aZ k kc=aZ k xc:=by
   have:=Iw k K.fA hx g2 P3
   rw[this]
  have uU:(Instr.keyThatStays (aZ k xc) (aZ k xc)).run P w=.ok (aZ k xc) w:=by
   simp[Instr.keyThatStays,GP K.agg K.fA hx]
  have nz:(es[j]?).map (·.key)=some (aZ k xc):=by
   grind
  refine ⟨es.modify j λe=>{ e with key:=aZ k xc,val:=aZ v J2 },clock,?_,?_,λi q hq=>?_⟩
  ·simp[Instr.mapUpdate,run_underlying hu,MapKept.run_getObj_map hb,hc,hf,nz,uU,MapKept.run_setObj_map _ hb,Result.andThen]
  ·simp[hlen]
  ·rw[List.getElem?_set] at hq
   rw[List.getElem?_map,Array.getElem?_toList,Array.getElem?_modify]
   by_cases gG:j=i
   ·grind
   ·rw[if_neg gG] at hq ⊢
    have:=he.2 i q hq
    grind
theorem yF (h:bn P C A σ a w F) (dZ:∀ i T,E.TI i=some T->aq P T (.inl i)=true) {t:Nat} {y z u:Operand} (ho:o.op=.mapUpdate t y z u) (hd:o.dst=none) (ap:bh P y=true/\bh P z=true/\bh P u=true) {K:St->Option R}
  (hk:yi E σ t (bi σ y) (bi σ z) (bi σ u) K=some x):o.wp P a w (Nx P C K x) Q:=by
 unfold yi at hk
 obtain ⟨T,hT,hk⟩:=bM hk
 have cI:=dZ _ _ hT
 split at hk
 ·rename_i k v
  rcases bE h ap.1 with hs | ⟨xs,e⟩
  rotate_left
  ·grind
  split at hk
  ·rename_i r p snap hv
   rw[hv] at hs
   split at hk
   ·rename_i fW
    obtain ⟨hr,t',m',H',v',aJ,aY,F',h1,dw,h3,h4,h5,h6⟩:=d7 h hk
    split at h1
    ·rename_i hH
     simp only[Bool.and_eq_true,List.isEmpty_iff] at hH
     obtain ⟨cz,hH⟩:=hH
     subst hH
     obtain ⟨e1,h1⟩:=aV h1
     subst e1
     obtain ⟨pl,g1,g2,g3⟩:=hs.2 fW
     rw[h3] at g1
     injection g1 with g1
     subst g1
     split at h1
     ·rename_i t2 ix t3 uv Ml TP
      have ol:aW P A σ a w (a.eval z) (.val t2 ix) (λ_ _=>0):=by
       grind [bE]
      have Rm:aW P A σ a w (a.eval u) (.val t3 uv) (λ_ _=>0):=by
       grind [bE]
      obtain ⟨e2,h1⟩:=aV h1
      subst e2
      obtain ⟨e3,h1⟩:=aV h1
      subst e3
      obtain ⟨kc,DA,fg⟩:=ol
      obtain ⟨uc,Rn,O2⟩:=Rm
      obtain ⟨hr,m2,H2,v2,bf,rC,F2,q1,q2,q3,q4,q5,q6⟩:=rB h h1
      obtain ⟨_,e2,e3,e4⟩:=At.inj ⟨dw⟩ q1
      subst e2;subst e3
      have e4:=eq_of_heq e4
      subst e4
      rw[h3] at q2
      injection q2 with q2
      injection q2 with TQ TR Rp Rq
      subst Rp;subst Rq
      have cH:=q3
      obtain ⟨f1,f2,b,es,clock,b1,b2,b3,b4⟩:=tU q3
      have b4:=b4 cz
      simp only at g2
      subst b1
      rw[bp (.map t2 t3) _ rfl] at g2
      obtain ⟨xl,rH,r1,r2⟩:=EN (P:=P) cI fg O2 b2 b3
      generalize tS:({ w with heap:=w.heap.setIfInBounds b (.map xl rH) }:World)=w2 at r1
      have bH:Ext w w2 (bk b 0 1):=by grind [EM]
      have vm:∀ b i,F r b i<=1:=λb i=>by have:=h.ge b i;grind [a_]
      have dD:(execOp a.eval o).run P w=.ok .skip w2:=by
       simp[execOp,ho,g2,DA,Rn,r1]
      refine A8 dD hd ?_
      have hA:∀ b' i,A b' i->∀ u,ce w b' i=some u->ce w2 b' i=some u:=λb' i ha u hu=>by
       refine bH.cell b' i (h.dC b' i (.inr ha)) ?_ u hu
       rcases Nat.eq_zero_or_pos (bk b 0 1 b' i) with h0 | h0
       ·exact h0
       ·have:b'=b/\i=0:=by
         grind [bk]
        obtain ⟨rfl,rfl⟩:=this
        exact absurd ha (h.gI b' 0 (by grind [a_]))
      have qW:ce w2 b 0=some (r_ (entriesOf xl)):=by
       grind [FW]
      have uQ:af P w2 A (.map t2 t3) m' [] (gr t2 v' ix uv) [.map (some b)] F2:=by
       simp only[af,hole,List.any_nil,Bool.false_eq_true,if_false,cz,if_true]
       refine ⟨f1,f2,b,entriesOf xl,rfl,qW,b4,r2.1,λi q hq=>?_⟩
       obtain ⟨Rr,Rs,j1,j2,j3⟩:=r2.2 i q hq
       exact ⟨Rr,Rs,j1,Ro.mono hA (λ_ _ h=>h) t2 j2,Ro.mono hA (λ_ _ h=>h) t3 j3⟩
      have zo:∀ b' i,bk b 0 1 b' i<=F2 b' i:=λb' i=>by
       grind [bk]
      have qU:∀ b' o',aY=some (b',o')->Has w2 b' o' [.map (some b)]:=λb' o' ea j u hu=>by
       have Rt:=(q5 b' o' ea).1 j u hu
       have hj:=(List.getElem?_eq_some_iff.1 hu).1
       have Ru:j=0:=by simpa using hj
       subst Ru
       have h2:=q4 b' (o'+0);have h4:=zo b' (o'+0);have h5:=vm b' (o'+0);have h7:=a_ F hr b' (o'+0)
       have h6:dL aY (Ty.map t2 t3).sz b' (o'+0)=1:=by
        grind [dL,bk,Ty.sz]
       exact bH.cell _ _ (h.dC b' (o'+0) (.inl (by grind))) (by omega) u Rt
      obtain ⟨A3,qv,Fr,n1,n2,n3,n4,n5⟩:=q6 w2 A [.map (some b)] F2 (λ_ _=>0) (bH.mono λb' i hz=>by
        grind) (λ_ _ h=>h) (λ_ _ h=>.inl h) (λb i=>by omega) qU (λ_=>rfl) uQ
      refine ⟨_,n1,A3,_,n5 mg (nK (h.ei r)) (tH (h.ei r)) rfl λp' snap hb ap hlen=>?_⟩
      have h5:=vS (h.ei r) hb ap
      refine ⟨bm p'+1,False,by omega,λ_=>.inl (by omega),λ_=>by omega,?_⟩
      intro q pl hq hp
      grind [aC]
     ·cases h1
    ·cases h1
   ·cases hk
  ·cases hk
 ·cases hk
theorem CO (h:bn P C A σ a w F) (dZ:∀ i T,E.TI i=some T->aq P T (.inl i)=true) {t:Nat} {y:Operand} (ho:o.op=.call { callee:=.builtin .len,args:=#[y],argTypes:=#[t] }) (ap:bh P y=true) {K:St->Option R}
  (hk:yj E σ t (bi σ y) (λn=>K (σ.aH o.dst (.val (.int .i64) (n:Int))))=some x):o.wp P a w (Nx P C K x) Q:=by
 unfold yj at hk
 obtain ⟨T,hT,hk⟩:=bM hk
 have cI:=dZ _ _ hT
 split at hk
 ·rename_i k v
  rcases bE h ap with hs | ⟨xs,e⟩
  rotate_left
  ·grind
  split at hk
  ·rename_i r p snap hv
   rw[hv] at hs
   split at hk
   ·rename_i fW
    obtain ⟨hr,t',m',H',v',aJ,aY,F',h1,dw,h3,h4,h5,h6⟩:=d7 h hk
    split at h1
    ·rename_i hH
     have hH:=List.isEmpty_iff.1 hH
     subst hH
     obtain ⟨e1,h1⟩:=aV h1
     subst e1
     obtain ⟨pl,g1,g2,g3⟩:=hs.2 fW
     rw[h3] at g1
     injection g1 with g1
     subst g1
     obtain ⟨f1,f2,b,es,clock,q1,q2,q3,q4⟩:=tU h4
     simp only at g2
     subst q1
     rw[bp (.map k v) _ rfl] at g2
     obtain ⟨ki,vi,hu,_,_,_⟩:=yE cI
     have hlen:es.size=List.length v':=by have:=q3.1;simpa using this
     have dD:(execOp a.eval o).run P w=.ok (.value (.int .i64 ((List.length v':Nat):Int))) w:=by
      rw[pS ho]
      simp[Builtin.len_,g2,run_underlying hu,MapKept.run_getObj_map q2,goInt,hlen]
     exact fI dD (aP h h1 ⟨[.int .i64 _],rfl,rfl⟩ (λ_ _ _ _ e=>by cases e))
    ·cases h1
   ·cases hk
  ·cases hk
 ·cases hk
end
end OT
set_option linter.unusedVariables false
set_option linter.unusedSimpArgs false
namespace OT
open Go
structure jx (P:Program) (E:Env):Prop where
 ti:∀ i T,E.TI i=some T->aq P T (.inl i)=true
 eq:JS P E
 fn:∀ f g,E.G f=some g->Sound P f g/\l5 P f g.cap
def EO (P:Program) (t:TypeId):Bool:=match P.underlying t with
 | some (.slice _)=>true
 | some .string=>true
 | _=>false
theorem xm {P:Program} {t:TypeId} (h:EO P t=true):(∃ e',P.underlying t=some (.slice e'))\/P.underlying t=some .string:=by
 grind [EO]
def Bt (P:Program) (c:Call):Bool:=match c.callee with
 | .builtin .append | .builtin .copy=>match c.argTypes.toList with
  | [_,tx]=>EO P tx
  | _=>false
 | _=>true
def iB (P:Program):Op->Bool
 | .move x | .assign x | .nilCheck x | .box _ x | .load _ x | .unOp _ _ x | .convert _ _ x | .fieldAddr _ x _ | .field _ x _=>bh P x
 | .pick c a b=>bh P c&&bh P a&&bh P b
 | .mapUpdate _ m k v=>bh P m&&bh P k&&bh P v
 | .lookup _ a x _ | .store _ a x | .binOp _ _ a x _ | .indexAddr _ a x | .index _ a x | .makeSlice _ a x=>bh P a&&bh P x
 | .build _ ps | .buildSlice _ _ ps=>ps.toList.all λp=>bh P p.2
 | .slice _ x lo hi _=>bh P x&&lo.all (bh P)&&hi.all (bh P)
 | .makeFunc (.func f) _ cs=>(P.funcs[f]?).any λfn=>fn.nfree == cs.size
 | .call c=>c.args.toList.all (bh P)&&Bt P c
 | _=>true
section
variable {P:Program} {C:Ctx} {A:Cells} {X:FP} {σ:St} {a:Act} {w:World} {F:Nat->FP} {R:Type} {x:R} {Q:Exit->Act->World->Prop} {o:Oper} {E:Env}
theorem ou {α:Type} {l:Array α} {m:List α} (h:l.toList=m):l=m.toArray:=by grind
def lC (E:Env):Op->Bool
 | .move _ | .assign _ | .pick .. | .build .. | .load .. | .nilCheck _ | .binOp .. | .unOp .. | .fieldAddr .. | .field .. | .indexAddr .. | .index .. | .slice .. | .extract .. | .makeFunc ..=>true
 | .convert _ t _=>match E.TI t with
  | some T=>T.flat
  | none=>false
 | .call c=>match c.callee with
  | .builtin .len=>match c.argTypes.toList with
   | [t]=>!FS (E.TI t)
   | _=>false
  | _=>false
 | _=>false
theorem Al (hE:jx P E) (h:bn P C A σ a w F) {bT i:Nat} (bs:iB P o.op=true) (iL:lC E o.op=true) {K:St->Option R} (hk:iG E bT i o σ K=some x):Tk P o a w (Nx P C K x):=by
 unfold iG at hk
 cases ho:o.op with
 | move y=>rw[ho] at hk bs;exact Gj h ho bs hk
 | assign y=>rw[ho] at hk bs;exact CG h ho bs hk
 | pick c y z=>
  grind [iB,Gk]
 | build t ps=>rw[ho] at hk bs;exact EF h hE.ti ho bs hk
 | load t y=>rw[ho] at hk bs;exact Et h hE.ti ho bs hk
 | nilCheck y=>rw[ho] at hk bs;exact z8 h ho bs hk
 | binOp op t y z t2=>
  rw[ho] at hk bs
  simp only[iB,Bool.and_eq_true] at bs
  exact EC h hE.ti hE.eq ho bs hk
 | unOp op t y=>
  rw[ho] at hk bs
  refine Gr h ho bs (K:=K) ?_
  grind
 | convert s t y=>
  rw[ho] at hk bs iL
  refine Be h hE.ti ho bs (λT hT=>?_) hk
  grind [lC]
 | fieldAddr t y j=>rw[ho] at hk bs;exact yw h hE.ti ho bs hk
 | field t y j=>rw[ho] at hk bs;exact Ez h hE.ti ho bs hk
 | indexAddr t y z=>
  rw[ho] at hk bs
  simp only[iB,Bool.and_eq_true] at bs
  exact yx h hE.ti ho bs hk
 | index t y z=>
  rw[ho] at hk bs
  simp only[iB,Bool.and_eq_true] at bs
  exact EA h hE.ti ho bs hk
 | slice t y lo hi mx=>
  rw[ho] at hk bs
  cases mx with
  | none=>
   simp only[iB,Bool.and_eq_true] at bs
   refine EB h hE.ti ho ⟨bs.1.1,λz hz=>?_,λz hz=>?_⟩ hk
   all_goals grind
  | some m=>cases hk
 | extract y j=>
  grind [Bf]
 | makeFunc fn first cs=>
  rw[ho] at hk bs
  cases fn with
  | func f=>exact Ab h ho bs hk
  | _=>cases hk
 | call c=>
  rw[ho] at hk bs iL
  simp only[iB,Bool.and_eq_true] at bs
  obtain ⟨eQ,hc⟩:=bs
  obtain ⟨callee,args,ts⟩:=c
  cases callee with
  | builtin b=>
   cases b with
   | len=>
    simp only at hk
    split at hk
    ·rename_i y t h1 h2
     have e1:=ou h1;have e2:=ou h2
     subst e1;subst e2
     simp only[List.all_cons,Bool.and_eq_true] at eQ
     simp only[lC,Bool.not_eq_true'] at iL
     rw[iL] at hk
     exact In h hE.ti ho eQ.1 hk
    ·cases hk
   | _=>grind [lC]
  | _=>grind [lC]
 | _=>grind [lC]
def quiet (E:Env):Op->Bool
 | .alloc _ | .box .. | .buildSlice .. | .makeSlice .. | .convert .. | .makeMap .. | .lookup ..=>true
 | .call c=>match c.callee with
  | .value (.func f)=>match E.G f with
   | some g=>mK g.ps
   | none=>false
  | _=>false
 | _=>false
theorem GU (hE:jx P E) (h:bn P C A σ a w F) {bT i:Nat} (bs:iB P o.op=true) (iL:lC E o.op=false) {K:St->Option R} (hk:iG E bT i o σ K=some x) :
  o.wp P a w (λa' w'=>Nx P C K x a' w'/\(quiet E o.op=true->Ext w w' (λ_ _=>0))) Q:=by
 have wq:∀ {N:Act->World->Prop},o.wp P a w (λa' w'=>N a' w'/\Ext w w' (λ_ _=>0)) Q->o.wp P a w (λa' w'=>N a' w'/\(quiet E o.op=true->Ext w w' (λ_ _=>0))) Q:=λh=>Oper.wp_mono (λa' w' h=>⟨h.1,λ_=>h.2⟩) h
 have wn:∀ {N:Act->World->Prop},quiet E o.op=false->o.wp P a w N Q->o.wp P a w (λa' w'=>N a' w'/\(quiet E o.op=true->Ext w w' (λ_ _=>0))) Q:=λhq h=>Oper.wp_mono (λa' w' h=>⟨h,λe=>by grind⟩) h
 unfold iG at hk
 cases ho:o.op with
 | alloc t=>rw[ho] at hk;rw[<-ho];exact wq (Gu h hE.ti ho hk)
 | box t y=>rw[ho] at hk bs;rw[<-ho];exact wq (KV h ho bs hk)
 | buildSlice t n ps=>rw[ho] at hk bs;rw[<-ho];exact wq (yB h hE.ti ho bs hk)
 | store t y z=>
  rw[ho] at hk bs
  simp only[iB,Bool.and_eq_true] at bs
  rw[<-ho]
  refine wn (by rw[ho];rfl) ?_
  cases hd:o.dst with
  | none=>rw[hd] at hk;exact Ev h hE.ti ho hd bs hk
  | some d=>grind
 | convert s t y=>rw[ho] at hk bs;rw[<-ho];exact wq (CF h hE.ti ho bs hk)
 | makeMap t rv=>
  rw[ho] at hk
  rw[<-ho]
  cases rv with
  | none=>exact wq (CM h hE.ti ho hk)
  | some _=>cases hk
 | lookup t y z ok=>
  rw[ho] at hk bs
  simp only[iB,Bool.and_eq_true] at bs
  rw[<-ho]
  exact wq (CN h hE.ti ho bs hk)
 | mapUpdate t y z u=>
  rw[ho] at hk bs
  simp only[iB,Bool.and_eq_true] at bs
  rw[<-ho]
  refine wn (by rw[ho];rfl) ?_
  cases hd:o.dst with
  | none=>rw[hd] at hk;exact yF h hE.ti ho hd ⟨bs.1.1,bs.1.2,bs.2⟩ hk
  | some d=>grind
 | makeSlice t y z=>
  rw[ho] at hk bs
  simp only[iB,Bool.and_eq_true] at bs
  rw[<-ho]
  exact wq (z_ h hE.ti ho bs hk)
 | call c=>
  rw[ho] at hk bs iL
  simp only[iB,Bool.and_eq_true] at bs
  obtain ⟨eQ,hc⟩:=bs
  obtain ⟨callee,args,ts⟩:=c
  rw[<-ho]
  cases callee with
  | builtin b=>
   cases b with
   | len=>
    simp only at hk
    split at hk
    ·rename_i y t h1 h2
     have e1:=ou h1;have e2:=ou h2
     subst e1;subst e2
     simp only[List.all_cons,Bool.and_eq_true] at eQ
     simp only[lC,Bool.not_eq_false'] at iL
     rw[iL] at hk
     exact wn (by rw[ho];rfl) (CO h hE.ti ho eQ.1 hk)
    ·cases hk
   | append=>
    simp only at hk
    split at hk
    ·rename_i y z t tV h1 h2
     have e1:=ou h1
     subst e1
     simp only[Bt] at hc
     split at hc
     ·rename_i t0 tx h3
      rw[h3] at h2
      injection h2 with h2 h4
      subst h2
      have e2:=ou h3
      subst e2
      simp only[List.all_cons,Bool.and_eq_true] at eQ
      exact wn (by rw[ho];rfl) (step_append h hE.ti ho ⟨eQ.1,eQ.2.1⟩ (xm hc) hk)
     ·cases hc
    ·cases hk
   | copy=>
    simp only at hk
    split at hk
    ·rename_i y z t tV h1 h2
     have e1:=ou h1
     subst e1
     simp only[Bt] at hc
     split at hc
     ·rename_i t0 tx h3
      rw[h3] at h2
      injection h2 with h2 h4
      subst h2
      have e2:=ou h3
      subst e2
      simp only[List.all_cons,Bool.and_eq_true] at eQ
      exact wn (by rw[ho];rfl) (GD h hE.ti ho ⟨eQ.1,eQ.2.1⟩ (xm hc) hk)
     ·cases hc
    ·cases hk
   | _=>cases hk
  | value y=>
   cases y with
   | func f=>
    simp only at hk
    split at hk
    ·rename_i g hg
     split at hk
     ·rename_i hJ
      obtain ⟨h1,h2⟩:=hE.fn f g hg
      rw[hJ] at h2
      refine Oper.wp_mono (λa' w' h=>⟨h.1,λe=>h.2 ?_⟩) (CJ h ho eQ h1 h2 hk)
      grind [quiet]
     ·cases hk
    ·cases hk
   | tmp i=>
    refine wn (by rw[ho];rfl) ?_
    simp only at hk
    split at hk
    ·rename_i f n iM
     split at hk
     ·rename_i g hg
      obtain ⟨h1,h2⟩:=hE.fn f g hg
      refine Oper.wp_mono (λa' w' h=>h.1) (CK h ho eQ iM h1 h2 (K:=K) (x:=x) ?_)
      grind
     ·cases hk
    ·cases hk
   | _=>cases hk
  | _=>cases hk
 | _=>grind [lC]
theorem K6 (hE:jx P E) (h:bn P C A σ a w F) {bT i:Nat} (bs:iB P o.op=true) {K:St->Option R} (hk:iG E bT i o σ K=some x):o.wp P a w (Nx P C K x) Q:=by
 cases iL:lC E o.op with
 | true=>exact (Al hE h bs iL hk).wp
 | false=>grind [Oper.wp_mono,GU]
end
end OT
set_option linter.unusedVariables false
set_option linter.unusedSimpArgs false
namespace OT
open Go
noncomputable def EP (e:Ty):Operand->Option e.den
 | .const v=>match jJ v with
  | .val t y=>if h:t=e then some (h ▸ y) else none
  | _=>none
 | _=>none
noncomputable def su (e:Ty):List (Nat×Operand)->Nat->Option (List e.den)
 | [],_=>some []
 | (j,x)::ps,n=>if Nat.beq j n then (match EP e x,su e ps (n+1) with
  | some y,some ys=>some (y::ys)
  | _,_=>none) else none
noncomputable def ov (E:Env):Op->Option Slot
 | .alloc t=>match E.TI t with
  | some T=>if T.lu then some (.box T (av T) [] T.zero) else none
  | none=>none
 | .buildSlice t n ps=>match E.TI t with
  | some (.aa e)=>if Nat.beq n ps.size&&e.lu&&Nat.ble (n*e.sz) 16777216&&(Nat.beq n 0||decide (ah e=av e)) then (su e ps.toList 0).map λvs=>.own (.aa e) (.aa true (av e)) [] vs else none
  | _=>none
 | _=>none
section
variable {P:Program} {C:Ctx} {A:Cells} {X:FP} {σ:St} {a:Act} {w:World} {F:Nat->FP} {R:Type} {x:R} {Q:Exit->Act->World->Prop} {o:Oper} {E:Env}
theorem zq {e:Ty} {y:Operand} {v:e.den} (h:EP e y=some v):∃ c,y=.const c/\jJ c=.val e v:=by
 unfold EP at h
 split at h
 ·rename_i c
  split at h
  ·rename_i t y he
   split at h
   ·rename_i Rv
    subst Rv
    injection h with h
    exact ⟨c,rfl,by rw[he,<- h]⟩
   ·cases h
  ·cases h
 ·cases h
theorem zr {e:Ty} {j n:Nat} {y:Operand} {ps:List (Nat×Operand)} {vs:List e.den} (h:su e ((j,y)::ps) n=some vs):j=n/\∃ v ys,EP e y=some v/\su e ps (n+1)=some ys/\vs=v::ys:=by
 simp only[su] at h
 split at h
 ·rename_i hj
  split at h
  ·rename_i v ys h1 h2
   injection h with h
   exact ⟨Nat.eq_of_beq_eq_true hj,v,ys,h1,h2,h.symm⟩
  ·cases h
 ·cases h
theorem Bu {e:Ty} {fz:Nat->Bool} {m:Md} {K:Md->List e.den->St->Option R}:∀ (ps:List (Nat×Operand)) {n:Nat} {vs acc:List e.den},(ps=[]\/ah e=m)->su e ps n=some vs->tt σ e fz ps n m acc K=K m (acc++vs) σ
 | [],n,vs,acc,_,h=>by
  injection h with h
  rw[<-h,List.append_nil]
  rfl
 | (j,y)::ps,n,vs,acc,hm,h=>by
  obtain ⟨hj,v,ys,h1,h2,rfl⟩:=zr h
  obtain ⟨c,rfl,hc⟩:=zq h1
  have hm:ah e=m:=hm.resolve_left (by simp)
  have:=Bu (fz:=fz) (m:=m) (K:=K) (acc:=acc++[v]) ps (.inr hm) h2
  simp only[tt]
  rw[hj,Nat.beq_refl,if_pos rfl]
  show ew σ (jJ c) _ e _=_
  rw[hc]
  simp only[ew,cS,dite_true]
  rw[if_pos hm,this,List.append_assoc]
  rfl
theorem DG (h:Rel P C A X σ a w F) {e:Ty}:∀ (ps:List (Nat×Operand)) {n:Nat} {L Z:List Value} {vs:List e.den},L.length=n*e.sz->Z.length=ps.length*e.sz->su e ps n=some vs ->
  ∃ L':List Value,vs.length=ps.length/\L'.length=ps.length*e.sz/\(∀ (i:Nat) (y:e.den),vs[i]?=some y->Ro P w A e y ((L'.drop (i*e.sz)).take e.sz))/\Instr.fill (λi=>some (i*e.sz,e.sz)) (L++Z).toArray (ps.map λp=>(p.1,a.eval p.2))=some (L++L').toArray
 | [],n,L,Z,vs,hL,hZ,hc=>by
  injection hc with hc
  subst hc
  have:Z=[]:=by simpa using hZ
  subst this
  exact ⟨[],rfl,by simp,λi y hy=>(by cases hy),by simp[Instr.fill]⟩
 | (j,y)::ps,n,L,Z,vs,hL,hZ,hc=>by
  obtain ⟨hj,v,ys,h1,h2,rfl⟩:=zr hc
  subst hj
  obtain ⟨c,rfl,fj⟩:=zq h1
  have hs:=bE (P:=P) h (o:=.const c) rfl
  have ho:bi σ (.const c)=.val e v:=fj
  rw[ho] at hs
  rcases hs with ⟨cs,k1,k2⟩ | ⟨xs,e'⟩
  rotate_left
  ·cases e'
  have nt:=Ro.length _ k2
  have GB:Z.length=e.sz+ps.length*e.sz:=by rw[hZ,List.length_cons,Nat.succ_mul,Nat.add_comm]
  obtain ⟨L',g1,g2,g3,g4⟩:=DG h ps (n:=j+1) (L:=L++cs) (Z:=Z.drop e.sz) (by rw[List.length_append,hL,nt,Nat.succ_mul]) (by rw[List.length_drop,GB];omega) h2
  refine ⟨cs++L',by simp[g1],by rw[List.length_append,nt,g2,List.length_cons,Nat.succ_mul,Nat.add_comm],λi z hz=>?_,?_⟩
  ·cases i with
   | zero=>
    injection hz with hz
    subst hz
    rw[Nat.zero_mul,List.drop_zero,List.take_append_of_le_length (Nat.le_of_eq nt.symm),List.take_of_length_le (Nat.le_of_eq nt)]
    exact k2
   | succ i=>
    have hz:ys[i]?=some z:=by simpa using hz
    rw[Nat.succ_mul,Nat.add_comm,<- nt,List.drop_length_add_append,nt]
    exact g3 i z hz
  ·rw[List.map_cons,k1,qx (pl:=λi=>some (i*e.sz,e.sz)) rfl nt (dB nt (Ro.one _ k2)) (by simp[hL,GB])]
   have e1:(L++Z).take (j*e.sz)=L:=by rw[<-hL,List.take_left]
   have e2:(L++Z).drop (j*e.sz+e.sz)=Z.drop e.sz:=by rw[<-hL,List.drop_length_add_append]
   rw[e1,e2,g4,List.append_assoc]
theorem Ix {s:Slot} (hs:ov E o.op=some s) {bT i:Nat} {K:St->Option R}:iG E bT i o σ K=K (σ.aH o.dst s):=by
 unfold ov at hs
 split at hs
 ·grind [iG,gF]
 ·rename_i t n ps ho
  unfold iG
  simp only[ho]
  split at hs
  ·rename_i e hT
   simp only[gF,hT]
   split at hs
   ·rename_i hc
    simp only[Bool.and_eq_true,Bool.or_eq_true,decide_eq_true_eq] at hc
    obtain ⟨⟨⟨h1,h2⟩,h3⟩,h4⟩:=hc
    rw[h1,h2,h3]
    obtain ⟨vs,hv,hs⟩:=Option.map_eq_some_iff.1 hs
    have:=Bu (σ:=σ) (fz:=Eb E.fz bT i) (m:=av e) (K:=λm v σ=>K (σ.aH o.dst (.own (.aa e) (.aa true m) [] v))) (acc:=[]) ps.toList (h4.imp (λh=>by
     have h0:=Nat.eq_of_beq_eq_true h
     have h5:=Nat.eq_of_beq_eq_true h1
     exact List.eq_nil_of_length_eq_zero (by rw[Array.length_toList];omega)) id) hv
    simp only[Bool.and_self,if_true]
    rw[this,<- hs]
    rfl
   ·cases hs
  ·cases hs
 ·cases hs
theorem GV {N:Act->World->Prop} (hh:o.wp P a w N Q):o.wp P a w (λa' w'=>(∀ d,o.dst≠some d->tmp a' d=tmp a d)/\N a' w') Q:=by
 have key:∀ (a0:Act) v,a0.tmps=a.tmps->∀ d,o.dst≠some d->tmp (a0.put o.dst v) d=tmp a d:=λa0 v h0 d hd=>by
  unfold tmp Act.put
  cases ho:o.dst <;> simp_all
 unfold Oper.wp at *
 generalize (execOp a.eval o).run P w=r at *
 simp_all [Oper.upon]
theorem zs {d:Nat} (h:ym σ d=true):d < σ.n/\σ.get d=.dead/\(∀ k,(d,k,false) ∉ σ.aA)/\∀ r p snap,(d,r,p,snap) ∉ σ.gh:=by
 unfold ym at h
 simp only[Bool.and_eq_true,Bool.not_eq_true',Nat.blt_eq] at h
 obtain ⟨⟨⟨h1,h2⟩,h3⟩,h4⟩:=h
 refine ⟨h1,?_,λk hm=>?_,λr p snap hm=>?_⟩
 ·grind
 ·revert h3 hm
  generalize σ.aA=l
  induction l with
  | nil=>grind
  | cons e l ih=>
   obtain ⟨k1,n1,b1⟩:=e
   simp_all [rU]
 ·rw[List.any_eq_false] at h4
  exact h4 _ hm (by simp)
theorem Rel.tmp (h:Rel P C A X σ a w F) {d:Nat} (hp:ym σ d=true) (v:Value):Rel P C A X σ (a.put (some d) v) w F:=by
 obtain ⟨hd,hg,hl,JI⟩:=zs hp
 have fk:=h.size
 have ht:∀ i,i≠d->OT.tmp (a.put (some d) v) i=OT.tmp a i:=λi hi=>by
  grind [fH]
 have de:∀ r p,place σ (a.put (some d) v) w r p=place σ a w r p:=λr p=>by
  unfold place
  by_cases hr:r=d
  ·subst hr;rw[hg];rfl
  ·rw[ht r hr]
 have ff:nx σ a w σ (a.put (some d) v) w:=λr p snap hb=>⟨hb,λap=>⟨ap,λ_ pl hp=>⟨pl.H,pl.cs,by simp_all,λ_=>rfl⟩⟩⟩
 refine { h with size:=by simp[Act.put,fk],defers:=by simpa [Act.put] using h.defers,cj:=λi hi=>?_,gh:=λd' r p snap hm=>?_,fN:=λj k hm=>?_,whole:=λr t m H v' hr hk=>?_,e9:=λj k hm R hR=>?_ }
 ·by_cases eA:i=d
  ·subst eA;rw[hg];trivial
  ·rw[ht i eA]
   exact aW.eM ff (λ_ _ h=>h) (λ_ _ _ _ h=>h) (λ_ _ h=>h) (λ_ _ _=>⟨λ_ h=>h,rfl⟩) (h.cj i hi)
 ·rw[ht d' (λe=>by grind)]
  exact iz.eM ff (h.gh d' r p snap hm)
 ·rw[ht j (λe=>by grind)]
  exact h.fN j k hm
 ·rw[ht r (λe=>by grind)]
  exact h.whole r t m H v' hr hk
 ·have:j≠d:=λe=>by subst e;rw[hg] at hR;cases hR
  rw[ht j this] at hR
  exact h.e9 j k hm R hR
def PS (P:Program) (A:Cells) (w:World) (tv:Value):Slot->FP->Prop
 | .own t m H v,F=>∃ cs,tv=aZ t cs/\af P w A t m H v cs F
 | .box t m H v,F=>∃ b L F1,tv=.pointer (some ⟨b,0,none⟩)/\L.length=t.sz/\Has w b 0 L/\(∀ j,j < t.sz->w.frozen? ⟨b,j,none⟩=false) /\
   (∀ x i,bk b 0 t.sz x i+F1 x i<=F x i)/\af P w A t m H v L F1/\cr w b (t.sz,false)
 | _,_=>False
theorem PS.slot {tv:Value} {s:Slot} {G:FP} (h:PS P A w tv s G):aW P A σ a w tv s G:=by
 cases s with
 | own t m H v=>exact h
 | box t m H v=>
  obtain ⟨b,L,F1,h1,h2,h3,h4,h5,h6,h7⟩:=h
  exact ⟨b,0,L,F1,h1,h2,h3,λj hj=>by grind,h5,h6⟩
 | _=>exact h.elim
theorem PS.whole {tv:Value} {s:Slot} {G:FP} (h:PS P A w tv s G):∀ t m H v',s=.box t m H v'->∃ b,tv=.pointer (some ⟨b,0,none⟩)/\cr w b (t.sz,false):=by
 rintro t m H v rfl
 obtain ⟨b,L,F1,h1,h2,h3,h4,h5,h6,h7⟩:=h
 grind
theorem PS.eM {A':Cells} {w':World} {tv:Value} {s:Slot} {G:FP} (hA:∀ b i,A b i->A' b i) (hc:∀ b i,A b i->∀ u,ce w b i=some u->ce w' b i=some u) (hb:∀ b n,cr w b n->cr w' b n)
  (hF:∀ b i,1<=G b i->(∀ u,ce w b i=some u->ce w' b i=some u)/\w'.frozen? ⟨b,i,none⟩=w.frozen? ⟨b,i,none⟩) (h:PS P A w tv s G):PS P A' w' tv s G:=by
 cases s with
 | own t m H v=>obtain ⟨cs,h1,h2⟩:=h;exact ⟨cs,h1,af.mono hA hc hb t h2 (λ_ _=>Nat.le_refl _) (λb i hp=>(hF b i hp).1)⟩
 | box t m H v=>
  obtain ⟨b,L,F1,h1,h2,h3,h4,h5,h6,h7⟩:=h
  have hr:∀ j,j < t.sz->1<=G b j:=λj hj=>by
   grind [bk]
  exact ⟨b,L,F1,h1,h2,λj u hu=>(hF _ _ (by grind)).1 u (h3 j u hu),λj hj=>by grind,h5,
   af.mono hA hc hb t h6 (λ_ _=>Nat.le_refl _) (λb i hp=>(hF b i (by grind)).1),hb _ _ h7⟩
 | _=>exact h.elim
def PF (P:Program) (E:Env) (ops:Array Oper) (A:Cells) (a:Act) (w:World):List Nat->FP->Prop
 | [],_=>True
 | j::D,X=>∃ (o:Oper) (d:Nat) (s:Slot) (Fj X':FP),ops[j]?=some o/\o.dst=some d/\ov E o.op=some s/\PS P A w (tmp a d) s Fj/\(∀ b i,X' b i+Fj b i<=X b i)/\PF P E ops A a w D X'
theorem PF.eM {ops:Array Oper} {A':Cells} {a':Act} {w':World} (hA:∀ b i,A b i->A' b i) (hc:∀ b i,A b i->∀ u,ce w b i=some u->ce w' b i=some u) (hb:∀ b n,cr w b n->cr w' b n) :
  ∀ (D:List Nat) {X:FP},(∀ j ∈ D,∀ o d,ops[j]?=some o->o.dst=some d->tmp a' d=tmp a d)->(∀ b i,1<=X b i->(∀ u,ce w b i=some u->ce w' b i=some u)/\w'.frozen? ⟨b,i,none⟩=w.frozen? ⟨b,i,none⟩) ->
   PF P E ops A a w D X->PF P E ops A' a' w' D X
 | [],_,_,_,_=>trivial
 | j::D,X,ht,hF,h=>by
  obtain ⟨o,d,s,Fj,X',h1,h2,h3,h4,h5,h6⟩:=h
  exact ⟨o,d,s,Fj,X',h1,h2,h3,by
   rw[ht j (by simp) o d h1 h2]
   exact PS.eM hA hc hb (λb i hp=>hF b i (by have:=h5 b i;omega)) h4,h5,PF.eM hA hc hb D (λk hk=>ht k (by simp[hk])) (λb i hp=>hF b i (by have:=h5 b i;omega)) h6⟩
theorem PF.grow {ops:Array Oper}:∀ (D:List Nat) {X X1:FP},(∀ b i,X b i<=X1 b i)->PF P E ops A a w D X->PF P E ops A a w D X1
 | [],_,_,_,_=>trivial
 | j::D,X,X1,hx,h=>by
  obtain ⟨o,d,s,Fj,X',h1,h2,h3,h4,h5,h6⟩:=h
  exact ⟨o,d,s,Fj,X',h1,h2,h3,h4,λb i=>Nat.le_trans (h5 b i) (hx b i),h6⟩
theorem PF.take {ops:Array Oper} {j:Nat}:∀ (D:List Nat) {X:FP},j ∈ D->PF P E ops A a w D X ->
  ∃ (o:Oper) (d:Nat) (s:Slot) (Fj X':FP),ops[j]?=some o/\o.dst=some d/\ov E o.op=some s/\PS P A w (tmp a d) s Fj/\(∀ b i,X' b i+Fj b i<=X b i)/\PF P E ops A a w (D.erase j) X'
 | [],_,hj,_=>by cases hj
 | k::D,X,hj,h=>by
  by_cases qA:k=j
  ·subst qA
   rw[List.erase_cons_head]
   exact h
  ·have pI:j ∈ D:=by
    rcases List.mem_cons.1 hj with e | e
    ·exact absurd e.symm qA
    ·exact e
   obtain ⟨o,d,s,Fk,X1,h1,h2,h3,h4,h5,h6⟩:=h
   obtain ⟨o',d',s',Fj,X2,g1,g2,g3,g4,g5,g6⟩:=PF.take D pI h6
   rw[List.erase_cons_tail (by simpa using qA)]
   exact ⟨o',d',s',Fj,λb i=>X2 b i+Fk b i,g1,g2,g3,g4,λb i=>by have:=g5 b i;have:=h5 b i;show X2 b i+Fk b i+Fj b i<=X b i;omega,o,d,s,Fk,X2,h1,h2,h3,h4,λb i=>Nat.le_refl _,g6⟩
theorem Iy (h:Rel P C A X σ a w F) (dZ:∀ i T,E.TI i=some T->aq P T (.inl i)=true) {s:Slot} (hs:ov E o.op=some s) {d:Nat} (hp:ym σ d=true) :
  ∃ (v:Value) (w':World) (Fj:FP),(execOp a.eval o).run P w=.ok (.value v) w'/\Ext w w' (λ_ _=>0)/\Rel P C A (λb i=>X b i+Fj b i) σ (a.put (some d) v) w' F/\PS P A w' v s Fj:=by
 unfold ov at hs
 split at hs
 ·rename_i t ho
  split at hs
  ·rename_i T hT
   split at hs
   ·rename_i vn
    injection hs with hs
    subst hs
    have cI:=dZ _ _ hT
    obtain ⟨L,hL⟩:=jQ T vn
    obtain ⟨z,Bd,Gw⟩:=oM (P:=P) (w:=w) cI hL
    obtain ⟨r1,r2,r3⟩:=o3 (P:=P) (w:=w) (A:=A) T hL cI
    have hc:z.cells=L.toArray:=by grind
    have h1:=h.alloc L.toArray t (0,0)
    have cz:=qw w L.toArray t (0,0) false (.inr (Nat.le_refl _))
    have O3:L.length=T.sz:=af.length T r1
    simp only[List.size_toArray,O3] at cz h1
    have oQ:=af.alloc h r1 (λb i hp=>by simp at hp) (fJ w (.cells L.toArray t))
    refine ⟨.pointer (some ⟨w.heap.size,0,none⟩),w.alloc (.cells L.toArray t),bk w.heap.size 0 T.sz,?_,fJ w _,h1.tmp hp _,w.heap.size,L,(λ_ _=>0),rfl,O3,oh w L.toArray t (0,0) (λj u hu=>by simpa using hu) (af.one _ r1),λj hj=>cz.frozen hj,λ_ _=>Nat.le_refl _,oQ,cz⟩
    simp_all [execOp,Instr.alloc,newVar,newRow]
   ·cases hs
  ·cases hs
 ·rename_i t n ps ho
  split at hs
  ·rename_i e hT
   split at hs
   ·rename_i hc
    obtain ⟨vs,hv,hs⟩:=Option.map_eq_some_iff.1 hs
    subst hs
    simp only[Bool.and_eq_true,Bool.or_eq_true,decide_eq_true_eq,Nat.beq_eq,Nat.ble_eq] at hc
    obtain ⟨⟨⟨hn,hz⟩,hJ⟩,h4⟩:=hc
    have hl:=dZ _ _ hT
    simp only[aq,Bool.and_eq_true] at hl
    have h2:=hl.2
    split at h2
    ·rename_i el hu
     simp only[Bool.and_eq_true,Nat.ble_eq] at h2
     obtain ⟨fk,jE⟩:=h2
     obtain ⟨Lz,GC⟩:=jQ e hz
     obtain ⟨r1,r2,r3⟩:=o3 (P:=P) (w:=w) (A:=A) _ GC jE
     obtain ⟨inf,i1,i2,i3,i4⟩:=dM (ej jE)
     obtain ⟨z,z1,z2⟩:=i4 Lz GC
     have Q6:z.cells.size=e.sz:=by grind
     have mG:ps.toList.length=n:=by simpa using hn.symm
     obtain ⟨L',g1,g2,g3,g4⟩:=DG h ps.toList (n:=0) (L:=[]) (Z:=((Array.range (n*e.sz)).map (z.cells[· % z.cells.size]!)).toList) (by simp) (by simp[hn]) hv
     simp only[List.nil_append,Array.toArray_toList] at g4
     rw[mG] at g1 g2
     have dD:(execOp a.eval o).run P w=.ok (.value (.slice (some ⟨w.heap.size,0,none⟩) n n)) (w.alloc (.cells L'.toArray el)):=by
      by_cases td:n*e.sz=0
      ·have:n=0:=by rcases Nat.mul_eq_zero.1 td with h | h <;> omega
       subst this
       have mF:ps=#[]:=by grind
       subst mF
       have Dm:L'=[]:=by simpa using g2
       subst Dm
       simp[execOp,ho,Instr.buildSlice,run_underlying hu,Go.sizeOf,typeInfo,i1,Instr.fill,newRow,show Array.range 0=#[] from rfl]
      simp_all [run_buildSlice,execOp]
     have tK:=h.alloc L'.toArray el (0,0)
     have cz:=qw w L'.toArray el (0,0) (vO e) (.inr (Nat.le_refl _))
     have Rw:L'.toArray.size=n*e.sz:=by simpa using g2
     rw[Rw] at cz tK
     have yG:n<=maxLen:=by simp only[maxLen];have:=Nat.le_mul_of_pos_right n fk;omega
     refine ⟨_,_,λb i=>bk w.heap.size 0 (n*e.sz) b i+ao n (λ_ _ _=>0) b i,dD,fJ w _,?_,?_⟩
     ·refine (tK.less (λb i=>?_)).tmp hp _
      simp[eH]
     ·refine ⟨_,(bp (.aa e) _ rfl).symm,?_⟩
      simp only[af,hole,List.any_nil,Bool.false_eq_true,if_false,Md.own,if_true,Md.e]
      refine ⟨_,n,by rw[g1],by rw[g1];exact Nat.le_refl _,yG,(λe=>by cases e),λad di=>?_⟩
      injection di with di;subst di
      refine ⟨rfl,rfl,cz,λ_ _ _=>0,λb i=>by rw[g1];exact Nat.le_refl _,λi y hy=>?_⟩
      have hi:=(List.getElem?_eq_some_iff.1 hy).1
      have kL:=g3 i y hy
      have hm:ah e=av e:=h4.resolve_left (by omega)
      refine ⟨_,Ro.length _ kL,oh w L'.toArray el (0,0) (λj u hu=>?_) (Ro.one _ kL),?_⟩
      ·grind
      ·simp only[List.filterMap_nil]
       exact af.alloc h (Ro.rep e (λ_ _=>0) (by rw[<-hm];exact bQ _) kL) (λb k hp=>by simp at hp) (fJ w _)
    ·cases h2
   ·cases hs
  ·cases hs
 ·cases hs
theorem Rel.K7 (h:Rel P C A X σ a w F):∃ C':Ctx,C'.w0=w/\C'.A0=A/\(∀ b i,A b i->C'.F0 b i=0)/\Rel P C' A X σ a w F/\(∀ {A2:Cells} {X2:FP} {ez:St} {a2:Act} {w2:World} {F2:Nat->FP},Rel P C' A2 X2 ez a2 w2 F2->Rel P C A2 X2 ez a2 w2 F2):=by
 refine ⟨⟨w,A,λb i=>X b i+ao σ.n F b i,C.args⟩,rfl,rfl,λb i ha=>?_,?_,λ{A2 X2 ez a2 w2 F2} h2=>?_⟩
 ·show X b i+ao σ.n F b i=0
  rcases Nat.eq_zero_or_pos (X b i+ao σ.n F b i) with h0 | h0
  ·exact h0
  ·exact absurd ha (h.gI b i h0)
 ·exact { h with ext:=Ext.refl _ _,own:=λb i hp=>.inl hp,a0:=λ_ _ h=>h,J:=λ_ _ h=>.inl h,fN:=h.fN,e9:=h.e9,mw:=h.sg λb i hp=>hp }
 ·have fk:C.w0.heap.size<=w.heap.size:=h.ext.size
  refine { h2 with ext:=h.ext.trans h2.ext (λb i hb hz=>?_),own:=λb i hp=>?_,a0:=λb i ha=>h2.a0 b i (h.a0 b i ha),J:=λb i ha=>?_,fN:=h2.fN,e9:=h2.e9,mw:=h.mw }
  ·show X b i+ao σ.n F b i=0
   rcases Nat.eq_zero_or_pos (X b i+ao σ.n F b i) with h0 | h0
   ·exact h0
   ·rcases h.own b i h0 with h1 | h1 <;> omega
  ·rcases h2.own b i hp with h1 | h1
   ·exact h.own b i h1
   grind
  ·rcases h2.J b i ha with h1 | h1 | h1
   ·exact h.J b i h1
   ·exact .inr (h.own b i h1)
   grind
theorem Rel.frame (h:Rel P C A X σ a w F):∃ C1:Ctx,bn P C1 A σ a w F/\∀ {A2:Cells} {ez:St} {a2:Act} {w2:World} {F2:Nat->FP},bn P C1 A2 ez a2 w2 F2->Rel P C A2 X ez a2 w2 F2 /\
  (∀ b i,A b i->A2 b i)/\(∀ b i,A b i->∀ u,ce w b i=some u->ce w2 b i=some u)/\(∀ b n,cr w b n->cr w2 b n)/\(∀ b i,1<=X b i->(∀ u,ce w b i=some u->ce w2 b i=some u)/\w2.frozen? ⟨b,i,none⟩=w.frozen? ⟨b,i,none⟩):=by
 have Rx:∀ b i,1<=X b i->ao σ.n F b i=0:=λb i hp=>by have:=h.ge b i;omega
 have Mm:∀ b i,1<=X b i->b < w.heap.size:=λb i hp=>h.dC b i (.inl (by omega))
 refine ⟨⟨w,A,ao σ.n F,C.args⟩,?_,λ{A2 ez a2 w2 F2} h2=>⟨?_,h2.a0,λb i ha u hu=>?_,h2.ext.lW,λb i hp=>⟨λu hu=>h2.ext.cell b i (Mm b i hp) (Rx b i hp) u hu,h2.ext.oK b i (Mm b i hp)⟩⟩⟩
 ·exact { h with
   ge:=λb i=>by have:=h.ge b i;grind
   gI:=λb i hp=>h.gI b i (by grind)
   dC:=λb i hp=>h.dC b i (hp.imp (λhp=>by grind) id)
   ext:=Ext.refl _ _
   own:=λb i hp=>.inl (by grind)
   a0:=λ_ _ h=>h,J:=λ_ _ h=>.inl h,fN:=h.fN,e9:=h.e9,mw:=h.sg λb i hp=>by grind }
 ·have fk:C.w0.heap.size<=w.heap.size:=h.ext.size
  have mL:∀ b i,1<=X b i->ao ez.n F2 b i=0:=λb i hp=>by
   rcases Nat.eq_zero_or_pos (ao ez.n F2 b i) with h0 | h0
   ·exact h0
   ·rcases h2.own b i (by grind) with h1 | h1
    all_goals grind
  have cz:∀ b i,1<=ao σ.n F b i->1<=C.F0 b i\/C.w0.heap.size<=b:=λb i hp=>h.own b i (by omega)
  refine { h2 with ge:=λb i=>?_,gI:=λb i hp=>?_,dC:=λb i hp=>?_,ext:=h.ext.trans h2.ext (λb i hb hz=>?_),own:=λb i hp=>?_,a0:=λb i ha=>h2.a0 b i (h.a0 b i ha),J:=λb i ha=>?_,fN:=h2.fN,e9:=h2.e9,mw:=h.mw }
  ·have h1:0+ao ez.n F2 b i<=1:=h2.ge b i
   have:=mL b i
   have:=h.ge b i
   omega
  ·by_cases hx:1<=X b i
   ·intro ha
    rcases h2.J b i ha with h1 | h1 | h1
    ·exact h.gI b i (by omega) h1
    all_goals grind
   ·exact h2.gI b i (by grind)
  ·by_cases hx:1<=X b i
   ·exact Nat.lt_of_lt_of_le (Mm b i hx) h2.ext.size
   ·exact h2.dC b i (hp.imp (λhp=>by grind) id)
  ·grind
  ·by_cases hx:1<=X b i
   ·exact h.own b i (by omega)
   ·rcases h2.own b i (by grind) with h1 | h1
    all_goals grind
  ·rcases h2.J b i ha with h1 | h1 | h1
   ·exact h.J b i h1
   all_goals grind
 ·refine h2.ext.cell b i (lJ hu) ?_ u hu
  show ao σ.n F b i=0
  rcases Nat.eq_zero_or_pos (ao σ.n F b i) with h0 | h0
  ·exact h0
  ·exact absurd ha (h.gI b i (by omega))
end
end OT
set_option linter.unusedVariables false
set_option linter.unusedSimpArgs false
namespace OT
open Go
section
variable {P:Program} {C:Ctx} {A:Cells} {X:FP} {σ:St} {a:Act} {w:World} {F:Nat->FP} {R:Type} {x:R} {Q:Exit->Act->World->Prop} {o:Oper} {E:Env}
theorem Rel.congr (h:Rel P C A X σ a w F) {σ':St} (hn:σ'.n=σ.n) (hg:∀ i,σ'.get i=σ.get i) (hv:∀ i,σ'.dJ i=σ.dJ i) (hl:∀ e,e ∈ σ'.aA↔e ∈ σ.aA) (JI:∀ e,e ∈ σ'.gh->e ∈ σ.gh):Rel P C A X σ' a w F:=by
 have ff:nx σ a w σ' a w:=λr p snap hb=>⟨by rw[hv];exact hb,λap=>by
  unfold St.ok at ap ⊢
  rw[hv] at ap
  exact ⟨ap,λ_ pl de=>⟨pl.H,pl.cs,by unfold place at de ⊢;rw[hg];exact de,λ_=>rfl⟩⟩⟩
 refine ⟨by rw[hn];exact h.size,h.defers,λi hi=>?_,λd r p snap hm=>iz.eM ff (h.gh d r p snap (JI _ hm)),λb i=>by rw[hn];exact h.ge b i,λb i hp=>by rw[hn] at hp;exact h.gI b i hp,λb i hp=>by rw[hn] at hp;exact h.dC b i hp,
  λi=>by rw[hv];exact h.ei i,h.ext,λb i hp=>by rw[hn] at hp;exact h.own b i hp,h.a0,h.J,λj k hm=>h.fN j k ((hl _).1 hm),λr t m H v hr hk=>?_,λj k hm R hR=>?_,h.mw⟩
 ·rw[hg]
  exact aW.eM ff (λ_ _ h=>h) (λ_ _ _ _ h=>h) (λ_ _ h=>h) (λ_ _ _=>⟨λ_ h=>h,rfl⟩) (h.cj i (by rw[<-hn];exact hi))
 ·rw[hg] at hr
  exact h.whole r t m H v hr λk hm=>hk k ((hl _).2 hm)
 ·rw[hg] at hR
  exact h.e9 j k ((hl _).1 hm) R hR
theorem Rel.same (h:Rel P C A X σ a w F) {t:Nat} {s:Slot} (hs:σ.get t=s):Rel P C A X (σ.y8 t s) a w F:=
 h.congr rfl (λi=>by
  rw[uP]
  split
  ·rename_i hc;rw[<-hs,hc.1]
  ·rfl) (λi=>rfl) (λe=>Iff.rfl) (λe he=>he)
theorem Bv (h:Rel P C A X σ a w F) {ops:Array Oper} {o:Oper} {K:Bool->St->Option R} (hk:tu ops.toList σ o.guard K=some x):∃ (b:Bool) (σ':St),K b σ'=some x/\Rel P C A X σ' a w F/\Region.wanted o (yielded ops a.tmps)=b:=by
 unfold tu at hk
 split at hk
 ·rename_i hg;exact ⟨true,σ,hk,h,by simp[Region.wanted,hg]⟩
 ·rename_i j want hg
  split at hk
  ·cases hk
  ·rename_i t ht
   rw[Array.getElem?_toList] at ht
   have hy:∀ v,tmp a t=v->t < σ.n->yielded ops a.tmps j=match v with | .bool b=>some b | _=>none:=λv hv rD=>by
    have aE:t < a.tmps.size:=by rw[h.size];exact rD
    unfold yielded
    rw[ht]
    have:a.tmps[t]?=some v:=by rw[Array.getElem?_eq_getElem aE,<- hv];simp[tmp,aE]
    simp only[Option.bind_some,this]
    cases v <;> rfl
   have aE:∀ s,σ.get t=s->s≠.dead->t < σ.n:=λs hs ci=>by
    rcases Nat.lt_or_ge t σ.n with hi | hi
    ·exact hi
    ·rw[ep (Nat.not_lt.2 hi)] at hs;exact absurd hs.symm ci
   split at hk
   ·rename_i b Bw
    have rD:=aE _ Bw (by intro e;cases e)
    have hs:=h.cj t rD
    rw[Bw] at hs
    have hv:=Ba hs
    have DH:=hy _ hv rD
    simp only at DH
    cases b with
    | true=>exact ⟨_,_,hk,Rel.same h Bw,by simp only[Region.wanted,hg,DH];cases want <;> rfl⟩
    | false=>exact ⟨_,_,hk,Rel.same h Bw,by simp only[Region.wanted,hg,DH];cases want <;> rfl⟩
   ·rename_i Bw
    have rD:=aE _ Bw (by intro e;cases e)
    have hs:=h.cj t rD
    rw[Bw] at hs
    obtain ⟨vs,Fi,h1,_⟩:=hs
    have DH:=hy _ h1 rD
    simp only at DH
    exact ⟨false,σ,hk,h,by simp only[Region.wanted,hg,DH];cases want <;> rfl⟩
   ·cases hk
theorem yH (h:Rel P C A X σ a w F) (o:Oper):∃ F',Rel P C A X (σ.aH o.dst (.iK [])) (a.put o.dst undef) w F':=
 h.aH o.dst (s:=.iK []) (v:=undef) (Fd:=λ_ _=>0) (X':=X) ⟨#[],λ_ _ _=>0,rfl,λb i=>by simp[ao],λj y hy=>by cases hy⟩ (λb i=>Nat.le_refl _) (λ_ _ _ _ e=>by cases e)
theorem Mn (hE:jx P E) {bT:Nat} {ops:Array Oper} (bs:∀ o ∈ ops.toList,iB P o.op=true) {K:St->Option R} (hQ:∀ a w,Nx P C K x a w->Q .normal a w) :
  ∀ (rest:List Oper) (i:Nat) {σ:St} {A:Cells} {a:Act} {w:World} {F:Nat->FP},ops.toList.drop i=rest->bn P C A σ a w F->yk E bT ops.toList rest i σ K=some x->wpOps P ops Q (List.range' i rest.length) a w:=by
 intro rest
 induction rest with
 | nil=>intro i σ A a w F hd h hk;exact hQ a w ⟨σ,hk,A,F,h⟩
 | cons o rest ih=>
  intro i σ A a w F hd h hk
  have hi:ops[i]?=some o:=by
   have:(ops.toList.drop i)[0]?=some o:=by rw[hd];rfl
   rw[List.getElem?_drop] at this
   simpa using this
  have jB:ops.toList.drop (i+1)=rest:=by rw[<-List.drop_drop,hd];rfl
  have tW:o ∈ ops.toList:=List.mem_of_getElem? (i:=i) (by simpa using hi)
  simp only[yk] at hk
  obtain ⟨b,fT,hk,h1,hw⟩:=Bv h hk
  show wpOps P ops Q (i::List.range' (i+1) rest.length) a w
  simp only[wpOps,hi,hw]
  cases b with
  | true=>
   simp only[if_true]
   refine .inl (Oper.wp_mono (λa' w' hn=>?_) (K6 hE h1 (bs o tW) hk))
   obtain ⟨ez,fg,A2,F2,h2⟩:=hn
   exact ih (i+1) jB h2 fg
  | false=>
   simp only[Bool.false_eq_true,if_false]
   obtain ⟨F2,h2⟩:=yH h1 o
   exact ih (i+1) jB h2 hk
theorem GW (hE:jx P E) {bT id:Nat} {ops:Array Oper} (bs:∀ o ∈ ops.toList,iB P o.op=true) (h:bn P C A σ a w F) {K:St->Option R} (hk:yk E bT ops.toList ops.toList 0 σ K=some x) (hQ:∀ a w,Nx P C K x a w->Q .normal a w) :
  (Code.region id ops false).wp P Q a w:=by
 refine wp_region ?_
 have:=Mn hE bs hQ ops.toList 0 (by simp) h hk
 simpa [List.range_eq_range'] using this
def kP (P:Program) (md:Region.Mode) (ops:Array Oper) (Q:Exit->Act->World->Prop) (S:Array Bool->World->Prop):Nat->Array Bool->Act->World->Prop
 | 0,dV,a,w=>Region.ready md ops dV=[]/\Q .normal a w
 | fuel+1,dV,a,w=>
  (Region.ready md ops dV=[]->Q .normal a w) /\
  ∀ i ∈ Region.ready md ops dV,wpOp P ops Q i (λa' w'=>S (dV.setIfInBounds i true) w'/\kP P md ops Q S fuel (dV.setIfInBounds i true) a' w') a w
theorem xn {md:Region.Mode} {ops:Array Oper} {S:Array Bool->World->Prop}:∀ (fuel:Nat) (dV:Array Bool) (a:Act) (w:World),kP P md ops Q S fuel dV a w->wpAny P md ops Q fuel dV a w
 | 0,_,_,_,h=>h
 | fuel+1,_,_,_,h=>⟨h.1,λi hi=>wpOp_mono (λa' w' h'=>xn fuel _ a' w' h'.2) (h.2 i hi)⟩
def rI (md:Region.Mode) (ops:Array Oper) (l:Array Bool):Prop:=∀ j o,ops[j]?=some o->l.getD j false=true->∀ e ∈ o.after,Region.binds md e=true->l.getD e.on false=true
theorem sv {md:Region.Mode} {ops:Array Oper} {l:Array Bool} (h:rI md ops l) {j:Nat} (hj:j ∈ Region.ready md ops l):rI md ops (l.setIfInBounds j true):=by
 obtain ⟨_,oj,xo,iR⟩:=mem_ready.1 hj
 intro k o hk hl e he hb
 by_cases qA:j=k
 ·subst qA
  rw[xo] at hk
  injection hk with hk
  subst hk
  exact getD_set_true (iR e he hb)
 ·rw[getD_set_ne false qA] at hl
  exact getD_set_true (h k o hk hl e he hb)
def SU (md:Region.Mode) (ops:Array Oper) (S:Array Bool->World->Prop) (i:Nat):World->Prop:=λw'=>∃ l,rI md ops l/\l.getD i true=false/\S l w'
theorem mM {md:Region.Mode} {ops:Array Oper} {S:Array Bool->World->Prop} {i:Nat} {oi:Oper} {v:Value} (hi:ops[i]?=some oi) (sw:∀ (j:Nat) (o:Oper) cs b,ops[j]?=some o->o.op≠.select cs b)
  (hQ:∀ c a w,Q (.panic c) (a.put oi.dst v) w->Q (.panic c) a w) (hS:∀ l w,S (l.setIfInBounds i true) w↔S l w) :
  ∀ (fuel:Nat) (dV:Array Bool) (a:Act) (w:World),
   (∀ j oj,ops[j]?=some oj->j≠i->dV.getD j true=false->(∀ e ∈ oj.after,Region.binds md e=true->e.on≠i)->oi.apart ops oj=true) ->
   i ∈ Region.ready md ops dV->rI md ops dV->YieldsIf P ops (SU md ops S i) oi v a->S dV w ->
   kP P md ops Q S fuel (dV.setIfInBounds i true) (a.put oi.dst v) w->kP P md ops Q S (fuel+1) dV a w:=by
 intro fuel
 induction fuel with
 | zero=>
  intro dV a w _ hr hc hy hs H
  have jF:dV.getD i true=false:=(mem_ready.1 hr).1
  refine ⟨λh=>(by rw[h] at hr;cases hr),λj hj=>?_⟩
  by_cases fG:j=i
  ·subst fG;exact hy.wpOp hi ⟨dV,hc,jF,hs⟩ ⟨(hS _ _).2 hs,H⟩
  ·have:=ready_mono hj fG
   rw[H.1] at this
   cases this
 | succ fuel ih=>
  intro dV a w Am hr hc hy hs H
  have jF:dV.getD i true=false:=(mem_ready.1 hr).1
  refine ⟨λh=>(by rw[h] at hr;cases hr),λj hj=>?_⟩
  by_cases fG:j=i
  ·subst fG;exact hy.wpOp hi ⟨dV,hc,jF,hs⟩ ⟨(hS _ _).2 hs,H⟩
  ·have h1:=H.2 j (ready_mono hj fG)
   obtain ⟨Mo,oj,xo,iR⟩:=mem_ready.1 hj
   have P4:∀ e ∈ oj.after,Region.binds md e=true->e.on≠i:=λe he hb heq=>by
    have h1:=iR e he hb
    have h0:=(mem_ready.1 hr).1
    rw[heq] at h1
    rcases Nat.lt_or_ge i dV.size with h' | h'
    ·simp[h'] at h0 h1;rw[h0] at h1;cases h1
    ·simp[Array.getElem?_eq_none h'] at h1
   have h2:=wpOp_putIf xo (Am j oj xo fG Mo P4) (λcs b=>sw i oi cs b hi) (λcs b=>sw j oj cs b xo) hQ hy h1
   have Mp:∀ k ok,ops[k]?=some ok->k≠i->(dV.setIfInBounds j true).getD k true=false ->
     (∀ e ∈ ok.after,Region.binds md e=true->e.on≠i)->oi.apart ops ok=true:=λk ok hk Ry jF jt=>by
    refine Am k ok hk Ry ?_ jt
    by_cases Mq:j=k
    ·subst Mq;exact Mo
    ·rw[getD_set_ne true Mq] at jF;exact jF
   refine wpOp_mono (λa' w' h3=>?_) h2
   have h4:=h3.2.1
   have h5:=h3.2.2
   rw[Array.setIfInBounds_comm _ _ (Ne.symm fG)] at h4 h5
   have h6:=(hS _ _).1 h4
   exact ⟨h6,ih (dV.setIfInBounds j true) a' w' Mp (ready_mono hr (Ne.symm fG)) (sv hc hj) h3.1 h6 h5⟩
def zt (ops:Array Oper):Nat->Nat->Nat->Bool
 | 0,_,_=>false
 | n+1,d,i=>match ops[d]? with
  | some o=>o.after.toList.any λe=>Region.binds .any e&&(Nat.beq e.on i||zt ops n e.on i)
  | none=>false
theorem lh {ops:Array Oper} {l:Array Bool} (h:rI .any ops l):∀ (n d i:Nat),zt ops n d i=true->l.getD d false=true->l.getD i false=true
 | 0,_,_,ha,_=>by cases ha
 | n+1,d,i,ha,hd=>by
  simp only[zt] at ha
  split at ha
  ·rename_i o ho
   obtain ⟨e,he,hb⟩:=List.any_eq_true.1 ha
   simp only[Bool.and_eq_true,Bool.or_eq_true,Nat.beq_eq] at hb
   have hl:=h d o ho hd e (by simpa using he) hb.1
   rcases hb.2 with hb | hb
   ·rw[<-hb];exact hl
   ·exact lh h n e.on i hb hl
  ·cases ha
def gV (E:Env) (ops:Array Oper) (d:Nat):Bool:=match ops[d]? with
 | some o=>!lC E o.op&&!quiet E o.op
 | none=>false
def qB (l:Array Bool):List Nat->Array Bool
 | []=>l
 | j::js=>qB (l.setIfInBounds j true) js
def pY (E:Env) (bT:Nat) (ops:Array Oper) (pd:List Nat):List Nat->Array Bool->Bool->Bool
 | [],l,_=>(Region.ready .any ops l).isEmpty
 | i::is,l,f=>match ops[i]? with
  | none=>false
  | some o=>
   match pd.any (Nat.beq i) with
   | true=>!is.any (Nat.beq i)&&(Region.ready .any ops l).contains i&&(Region.ready .any ops (qB l (pd.filter λj=>!Nat.beq i j))).all (λj=>pd.any (Nat.beq j))&&pY E bT ops pd is (l.setIfInBounds i true) f
   | false=>
   match lC E o.op&&(Region.free .any ops l i&&(Region.ready .any ops l).contains i&&(!reads o.op||AM E bT i||Eg E bT i||(f&&(List.range ops.size).all λd=>!gV E ops d||zt ops ops.size d i))) with
   | true=>pY E bT ops pd is (l.setIfInBounds i true) f
   | false=>(Region.ready .any ops l).contains i&&(Region.ready .any ops (qB l pd)).all (Nat.beq i)&&pY E bT ops pd is (l.setIfInBounds i true) false
noncomputable def tX (E:Env) (ops:Array Oper) (pd:List Nat):Bool:=pd.all λj=>match ops[j]? with
 | some o=>(match o.guard with
  | none=>true
  | some _=>false)&&(ov E o.op).isSome&&(match o.dst with
   | some d=>(List.range ops.size).all λk=>Nat.beq k j||(match ops[k]? with
    | some o'=>(match o'.dst with
     | some d'=>!Nat.beq d' d
     | none=>true)
    | none=>true)
   | none=>false)
 | none=>false
def xp:List Nat->Bool
 | []=>true
 | i::is=>!is.any (Nat.beq i)&&xp is
noncomputable def pZ (E:Env) (ops:Array Oper) (pd:List Nat) (er:List (Nat×Nat)):Bool:=er.all λe=>!pd.any (Nat.beq e.1)&&(Nat.ble ops.size e.2||(gV E ops e.2&&!pd.any (Nat.beq e.2)&&zt ops ops.size e.2 e.1))&&(match ops[e.1]? with
 | some o=>(match o.guard with
  | none=>true
  | some _=>false)&&(match o.op,o.dst with
   | .load _ (.tmp x),some d=>!Nat.beq x d&&(List.range ops.size).all λk=>Nat.beq k e.1||(match ops[k]? with
    | some o'=>(match o'.dst with
     | some d'=>!Nat.beq d' d&&(!Nat.beq d' x||zt ops ops.size e.1 k)
     | none=>true)
    | none=>true)
   | _,_=>false)
 | none=>false)
noncomputable def Bx (E:Env) (bT:Nat) (ops:Array Oper) (is:List Nat):Bool:=
 Region.noSelect ops&&Nat.ble is.length ops.size&&(tX E ops (fF E.pd bT)&&(fF E.pd bT).all λj=>is.any (Nat.beq j))&&(xp is&&(List.range ops.size).all (λk=>is.any (Nat.beq k))&&pZ E ops (fF E.pd bT) (wK E.er bT))&&pY E bT ops (fF E.pd bT) is (Array.replicate ops.size false) (match fF E.pd bT with
  | []=>true
  | _::_=>false)
theorem J3 {K:St->Option R}:∀ (is:List Nat) {σ:St} {A:Cells} {F:Nat->FP},bn P C A σ a w F->Dh σ is K=some x->∃ (A':Cells) (σ':St) (F':Nat->FP),K σ'=some x/\bn P C A' σ' a w F':=by
 intro is
 induction is with
 | nil=>intro σ A F h hk;exact ⟨A,σ,F,hk,h⟩
 | cons i is ih=>
  intro σ A F h hk
  simp only[Dh] at hk
  split at hk
  ·rename_i t m H v hg
   split at hk
   ·rename_i hc
    simp only[Bool.and_eq_true,List.isEmpty_iff] at hc
    obtain ⟨hH,tQ⟩:=hc
    subst hH
    obtain ⟨A1,F1,_,h1,_,_⟩:=GF h hg
    exact ih h1 hk
   ·cases hk
  ·cases hk
theorem Rel.Mr (h:bn P C A σ a w F):∃ C':Ctx,C'.w0=w/\C'.A0=A/\(∀ b i,A b i->C'.F0 b i=0)/\bn P C' A σ a w F/\(∀ {A2:Cells} {ez:St} {a2:Act} {w2:World} {F2:Nat->FP},bn P C' A2 ez a2 w2 F2->bn P C A2 ez a2 w2 F2):=by
 have cz:∀ b i,1<=ao σ.n F b i->1<=C.F0 b i\/C.w0.heap.size<=b:=λb i hp=>h.own b i (by show 1<=0+_;omega)
 refine ⟨⟨w,A,ao σ.n F,C.args⟩,rfl,rfl,λb i ha=>?_,?_,λ{A2 ez a2 w2 F2} h2=>?_⟩
 ·rcases Nat.eq_zero_or_pos (ao σ.n F b i) with h0 | h0
  ·exact h0
  ·exact absurd ha (h.gI b i (by show 1<=0+_;omega))
 ·exact { h with ext:=Ext.refl _ _,own:=λb i hp=>.inl (by have hp:1<=0+ao σ.n F b i:=hp;show 1<=ao σ.n F b i;omega),a0:=λ_ _ h=>h,J:=λ_ _ h=>.inl h,fN:=h.fN,e9:=h.e9,mw:=h.sg λb i hp=>by have hp:1<=ao σ.n F b i:=hp;show 1<=0+_;omega }
 ·have fk:C.w0.heap.size<=w.heap.size:=h.ext.size
  refine { h2 with ext:=h.ext.trans h2.ext (λb i hb hz=>?_),own:=λb i hp=>?_,a0:=λb i ha=>h2.a0 b i (h.a0 b i ha),J:=λb i ha=>?_,fN:=h2.fN,e9:=h2.e9,mw:=h.mw }
  ·show ao σ.n F b i=0
   rcases Nat.eq_zero_or_pos (ao σ.n F b i) with h0 | h0
   ·exact h0
   ·rcases cz b i h0 with h1 | h1 <;> omega
  ·rcases h2.own b i hp with h1 | h1
   ·exact cz b i h1
   ·exact .inr (Nat.le_trans fk h1)
  ·rcases h2.J b i ha with h1 | h1 | h1
   ·exact h.J b i h1
   ·exact .inr (cz b i h1)
   ·exact .inr (.inr (Nat.le_trans fk h1))
theorem K8 (h:bn P C A σ a w F) (hE:jx P E) {bT i:Nat} (bs:iB P o.op=true) (iL:lC E o.op=true) (xd:AL σ o=true) {K:St->Option R} (hk:iG E bT i o σ K=some x) :
  ∃ v,(∀ w',(∀ b i,A b i->∀ u,ce w b i=some u->ce w' b i=some u)->(execOp a.eval o).run P w'=.ok (.value v) w')/\Nx P C K x (a.put o.dst v) w:=by
 unfold AL at xd
 split at xd
 ·rename_i t y ho
  split at xd
  ·rename_i t' v hv
   unfold iG at hk
   simp only[ho,wH] at hk
   cases hf:Eb E.fz bT i 8 with
   | true=>rw[hf] at hk;simp only[hv] at hk;cases hk
   | false=>
   rw[hf] at hk
   simp only[hv,rV] at hk
   obtain ⟨T,hT,hk⟩:=bM hk
   have cI:=hE.ti _ _ hT
   split at hk
   ·rename_i e;subst e
    rw[ho] at bs
    rcases bE h bs with hs | ⟨xs,e⟩
    rotate_left
    ·rw[e] at hv;cases hv
    rw[hv] at hs
    obtain ⟨⟨b,off,sp⟩,h1,h2,L,h3,h4,h5⟩:=hs
    simp only[List.cons.injEq,and_true] at h1
    simp only at h2;subst h2
    refine ⟨aZ t' L,λw' ju=>?_,aP h hk ⟨L,rfl,h5⟩ (λ_ _ _ _ e=>by cases e)⟩
    simp[execOp,ho,h1,Instr.loadAt,Instr.sureAddr,nN cI (λj u hu=>ju _ _ (h4 j u hu).2 u (h4 j u hu).1) h3 (Ro.one _ h5)]
   ·cases hk
  ·cases xd
 ·rename_i s t y ho
  unfold iG at hk
  simp only[ho] at hk
  rw[ho] at bs
  refine w_ h hE.ti ho bs (λT hT=>?_) xd hk
  rw[ho] at iL
  simp only[lC,hT] at iL
  exact iL
 ·cases xd
def qZ (ops:Array Oper) (l:Array Bool) (u:Nat):Prop:=ops.size<=u\/l.getD u false=false
def SD (E:Env) (ops:Array Oper) (w0:World) (C:Ctx) (RC:List (Nat×Nat×Nat×Nat×List Value)):Array Bool->World->Prop:=λl w'=>((∀ d,gV E ops d=true->l.getD d false=false)->Ext w0 w' (λ_ _=>0))/\(∀ b i,C.A0 b i->∀ u,ce C.w0 b i=some u->ce w' b i=some u)/\∀ e ∈ RC,qZ ops l e.2.1->Has w' e.2.2.1 e.2.2.2.1 e.2.2.2.2
theorem K9 {next:Act->World->Prop} (h:Tk P o a w next):o.wp P a w (λa' w'=>w=w'/\next a' w') Q:=by
 obtain ⟨v,h1,h2⟩:=h
 exact fI (h1 w λ_=>Ext.refl _ _) ⟨rfl,h2⟩
theorem q9 {md:Region.Mode} {ops:Array Oper} {S S':Array Bool->World->Prop} (hS:∀ l w,S l w->S' l w):∀ (fuel:Nat) (dV:Array Bool) (a:Act) (w:World),kP P md ops Q S fuel dV a w->kP P md ops Q S' fuel dV a w
 | 0,_,_,_,h=>h
 | fuel+1,_,_,_,h=>⟨h.1,λi hi=>wpOp_mono (λa' w' h'=>⟨hS _ _ h'.1,q9 hS fuel _ a' w' h'.2⟩) (h.2 i hi)⟩
theorem By (a:Act) (d:Nat):a.put (some d) (tmp a d)=a:=by
 have:a.tmps.setIfInBounds d (tmp a d)=a.tmps:=by
  unfold tmp
  apply Array.ext
  ·simp
  ·intro i h1 h2
   rw[Array.getElem_setIfInBounds]
   split
   ·rename_i e;subst e;simp[h2]
   ·rfl
 show { a with tmps:=a.tmps.setIfInBounds d (tmp a d) }=a
 rw[this]
theorem N4 {ops:Array Oper} {K:St->Option R}:∀ (js:List Nat) {σ:St} {F:Nat->FP},bn P C A σ a w F->FT ops.toList σ js K=some x->∃ (σ':St) (F':Nat->FP),K σ'=some x/\bn P C A σ' a w F':=by
 intro js
 induction js with
 | nil=>intro σ F h hk;exact ⟨σ,F,hk,h⟩
 | cons j js ih=>
  intro σ F h hk
  simp only[FT] at hk
  split at hk
  ·rename_i d hd
   obtain ⟨F1,h1⟩:=h.aH (some d) (s:=.dead) (v:=tmp a d) (Fd:=λ_ _=>0) (X':=λ_ _=>0) trivial (λb i=>Nat.le_refl _) (λ_ _ _ _ e=>by cases e)
   rw[By] at h1
   exact ih h1 hk
  ·cases hk
theorem sx:∀ (js:List Nat) (l:Array Bool) (k:Nat) (b:Bool),(qB l js).getD k b=if k ∈ js/\k < l.size then true else l.getD k b
 | [],l,k,b=>by simp[qB]
 | j::js,l,k,b=>by
  rw[qB,sx js]
  simp only[Array.size_setIfInBounds]
  by_cases h1:k ∈ js/\k < l.size
  ·rw[if_pos h1,if_pos ⟨by simp[h1.1],h1.2⟩]
  ·rw[if_neg h1]
   by_cases qA:j=k
   ·subst qA
    by_cases aE:j < l.size
    ·rw[if_pos ⟨by simp,aE⟩];simp[aE]
    ·rw[if_neg (λh=>aE h.2)];simp[aE]
   ·rw[getD_set_ne b qA,if_neg]
    rintro ⟨h2,h3⟩
    rcases List.mem_cons.1 h2 with e | e
    ·exact qA e.symm
    ·exact h1 ⟨e,h3⟩
theorem gW {l:List Nat} {i:Nat}:l.any (Nat.beq i)=true↔i ∈ l:=by
 rw[List.any_eq_true]
 constructor
 ·rintro ⟨y,h1,h2⟩;rw[Nat.eq_of_beq_eq_true h2];exact h1
 ·intro h;exact ⟨i,h,Nat.beq_refl i⟩
theorem q_ {ops:Array Oper} {pd:List Nat} (h:tX E ops pd=true) {j:Nat} (hj:j ∈ pd):∃ o d s,ops[j]?=some o/\o.guard=none/\o.dst=some d/\ov E o.op=some s/\∀ k o',ops[k]?=some o'->k≠j->o'.dst≠some d:=by
 unfold tX at h
 have h:=List.all_eq_true.1 h j hj
 split at h
 ·rename_i o ho
  simp only[Bool.and_eq_true] at h
  obtain ⟨⟨h1,h2⟩,h3⟩:=h
  split at h3
  ·rename_i d hd
   obtain ⟨s,hs⟩:=Option.isSome_iff_exists.1 h2
   refine ⟨o,d,s,ho,?_,hd,hs,λk o' hk qA e=>?_⟩
   ·split at h1
    ·assumption
    ·cases h1
   ·have:=List.all_eq_true.1 h3 k (List.mem_range.2 (Array.getElem?_eq_some_iff.1 hk).1)
    rw[hk] at this
    simp only[e,Bool.or_eq_true] at this
    rcases this with h4 | h4
    ·exact qA (Nat.eq_of_beq_eq_true h4)
    ·simp at h4
  ·cases h3
 ·cases h
def RE (ops:Array Oper) (er:List (Nat×Nat)) (L:Array Bool) (a:Act) (w:World) (e:Nat×Nat×Nat×Nat×List Value):Prop:=(e.1,e.2.1) ∈ er/\L.getD e.1 false=true /\
 ∃ o t x d,ops[e.1]?=some o/\o.op=.load t (.tmp x)/\o.dst=some d/\tmp a x=.pointer (some ⟨e.2.2.1,e.2.2.2.1,none⟩)/\(tmp a d).cells.toList=e.2.2.2.2/\(qZ ops L e.2.1->Has w e.2.2.1 e.2.2.2.1 e.2.2.2.2)
theorem vt:∀ {is:List Nat},xp is=true->is.Nodup
 | [],_=>List.nodup_nil
 | i::is,h=>by
  simp only[xp,Bool.and_eq_true,Bool.not_eq_true'] at h
  refine List.nodup_cons.2 ⟨λhm=>?_,vt h.2⟩
  have:=h.1
  rw[gW.2 hm] at this
  cases this
theorem lH {E:Env} {ops:Array Oper} {pd:List Nat} {er:List (Nat×Nat)} (h:pZ E ops pd er=true) {j u:Nat} (hj:(j,u) ∈ er):j ∉ pd/\(ops.size<=u\/(gV E ops u=true/\u ∉ pd/\zt ops ops.size u j=true))/\∃ o t x d,ops[j]?=some o/\o.guard=none/\o.op=.load t (.tmp x)/\o.dst=some d/\x≠d /\
  ∀ k o',ops[k]?=some o'->k≠j->o'.dst≠some d/\(o'.dst=some x->zt ops ops.size j k=true):=by
 unfold pZ at h
 have h1:=List.all_eq_true.1 h _ hj
 simp only[Bool.and_eq_true,Bool.or_eq_true,Bool.not_eq_true',Nat.ble_eq] at h1
 obtain ⟨⟨h0,hu⟩,h1⟩:=h1
 refine ⟨λhm=>?_,hu.imp id λq=>⟨q.1.1,λhm=>?_,q.2⟩,?_⟩
 ·rw[gW.2 hm] at h0
  cases h0
 ·have q2:=q.1.2
  rw[gW.2 hm] at q2
  cases q2
 split at h1
 ·rename_i o ho
  simp only[Bool.and_eq_true] at h1
  obtain ⟨h2,h3⟩:=h1
  split at h3
  ·rename_i t x d Gx hd
   simp only[Bool.and_eq_true,Bool.not_eq_true',List.all_eq_true,List.mem_range] at h3
   obtain ⟨h4,h5⟩:=h3
   refine ⟨o,t,x,d,ho,?_,Gx,hd,(λe=>by subst e;rw[Nat.beq_refl] at h4;cases h4),λk o' hk qA=>?_⟩
   ·cases hg:o.guard with
    | none=>rfl
    | some g=>rw[hg] at h2;cases h2
   ·have h6:=h5 k (Array.getElem?_eq_some_iff.1 hk).1
    rw[hk] at h6
    simp only[Bool.or_eq_true] at h6
    rcases h6 with h6 | h6
    ·exact absurd (Nat.eq_of_beq_eq_true h6) qA
    ·cases jB:o'.dst with
     | none=>exact ⟨(λe=>by cases e),λe=>by cases e⟩
     | some d'=>
      rw[jB] at h6
      simp only[Bool.and_eq_true,Bool.or_eq_true,Bool.not_eq_true'] at h6
      refine ⟨λe=>?_,λe=>?_⟩
      ·injection e with e;subst e;rw[Nat.beq_refl] at h6;cases h6.1
      ·injection e with e;subst e
       rcases h6.2 with h7 | h7
       ·rw[Nat.beq_refl] at h7;cases h7
       ·exact h7
  ·cases h3
 ·cases h1
theorem nB:∀ {p q:Path},mn p q=true->p=q
 | [],[],_=>rfl
 | .fst::p,.fst::q,h=>by simp only[mn] at h;rw[nB h]
 | .snd::p,.snd::q,h=>by simp only[mn] at h;rw[nB h]
 | .idx i::p,.idx j::q,h=>by simp only[mn,Bool.and_eq_true] at h;rw[Nat.eq_of_beq_eq_true h.1,nB h.2]
 | .hO i::p,.hO j::q,h=>by simp only[mn,Bool.and_eq_true] at h;rw[Nat.eq_of_beq_eq_true h.1,nB h.2]
theorem GX (h:Rel P C A X σ a w F) {o:Oper} (ap:Ih σ o=true) {t x d:Nat} (ho:o.op=.load t (.tmp x)) (hd:o.dst=some d) {b off:Nat} (hx:tmp a x=.pointer (some ⟨b,off,none⟩)):Has w b off (tmp a d).cells.toList/\d < a.tmps.size:=by
 unfold Ih at ap
 rw[ho,hd] at ap
 simp only at ap
 have lt:∀ {i:Nat},σ.get i≠.dead->i < σ.n:=λ{i} hi=>by
  rcases Nat.lt_or_ge i σ.n with h1 | h1
  ·exact h1
  ·exact absurd (ep (Nat.not_lt.2 h1)) hi
 split at ap
 ·rename_i r p s DI
  split at ap
  ·rename_i r' p' s' qC
   simp only[Bool.and_eq_true] at ap
   obtain ⟨⟨h1,h2,h3⟩,h4⟩:=ap
   have e1:=Nat.eq_of_beq_eq_true h1
   have e2:=nB h4
   subst e1;subst e2
   have Bz:=h.cj x (lt (by rw[DI];intro e;cases e))
   rw[DI] at Bz
   obtain ⟨pl,b',o',g1,g2,g3,_⟩:=Bz.2 h2
   rw[hx] at g3
   simp only[Value.pointer.injEq,Option.some.injEq,Addr.mk.injEq,and_true] at g3
   obtain ⟨rfl,rfl⟩:=g3
   have zu:=h.cj d (lt (by rw[qC];intro e;cases e))
   rw[qC] at zu
   obtain ⟨za,k1,k2,_⟩:=zu.2 h3
   rw[g1] at k1
   injection k1 with k1
   subst k1
   have hr:=jO g1
   have de:=g1
   unfold place at de
   cases hR:bl w (tmp a r) (σ.get r) with
   | none=>rw[hR] at de;cases de
   | some R=>
    rw[hR] at de
    simp only[Option.bind_some] at de
    obtain ⟨m,v,F1,q1,_,q2,_⟩:=my (h.cj r hr) hR
    obtain ⟨z1,m',v',F',z2⟩:=Dk p R.t q1 (λb o e=>(q2 b o e).1) de
    rw[k2,dB (af.length _ z2) (af.one _ z2)]
    exact ⟨z1 _ _ g2,by rw[h.size];exact lt (by rw[qC];intro e;cases e)⟩
  ·rename_i v qC
   simp only[Bool.and_eq_true] at ap
   obtain ⟨h2,hi⟩:=ap
   unfold JB at hi
   split at hi
   rotate_left
   ·cases hi
   rename_i bb dw
   subst hi
   have Bz:=h.cj x (lt (by rw[DI];intro e;cases e))
   rw[DI] at Bz
   obtain ⟨pl,b',o',g1,g2,g3,_⟩:=Bz.2 h2
   rw[hx] at g3
   simp only[Value.pointer.injEq,Option.some.injEq,Addr.mk.injEq,and_true] at g3
   obtain ⟨rfl,rfl⟩:=g3
   have zu:=h.cj d (lt (by rw[qC];intro e;cases e))
   rw[qC] at zu
   obtain ⟨bf,k1,k2⟩:=zu
   obtain ⟨hr,t',m',H',v',aJ,aY,F',i1,i2,i3,i4,i5,i6⟩:=d7 h dw
   rw[i3] at g1
   injection g1 with g1
   subst g1
   simp only at g2
   subst g2
   obtain ⟨e,i1⟩:=aV i1
   subst e
   simp only[Option.some.injEq,decide_eq_true_eq] at i1
   have hh:Has w b off aJ:=by first | exact (i6 b off rfl).1 | exact i6 b off rfl | exact (i5 b off rfl).1 | exact i5 b off rfl
   have c1:aJ=[.int .i64 v]:=by
    have i4:_:=i4
    simp only[af] at i4
    rw[<-i1]
    first | exact i4.1 | exact i4 | exact i4.2 | simp_all
   have c2:bf=[.int .i64 v]:=k2
   rw[k1,c2,dB rfl (λu hu=>by rw[List.mem_singleton] at hu;subst hu;rfl)]
   rw[c1] at hh
   exact ⟨hh,by rw[h.size];exact lt (by rw[qC];intro e;cases e)⟩
  ·cases ap
 ·rename_i tb mb Hb vb DI
  split at ap
  ·rename_i r' p' s' qC
   simp only[Bool.and_eq_true] at ap
   obtain ⟨⟨h1,h3⟩,h4⟩:=ap
   have e1:=Nat.eq_of_beq_eq_true h1
   have e2:=nB h4
   subst e1;subst e2
   have zu:=h.cj d (lt (by rw[qC];intro e;cases e))
   rw[qC] at zu
   obtain ⟨za,k1,k2,_⟩:=zu.2 h3
   have hr:=jO k1
   have de:=k1
   unfold place at de
   cases hR:bl w (tmp a x) (σ.get x) with
   | none=>rw[hR] at de;cases de
   | some R=>
    rw[hR] at de
    simp only[Option.bind_some] at de
    obtain ⟨m,v,F1,q1,_,q2,_⟩:=my (h.cj x hr) hR
    obtain ⟨z1,m',v',F',z2⟩:=Dk [] R.t q1 (λb o e=>(q2 b o e).1) de
    rw[k2,dB (af.length _ z2) (af.one _ z2)]
    have di:za.ad=some (b,off):=by
     rw[DI,hx] at hR
     simp only[bl,Option.some.injEq] at hR
     subst hR
     simp only[aC,Option.some.injEq] at de
     subst de
     rfl
    exact ⟨z1 _ _ di,by rw[h.size];exact lt (by rw[qC];intro e;cases e)⟩
  ·cases ap
 ·cases ap
theorem quiet_of {bT i:Nat} {o:Oper} {K:St->Option R} (hk:iG E bT i o σ K=some x) (hm:uM o.op=false) (ht:lC E o.op=false):quiet E o.op=true:=by
 unfold iG at hk
 cases ho:o.op <;> rw[ho] at hk hm ht <;> first | rfl | (cases hm;done) | (cases ht;done) | (simp only[reduceCtorEq] at hk;done) | skip
theorem BA (h:bn P C A σ a w F) (hE:jx P E) {t x0:Nat} {mv:Bool} (bs:iB P o.op=true) (ho:o.op=.load t (.tmp x0)) {K:St->Option R} (hk:rV E σ t (bi σ (.tmp x0)) mv o.dst K=some x) :
  ∃ b off v cs,tmp a x0=.pointer (some ⟨b,off,none⟩)/\Has w b off cs/\v.cells.toList=cs/\∀ w',Has w' b off cs->(execOp a.eval o).run P w'=.ok (.value v) w':=by
 unfold rV at hk
 obtain ⟨T,hT,hk⟩:=bM hk
 have cI:=hE.ti _ _ hT
 have run:∀ b off L,a.eval (.tmp x0)=.pointer (some ⟨b,off,none⟩)->L.length=T.sz->(∀ u ∈ L,u.oneCell'=true)->∀ w',Has w' b off L->(execOp a.eval o).run P w'=.ok (.value (aZ T L)) w':=λb off L hy hl g_ w' hL=>by
  simp[execOp,ho,hy,Instr.loadAt,Instr.sureAddr,nN cI hL hl g_]
 rw[ho] at bs
 rcases bE h (show bh P (.tmp x0)=true from bs) with hs | ⟨xs,e⟩
 rotate_left
 ·rw[e] at hk;cases hk
 split at hk
 ·rename_i t' v hv
  rw[hv] at hs
  split at hk
  ·rename_i e;subst e
   obtain ⟨⟨b,off,sp⟩,h1,h2,L,h3,h4,h5⟩:=hs
   simp only[List.cons.injEq,and_true] at h1
   simp only at h2;subst h2
   exact ⟨b,off,aZ t' L,L,h1,λj u hu=>(h4 j u hu).1,dB h3 (Ro.one _ h5),run b off L h1 h3 (Ro.one _ h5)⟩
  ·cases hk
 ·rename_i r p snap hv
  rw[hv] at hs
  split at hk
  ·rename_i fW
   obtain ⟨hr,t',m',H',v',aJ,aY,F',h1,h2,h3,h4,h5,h6⟩:=d7 h hk
   obtain ⟨pl,b,off,g1,g2,g3,g4⟩:=hs.2 fW
   rw[h3] at g1
   injection g1 with g1
   subst g1
   simp only at g2
   subst g2
   split at h1
   ·rename_i e;subst e
    have hh:Has w b off aJ:=by first | exact (h6 b off rfl).1 | exact h6 b off rfl | exact (h5 b off rfl).1 | exact h5 b off rfl
    exact ⟨b,off,aZ t' aJ,aJ,g3,hh,dB (af.length _ h4) (af.one _ h4),run b off aJ g3 (af.length _ h4) (af.one _ h4)⟩
   ·cases h1
  ·cases hk
 ·cases hk
theorem K_ (h:bn P C A σ a w F) (hE:jx P E) {bT i t x0:Nat} (bs:iB P o.op=true) (ho:o.op=.load t (.tmp x0)) {K:St->Option R} (hk:iG E bT i o σ K=some x) :
  ∃ b off v cs,tmp a x0=.pointer (some ⟨b,off,none⟩)/\Has w b off cs/\v.cells.toList=cs/\∀ w',Has w' b off cs->(execOp a.eval o).run P w'=.ok (.value v) w':=by
 unfold iG at hk
 simp only[ho,wH] at hk
 split at hk
 ·exact BA h hE bs ho hk
 ·split at hk
  ·split at hk
   ·obtain ⟨A1,fT,F1,_,_,_,_,_,k1,_,k3,_⟩:=og h hk
    exact BA k3 hE bs ho k1
   ·cases hk
  ·cases hk
structure Inv (P:Program) (E:Env) (ops:Array Oper) (pd:List Nat) (w0:World) (C:Ctx) (is:List Nat) (l:Array Bool) (f:Bool) (σ:St) (fuel:Nat) (A:Cells) (a:Act) (w:World) (X:FP) (F:Nat->FP) (D:List Nat) (L:Array Bool) (er:List (Nat×Nat)) (RC:List (Nat×Nat×Nat×Nat×List Value)):Prop where
 h:Rel P C A X σ a w F
 pf:PF P E ops A a w D X
 nd:D.Nodup
 zw:∀ j ∈ D,j ∈ pd
 dl:∀ j ∈ D,l.getD j false=false
 gI:∀ j ∈ D,j ∈ is
 J4:∀ j ∈ pd,l.getD j false=true\/j ∈ is
 vu:(is.filter λk=>decide (k ∉ D)).length<=fuel
 cl:rI .any ops L
 hS:(∀ d,gV E ops d=true->L.getD d false=false)->Ext w0 w (λ_ _=>0)
 hf:f=true->w=w0/\pd=[]
 xq:l.size=ops.size
 p5:L.size=ops.size
 hL:∀ k,L.getD k false=true↔(l.getD k false=true\/k ∈ D)
 GY:is.Nodup
 GZ:∀ k,k < ops.size->l.getD k false=true\/k ∈ is
 io:∀ k ∈ is,l.getD k false=false
 rc:∀ e ∈ RC,RE ops er L a w e
theorem li {l:Array Bool} {k:Nat} (h:k < l.size):l.getD k true=l.getD k false:=by simp[h]
theorem b_ {l:Array Bool} {i k:Nat} (hi:i < l.size):(l.setIfInBounds i true).getD k false=true↔(k=i\/l.getD k false=true):=by
 by_cases hk:i=k
 ·subst hk;simp[hi]
 ·rw[getD_set_ne false hk]
  constructor
  ·exact .inr
  ·rintro (h | h)
   ·exact absurd h.symm hk
   ·exact h
theorem CP {D:List Nat} {j:Nat} (hD:j ∉ D):∀ (is:List Nat),j ∈ is->(is.filter λk=>decide (k ∉ j::D)).length+1<=(is.filter λk=>decide (k ∉ D)).length:=by
 have hle:∀ (is:List Nat),(is.filter λk=>decide (k ∉ j::D)).length<=(is.filter λk=>decide (k ∉ D)).length:=by
  intro is
  induction is with
  | nil=>exact Nat.le_refl _
  | cons i is ih=>
   simp only[List.filter_cons]
   by_cases h1:i ∈ D
   ·have h2:i ∈ j::D:=by simp[h1]
    simp only[h1,h2,not_true_eq_false,decide_false,Bool.false_eq_true,if_false]
    exact ih
   ·by_cases h2:i ∈ j::D
    ·simp only[h1,h2,not_true_eq_false,not_false_eq_true,decide_false,decide_true,Bool.false_eq_true,if_false,if_true,List.length_cons]
     omega
    ·simp only[h1,h2,not_false_eq_true,decide_true,if_true,List.length_cons]
     omega
 intro is
 induction is with
 | nil=>intro h;cases h
 | cons i is ih=>
  intro h
  simp only[List.filter_cons]
  by_cases gG:i=j
  ·subst gG
   have h2:i ∈ i::D:=by simp
   simp only[hD,h2,not_true_eq_false,not_false_eq_true,decide_false,decide_true,Bool.false_eq_true,if_false,if_true,List.length_cons]
   have:=hle is
   omega
  ·have h3:j ∈ is:=by
    rcases List.mem_cons.1 h with e | e
    ·exact absurd e.symm gG
    ·exact e
   have:=ih h3
   by_cases h1:i ∈ D
   ·have h2:i ∈ j::D:=by simp[h1]
    simp only[h1,h2,not_true_eq_false,decide_false,Bool.false_eq_true,if_false]
    exact this
   ·have h2:i ∉ j::D:=by simp[h1,gG]
    simp only[h1,h2,not_false_eq_true,decide_true,if_true,List.length_cons]
    omega
section
variable {ops:Array Oper} {pd:List Nat} {w0:World} {is:List Nat} {l L:Array Bool} {f:Bool} {fuel:Nat} {D:List Nat} {i:Nat} {er:List (Nat×Nat)} {RC:List (Nat×Nat×Nat×Nat×List Value)}
theorem Inv.v9 (v:Inv P E ops pd w0 C is l f σ fuel A a w X F D L er RC) (hi:i ∈ Region.ready .any ops l) (hD:i ∉ D):i ∈ Region.ready .any ops L:=by
 obtain ⟨h0,o,ho,iR⟩:=mem_ready.1 hi
 have aE:i < ops.size:=(Array.getElem?_eq_some_iff.1 ho).1
 refine mem_ready.2 ⟨?_,o,ho,λe he hb=>(v.hL _).2 (.inl (iR e he hb))⟩
 rw[li (by rw[v.p5];exact aE)]
 rw[li (by rw[v.xq];exact aE)] at h0
 cases hh:L.getD i false with
 | false=>rfl
 | true=>
  rcases (v.hL i).1 hh with h1 | h1
  ·rw[h0] at h1;cases h1
  ·exact absurd h1 hD
theorem Inv.tY (v:Inv P E ops pd w0 C is l f σ fuel A a w X F D L er RC) {j:Nat} {S:List Nat} (hS:∀ k ∈ D,k ∈ S) (hj:j ∈ Region.ready .any ops L) (J5:j ∉ S):j ∈ Region.ready .any ops (qB l S):=by
 obtain ⟨h0,o,ho,iR⟩:=mem_ready.1 hj
 have aE:j < ops.size:=(Array.getElem?_eq_some_iff.1 ho).1
 refine mem_ready.2 ⟨?_,o,ho,λe he hb=>?_⟩
 ·rw[sx,if_neg (λh=>J5 h.1),li (by rw[v.xq];exact aE)]
  rw[li (by rw[v.p5];exact aE)] at h0
  cases hh:l.getD j false with
  | false=>rfl
  | true=>rw[(v.hL j).2 (.inl hh)] at h0;cases h0
 ·rw[sx]
  have h1:=iR e he hb
  rcases (v.hL _).1 h1 with h2 | h2
  ·split
   ·rfl
   ·exact h2
  ·have aE:e.on < L.size:=by
    rcases Nat.lt_or_ge e.on L.size with h' | h'
    ·exact h'
    ·simp[Array.getElem?_eq_none h'] at h1
   rw[if_pos ⟨hS _ h2,by rw[v.xq,<- v.p5];exact aE⟩]
theorem Inv.xr (v:Inv P E ops pd w0 C is l f σ fuel A a w X F D L er RC) {j:Nat} (h:L.getD j true=false):j ∉ D/\l.getD j false=false/\l.getD j true=false:=by
 have aE:j < L.size:=by
  rcases Nat.lt_or_ge j L.size with h' | h'
  ·exact h'
  ·simp[Array.getElem?_eq_none h'] at h
 rw[li aE] at h
 have h1:l.getD j false=false:=by
  cases hh:l.getD j false with
  | false=>rfl
  | true=>rw[(v.hL j).2 (.inl hh)] at h;cases h
 have h2:j ∉ D:=λhD=>by
  rw[(v.hL j).2 (.inr hD)] at h
  cases h
 exact ⟨h2,h1,by rw[li (by rw[v.xq,<- v.p5];exact aE)];exact h1⟩
theorem Inv.next (v:Inv P E ops pd w0 C (i::is) l f σ (fuel+1) A a w X F D L er RC) (hD:i ∉ D) (hr:i ∈ Region.ready .any ops L) {C2:Ctx} {f2:Bool} {ez:St} {A2:Cells} {a2:Act} {w2:World} {F2:Nat->FP}
  (h2:Rel P C2 A2 X ez a2 w2 F2) (hp:PF P E ops A2 a2 w2 D X) (Rz:(∀ d,gV E ops d=true->(L.setIfInBounds i true).getD d false=false)->Ext w0 w2 (λ_ _=>0)) (OX:f2=true->w2=w0/\pd=[]) {O4:List (Nat×Nat×Nat×Nat×List Value)} (RA:∀ e ∈ O4,RE ops er (L.setIfInBounds i true) a2 w2 e) :
  Inv P E ops pd w0 C2 is (l.setIfInBounds i true) f2 ez fuel A2 a2 w2 X F2 D (L.setIfInBounds i true) er O4:=by
 obtain ⟨_,o,ho,_⟩:=mem_ready.1 hr
 have aE:i < ops.size:=(Array.getElem?_eq_some_iff.1 ho).1
 have p6:i < l.size:=by rw[v.xq];exact aE
 have p8:i < L.size:=by rw[v.p5];exact aE
 refine ⟨h2,hp,v.nd,v.zw,λj hj=>?_,λj hj=>?_,λj hj=>?_,?_,sv v.cl hr,Rz,OX,by simpa using v.xq,by simpa using v.p5,λk=>?_,(List.nodup_cons.1 v.GY).2,λk hk=>?_,λk hk=>?_,RA⟩
 ·rw[getD_set_ne false (λe=>by subst e;exact hD hj)];exact v.dl j hj
 ·rcases List.mem_cons.1 (v.gI j hj) with e | e
  ·subst e;exact absurd hj hD
  ·exact e
 ·rcases v.J4 j hj with h | h
  ·exact .inl ((b_ p6).2 (.inr h))
  ·rcases List.mem_cons.1 h with e | e
   ·exact .inl ((b_ p6).2 (.inl e))
   ·exact .inr e
 ·have:=v.vu
  simp only[List.filter_cons,hD,not_false_eq_true,decide_true,if_true,List.length_cons] at this
  omega
 ·rw[b_ p8,b_ p6,v.hL]
  exact or_assoc.symm
 ·rcases v.GZ k hk with h | h
  ·exact .inl ((b_ p6).2 (.inr h))
  ·rcases List.mem_cons.1 h with e | e
   ·exact .inl ((b_ p6).2 (.inl e))
   ·exact .inr e
 ·rw[getD_set_ne false (λe=>by subst e;exact (List.nodup_cons.1 v.GY).1 hk)]
  exact v.io k (List.mem_cons_of_mem _ hk)
theorem Inv.EQ (v:Inv P E ops pd w0 C (i::is) l f σ fuel A a w X F D L er RC) (hD:i ∈ D) (th:i ∉ is) {ez:St} {X2:FP} {F2:Nat->FP} (h2:Rel P C A X2 ez a w F2) (hp:PF P E ops A a w (D.erase i) X2) :
  Inv P E ops pd w0 C is (l.setIfInBounds i true) f ez fuel A a w X2 F2 (D.erase i) L er RC:=by
 have p8:i < L.size:=by
  have h1:=(v.hL i).2 (.inr hD)
  rcases Nat.lt_or_ge i L.size with h' | h'
  ·exact h'
  ·simp[Array.getElem?_eq_none h'] at h1
 have p6:i < l.size:=by rw[v.xq,<- v.p5];exact p8
 have ns:∀ k,k ∈ D.erase i↔k≠i/\k ∈ D:=λk=>v.nd.mem_erase_iff
 refine ⟨h2,hp,v.nd.erase _,λj hj=>v.zw j ((ns j).1 hj).2,λj hj=>?_,λj hj=>?_,λj hj=>?_,?_,v.cl,v.hS,v.hf,by simpa using v.xq,v.p5,λk=>?_,(List.nodup_cons.1 v.GY).2,λk hk=>?_,λk hk=>?_,v.rc⟩
 ·obtain ⟨h3,h4⟩:=(ns j).1 hj
  rw[getD_set_ne false (λe=>h3 e.symm)];exact v.dl j h4
 ·obtain ⟨h3,h4⟩:=(ns j).1 hj
  rcases List.mem_cons.1 (v.gI j h4) with e | e
  ·exact absurd e h3
  ·exact e
 ·rcases v.J4 j hj with h | h
  ·exact .inl ((b_ p6).2 (.inr h))
  ·rcases List.mem_cons.1 h with e | e
   ·exact .inl ((b_ p6).2 (.inl e))
   ·exact .inr e
 ·have:=v.vu
  simp only[List.filter_cons,hD,not_true_eq_false,decide_false,Bool.false_eq_true,if_false] at this
  refine Nat.le_trans (Nat.le_of_eq (congrArg List.length (List.filter_congr λk hk=>?_))) this
  have:k≠i:=λe=>by subst e;exact th hk
  simp only[ns,this,ne_eq,not_false_eq_true,true_and]
 ·rw[v.hL,b_ p6,ns]
  constructor
  ·rintro (h | h)
   ·exact .inl (.inr h)
   ·by_cases hk:k=i
    ·exact .inl (.inl hk)
    ·exact .inr ⟨hk,h⟩
  ·rintro ((h | h) | h)
   ·subst h;exact .inr hD
   ·exact .inl h
   ·exact .inr h.2
 ·rcases v.GZ k hk with h | h
  ·exact .inl ((b_ p6).2 (.inr h))
  ·rcases List.mem_cons.1 h with e | e
   ·exact .inl ((b_ p6).2 (.inl e))
   ·exact .inr e
 ·rw[getD_set_ne false (λe=>by subst e;exact th hk)]
  exact v.io k (List.mem_cons_of_mem _ hk)
theorem O5 {j:Nat} (aE:j < L.size) {k:Nat} (hu:(L.setIfInBounds j true).getD k false=false):L.getD k false=false:=by
 cases hl:L.getD k false with
 | false=>rfl
 | true=>rw[(b_ aE).2 (.inr hl)] at hu;cases hu
theorem Inv.oJ (v:Inv P E ops pd w0 C is l f σ fuel A a w X F D L er RC) (l8:pZ E ops pd er=true) {j:Nat} {o':Oper} (hj:ops[j]?=some o') (jF:L.getD j false=false) {a2:Act} {w2:World}
  (ht:∀ d,o'.dst≠some d->tmp a2 d=tmp a d) (hh:∀ e ∈ RC,qZ ops (L.setIfInBounds j true) e.2.1->Has w2 e.2.2.1 e.2.2.2.1 e.2.2.2.2):∀ e ∈ RC,RE ops er (L.setIfInBounds j true) a2 w2 e:=by
 intro e he
 obtain ⟨h1,h2,o,t,x,d,h3,h4,h5,h6,h7,h8⟩:=v.rc e he
 obtain ⟨_,_,o1,t1,x1,d1,g1,_,g2,g3,_,g4⟩:=lH l8 h1
 rw[h3] at g1
 injection g1 with g1
 subst g1
 rw[h4] at g2
 injection g2 with _ g2
 injection g2 with g2
 subst g2
 rw[h5] at g3
 injection g3 with g3
 subst g3
 have ci:j≠e.1:=λe'=>by rw[e'] at jF;rw[h2] at jF;cases jF
 obtain ⟨k1,k2⟩:=g4 j o' hj ci
 have k3:o'.dst≠some x:=λe'=>by
  have:=lh v.cl _ _ _ (k2 e') h2
  rw[this] at jF;cases jF
 exact ⟨h1,by rw[getD_set_ne false ci];exact h2,o,t,x,d,h3,h4,h5,by rw[ht x k3];exact h6,by rw[ht d k1];exact h7,hh e he⟩
theorem Inv.still (v:Inv P E ops pd w0 C (i::is) l f σ fuel A a w X F D L er RC) (l8:pZ E ops pd er=true) {bT:Nat} (G0:wK E.er bT=er) {o':Oper} (hj:ops[i]?=some o') (jF:L.getD i false=false) {C2:Ctx} {A2:Cells} {X2:FP} {ez:St} {a2:Act} {w2:World} {F2:Nat->FP} (h2:Rel P C2 A2 X2 ez a2 w2 F2)
  (ht:∀ d,o'.dst≠some d->tmp a2 d=tmp a d) (bH:uM o'.op=false->Ext w w2 (λ_ _=>0)) (yI:wL E bT ops.toList i o' is ez=true):∀ e ∈ RC,qZ ops (L.setIfInBounds i true) e.2.1->Has w2 e.2.2.1 e.2.2.2.1 e.2.2.2.2:=by
 intro e he hu
 obtain ⟨g1,g2,o,t,x,d,g3,g4,g5,g6,g7,g8⟩:=v.rc e he
 have p8:i < L.size:=by rw[v.p5];exact (Array.getElem?_eq_some_iff.1 hj).1
 have O6:qZ ops L e.2.1:=hu.imp id λhu=>by
  cases hl:L.getD e.2.1 false with
  | false=>rfl
  | true=>rw[(b_ p8).2 (.inr hl)] at hu;cases hu
 cases hm:uM o'.op with
 | false=>exact (g8 O6).ext (bH hm)
 | true=>
  simp only[wL,hm,Bool.true_or,Bool.not_true,Bool.false_or,Eh,G0,List.all_eq_true] at yI
  have:=yI _ g1
  obtain ⟨G3,O2,o1,t1,x1,d1,k1,_,k2,k3,_,k4⟩:=lH l8 g1
  rw[g3] at k1
  injection k1 with k1
  subst k1
  rw[g4] at k2
  injection k2 with _ k2
  injection k2 with k2
  subst k2
  rw[g5] at k3
  injection k3 with k3
  subst k3
  have ci:i≠e.1:=λe'=>by rw[e'] at jF;rw[g2] at jF;cases jF
  have hl:l.getD e.1 false=true:=((v.hL e.1).1 g2).resolve_right λhD=>G3 (v.zw _ hD)
  have Iz:is.any (Nat.beq e.1)=false:=by
   cases hb:is.any (Nat.beq e.1) with
   | false=>rfl
   | true=>
    have:=v.io e.1 (List.mem_cons_of_mem _ (gW.1 hb))
    rw[hl] at this;cases this
  have IA:(is.any (Nat.beq e.2.1)||Nat.ble ops.toList.length e.2.1)=true:=by
   rcases Nat.lt_or_ge e.2.1 ops.size with h9 | h9
   ·have Ms:=O6.resolve_left (by omega)
    have RB:e.2.1≠i:=λe'=>by
     have:=hu.resolve_left (by omega)
     rw[(b_ p8).2 (.inl e')] at this;cases this
    rcases v.GZ _ h9 with vq | vq
    ·rw[(v.hL _).2 (.inl vq)] at Ms;cases Ms
    ·rcases List.mem_cons.1 vq with G4 | G4
     ·exact absurd G4 RB
     ·rw[gW.2 G4,Bool.true_or]
   ·have:Nat.ble ops.toList.length e.2.1=true:=by simpa using h9
    rw[this,Bool.or_true]
  rw[Iz,IA,Bool.not_true,Bool.false_or,Bool.false_or,Array.getElem?_toList,g3] at this
  simp only at this
  obtain ⟨q1,q2⟩:=k4 i o' hj ci
  have q3:o'.dst≠some x:=λe'=>by
   have:=lh v.cl _ _ _ (q2 e') g2
   rw[this] at jF;cases jF
  have hx:tmp a2 x=.pointer (some ⟨e.2.2.1,e.2.2.2.1,none⟩):=by rw[ht x q3];exact g6
  obtain ⟨z1,z2⟩:=GX h2 this g4 g5 hx
  rw[ht d q1,g7] at z1
  exact z1
theorem Inv.early (hE:jx P E) (mF:tX E ops pd=true) {bT:Nat} (G3:fF E.pd bT=pd) (l8:pZ E ops pd er=true) (iR:Ei E bT ops.toList is σ=true) (hC:∀ b i,C.A0 b i->C.F0 b i=0)
  (v:Inv P E ops pd w0 C is l f σ (fuel+1) A a w X F D L er RC) {j:Nat} (hj:j ∈ pd) (hr:j ∈ Region.ready .any ops L) {S:Array Bool->World->Prop}
  (hS:∀ w',Ext w w' (λ_ _=>0)->((∀ d,gV E ops d=true->(L.setIfInBounds j true).getD d false=false)->Ext w0 w' (λ_ _=>0))->S (L.setIfInBounds j true) w')
  (next:∀ (a':Act) (w':World) (X':FP),Inv P E ops pd w0 C is l f σ fuel A a' w' X' F (j::D) (L.setIfInBounds j true) er RC->kP P .any ops Q S fuel (L.setIfInBounds j true) a' w') :
  wpOp P ops Q j (λa' w'=>S (L.setIfInBounds j true) w'/\kP P .any ops Q S fuel (L.setIfInBounds j true) a' w') a w:=by
 obtain ⟨o,d,s,ho,hg,hd,hs,ci⟩:=q_ mF hj
 have p8:j < L.size:=by rw[v.p5];exact (Array.getElem?_eq_some_iff.1 ho).1
 obtain ⟨Mt,J6,_⟩:=v.xr (mem_ready.1 hr).1
 have IB:j ∈ is:=(v.J4 j hj).resolve_left (by rw[J6];simp)
 have ap:ym σ d=true:=by
  unfold Ei at iR
  rw[G3] at iR
  have:=List.all_eq_true.1 iR j hj
  rw[Array.getElem?_toList,ho,gW.2 IB] at this
  simpa [hd] using this
 obtain ⟨val,w',Fj,dD,bH,h2,RD⟩:=Iy (o:=o) v.h hE.ti hs ap
 have kQ:(∀ d,gV E ops d=true->(L.setIfInBounds j true).getD d false=false)->Ext w0 w' (λ_ _=>0):=λvv=>(v.hS λd' jB=>by
  cases hh:L.getD d' false with
  | false=>rfl
  | true=>rw[<-vv d' jB,(b_ p8).2 (.inr hh)]).trans bH (λ_ _ _ _=>rfl)
 have hw:Region.wanted o (yielded ops a.tmps)=true:=by simp[Region.wanted,hg]
 unfold wpOp
 simp only[ho,hw,if_true]
 refine .inl (fI dD ⟨hS w' bH kQ,?_⟩)
 rw[hd]
 have RF:d < σ.n:=(zs ap).1
 refine next _ _ (λb i=>X b i+Fj b i) ⟨h2,⟨o,d,s,Fj,X,ho,hd,hs,?_,λb i=>Nat.le_refl _,?_⟩,List.nodup_cons.2 ⟨Mt,v.nd⟩,?_,?_,?_,v.J4,?_,sv v.cl hr,kQ,λhf=>?_,v.xq,by simpa using v.p5,λk=>?_,v.GY,v.GZ,v.io,v.oJ l8 ho (by have:=(mem_ready.1 hr).1;rw[li p8] at this;exact this) (λd' jB=>by rw[fH,if_neg (λe=>jB (by rw[hd,e.1]))]) (λe he hu=>by
  obtain ⟨_,_,_,_,_,_,_,_,_,_,_,q⟩:=v.rc e he
  exact (q (hu.imp id λhu=>O5 p8 hu)).ext bH)⟩
 ·have:tmp (a.put (some d) val) d=val:=by rw[fH,v.h.size,if_pos ⟨rfl,RF⟩]
  rw[this];exact RD
 ·refine PF.eM (λ_ _ h=>h) (λb i ha u hu=>bH.cell b i (lJ hu) rfl u hu) bH.lW D (λk hk o' d' oT jB=>?_) (λb i hp=>⟨λu hu=>bH.cell b i (lJ hu) rfl u hu,bH.oK b i (v.h.dC b i (.inl (by omega)))⟩) v.pf
  have:d'≠d:=λe=>ci k o' oT (λe'=>by subst e';exact Mt hk) (by rw[jB,e])
  rw[fH,if_neg (λh=>this h.1.symm)]
 ·intro k hk
  rcases List.mem_cons.1 hk with e | e
  ·subst e;exact hj
  ·exact v.zw k e
 ·intro k hk
  rcases List.mem_cons.1 hk with e | e
  ·subst e;exact J6
  ·exact v.dl k e
 ·intro k hk
  rcases List.mem_cons.1 hk with e | e
  ·subst e;exact IB
  ·exact v.gI k e
 ·have:=CP Mt is IB
  have:=v.vu
  omega
 ·have:=(v.hf hf).2
  rw[this] at hj;cases hj
 ·rw[b_ p8,v.hL,List.mem_cons]
  constructor
  ·rintro (h | h | h)
   ·exact .inr (.inl h)
   ·exact .inl h
   ·exact .inr (.inr h)
  ·rintro (h | h | h)
   ·exact .inr (.inl h)
   ·exact .inl h
   ·exact .inr (.inr h)
theorem G5 (hE:jx P E) {bT:Nat} (bs:∀ o ∈ ops.toList,iB P o.op=true) {K:St->Option R} (hP:∀ c a w,¬ Q (.panic c) a w) (sw:Region.noSelect ops=true) (mF:tX E ops pd=true) (G3:fF E.pd bT=pd) {er:List (Nat×Nat)} (G0:wK E.er bT=er) (l8:pZ E ops pd er=true) :
  ∀ (is:List Nat) (l:Array Bool) (f:Bool) {C:Ctx} {σ:St},(∀ a w,Nx P C K x a w->Q .normal a w)->(∀ b i,C.A0 b i->C.F0 b i=0)->pY E bT ops pd is l f=true->tw E bT ops.toList is σ K=some x ->
   ∀ (fuel:Nat) {A:Cells} {a:Act} {w:World} {X:FP} {F:Nat->FP} {D:List Nat} {L:Array Bool} {RC:List (Nat×Nat×Nat×Nat×List Value)},Inv P E ops pd w0 C is l f σ fuel A a w X F D L er RC->kP P .any ops Q (SD E ops w0 C RC) fuel L a w:=by
 intro is
 induction is with
 | nil=>
  intro l f C σ hQ hC hg hk fuel A a w X F D L RC v
  simp only[pY,List.isEmpty_iff] at hg
  have hD:D=[]:=by
   cases D with
   | nil=>rfl
   | cons j D=>have:=v.gI j (by simp);cases this
  subst hD
  have hr:Region.ready .any ops L=[]:=by
   rw[List.eq_nil_iff_forall_not_mem]
   intro j hj
   have:=v.tY (S:=[]) (λ_ h=>h) hj (by simp)
   rw[qB,hg] at this
   cases this
  have hq:=hQ a w ⟨σ,hk,A,F,v.h.less λ_ _=>Nat.zero_le _⟩
  cases fuel with
  | zero=>exact ⟨hr,hq⟩
  | succ fuel=>exact ⟨λ_=>hq,by rw[hr];simp⟩
 | cons i is ih=>
  intro l f C σ hQ hC hg hk
  simp only[tw] at hk
  split at hk
  ·cases hk
  rename_i iR
  simp only[pY] at hg
  cases hi:ops[i]? with
  | none=>rw[hi] at hg;cases hg
  | some o=>
  rw[Array.getElem?_toList,hi] at hk
  rw[hi] at hg
  simp only at hk hg
  have Bj:i < ops.size:=(Array.getElem?_eq_some_iff.1 hi).1
  have tW:o ∈ ops.toList:=List.mem_of_getElem? (i:=i) (by simpa using hi)
  have EQ:∀ (fuel:Nat) {A:Cells} {a:Act} {w:World} {X:FP} {F:Nat->FP} {D:List Nat} {L:Array Bool} {RC:List (Nat×Nat×Nat×Nat×List Value)},Inv P E ops pd w0 C (i::is) l f σ fuel A a w X F D L er RC->i ∈ D->kP P .any ops Q (SD E ops w0 C RC) fuel L a w:=by
   intro fuel A a w X F D L RC v hD
   have xt:=v.zw i hD
   rw[gW.2 xt] at hg
   simp only[Bool.and_eq_true,Bool.not_eq_true'] at hg
   obtain ⟨⟨⟨th,_⟩,_⟩,hg⟩:=hg
   have th:i ∉ is:=λhm=>by rw[gW.2 hm] at th;cases th
   obtain ⟨o',d',s',oT,xu,jB,zx,_⟩:=q_ mF xt
   rw[hi] at oT
   injection oT with oT
   subst oT
   obtain ⟨o2,d,s,Fi,X',g1,g2,g3,g4,g5,g6⟩:=PF.take D hD v.pf
   rw[hi] at g1
   injection g1 with g1
   subst g1
   simp only[tu,xu] at hk
   split at hk
   ·cases hk
   rw[Ix g3,g2] at hk
   split at hk
   rotate_left
   ·cases hk
   obtain ⟨F2,h2⟩:=v.h.aH (some d) g4.slot g5 g4.whole
   rw[By] at h2
   exact ih _ f hQ hC hg hk fuel (v.EQ hD th h2 g6)
  intro fuel
  induction fuel with
  | zero=>
   intro A a w X F D L RC v
   by_cases hD:i ∈ D
   ·exact EQ 0 v hD
   ·have:=v.vu
    simp[List.filter_cons,hD] at this
  | succ fuel RG=>
  intro A a w X F D L RC v
  by_cases hD:i ∈ D
  ·exact EQ _ v hD
  have xv:∀ e ∈ RC,qZ ops L e.2.1->Has w e.2.2.1 e.2.2.2.1 e.2.2.2.2:=λe he=>by obtain ⟨_,_,_,_,_,_,_,_,_,_,_,q⟩:=v.rc e he;exact q
  have P5:∀ w',Ext w w' (λ_ _=>0)->∀ (l':Array Bool),(∀ k,l'.getD k false=false->L.getD k false=false)->((∀ d,gV E ops d=true->l'.getD d false=false)->Ext w0 w' (λ_ _=>0))->SD E ops w0 C RC l' w':=λw' ju l' G6 hh=>⟨hh,(λb i ha u hu=>by
   have:=v.h.ext.cell b i (lJ hu) (hC b i ha) u hu
   exact ju.cell b i (lJ this) rfl u this),λe he hu=>(xv e he (hu.imp id (G6 _))).ext ju⟩
  have G7:∀ j,j ∈ pd->j ∈ Region.ready .any ops L->wpOp P ops Q j (λa' w'=>SD E ops w0 C RC (L.setIfInBounds j true) w'/\kP P .any ops Q (SD E ops w0 C RC) fuel (L.setIfInBounds j true) a' w') a w:=λj hj hr=>
   v.early hE mF G3 l8 iR hC hj hr (λw' ju hh=>P5 w' ju _ (λk hk=>O5 (by rw[v.p5];obtain ⟨_,oj,xo,_⟩:=mem_ready.1 hr;exact (Array.getElem?_eq_some_iff.1 xo).1) hk) hh) (λa' w' X' v'=>RG v')
  have BB:SD E ops w0 C RC L w:=⟨v.hS,(λb i ha u hu=>v.h.ext.cell b i (lJ hu) (hC b i ha) u hu),xv⟩
  cases zy:pd.any (Nat.beq i) with
  | true=>
   rw[zy] at hg
   simp only[Bool.and_eq_true,Bool.not_eq_true',List.all_eq_true] at hg
   obtain ⟨⟨⟨th,tj⟩,yI⟩,hg⟩:=hg
   have jR:i ∈ Region.ready .any ops L:=v.v9 (by simpa using tj) hD
   refine ⟨λh0=>(by rw[h0] at jR;cases jR),λj hj=>G7 j ?_ hj⟩
   by_cases J5:j ∈ pd.filter (λj=>!Nat.beq i j)
   ·exact (List.mem_filter.1 J5).1
   ·refine gW.1 (yI j (v.tY (λk hk=>List.mem_filter.2 ⟨v.zw k hk,?_⟩) hj J5))
    cases hb:Nat.beq i k with
    | false=>rfl
    | true=>rw[Nat.eq_of_beq_eq_true hb] at hD;exact absurd hk hD
  | false=>
  rw[zy] at hg
  simp only at hg
  have S9:i ∉ pd:=λhm=>by rw[gW.2 hm] at zy;cases zy
  have IC:∀ j ∈ D,∀ o' d,ops[j]?=some o'->o'.dst=some d->o.dst≠some d:=λj hj o' d oT jB=>by
   obtain ⟨o2,d2,s2,g1,_,g2,_,g3⟩:=q_ mF (v.zw j hj)
   rw[oT] at g1;injection g1 with g1;subst g1
   rw[jB] at g2;injection g2 with g2;subst g2
   exact g3 i o hi (λe=>by subst e;exact hD hj)
  obtain ⟨b,fT,hk,h1,hw⟩:=Bv v.h hk
  have DD:(match (generalizing:=false) b with
    | true=>iG E bT i o fT λσ=>match wL E bT ops.toList i o is σ with
     | true=>tw E bT ops.toList is σ K
     | false=>none
    | false=>tw E bT ops.toList is (fT.aH o.dst (.iK [])) K)=some x/\(b=true->AM E bT i=true->AL fT o=true):=by
   cases b with
   | true=>
    simp only at hk
    cases hn:(AM E bT i&&!AL fT o) with
    | true=>rw[hn] at hk;cases hk
    | false=>
     rw[hn] at hk
     exact ⟨hk,λ_ xd=>by rw[xd] at hn;simpa using hn⟩
   | false=>exact ⟨hk,λe=>by cases e⟩
  obtain ⟨hk,P6⟩:=DD
  have qV:∀ (val:Value),∀ j ∈ D,∀ o' d,ops[j]?=some o'->o'.dst=some d->tmp (a.put o.dst val) d=tmp a d:=λval j hj o' d oT jB=>by
   have:=IC j hj o' d oT jB
   cases Mu:o.dst with
   | none=>rfl
   | some e=>rw[fH,if_neg (λh=>this (by rw[Mu,h.1]))]
  split at hg
  ·rename_i J7
   simp only[Bool.and_eq_true,Bool.or_eq_true,Bool.not_eq_true',List.all_eq_true,List.mem_range] at J7
   obtain ⟨iL,⟨Am,BC⟩,tj⟩:=J7
   have jR:i ∈ Region.ready .any ops L:=v.v9 (by simpa using BC) hD
   have xw:∀ j oj,ops[j]?=some oj->j≠i->L.getD j true=false->(∀ e ∈ oj.after,Region.binds .any e=true->e.on≠i)->o.apart ops oj=true:=λj oj xo fG jF jt=>Region.free_spec hi Am j oj xo fG (v.xr jF).2.2 jt
   have kR:gV E ops i=false:=by simp[gV,hi,iL]
   have vv:∀ (l':Array Bool),(∀ d,gV E ops d=true->(l'.setIfInBounds i true).getD d false=false)↔∀ d,gV E ops d=true->l'.getD d false=false:=λl'=>by
    constructor
    ·intro hh d hd
     have:=hh d hd
     rw[getD_set_ne false (λe=>by subst e;rw[kR] at hd;cases hd)] at this
     exact this
    ·intro hh d hd
     rw[getD_set_ne false (λe=>by subst e;rw[kR] at hd;cases hd)]
     exact hh d hd
   have J8:∀ (C:Ctx) (RC:List (Nat×Nat×Nat×Nat×List Value)),(∀ e ∈ RC,(e.1,e.2.1) ∈ er)->∀ l w,SD E ops w0 C RC (l.setIfInBounds i true) w↔SD E ops w0 C RC l w:=λC RC cw l' w'=>by
    unfold SD
    rw[vv]
    refine and_congr Iff.rfl (and_congr Iff.rfl (forall_congr' λe=>forall_congr' λhe=>?_))
    have ci:i≠e.2.1:=λe'=>by
     rcases (lH l8 (cw e he)).2.1 with h | ⟨h,_⟩
     ·omega
     ·rw[<-e',kR] at h;cases h
    unfold qZ
    rw[getD_set_ne false ci]
   have cw:∀ e ∈ RC,(e.1,e.2.1) ∈ er:=λe he=>(v.rc e he).1
   have N5:∀ {l':Array Bool} {u:Nat},(∃ j,(j,u) ∈ er)->(qZ ops (l'.setIfInBounds i true) u->qZ ops l' u):=λ{l' u} ⟨j,hj⟩ hu=>by
    have ci:i≠u:=λe'=>by
     rcases (lH l8 hj).2.1 with h | ⟨h,_⟩
     ·omega
     ·rw[<-e',kR] at h;cases h
    unfold qZ at hu ⊢
    rwa [getD_set_ne false ci] at hu
   have J9:(∀ d,gV E ops d=true->(L.setIfInBounds i true).getD d false=false)->Ext w0 w (λ_ _=>0):=λhd=>v.hS ((vv L).1 hd)
   have v_:L.getD i false=false:=by
    have h0:=(mem_ready.1 jR).1
    rw[li (by rw[v.p5];exact Bj)] at h0
    exact h0
   have uU:∀ (val:Value),∀ e ∈ RC,RE ops er (L.setIfInBounds i true) (a.put o.dst val) w e:=λval=>v.oJ l8 hi v_ (λd hd=>by
    cases ho:o.dst with
    | none=>rfl
    | some d'=>rw[fH,if_neg (λe=>hd (by rw[ho,e.1]))]) (λe he hu=>xv e he (N5 ⟨_,cw e he⟩ hu))
   cases b with
   | true=>
    simp only at hk
    cases Mv:AM E bT i with
    | true=>
     obtain ⟨C',c1,c2,c3,c4,c5⟩:=h1.K7
     obtain ⟨C1,f1,f2⟩:=c4.frame
     obtain ⟨val,dD,ez,fg,A2,F2,h2⟩:=K8 f1 hE (bs o tW) iL (P6 rfl Mv) hk
     simp only at fg
     split at fg
     rotate_left
     ·cases fg
     have Mw:∀ b i,C'.A0 b i->C'.F0 b i=0:=λb i ha=>c3 b i (by rw[<-c2];exact ha)
     obtain ⟨e1,e2,e3,e4,e5⟩:=f2 h2
     refine q9 (S:=SD E ops w0 C' RC) (λl' w' hs=>⟨hs.1,(λb i ha u hu=>hs.2.1 b i (by rw[c2];exact h1.a0 b i ha) u (by rw[c1];exact h1.ext.cell b i (lJ hu) (hC b i ha) u hu)),hs.2.2⟩) _ _ _ _
      (mM hi (Region.noSelect_spec sw) (λc a w hq=>(hP c _ _ hq).elim) (J8 C' RC cw) fuel L a w xw jR v.cl (.inl ⟨hw,λw' kQ=>dD w' λb i ha u hu=>?_⟩) ⟨v.hS,(λb i ha u hu=>by rw[c1] at hu;exact hu),xv⟩
      (ih _ f (λa w ⟨qv,q1,A3,F3,q2⟩=>hQ a w ⟨qv,q1,A3,F3,c5 q2⟩) Mw hg fg fuel (v.next hD jR e1 (PF.eM e2 e3 e4 D (qV val) e5 v.pf) J9 v.hf (uU val))))
     obtain ⟨l',pC,jF,kQ⟩:=kQ
     exact kQ.2.1 b i (by rw[c2];exact ha) u (by rw[c1];exact hu)
    | false=>
    cases BD:Eg E bT i with
    | true=>
     obtain ⟨u,An⟩:∃ u,(i,u) ∈ er:=by
      unfold Eg at BD
      rw[G0] at BD
      obtain ⟨e,RH,RI⟩:=List.any_eq_true.1 BD
      rw[Nat.eq_of_beq_eq_true RI]
      exact ⟨e.2,RH⟩
     obtain ⟨_,O7,o1,t1,x1,d1,g1,_,g2,g3,g4,_⟩:=lH l8 An
     rw[hi] at g1
     injection g1 with g1
     subst g1
     obtain ⟨C1,f1,f2⟩:=h1.frame
     obtain ⟨b0,off,P7,cs,q1,q2,q3,q4⟩:=K_ f1 hE (bs o tW) g2 hk
     obtain ⟨val,dD,ez,fg,A2,F2,h2⟩:=Al hE f1 (bs o tW) iL hk
     have A_:val=P7:=by
      have r1:=dD w λ_=>Ext.refl _ _
      have r2:=q4 w q2
      rw[r1] at r2
      injection r2 with r2 _
      injection r2
     subst A_
     simp only at fg
     split at fg
     rotate_left
     ·cases fg
     rename_i Ao
     obtain ⟨e1,e2,e3,e4,e5⟩:=f2 h2
     have qW:RE ops er (L.setIfInBounds i true) (a.put o.dst val) w (i,u,b0,off,cs):=by
      refine ⟨An,(b_ (by rw[v.p5];exact Bj)).2 (.inl rfl),o,t1,x1,d1,hi,g2,g3,?_,?_,λ_=>q2⟩
      ·rw[g3,fH,if_neg (λe=>g4 e.1.symm)];exact q1
      ·simp only[wL,BD,Bool.or_true,Bool.not_true,Bool.false_or,Eh,G0,List.all_eq_true] at Ao
       have h9:=Ao _ An
       have Iz:is.any (Nat.beq i)=false:=by
        cases hb:is.any (Nat.beq i) with
        | false=>rfl
        | true=>exact absurd (gW.1 hb) (List.nodup_cons.1 v.GY).1
       have IA:(is.any (Nat.beq u)||Nat.ble ops.toList.length u)=true:=by
        rcases Nat.lt_or_ge u ops.size with k1 | k1
        ·obtain ⟨k2,_,k3⟩:=O7.resolve_left (by omega)
         rcases v.GZ u k1 with k4 | k4
         ·have k5:=(v.hL u).2 (.inl k4)
          have:=lh v.cl _ _ _ k3 k5
          rw[v_] at this;cases this
         ·rcases List.mem_cons.1 k4 with k5 | k5
          ·rw[k5,kR] at k2;cases k2
          ·rw[gW.2 k5,Bool.true_or]
        ·have:Nat.ble ops.toList.length u=true:=by simpa using k1
         rw[this,Bool.or_true]
       rw[Iz,IA,Bool.not_true,Bool.false_or,Bool.false_or,Array.getElem?_toList,hi] at h9
       simp only at h9
       have vq:=(GX h2 h9 g2 g3 (b:=b0) (off:=off) (by rw[g3,fH,if_neg (λe=>g4 e.1.symm)];exact q1)).2
       rw[g3] at vq ⊢
       rw[fH,if_pos ⟨rfl,by simpa [Act.put] using vq⟩];exact q3
     refine q9 (S:=SD E ops w0 C ((i,u,b0,off,cs)::RC)) (λl' w' hs=>⟨hs.1,hs.2.1,λe he=>hs.2.2 e (List.mem_cons_of_mem _ he)⟩) _ _ _ _
      (mM hi (Region.noSelect_spec sw) (λc a w hq=>(hP c _ _ hq).elim) (J8 C _ (λe he=>by rcases List.mem_cons.1 he with rfl | he;exact An;exact cw e he)) fuel L a w xw jR v.cl (.inl ⟨hw,λw' kQ=>?_⟩) ⟨BB.1,BB.2.1,λe he hu=>?_⟩
      (ih _ f hQ hC hg fg fuel (v.next hD jR e1 (PF.eM e2 e3 e4 D (qV val) e5 v.pf) J9 v.hf (λe he=>?_))))
     ·obtain ⟨l',pC,jF,kQ⟩:=kQ
      refine q4 w' (kQ.2.2 _ List.mem_cons_self ?_)
      rcases O7 with k1 | ⟨_,_,k3⟩
      ·exact .inl k1
      ·right
       show l'.getD u false=false
       cases Mx:l'.getD u false with
       | false=>rfl
       | true=>
        have:=lh pC _ _ _ k3 Mx
        rcases Nat.lt_or_ge i l'.size with h' | h'
        ·simp[h'] at this jF;rw[jF] at this;cases this
        ·simp[Array.getElem?_eq_none h'] at this
     ·rcases List.mem_cons.1 he with rfl | he
      ·exact q2
      ·exact xv e he hu
     ·rcases List.mem_cons.1 he with rfl | he
      ·exact qW
      ·exact uU val e he
    | false=>
    obtain ⟨C1,f1,f2⟩:=h1.frame
    obtain ⟨val,dD,ez,fg,A2,F2,h2⟩:=Al hE f1 (bs o tW) iL hk
    simp only at fg
    split at fg
    rotate_left
    ·cases fg
    obtain ⟨e1,e2,e3,e4,e5⟩:=f2 h2
    refine mM hi (Region.noSelect_spec sw) (λc a w hq=>(hP c _ _ hq).elim) (J8 C RC cw) fuel L a w xw jR v.cl (.inl ⟨hw,λw' kQ=>dD w' λhr=>?_⟩) BB (ih _ f hQ hC hg fg fuel (v.next hD jR e1 (PF.eM e2 e3 e4 D (qV val) e5 v.pf) J9 v.hf (uU val)))
    rcases tj with ((tj | tj) | tj) | ⟨hY,P8⟩
    ·rw[hr] at tj;cases tj
    ·rw[Mv] at tj;cases tj
    ·rw[BD] at tj;cases tj
    ·rw[(v.hf hY).1]
     obtain ⟨l',pC,jF,kQ⟩:=kQ
     refine kQ.1 λd hd=>?_
     have O8:d < ops.size:=by
      unfold gV at hd
      split at hd
      ·rename_i od Mu;exact (Array.getElem?_eq_some_iff.1 Mu).1
      ·cases hd
     rcases P8 d O8 with hh | hh
     ·rw[hd] at hh;cases hh
     ·cases Mx:l'.getD d false with
      | false=>rfl
      | true=>
       have:=lh pC _ _ _ hh Mx
       rcases Nat.lt_or_ge i l'.size with h' | h'
       ·simp[h'] at this jF;rw[jF] at this;cases this
       ·simp[Array.getElem?_eq_none h'] at this
   | false=>
    obtain ⟨F2,h2⟩:=yH h1 o
    exact mM hi (Region.noSelect_spec sw) (λc a w hq=>(hP c _ _ hq).elim) (J8 C RC cw) fuel L a w xw jR v.cl (v:=undef) (.inr ⟨hw,rfl⟩) BB (ih _ f hQ hC hg hk fuel (v.next hD jR h2 (PF.eM (λ_ _ h=>h) (λ_ _ _ _ h=>h) (λ_ _ h=>h) D (qV undef) (λ_ _ _=>⟨λ_ h=>h,rfl⟩) v.pf) J9 v.hf (uU undef)))
  ·simp only[Bool.and_eq_true,List.all_eq_true] at hg
   obtain ⟨⟨BC,yI⟩,hg⟩:=hg
   have jR:i ∈ Region.ready .any ops L:=v.v9 (by simpa using BC) hD
   have ER:i < L.size:=by rw[v.p5];exact Bj
   have v_:L.getD i false=false:=by
    have h0:=(mem_ready.1 jR).1
    rw[li ER] at h0
    exact h0
   refine ⟨λh0=>(by rw[h0] at jR;cases jR),λj hj=>?_⟩
   by_cases O9:j ∈ pd
   ·exact G7 j O9 hj
   have gG:i=j:=Nat.eq_of_beq_eq_true (yI j (v.tY v.zw hj O9))
   subst gG
   unfold wpOp
   simp only[hi,hw]
   have hold:∀ {d},(L.setIfInBounds i true).getD d false=false->L.getD d false=false:=λ{d} hh=>by
    cases hl:L.getD d false with
    | false=>rfl
    | true=>rw[(b_ ER).2 (.inr hl)] at hh;cases hh
   have pJ:(L.setIfInBounds i true).getD i false=true:=(b_ ER).2 (.inl rfl)
   cases b with
   | true=>
    simp only[if_true]
    obtain ⟨C1,f1,f2⟩:=h1.frame
    have qC:∀ w',(∀ b i,A b i->∀ u,ce w b i=some u->ce w' b i=some u)->∀ b i,C.A0 b i->∀ u,ce C.w0 b i=some u->ce w' b i=some u:=λw' he b i ha u hu=>he b i (v.h.a0 b i ha) u (v.h.ext.cell b i (lJ hu) (hC b i ha) u hu)
    cases iL:lC E o.op with
    | true=>
     refine .inl (Oper.wp_mono (λa' w' hn=>?_) (GV (K9 (Al hE f1 (bs o tW) iL hk))))
     obtain ⟨ht,RJ,ez,fg,A2,F2,h2⟩:=hn
     subst RJ
     simp only at fg
     split at fg
     rotate_left
     ·cases fg
     obtain ⟨e1,e2,e3,e4,e5⟩:=f2 h2
     have kQ:(∀ d,gV E ops d=true->(L.setIfInBounds i true).getD d false=false)->Ext w0 w (λ_ _=>0):=λhd=>v.hS λd vv=>hold (hd d vv)
     exact ⟨⟨kQ,qC _ e3,λe he hu=>xv e he (hu.imp id hold)⟩,ih _ false hQ hC hg fg fuel (v.next hD jR e1 (PF.eM e2 e3 e4 D (λj hj o' d oT jB=>ht d (IC j hj o' d oT jB)) e5 v.pf) kQ (λe=>by cases e) (v.oJ l8 hi v_ ht λe he hu=>xv e he (hu.imp id hold)))⟩
    | false=>
    refine .inl (Oper.wp_mono (λa' w' hn=>?_) (GV (GU hE f1 (bs o tW) iL hk)))
    obtain ⟨ht,⟨ez,fg,A2,F2,h2⟩,hq⟩:=hn
    simp only at fg
    split at fg
    rotate_left
    ·cases fg
    rename_i Ao
    obtain ⟨e1,e2,e3,e4,e5⟩:=f2 h2
    have kQ:(∀ d,gV E ops d=true->(L.setIfInBounds i true).getD d false=false)->Ext w0 w' (λ_ _=>0):=λhd=>by
     have My:quiet E o.op=true:=by
      cases My:quiet E o.op with
      | true=>rfl
      | false=>
       have RK:gV E ops i=true:=by simp[gV,hi,iL,My]
       have:=hd i RK
       rw[pJ] at this;cases this
     exact (v.hS λd vv=>hold (hd d vv)).trans (hq My) (λ_ _ _ _=>rfl)
    have Mz:=v.still l8 G0 hi v_ h2 ht (λhm=>hq (quiet_of hk hm iL)) Ao
    exact ⟨⟨kQ,qC _ e3,Mz⟩,ih _ false hQ hC hg fg fuel (v.next hD jR e1 (PF.eM e2 e3 e4 D (λj hj o' d oT jB=>ht d (IC j hj o' d oT jB)) e5 v.pf) kQ (λe=>by cases e) (v.oJ l8 hi v_ ht Mz))⟩
   | false=>
    simp only[Bool.false_eq_true,if_false]
    obtain ⟨F2,h2⟩:=yH h1 o
    have kQ:(∀ d,gV E ops d=true->(L.setIfInBounds i true).getD d false=false)->Ext w0 w (λ_ _=>0):=λhd=>v.hS λd vv=>hold (hd d vv)
    exact ⟨⟨kQ,BB.2.1,λe he hu=>xv e he (hu.imp id hold)⟩,ih _ false hQ hC hg hk fuel (v.next hD jR h2 (PF.eM (λ_ _ h=>h) (λ_ _ _ _ h=>h) (λ_ _ h=>h) D (qV undef) (λ_ _ _=>⟨λ_ h=>h,rfl⟩) v.pf) kQ (λe=>by cases e) (v.oJ l8 hi v_ (λd hd=>by
     cases ho:o.dst with
     | none=>rfl
     | some d'=>rw[fH,if_neg (λe=>hd (by rw[ho,e.1]))]) λe he hu=>xv e he (hu.imp id hold)))⟩
end
theorem La (hE:jx P E) (hm:P.follows .mixedOrders=true) {bT id:Nat} {ops:Array Oper} (bs:∀ o ∈ ops.toList,iB P o.op=true) {is bx:List Nat} (hd:Bx E bT ops is=true) (h:bn P C A σ a w F) {K:St->Option R} (hk:Dh σ bx (λσ=>FT ops.toList σ (fF E.pd bT) λσ=>tw E bT ops.toList is σ K)=some x)
  (hQ:∀ a w,Nx P C K x a w->Q .normal a w) (hP:∀ c a w,¬ Q (.panic c) a w):(Code.region id ops true).wp P Q a w:=by
 simp only[Bx,Bool.and_eq_true,Nat.ble_eq] at hd
 obtain ⟨⟨⟨⟨sw,hlen⟩,mF,P9⟩,⟨kR,P_⟩,l8⟩,hg⟩:=hd
 have h0:=h.drew
 obtain ⟨A1,fT,F1,hk,h1⟩:=J3 bx h0 hk
 obtain ⟨ez,F2,hk,h1⟩:=N4 (fF E.pd bT) h1 hk
 obtain ⟨C',c1,c2,c3,c4,c5⟩:=h1.Mr
 have Mw:∀ b i,C'.A0 b i->C'.F0 b i=0:=λb i ha=>c3 b i (by rw[<-c2];exact ha)
 have DC:∀ k,(Array.replicate ops.size false).getD k false=false:=λk=>by
  by_cases hk:k < ops.size <;> simp[hk]
 refine wp_region_any hm (xn _ _ _ _ (G5 hE bs hP sw mF rfl rfl l8 is _ _ (λa w ⟨qv,q1,A3,F3,q2⟩=>hQ a w ⟨qv,q1,A3,F3,c5 q2⟩) Mw hg hk ops.size (w0:=w.drew) (D:=[]) (RC:=[]) ⟨c4,trivial,List.nodup_nil,(λ_ h=>by cases h),(λ_ h=>by cases h),(λ_ h=>by cases h),λj hj=>.inr (gW.1 (List.all_eq_true.1 P9 j hj)),
  Nat.le_trans (List.length_filter_le _ _) hlen,λj o hj hl=>?_,λ_=>Ext.refl _ _,λhf=>⟨rfl,?_⟩,by simp,by simp,(λk=>by simp),vt kR,λk hk=>.inr (gW.1 (List.all_eq_true.1 P_ k (List.mem_range.2 hk))),λk _=>DC k,λe he=>by cases he⟩))
 ·rw[DC] at hl;cases hl
 ·split at hf
  ·assumption
  ·cases hf
end
end OT
set_option linter.unusedVariables false
set_option linter.unusedSimpArgs false
namespace OT
open Go
section
variable {P:Program} {C:Ctx} {A:Cells} {X:FP} {σ:St} {a:Act} {w:World} {F:Nat->FP} {R:Type} {x:R} {E:Env}
theorem BE (f:Nat->Slot):∀ (live:List Nat) (i:Nat),fe (live.map λj=>(j,f j)) i=if live.any (Nat.beq i) then some (f i) else none
 | [],i=>rfl
 | j::live,i=>by
  simp only[List.map_cons,fe,List.any_cons]
  by_cases gG:i=j
  ·simp_all
  ·have h1:Nat.beq j i=false:=by
    grind [Nat.eq_of_beq_eq_true]
   have h2:Nat.beq i j=false:=by
    grind [Nat.eq_of_beq_eq_true]
   simp only[h1,h2,Bool.false_eq_true,if_false,Bool.false_or,BE f live i]
theorem p_ (live:List Nat) (fr:List (Nat×Md)) (σ:St) (i:Nat):(dz live fr σ).get i=if i < σ.n/\live.any (Nat.beq i)=true then qt fr i (dK live fr σ i) else .dead:=by
 unfold St.get dz
 simp only[BE]
 grind [Nat.blt_eq]
theorem sy (live:List Nat) (fr:List (Nat×Md)) (σ:St) (i:Nat):(dz live fr σ).dJ i=[0,0,0,0,0]:=rfl
theorem sA {s:List Nat} (h:s.length<=5):Below (s.map λ_=>0) [0,0,0,0,0]:=by
 intro j y hj
 grind
theorem sB {live:List Nat} {fr:List (Nat×Md)} {r:Nat} (hr:tz live fr r=true) {p:Path} {pl:Pl} (hp:place σ a w r p=some pl):place (dz live fr σ) a w r p=some pl:=by
 grind [jO,tz,place,p_,qt,dK,bl]
theorem G8 {live:List Nat} {fr:List (Nat×Md)} {i:Nat} {G:FP} (hs:aW P A σ a w (tmp a i) (σ.get i) G) (hG:∀ b k,G b k<=1) :
  ∃ G':FP,(∀ b k,G' b k<=G b k)/\∀ A':Cells,(∀ b k,A b k->A' b k)->(∀ b k,1<=G b k->G' b k=0->A' b k)->aW P A' (dz live fr σ) a w (tmp a i) (qt fr i (dK live fr σ i)) G':=by
 have same:∀ b k,A b k->∀ u,ce w b k=some u->ce w b k=some u:=λ_ _ _ _ h=>h
 have dead:qt fr i .dead=.dead:=by grind [qt]
 have sC:∀ {s:Slot},(∀ t m H v,s≠.own t m H v)->(∀ t m H v,s≠.box t m H v)->qt fr i s=s:=λ{s} h1 h2=>by
  grind [qt]
 cases hg:σ.get i with
 | dead=>exact ⟨λ_ _=>0,λ_ _=>Nat.zero_le _,λA' _ _=>by simp only[dK,hg,dead];trivial⟩
 | mf=>
  rw[hg] at hs
  exact ⟨λ_ _=>0,λ_ _=>Nat.zero_le _,λA' _ _=>by simp only[dK,hg];rw[sC (by intros;simp) (by intros;simp)];exact hs⟩
 | val t v=>
  rw[hg] at hs
  obtain ⟨cs,h1,h2⟩:=hs
  exact ⟨λ_ _=>0,λ_ _=>Nat.zero_le _,λA' hA _=>by simp only[dK,hg];rw[sC (by intros;simp) (by intros;simp)];exact ⟨cs,h1,Ro.mono same hA t h2⟩⟩
 | cp t v=>
  rw[hg] at hs
  exact ⟨λ_ _=>0,λ_ _=>Nat.zero_le _,λA' hA _=>by simp only[dK,hg];rw[sC (by intros;simp) (by intros;simp)];exact Ro.mono same hA (.ptr t) hs⟩
 | own t m H v=>
  rw[hg] at hs
  obtain ⟨cs,h1,h2⟩:=hs
  have hk:dK live fr σ i=.own t m H v:=by grind [dK]
  rw[hk]
  unfold qt
  split
  ·exact ⟨G,λ_ _=>Nat.le_refl _,λA' hA _=>⟨cs,h1,af.mono hA same (λ_ _ h=>h) t h2 (λ_ _=>Nat.le_refl _) (λ_ _ _ _ h=>h)⟩⟩
  ·rename_i m1 hm
   simp only
   split
   ·rename_i hc
    simp only[Bool.and_eq_true,List.isEmpty_iff] at hc
    obtain ⟨hH,hf⟩:=hc
    subst hH
    obtain ⟨G1,g1,g2⟩:=af.fits t hf h2 hG
    refine ⟨G1,g1,λA' hA qD=>?_⟩
    have hr:=g2 A' hA qD
    split
    ·rename_i e;subst e;exact ⟨cs,h1,af.ro t (bQ t) hr⟩
    ·exact ⟨cs,h1,hr⟩
   ·exact ⟨λ_ _=>0,λ_ _=>Nat.zero_le _,λA' _ _=>trivial⟩
 | box t m H v=>
  rw[hg] at hs
  obtain ⟨b,o,L,F1,s1,s2,s3,s4,s5,s6⟩:=hs
  have hk:dK live fr σ i=.box t m H v:=by grind [dK]
  rw[hk]
  unfold qt
  split
  ·exact ⟨G,λ_ _=>Nat.le_refl _,λA' hA _=>⟨b,o,L,F1,s1,s2,s3,s4,s5,af.mono hA same (λ_ _ h=>h) t s6 (λ_ _=>Nat.le_refl _) (λ_ _ _ _ h=>h)⟩⟩
  ·rename_i m1 hm
   simp only
   split
   ·rename_i hc
    simp only[Bool.and_eq_true,List.isEmpty_iff] at hc
    obtain ⟨hH,hf⟩:=hc
    subst hH
    obtain ⟨G1,g1,g2⟩:=af.fits t hf s6 (λb' k=>by grind)
    refine ⟨λb' k=>bk b o t.sz b' k+G1 b' k,λb' k=>by grind,λA' hA qD=>⟨b,o,L,G1,s1,s2,s3,s4,λ_ _=>Nat.le_refl _,g2 A' hA λb' k hp hz=>?_⟩⟩
    grind
   ·exact ⟨λ_ _=>0,λ_ _=>Nat.zero_le _,λA' _ _=>trivial⟩
 | ref r p snap=>
  rw[hg] at hs
  refine ⟨λ_ _=>0,λ_ _=>Nat.zero_le _,λA' _ _=>?_⟩
  simp only[dK,hg]
  split
  ·rename_i hc
   simp only[Bool.and_eq_true] at hc
   rw[sC (by intros;simp) (by intros;simp)]
   obtain ⟨pl,h1,h2,h3⟩:=hs.2 hc.1
   have hl:snap.length<=5:=by grind
   exact ⟨by grind [sy,sA],λ_=>⟨pl,sB hc.2 h1,h2,by simpa using h3⟩⟩
  ·rw[dead];trivial
 | ptr r p snap=>
  rw[hg] at hs
  refine ⟨λ_ _=>0,λ_ _=>Nat.zero_le _,λA' _ _=>?_⟩
  simp only[dK,hg]
  split
  ·rename_i hc
   simp only[Bool.and_eq_true] at hc
   rw[sC (by intros;simp) (by intros;simp)]
   obtain ⟨pl,b,o,h1,h2,h3,h4⟩:=hs.2 hc.1
   have hl:snap.length<=5:=by omega
   exact ⟨by grind [sy,sA],λ_=>⟨pl,b,o,sB hc.2 h1,h2,h3,by simpa using h4⟩⟩
  ·rw[dead];trivial
 | sub r p snap lo hi=>
  rw[hg] at hs
  refine ⟨λ_ _=>0,λ_ _=>Nat.zero_le _,λA' _ _=>?_⟩
  simp only[dK,hg]
  split
  ·rename_i hc
   simp only[Bool.and_eq_true] at hc
   rw[sC (by intros;simp) (by intros;simp)]
   obtain ⟨pl,e,xa,n,cap,lG,cap',h1,h2,h3,h4,h5,h6,h7,h8,h9,vq,G4⟩:=hs.2 hc.1
   have hl:snap.length<=5:=by grind
   exact ⟨by grind [sy,sA],λ_=>⟨pl,e,xa,n,cap,lG,cap',sB hc.2 h1,h2,h3,h4,h5,h6,h7,h8,h9,vq,by simpa using G4⟩⟩
  ·rw[dead];trivial
 | iK xs=>
  rw[hg] at hs
  obtain ⟨vs,Fi,h1,h2,h3⟩:=hs
  refine ⟨G,λ_ _=>Nat.le_refl _,λA' hA _=>?_⟩
  simp only[dK,hg]
  rw[sC (by intros;simp) (by intros;simp)]
  exact ⟨vs,Fi,h1,h2,λj y hy=>by
   obtain ⟨v,g1,g2⟩:=h3 j y hy
   exact ⟨v,g1,g2.imp id λ⟨cs,g3,g4⟩=>⟨cs,g3,af.mono hA same (λ_ _ h=>h) _ g4 (λ_ _=>Nat.le_refl _) (λ_ _ _ _ h=>h)⟩⟩⟩
theorem wa (h:bn P C A σ a w F) (live:List Nat) (fr:List (Nat×Md)):tM P C (dz live fr σ) a w:=by
 have hle:∀ i,i < σ.n->∀ b k,F i b k<=1:=λi hi b k=>by have:=h.ge b k;grind [a_]
 have each:∀ i,∃ G':FP,(∀ b k,i < σ.n->G' b k<=F i b k)/\(¬ i < σ.n->∀ b k,G' b k=0)/\∀ A':Cells,(∀ b k,A b k->A' b k)->(∀ b k,1<=F i b k->G' b k=0->A' b k)->i < σ.n->aW P A' (dz live fr σ) a w (tmp a i) ((dz live fr σ).get i) G':=by
  intro i
  by_cases hi:i < σ.n
  ·by_cases hl:live.any (Nat.beq i)=true
   ·obtain ⟨G',g1,g2⟩:=G8 (live:=live) (fr:=fr) (h.cj i hi) (hle i hi)
    exact ⟨G',λb k _=>g1 b k,λhn=>absurd hi hn,λA' hA qD _=>by grind [p_]⟩
   ·exact ⟨λ_ _=>0,λ_ _ _=>Nat.zero_le _,λ_ _ _=>rfl,λA' _ _ _=>by rw[p_,if_neg (λhc=>hl hc.2)];trivial⟩
  ·exact ⟨λ_ _=>0,λ_ _ _=>Nat.zero_le _,λ_ _ _=>rfl,λA' _ _ kg=>absurd kg hi⟩
 obtain ⟨F',MA⟩:=Classical.axiomOfChoice each
 have gH:∀ b k,ao σ.n F' b k<=ao σ.n F b k:=λb k=>yo b k λj hj=>(MA j).1 b k hj
 refine ⟨λb k=>A b k\/∃ j,j < σ.n/\1<=F j b k/\F' j b k=0,F',?_⟩
 have hold:∀ {b k j},j < σ.n->1<=F j b k->1<=0+ao σ.n F b k:=λ{b k j} hj hp=>by grind [a_]
 refine ⟨h.size,h.defers,λi hi=>(MA i).2.2 _ (λ_ _ h=>.inl h) (λb k hp hz=>.inr ⟨i,hi,hp,hz⟩) hi,(λd r p snap hm=>by cases hm),λb k=>by have:=h.ge b k;have:=gH b k;show 0+ao σ.n F' b k<=1;omega,λb k hp ha=>?_,λb k hp=>?_,
  λi=>by rw[sy];rfl,h.ext,λb k hp=>h.own b k (by have:=gH b k;have hp:1<=0+ao σ.n F' b k:=hp;grind),λb k ha=>.inl (h.a0 b k ha),λb k ha=>?_,h.fN,λr t m H v hg hl=>?_,λj k hm R' gf=>?_,h.mw⟩
 ·have hp:1<=0+ao σ.n F' b k:=hp
  rcases ha with ha | ⟨j,hj,h1,h2⟩
  ·exact h.gI b k (by grind) ha
  ·obtain ⟨i,hi,zy⟩:=AQ (show 1<=ao σ.n F' b k by omega)
   have ci:i≠j:=λe=>by grind
   have:=jN F hi hj ci b k
   have:=(MA i).1 b k hi
   have:=h.ge b k
   omega
 ·rcases hp with hp | (ha | ⟨j,hj,h1,_⟩)
  ·exact h.dC b k (.inl (by have:=gH b k;have hp:1<=0+ao σ.n F' b k:=hp;grind))
  ·exact h.dC b k (.inr ha)
  ·exact h.dC b k (.inl (hold hj h1))
 ·rcases ha with ha | ⟨j,hj,h1,_⟩
  ·exact h.J b k ha
  ·exact .inr (h.own b k (hold hj h1))
 ·rw[p_] at hg
  split at hg
  ·have:∃ m0 H0 v0,σ.get r=.box t m0 H0 v0:=by
    grind [qt,dK]
   obtain ⟨m0,H0,v0,L0⟩:=this
   exact h.whole r t m0 H0 v0 L0 hl
  ·cases hg
 ·have Er:bl w (tmp a j) (σ.get j)=some R'\/∃ H0,bl w (tmp a j) (σ.get j)=some { R' with H:=H0 }:=by
   rw[p_] at gf
   split at gf
   ·unfold qt at gf
    split at gf
    ·grind [dK,bl]
    ·split at gf
     ·grind [dK,bl]
     ·rename_i t0 m0 H0 v0 hk
      have vp:σ.get j=.box t0 m0 H0 v0:=by
       grind [dK]
      split at gf
      all_goals simp_all [bl]
     grind [bl]
   grind [bl]
  rcases Er with hr | ⟨H0,hr⟩
  ·exact h.e9 j k hm R' hr
  ·have:=h.e9 j k hm _ hr
   exact this
theorem Lb (live:List Nat) (σ:St):oJ live σ=dz live [] σ:=rfl
theorem Lc (h:bn P C A σ a w F) (live:List Nat):tM P C (oJ live σ) a w:=by grind [Lb,wa]
end
end OT
set_option linter.unusedVariables false
set_option linter.unusedSimpArgs false
namespace OT
open Go
def QK (P:Program) (C:Ctx) {R:Type} (K:Ex->St->Option R) (fin:St->Option R) (x:R):Exit->Act->World->Prop
 | .normal,a,w=>∃ σ,K .normal σ=some x/\tM P C σ a w
 | .exit id,a,w=>∃ σ,K (.exit id) σ=some x/\tM P C σ a w
 | .ret,a,w=>∃ σ,fin σ=some x/\tM P C σ a w
 | _,_,_=>False
noncomputable def codeOk (P:Program) (E:Env):Code->Bool
 | .skip=>true
 | .region id ops d=>ops.toList.all (λo=>iB P o.op)&&(match d with
  | false=>true
  | true=>P.follows .mixedOrders&&Bx E id ops (fF E.od id))
 | .seq a b=>codeOk P E a&&codeOk P E b
 | .cond c a b=>bh P c&&codeOk P E a&&codeOk P E b
 | .block _ b=>codeOk P E b
 | .loop b=>codeOk P E b
 | .scope b=>codeOk P E b
 | .exit _=>true
 | .ret=>true
 | _=>true
section
variable {P:Program} {C:Ctx} {R:Type} {x:R} {E:Env} {fin:St->Option R} {n:Nat}
theorem Ld (hE:jx P E):∀ (c:Code),codeOk P E c=true->∀ {σ:St} {A:Cells} {a:Act} {w:World} {F:Nat->FP} {K:Ex->St->Option R},bn P C A σ a w F->kB E n fin c σ K=some x->c.wp P (QK P C K fin x) a w:=by
 intro c
 induction c with
 | skip=>intro _ σ A a w F K h hk;exact wp_skip ⟨σ,hk,A,F,h⟩
 | region id ops d=>
  intro hc σ A a w F K h hk
  simp only[codeOk,Bool.and_eq_true] at hc
  have bs:∀ o ∈ ops.toList,iB P o.op=true:=λo ho=>List.all_eq_true.1 hc.1 o ho
  cases d with
  | false=>exact GW hE bs h hk (λa w ⟨σ',h1,A',F',h2⟩=>by
    obtain ⟨A2,ez,F2,h3,h4⟩:=J3 _ h2 h1
    exact ⟨ez,h3,A2,F2,h4⟩)
  | true=>
   have h2:=hc.2
   simp only[Bool.and_eq_true] at h2
   exact La hE h2.1 bs h2.2 h hk (λa w ⟨σ',h1,h2⟩=>⟨σ',h1,h2⟩) (λc a w hq=>hq)
 | seq a b eI ey=>
  intro hc σ A ac w F K h hk
  simp only[codeOk,Bool.and_eq_true] at hc
  refine wp_seq (wp_mono (eI hc.1 h hk) λe a' w' hq=>?_)
  cases e with
  | normal=>obtain ⟨σ',h1,A',F',h2⟩:=hq;exact ey hc.2 h2 h1
  | exit j=>obtain ⟨σ',h1,h2⟩:=hq;exact ⟨σ',h1,h2⟩
  | ret=>exact hq
  | _=>exact hq.elim
 | cond c a b eI ey=>
  intro hc σ A ac w F K h hk
  simp only[codeOk,Bool.and_eq_true] at hc
  simp only[kB] at hk
  rcases bE h hc.1.1 with hs | ⟨xs,e⟩
  rotate_left
  ·rw[e] at hk;cases hk
  grind [wW,wp_cond_true,wp_cond_false]
 | block id b ih=>
  intro hc σ A ac w F K h hk
  refine wp_block (wp_mono (ih hc h hk) λe a' w' hq=>?_)
  cases e with
  | normal=>exact hq
  | exit j=>
   obtain ⟨σ',h1,h2⟩:=hq
   simp only[ai] at h1
   simp only[Exit.inBlock]
   by_cases hj:j=id
   ·subst hj
    rw[if_pos (by simp)] at h1
    rw[if_pos rfl]
    exact ⟨σ',h1,h2⟩
   ·have:Nat.beq j id=false:=by
     grind [Nat.eq_of_beq_eq_true]
    rw[this,if_neg (by simp)] at h1
    rw[if_neg hj]
    exact ⟨σ',h1,h2⟩
  | ret=>exact hq
  | _=>exact hq.elim
 | loop b ih=>
  intro hc σ A ac w F K h hk
  simp only[kB] at hk
  have key:∀ (m:Nat) (σ:St) (ac:Act) (w:World),tM P C σ ac w->uN (kB E n fin b) (dz (fF E.lv (ji b)) (Ej E.lf (ji b))) K m σ=some x->Code.rounds P b (QK P C K fin x) m ac w:=by
   intro m
   induction m with
   | zero=>intro σ ac w h hk;cases hk
   | succ m Mb=>
    intro σ ac w h hk
    obtain ⟨A',F',h⟩:=h
    rw[rounds_succ]
    refine wp_mono (ih hc h hk) λe a' w' hq=>?_
    cases e with
    | normal=>
     obtain ⟨σ',h1,A2,F2,h2⟩:=hq
     exact Mb _ a' w' (wa h2 _ _) h1
    | exit j=>exact hq
    | ret=>exact hq
    | _=>exact hq.elim
  exact wp_loop_rounds n (key n _ ac w (wa h _ _) hk)
 | scope b ih=>
  intro hc σ A ac w F K h hk
  refine wp_scope_straight (wp_mono (ih hc h hk) λe a' w' hq=>?_)
  cases e with
  | normal=>exact hq
  | exit j=>exact hq
  | ret=>exact hq
  | _=>exact hq.elim
 | exit id=>
  intro hc σ A ac w F K h hk
  exact wp_exit ⟨_,hk,Lc h _⟩
 | ret=>
  intro hc σ A ac w F K h hk
  exact wp_ret ⟨σ,hk,A,F,h⟩
 | _=>grind [kB]
end
end OT
set_option linter.unusedVariables false
set_option linter.unusedSimpArgs false
namespace OT
open Go
section
variable {P:Program} {C:Ctx} {A:Cells} {X:FP} {σ:St} {a:Act} {w:World} {F:Nat->FP} {R:Type} {x:R} {E:Env}
def sD (tmps:Array Value):ResultVar->Sem Value
 | .tmp t=>pure (tmps.getD t undef)
 | .cell a t=>do loadVar t (<- asAddr (tmps.getD a undef))
theorem BF {α:Type} (f:α->Sem Value):∀ (l:List α) (vs:List Value),l.length=vs.length->(∀ (j:Nat) (y:α) (v:Value),l[j]?=some y->vs[j]?=some v->(f y).run P w=.ok v w)->(l.mapM f).run P w=.ok vs w
 | [],[],_,_=>rfl
 | y::l,v::vs,hl,h=>by
  have h0:=h 0 y v rfl rfl
  have ih:=BF f l vs (by simpa using hl) (λj y v hy hv=>h (j+1) y v hy hv)
  simp_all
 | [],_::_,h,_=>by simp at h
 | _::_,[],h,_=>by simp at h
theorem CQ {fn:Func} {tmps:Array Value} {vs:List Value} (hl:fn.results.toList.length=vs.length) (h:∀ (j:Nat) (y:ResultVar) (v:Value),fn.results.toList[j]?=some y->vs[j]?=some v->(sD tmps y).run P w=.ok v w) :
  (results fn tmps).run P w=.ok (if h:vs.toArray.size=1 then vs.toArray[0] else .tuple vs.toArray) w:=by
 have h1:=BF (P:=P) (w:=w) (sD tmps) fn.results.toList vs hl h
 have h2:(fn.results.mapM (sD tmps)).run P w=.ok vs.toArray w:=by
  have e:fn.results=fn.results.toList.toArray:=by simp
  rw[e,List.mapM_toArray,map_eq_pure_bind,Sem.run_bind,h1,Result.andThen_ok,Sem.run_pure]
 have e:results fn tmps=(do
  let vs <- fn.results.mapM (sD tmps)
  pure (if h:vs.size=1 then vs[0] else .tuple vs)):=by
  unfold results
  congr 1
 simp_all
def wb (E:Env):List (Ty×Md)->List ResultVar->Bool
 | [],[]=>true
 | _::rs,.tmp _::xs=>wb E rs xs
 | (t,_)::rs,.cell _ ty::xs=>(match E.TI ty with
  | some T=>decide (T=t)
  | none=>false)&&wb E rs xs
 | _,_=>false
theorem N6 (hE:jx P E) (h:Rel P C A X σ a w F) {rv:ResultVar} {t:Ty} (pQ:∀ b ty,rv=.cell b ty->E.TI ty=some t) {mv:Bool} {K:Md->t.den->St->Option R} (hk:ew σ (wM σ rv) mv t K=some x) :
  ∃ (tv:Value),(sD a.tmps rv).run P w=.ok tv w/\∃ (A':Cells) (σ':St) (F':Nat->FP) (m:Md) (v:t.den) (cs:List Value) (Fv:FP),K m v σ'=some x/\(∀ b i,A b i->A' b i)/\Rel P C A' (λb i=>X b i+Fv b i) σ' a w F'/\tv=aZ t cs/\af P w A' t m [] v cs Fv:=by
 cases rv with
 | tmp i=>
  rcases bE h (o:=.tmp i) rfl with hs | ⟨xs,e⟩
  rotate_left
  ·grind [wM,ew]
  obtain ⟨A',σ',F',m,v,cs,Fv,k1,k2,k3,k4,kr,k5,k6⟩:=kj h hs hk
  exact ⟨_,rfl,A',σ',F',m,v,cs,Fv,k1,k2,k3,k5,k6⟩
 | cell i ty=>
  have hT:=pQ i ty rfl
  have cI:=hE.ti _ _ hT
  simp only[wM] at hk
  split at hk
  ·rename_i t0 m0 H0 v0 hg
   have hi:i < σ.n:=by
    grind [ep]
   have hs:=h.cj i hi
   rw[hg] at hs
   obtain ⟨b,o,L,F1,s1,s2,s3,s4,s5,s6⟩:=hs
   have de:place σ a w i []=some ⟨t0,H0,L,some (b,o)⟩:=by
    grind [place,bl,bB,aC]
   have Aj:aW P A σ a w (aZ t0 L) (.ref i [] (σ.dJ i)) (λ_ _=>0):=⟨Below.refl _,λ_=>⟨_,de,rfl,.inr (h.ei i)⟩⟩
   have ht:t0=t:=by
    grind [ew,d7,aV]
   subst ht
   obtain ⟨A',σ',F',m,v,cs,Fv,k1,k2,k3,k4,kr,k5,k6⟩:=kj h Aj hk
   refine ⟨aZ t0 L,?_,A',σ',F',m,v,cs,Fv,k1,k2,k3,k5,k6⟩
   have e:a.tmps.getD i undef=.pointer (some ⟨b,o,none⟩):=s1
   grind [nN,af.one,sD,asAddr]
  grind [ew]
theorem MB (hE:jx P E) {ts:List Ty} {mv:Nat->Bool} {fin:St->((ba ts).den->Option R)->Option R}:∀ (rs:List (Ty×Md)) (ry:List ResultVar) (j:Nat) {σ:St} {A:Cells} {X:FP} {F:Nat->FP} {K:(ba (rs.map (·.1)++ts)).den->Option R},
  wb E rs ry=true->Rel P C A X σ a w F->Ek σ ts mv fin rs ry j K=some x ->
  ∃ (A':Cells) (σ':St) (X':FP) (F':Nat->FP) (sE:List Value) (L:List wE) (Fi:Nat->FP) (pre:(ba ts).den->(ba (rs.map (·.1)++ts)).den),(∀ b i,A b i->A' b i)/\Rel P C A' X' σ' a w F'/\fin σ' (λy=>K (pre y))=some x/\(∀ y,dU rs (pre y)=(L,y)) /\
   sE.length=L.length/\sE.length=ry.length/\(∀ (k:Nat) (y:ResultVar) (v:Value),ry[k]?=some y->sE[k]?=some v->(sD a.tmps y).run P w=.ok v w)/\(∀ b i,X b i+ao L.length Fi b i<=X' b i) /\
   ∀ A2:Cells,(∀ b i,A' b i->A2 b i)->(∀ b i,1<=X' b i->X b i=0->ao L.length Fi b i=0->A2 b i)->∀ k y,L[k]?=some y->∃ v cs,sE[k]?=some v/\v=aZ y.t cs/\af P w A2 y.t y.m [] y.v cs (Fi k):=by
 intro rs
 induction rs with
 | nil=>
  intro ry j σ A X F K J_ h hk
  cases ry with
  | nil=>exact ⟨A,σ,X,F,[],[],λ_ _ _=>0,id,λ_ _ h=>h,h,hk,λy=>rfl,rfl,rfl,(λk y v hy=>by cases hy),(λb i=>by simp[ao]),λA2 _ _ k y hy=>by cases hy⟩
  | cons _ _=>cases J_
 | cons p rs ih=>
  intro ry j σ A X F K J_ h hk
  obtain ⟨t,m⟩:=p
  cases ry with
  | nil=>cases hk
  | cons rv ry=>
   simp only[Ek] at hk
   have pQ:∀ b ty,rv=.cell b ty->E.TI ty=some t:=λb ty e=>by
    grind [wb]
   have Qa:wb E rs ry=true:=by
    cases rv <;> grind [wb]
   obtain ⟨tv,dD,A1,fT,F1,m1,v1,cs,Fv,k1,k2,k3,k4,k5⟩:=N6 hE h pQ hk
   split at k1
   ·rename_i hm
    obtain ⟨A',σ',X',F',sE,L,Fi,pre,g1,g2,g3,g4,g5,g6,g7,g8,g9⟩:=ih ry (j+1) Qa k3 k1
    have mA:∀ b i,X' b i<=1:=λb i=>by have:=g2.ge b i;omega
    have tQ:∃ G:FP,(∀ b i,G b i<=Fv b i)/\∀ A2:Cells,(∀ b i,A1 b i->A2 b i)->(∀ b i,1<=Fv b i->G b i=0->A2 b i)->af P w A2 t m [] v1 cs G:=by
     by_cases DJ:m1=m
     ·subst DJ
      exact ⟨Fv,λ_ _=>Nat.le_refl _,λA2 hA _=>af.mono hA (λ_ _ _ _ h=>h) (λ_ _ h=>h) t k5 (λ_ _=>Nat.le_refl _) (λ_ _ _ _ h=>h)⟩
     ·rcases hm with hm | hm
      ·grind
      ·exact af.fits t hm k5 (λb i=>by grind)
    obtain ⟨G,G1,G2⟩:=tQ
    have gH:∀ b i,ao (L.length+1) (λk=>match k with | 0=>G | k+1=>Fi k) b i=G b i+ao L.length Fi b i:=λb i=>by
     rw[Nat.add_comm,kG]
     congr 1
     ·simp[ao]
     grind
    refine ⟨A',σ',X',F',tv::sE,⟨t,m,v1⟩::L,λk=>match k with | 0=>G | k+1=>Fi k,λy=>(v1,pre y),λb i ha=>g1 b i (k2 b i ha),g2,g3,λy=>by grind [dU],by simp[g5],by simp[g6],λk y v hy hv=>?_,λb i=>?_,λA2 hA qD k y hy=>?_⟩
    ·grind
    ·grind
    ·have Qb:∀ b i,1<=X' b i->X b i=0->G b i+ao L.length Fi b i=0->A2 b i:=λb i h1 h2 h3=>qD b i h1 h2 (by grind)
     cases k with
     | zero=>
      grind
     | succ k=>
      refine g9 A2 hA (λb i h1 h2 h3=>Qb b i h1 (by omega) (by grind)) k y hy
   ·cases k1
theorem BG {l:List (Nat×Nat×Bool)} {i j:Nat} {c:Bool} (h:ru l i j c=true):(i,j,c) ∈ l:=by
 induction l <;> grind [ru,Nat.beq_eq]
def gm (F:Nat->FP):List Nat->FP
 | []=>λ_ _=>0
 | i::l=>λb k=>F i b k+gm F l b k
theorem sF (F:Nat->FP) (i:Nat) (G:FP) (b k:Nat):∀ (l:List Nat),i ∉ l->gm (bL F i G) l b k=gm F l b k
 | [],_=>rfl
 | j::l,hj=>by
  simp only[List.mem_cons,not_or] at hj
  simp only[gm,sF F i G b k l hj.2]
  rw[show bL F i G j=F j by grind [bL]]
theorem DK:∀ (l:List Nat) {n:Nat} (F:Nat->FP),l.Nodup->(∀ i ∈ l,i < n)->∀ b k,gm F l b k<=ao n F b k
 | [],n,F,_,_,b,k=>Nat.zero_le _
 | i::l,n,F,hn,hl,b,k=>by
  have JW:=List.nodup_cons.1 hn
  have h1:=DK l (bL F i λ_ _=>0) JW.2 (λj hj=>hl j (List.mem_cons_of_mem _ hj)) b k
  grind [sF,jM,gm]
theorem BH {F:Nat->FP} {b k:Nat}:∀ {l:List Nat},1<=gm F l b k->∃ i ∈ l,1<=F i b k
 | [],h=>by simp[gm] at h
 | i::l,h=>by
  simp only[gm] at h
  rcases Nat.eq_zero_or_pos (F i b k) with h0 | h0
  ·obtain ⟨j,hj,hp⟩:=BH (F:=F) (b:=b) (k:=k) (l:=l) (by omega)
   grind
  grind
def wc:List (PM×Ty)->Bool
 | []=>true
 | _::ps=>wc ps
theorem Le (h:Rel P C A X σ a w F):∀ (j:Nat) (ps:List (PM×Ty)) (es:List Nat) {K:(ba (dT ps)).den->Option R},wc ps=true->es.Nodup->j+ps.length<=C.args.size->mp σ j ps es K=some x ->
  ∃ (vs:(ba (dT ps)).den) (us:List Nat) (Gi:Nat->FP),K vs=some x/\(∀ i ∈ us,i ∈ es)/\us.Nodup/\(∀ i ∈ us,i < σ.n)/\(∀ i b k,i ∈ us->Gi i b k<=F i b k) /\
   ∀ A2:Cells,(∀ b k,A b k->A2 b k)->(∀ i b k,i ∈ us->1<=F i b k->Gi i b k=0->A2 b k)->gc P w A2 ps vs (C.args.toList.drop j) (gm Gi us):=by
 intro j ps
 induction ps generalizing j with
 | nil=>intro es K _ _ _ hk;exact ⟨(),[],λ_ _ _=>0,by cases es <;> exact hk,(λi hi=>by cases hi),List.nodup_nil,(λi hi=>by cases hi),(λi b k hi=>by cases hi),λ_ _ _=>trivial⟩
 | cons p ps ih=>
  intro es K hp kR hj hk
  obtain ⟨pm,t⟩:=p
  have pI:j+1+ps.length<=C.args.size:=by grind
  have Ka:(C.args.toList.drop j).tail=C.args.toList.drop (j+1):=by rw[List.tail_drop]
  have N7:(C.args.toList.drop j).head?=some (C.args.getD j undef):=by
   simp only[List.length_cons] at hj
   rw[List.head?_drop,Array.getElem?_toList,Array.getElem?_eq_getElem (by omega)]
   simp[show j < C.args.size by omega]
  have QQ:∀ i,i < σ.n->∀ b k,F i b k<=1:=λi hi b k=>by have:=h.ge b k;grind [a_]
  cases pm with
  | ro=>
   obtain ⟨vs,us,Gi,g1,g2,g3,g4,g5,g6⟩:=ih (j+1) es hp kR pI hk
   exact ⟨vs,us,Gi,g1,g2,g3,g4,g5,λA2 hA qD=>by grind [gc]⟩
  | fix f=>
   obtain ⟨vs,us,Gi,g1,g2,g3,g4,g5,g6⟩:=ih (j+1) es hp kR pI hk
   exact ⟨vs,us,Gi,g1,g2,g3,g4,g5,λA2 hA qD=>by grind [gc]⟩
  | iW f=>
   obtain ⟨vs,us,Gi,g1,g2,g3,g4,g5,g6⟩:=ih (j+1) es hp kR pI hk
   exact ⟨vs,us,Gi,g1,g2,g3,g4,g5,λA2 hA qD=>by grind [gc]⟩
  | fi f=>
   obtain ⟨vs,us,Gi,g1,g2,g3,g4,g5,g6⟩:=ih (j+1) es hp kR pI hk
   exact ⟨vs,us,Gi,g1,g2,g3,g4,g5,λA2 hA qD=>by grind [gc]⟩
  | dt m0 m=>
   cases es with
   | nil=>cases hk
   | cons i es=>
    have BI:=List.nodup_cons.1 kR
    simp only[mp] at hk
    split at hk
    ·rename_i t' m' H v hg
     split at hk
     ·rename_i hc
      simp only[Bool.and_eq_true,List.isEmpty_iff,Bool.or_eq_true,decide_eq_true_eq] at hc
      obtain ⟨⟨hH,hm⟩,si⟩:=hc
      subst hH
      obtain ⟨e,hk⟩:=aV hk
      subst e
      obtain ⟨vs,us,Gi,g1,g2,g3,g4,g5,g6⟩:=ih (j+1) es hp BI.2 pI hk
      have hi:i < σ.n:=by
       grind [ep]
      have hs:=h.cj i hi
      rw[hg] at hs
      obtain ⟨b,o,L,F1,s1,s2,s3,s4,s5,s6⟩:=hs
      have S_:=h.fN i j (BG si)
      have Kb:i ∉ us:=λhu=>BI.1 (g2 i hu)
      have tQ:∃ G:FP,(∀ b k,G b k<=F1 b k)/\∀ A2:Cells,(∀ b i,A b i->A2 b i)->(∀ b i,1<=F1 b i->G b i=0->A2 b i)->af P w A2 t' m [] v L G:=by
       rcases hm with hm | hm
       ·subst hm
        exact ⟨F1,λ_ _=>Nat.le_refl _,λA2 hA _=>af.mono hA (λ_ _ _ _ h=>h) (λ_ _ h=>h) t' s6 (λ_ _=>Nat.le_refl _) (λ_ _ _ _ h=>h)⟩
       ·exact af.fits t' hm s6 (λb' k=>by grind)
      obtain ⟨G,G1,G2⟩:=tQ
      refine ⟨(v,vs),i::us,bL Gi i λb' k=>bk b o t'.sz b' k+G b' k,g1,λi' kg=>?_,List.nodup_cons.2 ⟨Kb,g3⟩,λi' kg=>?_,λi' b' k kg=>?_,λA2 hA qD=>?_⟩
      ·grind
      ·grind
      ·by_cases Kc:i'=i
       ·grind [bL]
       ·simp only[bL,if_neg Kc]
        grind
      ·refine ⟨λb' k=>bk b o t'.sz b' k+G b' k,gm Gi us,λb' k=>?_,⟨b,o,L,G,by grind,s2,s3,λ_ _=>Nat.le_refl _,G2 A2 hA λb' k hp hz=>?_⟩,?_⟩
       ·grind [gm,sF,bL]
       ·grind [bL]
       ·rw[Ka]
        refine g6 A2 hA λi' b' k kg hp hz=>qD i' b' k (List.mem_cons_of_mem _ kg) hp ?_
        have ci:i'≠i:=λe=>by grind
        simp only[bL,if_neg ci];exact hz
     ·cases hk
    ·cases hk
  | fC m=>
   cases es with
   | nil=>cases hk
   | cons i es=>
    have BI:=List.nodup_cons.1 kR
    simp only[mp] at hk
    have main:∀ (t':Ty) (m':Md) (H:List Path) (v:t'.den),(σ.get i=.own t' m' H v\/σ.get i=.box t' m' H v)->(if H.isEmpty&&(decide (m'=m)||fits m' m)&&ru σ.aA i j true then cS t' t v λv=>mp σ (j+1) ps es λvs=>K (v,vs) else none)=some x ->
      ∃ (vs:(ba (dT ((PM.fC m,t)::ps))).den) (us:List Nat) (Gi:Nat->FP),K vs=some x/\(∀ i' ∈ us,i' ∈ i::es)/\us.Nodup/\(∀ i ∈ us,i < σ.n)/\(∀ i b k,i ∈ us->Gi i b k<=F i b k) /\
       ∀ A2:Cells,(∀ b k,A b k->A2 b k)->(∀ i b k,i ∈ us->1<=F i b k->Gi i b k=0->A2 b k)->gc P w A2 ((PM.fC m,t)::ps) vs (C.args.toList.drop j) (gm Gi us):=by
     intro t' m' H v hg hk
     split at hk
     ·rename_i hc
      simp only[Bool.and_eq_true,List.isEmpty_iff,Bool.or_eq_true,decide_eq_true_eq] at hc
      obtain ⟨⟨hH,hm⟩,si⟩:=hc
      subst hH
      obtain ⟨e,hk⟩:=aV hk
      subst e
      obtain ⟨vs,us,Gi,g1,g2,g3,g4,g5,g6⟩:=ih (j+1) es hp BI.2 pI hk
      have hi:i < σ.n:=by
       grind [ep]
      have hs:=h.cj i hi
      have cH:∃ (cs:List Value) (F1:FP),aZ t' cs=C.args.getD j undef/\(∀ b k,F1 b k<=F i b k)/\af P w A t' m' [] v cs F1:=by
       have hl:=h.e9 i j (BG si)
       rcases hg with hg | hg
       ·rw[hg] at hs hl
        obtain ⟨cs,h1,h2⟩:=hs
        have:=hl _ rfl
        grind [dB,af.length,af.one]
       ·rw[hg] at hs hl
        obtain ⟨b,o,L,F1,s1,s2,s3,s4,s5,s6⟩:=hs
        rw[s1] at hl
        have:=hl _ rfl
        grind [bB]
      obtain ⟨gU,F1,Qc,hF,s6⟩:=cH
      have Kb:i ∉ us:=λhu=>BI.1 (g2 i hu)
      have tQ:∃ G:FP,(∀ b k,G b k<=F1 b k)/\∀ A2:Cells,(∀ b i,A b i->A2 b i)->(∀ b i,1<=F1 b i->G b i=0->A2 b i)->af P w A2 t' m [] v gU G:=by
       rcases hm with hm | hm
       ·subst hm
        exact ⟨F1,λ_ _=>Nat.le_refl _,λA2 hA _=>af.mono hA (λ_ _ _ _ h=>h) (λ_ _ h=>h) t' s6 (λ_ _=>Nat.le_refl _) (λ_ _ _ _ h=>h)⟩
       ·exact af.fits t' hm s6 (λb' k=>by grind)
      obtain ⟨G,G1,G2⟩:=tQ
      refine ⟨(v,vs),i::us,bL Gi i G,g1,λi' kg=>?_,List.nodup_cons.2 ⟨Kb,g3⟩,λi' kg=>?_,λi' b' k kg=>?_,λA2 hA qD=>?_⟩
      ·grind
      ·grind
      ·by_cases Kc:i'=i
       ·subst Kc
        simp only[bL,if_true]
        grind
       ·simp only[bL,if_neg Kc]
        grind
      ·refine ⟨G,gm Gi us,λb' k=>?_,⟨gU,by rw[N7,Qc],G2 A2 hA λb' k hp hz=>?_⟩,?_⟩
       ·simp only[gm,sF Gi i _ b' k us Kb]
        simp only[bL,if_true];exact Nat.le_refl _
       ·refine qD i b' k List.mem_cons_self (by grind) ?_
        simp only[bL,if_true];exact hz
       ·rw[Ka]
        refine g6 A2 hA λi' b' k kg hp hz=>qD i' b' k (List.mem_cons_of_mem _ kg) hp ?_
        have ci:i'≠i:=λe=>by grind
        simp only[bL,if_neg ci];exact hz
     ·cases hk
    split at hk
    ·rename_i t' m' H v hg;exact main t' m' H v (.inl hg) hk
    ·rename_i t' m' H v hg;exact main t' m' H v (.inr hg) hk
    ·cases hk
end
end OT
set_option linter.unusedVariables false
set_option linter.unusedSimpArgs false
namespace OT
open Go
section
variable {P:Program} {w:World} {A:Cells} {R:Type} {x:R} {E:Env}
theorem lR:∀ (ps:List (PM×Ty)) (v:(ba (ps.map (·.2))).den),(cv ps v).length=ps.length
 | [],_=>rfl
 | (.ro,t)::ps,v=>by cases t <;> simp[cv,lR ps v.2]
 | (.fix f,t)::ps,v=>by cases t <;> simp[cv,lR ps v.2]
 | (.dt m m',t)::ps,v=>by simp[cv,lR ps v.2]
 | (.fC m,t)::ps,v=>by simp[cv,lR ps v.2]
 | (.iW m,t)::ps,v=>by simp[cv,lR ps v.2]
 | (.fi m,t)::ps,v=>by simp[cv,lR ps v.2]
theorem wd:∀ (ps:List (PM×Ty)) {v:(ba (ps.map (·.2))).den} {xs:List Value} {G:FP},gv P w A DE ps v xs G->xs.length=ps.length
 | [],_,_,_,h=>by have h:_=[]:=h;rw[h];rfl
 | (pm,t)::ps,_,_,_,h=>by
  obtain ⟨y,ys,F1,F2,rfl,_,_,h2⟩:=h
  simp[wd ps h2]
theorem Lf:∀ (ps:List (PM×Ty)) {v:(ba (ps.map (·.2))).den} {xs:List Value} {G:FP},gv P w A DE ps v xs G->wc ps=true ->
  ∃ Fi:Nat->FP,(∀ b k,ao ps.length Fi b k<=G b k)/\∀ i s,(cv ps v)[i]?=some s->∃ y,xs[i]?=some y/\(∀ σ a,aW P A σ a w y s (Fi i))/\(∀ t m H v,s=.box t m H v->(i,i,false) ∈ kF 0 ps) /\
   ((i,i,true) ∈ kF 0 ps->∃ t m H v,s=.own t m H v):=by
 have main:∀ (ps:List (PM×Ty)) (n:Nat) {v:(ba (ps.map (·.2))).den} {xs:List Value} {G:FP},gv P w A DE ps v xs G->wc ps=true ->
   ∃ Fi:Nat->FP,(∀ b k,ao ps.length Fi b k<=G b k)/\∀ i s,(cv ps v)[i]?=some s->∃ y,xs[i]?=some y/\(∀ σ a,aW P A σ a w y s (Fi i))/\(∀ t m H v,s=.box t m H v->(n+i,n+i,false) ∈ kF n ps) /\
    ((n+i,n+i,true) ∈ kF n ps->∃ t m H v,s=.own t m H v):=by
  have aE:∀ (ps:List (PM×Ty)) (n j k:Nat) (c:Bool),(j,k,c) ∈ kF n ps->n<=j/\j=k:=by
   intro ps
   induction ps with
   | nil=>intro n j k c h;cases h
   | cons p ps ih=>
    intro n j k c h
    obtain ⟨pm,t⟩:=p
    cases pm with
    | ro=>have:=ih (n+1) j k c h;omega
    | fix f=>have:=ih (n+1) j k c h;omega
    | fi m=>have:=ih (n+1) j k c h;omega
    | dt m m'=>
     rcases List.mem_cons.1 h with e | h
     all_goals grind
    | iW m=>
     rcases List.mem_cons.1 h with e | h
     all_goals grind
    | fC m=>
     rcases List.mem_cons.1 h with e | h
     all_goals grind
  intro ps
  induction ps with
  | nil=>intro n v xs G h _;exact ⟨λ_ _ _=>0,λb k=>Nat.zero_le _,λi s hs=>by cases hs⟩
  | cons p ps ih=>
   intro n v xs G h hp
   obtain ⟨pm,t⟩:=p
   obtain ⟨y,ys,F1,F2,rfl,hs,ha,hr⟩:=h
   have OF:wc ps=true:=hp
   obtain ⟨Fi,g1,g2⟩:=ih (n+1) hr OF
   obtain ⟨s0,RL,ID,LZ,cz⟩:∃ s0,cv ((pm,t)::ps) v=s0::cv ps v.2/\(∀ σ a,aW P A σ a w y s0 F1)/\(∀ t' m' H' v',s0=.box t' m' H' v'->∃ m,(∃ m',pm=.dt m m')\/pm=.iW m)/\((∃ m,pm=.fC m)->∃ t' m H v,s0=.own t' m H v):=by
    cases pm with
    | ro=>
     obtain ⟨cs,h1,h2⟩:=ha
     cases t with
     | ptr e=>
      refine ⟨.cp e v.1,rfl,λσ a=>?_,(λ_ _ _ _ e=>by cases e),λ⟨m,e⟩=>by cases e⟩
      have hl:=Ro.length _ h2
      match cs,hl with
      | [u],_=>
       rw[bp _ _ rfl] at h1
       subst h1
       exact h2
     | _=>exact ⟨.val _ v.1,rfl,λσ a=>⟨cs,h1,h2⟩,(λ_ _ _ _ e=>by cases e),λ⟨m,e⟩=>by cases e⟩
    | fix f=>
     obtain ⟨⟨cs,h1,h2⟩,h3⟩:=ha
     cases t with
     | fn=>
      refine ⟨.val .fn (f,v.1.2),rfl,λσ a=>⟨cs,h1,?_⟩,(λ_ _ _ _ e=>by cases e),λ⟨m,e⟩=>by cases e⟩
      grind
     | _=>exact ⟨.dead,rfl,λσ a=>trivial,(λ_ _ _ _ e=>by cases e),λ⟨m,e⟩=>by cases e⟩
    | dt m m'=>
     obtain ⟨b,o,L,F3,h1,h2,h3,h4,h5,h6⟩:=ha
     exact ⟨.box t m [] v.1,rfl,λσ a=>⟨b,o,L,F3,h1,h2,h3,h4,h5,h6⟩,λ_ _ _ _ _=>⟨m,.inl ⟨m',rfl⟩⟩,λ⟨m,e⟩=>by cases e⟩
    | iW m=>
     obtain ⟨b,o,L,F3,h1,h2,h3,h4,h5,h6⟩:=ha
     exact ⟨.box t m [] v.1,rfl,λσ a=>⟨b,o,L,F3,h1,h2,h3,h4,h5,h6⟩,λ_ _ _ _ _=>⟨m,.inr rfl⟩,λ⟨m,e⟩=>by cases e⟩
    | fC m=>
     obtain ⟨cs,h1,h2⟩:=ha
     exact ⟨.own t m [] v.1,rfl,λσ a=>⟨cs,h1,h2⟩,(λ_ _ _ _ e=>by cases e),λ_=>⟨_,_,_,_,rfl⟩⟩
    | fi m=>
     obtain ⟨H,cs,hH,h1,h2⟩:=ha
     obtain rfl:=List.isEmpty_iff.1 hH
     exact ⟨.own t m [] v.1,rfl,λσ a=>⟨cs,h1,h2⟩,(λ_ _ _ _ e=>by cases e),λ_=>⟨_,_,_,_,rfl⟩⟩
   refine ⟨λk=>match k with | 0=>F1 | k+1=>Fi k,λb k=>?_,λi s hi=>?_⟩
   ·have:ao (ps.length+1) (λk=>match k with | 0=>F1 | k+1=>Fi k) b k=F1 b k+ao ps.length Fi b k:=by
     rw[Nat.add_comm,kG]
     grind [ao]
    grind
   ·rw[RL] at hi
    cases i with
    | zero=>
     injection hi with hi
     subst hi
     refine ⟨y,rfl,ID,λt' m' H' v' e=>?_,λhm=>?_⟩
     ·obtain ⟨m,⟨_,rfl⟩ | rfl⟩:=LZ t' m' H' v' e
      ·exact List.mem_cons_self
      ·exact List.mem_cons_self
     ·refine cz ?_
      cases pm with
      | fC m=>exact ⟨m,rfl⟩
      | ro=>have:=aE ps (n+1) _ _ _ hm;omega
      | fix f=>have:=aE ps (n+1) _ _ _ hm;omega
      | fi m=>have:=aE ps (n+1) _ _ _ hm;omega
      | dt m m'=>
       rcases List.mem_cons.1 hm with e | hm
       all_goals grind
      | iW m=>
       rcases List.mem_cons.1 hm with e | hm
       all_goals grind
    | succ i=>
     obtain ⟨y',q1,q2,q3,q4⟩:=g2 i s hi
     have Qd:n+1+i=n+(i+1):=by omega
     rw[Qd] at q3 q4
     refine ⟨y',q1,q2,λt' m' H' v' e=>?_,λhm=>q4 ?_⟩
     ·have:=q3 t' m' H' v' e
      cases pm with
      | ro=>exact this
      | fix f=>exact this
      | fi m=>exact this
      | dt m m'=>exact List.mem_cons_of_mem _ this
      | iW m=>exact List.mem_cons_of_mem _ this
      | fC m=>exact List.mem_cons_of_mem _ this
     ·cases pm with
      | ro=>exact hm
      | fix f=>exact hm
      | fi m=>exact hm
      | dt m m'=>
       rcases List.mem_cons.1 hm with e | hm
       all_goals grind
      | iW m=>
       rcases List.mem_cons.1 hm with e | hm
       all_goals grind
      | fC m=>
       rcases List.mem_cons.1 hm with e | hm
       all_goals grind
 intro ps v xs G h hp
 obtain ⟨Fi,g1,g2⟩:=main ps 0 h hp
 exact ⟨Fi,g1,λi s hi=>by grind⟩
theorem BJ:∀ (ps:List (PM×Ty)) (n j k:Nat) (c:Bool),(j,k,c) ∈ kF n ps->n<=j/\j=k/\j < n+ps.length:=by
 intro ps
 induction ps with
 | nil=>intro n j k c h;cases h
 | cons p ps ih=>
  intro n j k c h
  obtain ⟨pm,t⟩:=p
  simp only[List.length_cons]
  cases pm with
  | ro=>have:=ih (n+1) j k c h;omega
  | fix f=>have:=ih (n+1) j k c h;omega
  | fi m=>have:=ih (n+1) j k c h;omega
  | dt m m'=>
   rcases List.mem_cons.1 h with e | h
   all_goals grind
  | iW m=>
   rcases List.mem_cons.1 h with e | h
   all_goals grind
  | fC m=>
   rcases List.mem_cons.1 h with e | h
   all_goals grind
theorem BK:∀ (ss:List Slot) (n i:Nat),fe (pB n ss) i=if n<=i then ss[i - n]? else none
 | [],n,i=>by simp[pB,fe]
 | s::ss,n,i=>by
  simp only[pB,fe,BK ss (n+1) i]
  by_cases hi:n=i
  ·simp_all
  grind [Nat.eq_of_beq_eq_true]
theorem IE {g:kE} {v:(ba (g.ps.map (·.2))).den} {xs:List Value} {F0:FP} {n:Nat} (h:gv P w A DE g.ps v xs F0) (hp:wc g.ps=true) (hn:g.ps.length<=n) (h1:∀ b i,F0 b i<=1) (h2:∀ b i,1<=F0 b i->¬ A b i) (h3:∀ b i,1<=F0 b i\/A b i->b < w.heap.size) (ES:oW P w F0) :
  ∃ F,bn P { w0:=w,A0:=A,F0:=F0,args:=xs.toArray } A (rx g.ps v n) { tmps:=xs.toArray++Array.replicate (n - xs.toArray.size) undef,defers:=[] } w F:=by
 obtain ⟨Fi,g1,g2⟩:=Lf g.ps h hp
 have hlen:=wd g.ps h
 have Bl:=lR g.ps v
 have nz:∀ i,(rx g.ps v n).get i=if i < n then (match (cv g.ps v)[i]? with | some s=>s | none=>.dead) else .dead:=λi=>by
  grind [St.get,rx,BK,Nat.blt_eq]
 have Qe:∀ i (y:Value),xs[i]?=some y->tmp { tmps:=xs.toArray++Array.replicate (n - xs.toArray.size) undef,defers:=[] } i=y:=λi y hy=>by
  have hi:=(List.getElem?_eq_some_iff.1 hy).1
  simp_all [tmp,Array.getElem?_append_left]
 have gH:∀ b k,ao n (λi=>if i < g.ps.length then Fi i else λ_ _=>0) b k<=F0 b k:=λb k=>by
  have e:n=g.ps.length+(n - g.ps.length):=by omega
  rw[e,kG]
  have e1:=congrFun (congrFun (mq (n:=g.ps.length) (f:=λi=>if i < g.ps.length then Fi i else λ_ _=>0) (g:=Fi) (λj hj=>by grind)) b) k
  grind [eH]
 refine ⟨λi=>if i < g.ps.length then Fi i else λ_ _=>0,?_,rfl,λi hi=>?_,(λd r p snap hm=>by cases hm),λb k=>?_,λb k hp=>?_,λb k hp=>?_,λi=>rfl,Ext.refl _ _,λb k hp=>?_,λ_ _ h=>h,λ_ _ h=>.inl h,λj k hm=>?_,λr t m H v' hg hl=>?_,λj k hm R hR=>?_,ES⟩
 ·grind [rx]
 ·rw[nz]
  have hi:i < n:=hi
  rw[if_pos hi]
  cases hs:(cv g.ps v)[i]? with
  | none=>trivial
  | some s=>
   grind
 ·have:=gH b k;have:=h1 b k;show 0+ao n _ b k<=1;omega
 ·have hp:1<=0+ao n (λi=>if i < g.ps.length then Fi i else λ_ _=>0) b k:=hp
  grind
 ·refine h3 b k (hp.imp (λhp=>?_) id)
  have hp:1<=0+ao n (λi=>if i < g.ps.length then Fi i else λ_ _=>0) b k:=hp
  grind
 ·have hp:1<=0+ao n (λi=>if i < g.ps.length then Fi i else λ_ _=>0) b k:=hp
  grind
 ·obtain ⟨_,rfl,hj⟩:=BJ g.ps 0 j k false hm
  simp_all
 ·exfalso
  rw[nz] at hg
  split at hg
  ·cases hs:(cv g.ps v)[r]? with
   | none=>grind
   | some s=>
    rw[hs] at hg
    obtain ⟨y,_,_,q3,_⟩:=g2 r s hs
    exact hl r (q3 t m H v' hg)
  ·cases hg
 ·obtain ⟨_,rfl,hj⟩:=BJ g.ps 0 j k true hm
  have pI:j < (cv g.ps v).length:=by omega
  have hs:=List.getElem?_eq_getElem pI
  obtain ⟨y,q1,q2,_,q4⟩:=g2 j _ hs
  obtain ⟨t,m,H,v',e⟩:=q4 hm
  have Kd:j < n:=by omega
  rw[nz,if_pos Kd,hs] at hR
  simp only[e,bl,Option.some.injEq] at hR
  subst hR
  rw[Qe j y q1]
  have h2:=q2 (rx g.ps v n) { tmps:=#[],defers:=[] }
  rw[e] at h2
  obtain ⟨cs,c1,c2⟩:=h2
  have:=dB (af.length _ c2) (af.one _ c2)
  simp_all
noncomputable def Ap (P:Program) (E:Env) (fn:Func) (ps:List (PM×Ty)) (rs:List (Ty×Md)) (es:List Nat):Bool:=
 codeOk P E (tA fn)&&wb E rs fn.results.toList&&wc ps&&Nat.ble ps.length fn.ntmps&&decide es.Nodup
theorem Ac (hE:jx P E) {f:FuncId} {fn:Func} (hf:P.funcs[f]?=some fn) (hb:fn.body.isSome=true) {g:kE} (hh:∀ v H,g.vd v H=true->H=[]) {es fr:List Nat} (ap:Ap P E fn g.ps g.rs es=true) (hF:∀ v out,g.F v=some out->∃ k,Ai E k fn g.ps g.rs es fr v=some out):Sound P f g:=by
 intro w A F0 v xs eQ h1 h2 h3 ES out iS
 replace eQ:=eQ.none (hh v)
 obtain ⟨k,hk⟩:=hF v out iS
 simp only[Ap,Bool.and_eq_true,Nat.ble_eq,decide_eq_true_eq] at ap
 obtain ⟨⟨⟨⟨Ke,J_⟩,mF⟩,JO⟩,kR⟩:=ap
 obtain ⟨c,hc⟩:=Option.isSome_iff_exists.1 hb
 have O_:tA fn=c:=by simp[tA,hc]
 rw[O_] at Ke
 obtain ⟨F,ID⟩:=IE eQ mF JO h1 h2 h3 ES
 unfold Ai at hk
 rw[O_] at hk
 have Pa:=wd g.ps eQ
 have MC:∀ (a':Act) (w':World) (σ':St),AN g.ps g.rs es fn.results.toList (JC fr) σ'=some out->tM P { w0:=w,A0:=A,F0:=F0,args:=xs.toArray } σ' a' w' ->
   a'.defers=[]/\∃ rv,(results fn a'.tmps).run P w'=.ok rv w'/\(∃ G9,Ending.returned rv=.returned G9/\Ext w w' F0/\∃ (A':Cells) (G GR GM:FP),(∀ b i,A b i->A' b i)/\(∀ b i,A' b i->A b i\/1<=F0 b i\/w.heap.size<=b) /\
    (∀ b i,1<=G b i->1<=F0 b i\/w.heap.size<=b)/\(∀ b i,G b i<=1)/\(∀ b i,1<=G b i->¬ A' b i)/\(∀ b i,1<=G b i\/A' b i->b < w'.heap.size)/\(∀ b i,GR b i+GM b i<=G b i) /\
    fl P w' A' (dU g.rs out).1 G9 GR/\gc P w' A' g.ps (dU g.rs out).2 xs GM):=by
  intro a' w' σ' ho hr
  obtain ⟨A1,F1,hr⟩:=hr
  unfold AN at ho
  obtain ⟨A2,ez,X2,F2,sE,L,Fi,pre,r1,r2,r3,r4,r5,r6,r7,r8,r9⟩:=MB hE g.rs fn.results.toList 0 J_ hr ho
  obtain ⟨vs,us,Gi,m1,m2,m3,m4,m5,m6⟩:=Le r2 0 g.ps es mF kR (by simp[Pa]) r3
  have Qf:pre vs=out:=Option.some.inj m1
  have i7:dU g.rs out=(L,vs):=by rw[<-Qf,r4]
  have TS:∀ b i,ao L.length Fi b i<=X2 b i:=λb i=>by grind
  have Qg:∀ b i,gm Gi us b i<=gm F2 us b i:=λb i=>by
   have:∀ l:List Nat,(∀ j ∈ l,j ∈ us)->gm Gi l b i<=gm F2 l b i:=by
    intro l
    induction l <;> grind [gm]
   grind
  have TT:∀ b i,gm Gi us b i<=ao ez.n F2 b i:=λb i=>Nat.le_trans (Qg b i) (DK us F2 m3 m4 b i)
  refine ⟨r2.defers,_,CQ (by rw[r6]) r7,_,rfl,r2.ext,?_⟩
  obtain ⟨A3,iy⟩:∃ A3:Cells,∀ b i,A3 b i↔(A2 b i\/(1<=X2 b i+ao ez.n F2 b i/\ao L.length Fi b i+gm Gi us b i=0)):=⟨λb i=>A2 b i\/(1<=X2 b i+ao ez.n F2 b i/\ao L.length Fi b i+gm Gi us b i=0),λ_ _=>Iff.rfl⟩
  have MD:∀ b i,A2 b i->A3 b i:=λb i h=>(iy b i).2 (.inl h)
  have mA:∀ b i,X2 b i+ao ez.n F2 b i<=1:=λb i=>r2.ge b i
  refine ⟨A3,λb i=>ao L.length Fi b i+gm Gi us b i,ao L.length Fi,gm Gi us,λb i ha=>MD b i (r2.a0 b i ha),λb i ha=>?_,λb i hp=>?_,λb i=>?_,λb i hp ha=>?_,λb i hp=>?_,λ_ _=>Nat.le_refl _,?_,?_⟩
  ·rcases (iy b i).1 ha with ha | ⟨hp,_⟩
   ·exact r2.J b i ha
   ·exact .inr (r2.own b i hp)
  ·have hp:1<=ao L.length Fi b i+gm Gi us b i:=hp
   exact r2.own b i (by grind)
  ·grind
  ·have hp:1<=ao L.length Fi b i+gm Gi us b i:=hp
   rcases (iy b i).1 ha with ha | ⟨_,hz⟩
   ·exact r2.gI b i (by grind) ha
   ·omega
  ·rcases hp with hp | ha
   ·have hp:1<=ao L.length Fi b i+gm Gi us b i:=hp
    exact r2.dC b i (.inl (by grind))
   ·rcases (iy b i).1 ha with ha | ⟨hp,_⟩
    ·exact r2.dC b i (.inr ha)
    ·exact r2.dC b i (.inl hp)
  ·rw[i7]
   have ET:=r9 A3 MD (λb i hx _ hz=>(iy b i).2 (.inr ⟨by omega,by
    grind⟩))
   show fl P w' A3 L _ _
   match L,r5,ET with
   | [],_,_=>trivial
   | [y],hl,ET=>
    match sE,hl with
    | [u],_=>
     obtain ⟨u',cs,e1,e2,e3⟩:=ET 0 y rfl
     injection e1 with e1
     subst e1
     refine ⟨cs,by simpa using e2,e3.le λb i=>by simp[ao]⟩
   | y::z::L,hl,ET=>
    refine ⟨sE.toArray,Fi,?_,λ_ _=>Nat.le_refl _,λj q hq=>?_⟩
    all_goals grind
  grind [a_,BH,jN]
 refine calls_of_wp hf hc (wp_mono (Ld hE c Ke ID hk) λe a' w' hq=>?_)
 cases e with
 | normal=>obtain ⟨σ',h4,h5⟩:=hq;exact MC a' w' σ' h4 h5
 | ret=>obtain ⟨σ',h4,h5⟩:=hq;exact MC a' w' σ' h4 h5
 | exit j=>obtain ⟨σ',h4,h5⟩:=hq;cases h4
 | _=>exact hq.elim
end
end OT
set_option linter.unusedVariables false
set_option linter.unusedSimpArgs false
namespace OT
open Go
def BL (w:World):Cells:=λb _=>b < w.heap.size
def rf:Ty->Bool
 | .int _ | .bool | .str | .unit=>true
 | .pair a b=>rf a&&rf b
 | .aa e=>rf e
 | _=>false
def zA:(T:Ty)->T.den->Prop
 | .int k,n=>k.min<=gd k n/\gd k n<=k.max
 | .str,s=>List.length s<=maxLen
 | .pair a b,v=>zA a v.1/\zA b v.2
 | .aa e,v=>List.length v<=maxLen/\∀ x ∈ (v:List e.den),zA e x
 | _,_=>True
def G_:(ps:List (PM×Ty))->(ba (ps.map (·.2))).den->Prop
 | [],_=>True
 | (_,T)::ps,v=>zA T v.1/\G_ ps v.2
section
variable {P:Program} {w:World} {H:Type} {enc:TypeId×Value->H}
theorem we {T:Ty} {i:TypeId} (h:aq P T (.inl i)=true):P.cellsOf i=T.sz:=by
 obtain ⟨inf,h1,h2,_⟩:=dM (ej h)
 grind [Program.cellsOf]
theorem IF {a:Addr} {k:Nat} {u:Value} (h:w.cell? (a.add k)=some u) (hk:k=0\/a.spot=none):a.spot=none:=by
 rcases hk with rfl | hk
 ·unfold Addr.add at h
  rw[if_pos rfl] at h
  unfold World.cell? at h
  split at h
  all_goals simp_all
 ·exact hk
theorem Lg:∀ (T:Ty),rf T=true ->
  (∀ i,aq P T (.inl i)=true->∀ fuel cs x,DataW.trod enc P w 0 (λ_=>true) true fuel i cs=some x->∃ v:T.den,zA T v/\Ro P w (BL w) T v cs) /\
  (∀ fs off,aq P T (.inr (fs,off))=true->∀ n (cs:List Value),cs.length=off+T.sz->(∀ f ∈ fs,∃ x,DataW.trod enc P w 0 (λ_=>true) true n f.type ((cs.drop f.offset).take (P.cellsOf f.type))=some x)->∃ v:T.den,zA T v/\Ro P w (BL w) T v (cs.drop off)):=by
 intro T
 induction T with
 | int k=>
  intro _
  refine ⟨λi hl fuel cs x h=>?_,λfs off hl=>by simp[aq] at hl⟩
  obtain ⟨n,rfl,_,Kg⟩:=DataW.trod_int (gT hl) h
  simp only[Lit.wf,Bool.and_eq_true,decide_eq_true_eq] at Kg
  cases k with
  | u8=>
   have h1:gd .u8 (UInt8.ofInt n)=n:=by
    have:=yz .u8 n (λ_=>by
     have h1:(0:Int)<=n:=Kg.1
     have h2:n<=(255:Int):=Kg.2
     omega)
    exact this
   refine ⟨(UInt8.ofInt n:UInt8),?_,?_⟩
   ·show IntKind.u8.min<=gd .u8 (UInt8.ofInt n)/\gd .u8 (UInt8.ofInt n)<=IntKind.u8.max
    grind
   ·show [Value.int .u8 n]=[Value.int .u8 (gd .u8 (UInt8.ofInt n))]
    rw[h1]
  | _=>exact ⟨n,Kg,rfl⟩
 | bool=>
  intro _
  refine ⟨λi hl fuel cs x h=>?_,λfs off hl=>by simp[aq] at hl⟩
  have hu:P.underlying i=some .bool:=by
   grind [aq]
  obtain ⟨b,rfl,_⟩:=DataW.trod_bool hu h
  exact ⟨b,trivial,rfl⟩
 | str=>
  intro _
  refine ⟨λi hl fuel cs x h=>?_,λfs off hl=>by simp[aq] at hl⟩
  obtain ⟨s,rfl,_,mN⟩:=DataW.trod_string (eP hl) h
  exact ⟨s.data.toList,(by show s.data.toList.length<=maxLen;simp_all),by simp only[Ro]⟩
 | unit=>
  intro _
  refine ⟨λi hl fuel cs x h=>?_,λfs off hl n cs hlen _=>⟨(),trivial,?_⟩⟩
  ·simp only[aq,Bool.and_eq_true] at hl
   have h2:=hl.2
   split at h2
   ·rename_i fs hu
    obtain ⟨xs,n,_,_,hlen,_⟩:=DataW.trod_struct hu h
    have fk:P.cellsOf i=0:=by
     grind [dM,Program.cellsOf,Ty.sz]
    rw[fk] at hlen
    exact ⟨(),trivial,by grind [Ro]⟩
   ·cases h2
  grind [Ro,List.drop_of_length_le,Ty.sz]
 | pair a b eI ey=>
  intro ha
  simp only[rf,Bool.and_eq_true] at ha
  have ME:∀ fs off,aq P (.pair a b) (.inr (fs,off))=true->∀ n (cs:List Value),cs.length=off+(Ty.pair a b).sz->(∀ f ∈ fs,∃ x,DataW.trod enc P w 0 (λ_=>true) true n f.type ((cs.drop f.offset).take (P.cellsOf f.type))=some x)->∃ v:(Ty.pair a b).den,zA (.pair a b) v/\Ro P w (BL w) (.pair a b) v (cs.drop off):=by
   intro fs off hl n cs hlen hf
   cases fs with
   | nil=>simp[aq] at hl
   | cons f r=>
    simp only[aq,Bool.and_eq_true,Nat.beq_eq,Nat.ble_eq] at hl
    obtain ⟨⟨⟨ho,_⟩,h1⟩,h2⟩:=hl
    simp only[Ty.sz] at hlen
    obtain ⟨x,hx⟩:=hf f List.mem_cons_self
    rw[ho,we h1] at hx
    obtain ⟨v1,o1,r1⟩:=(eI ha.1).1 _ h1 _ _ _ hx
    obtain ⟨v2,o2,r2⟩:=(ey ha.2).2 r (off+a.sz) h2 n cs (by omega) (λf' Kh=>hf f' (List.mem_cons_of_mem _ Kh))
    exact ⟨(v1,v2),⟨o1,o2⟩,r1,by simp_all⟩
  refine ⟨λi hl fuel cs x h=>?_,ME⟩
  have OS:=hl
  simp only[aq,Bool.and_eq_true] at hl
  have h2:=hl.2
  split at h2
  ·rename_i fs hu
   split at h2
   ·rename_i f r wY
    have h3:aq P (.pair a b) (.inr (f::r,0))=true:=by
     grind [aq]
    obtain ⟨xs,n,_,_,hlen,Pa,Lh⟩:=DataW.trod_struct hu h
    rw[we OS] at hlen
    have:=ME (f::r) 0 h3 n cs (by omega) (λf' Kh=>by
     rw[<-wY] at Kh
     obtain ⟨j,hj,e⟩:=List.mem_iff_getElem.1 Kh
     have pI:j < fs.size:=by simpa using hj
     have:=Lh j f' (by grind)
     grind)
    simpa using this
   ·cases h2
  ·cases h2
 | aa e ih=>
  intro ha
  simp only[rf] at ha
  refine ⟨λi hl fuel cs x h=>?_,λfs off hl=>by simp[aq] at hl⟩
  obtain ⟨el,hu,fk,hle⟩:=kx hl
  rcases DataW.trod_slice hu h with ⟨rfl,_⟩ | ⟨a,len,cap,elems,rest,n,_,rfl,_,_,ON,Pb,jE,IG,fO,_⟩
  ·exact ⟨[],⟨Nat.zero_le _,λx hx=>by cases hx⟩,none,0,rfl,Nat.le_refl _,λ_=>rfl,λad e=>by cases e⟩
  ·rw[we hle] at IG fO
   have mH:∀ k y,(w.cells? 0 (a.add (k*e.sz)) e.sz).bind (DataW.trod enc P w 0 (λ_=>true) true n el)=some y->∃ aJ,w.cells? 0 (a.add (k*e.sz)) e.sz=some aJ/\DataW.trod enc P w 0 (λ_=>true) true n el aJ=some y:=λk y hk=>by
    cases hc:w.cells? 0 (a.add (k*e.sz)) e.sz <;> grind
   have Ki:0 < cap->a.spot=none:=λvV=>by
    have Bk:∃ aJ,w.cells? 0 (a.add (0*e.sz)) e.sz=some aJ:=by
     by_cases hlen:0 < len
     ·have h0:=IG 0 hlen
      rw[List.getElem?_eq_getElem (by omega)] at h0
      obtain ⟨aJ,h1,_⟩:=mH 0 _ h0
      grind
     ·obtain rfl:len=0:=by omega
      obtain ⟨oQ,oc⟩:=fO rfl
      have h0:=oc 0 (by omega)
      rw[List.getElem?_eq_getElem (by omega)] at h0
      obtain ⟨aJ,h1,_⟩:=mH (0+0) _ h0
      grind
    obtain ⟨aJ,h1⟩:=Bk
    obtain ⟨_,nt,h2⟩:=World.cells?_some h1
    grind [Addr.add,IF]
   have each:∀ k:Fin len,∃ v:e.den,zA e v/\∃ L:List Value,L.length=e.sz/\(∀ j u,L[j]?=some u->ce w a.block (a.off+k.val*e.sz+j)=some u/\BL w a.block (a.off+k.val*e.sz+j))/\Ro P w (BL w) e v L:=λk=>by
    have h0:=IG k.val k.isLt
    rw[List.getElem?_eq_getElem (by grind)] at h0
    obtain ⟨aJ,h1,h2⟩:=mH k.val _ h0
    obtain ⟨v,ho,hv⟩:=(ih ha).1 _ hle _ _ _ h2
    obtain ⟨_,nt,h3⟩:=World.cells?_some h1
    refine ⟨v,ho,aJ,nt,λj u hu=>?_,hv⟩
    have hj:=(List.getElem?_eq_some_iff.1 hu).1
    have h4:=h3 j (by omega)
    rw[hu] at h4
    have i7:=Ki (by grind)
    obtain ⟨b,off,sp⟩:=a
    simp only at i7
    subst i7
    rw[g0,g0] at h4
    have h5:ce w b (off+k.val*e.sz+j)=some u:=yn h4 (Ro.one e hv u (List.mem_of_getElem? hu))
    exact ⟨h5,lJ h5⟩
   obtain ⟨f,hf⟩:=Classical.axiomOfChoice each
   refine ⟨List.ofFn f,⟨by simp;omega,λx hx=>?_⟩,some a,cap,by simp,by simpa using ON,(λe=>by cases e),λad e=>?_⟩
   ·grind
   injection e with e
   subst e
   refine ⟨Ki,λk y hk=>?_⟩
   rw[List.getElem?_ofFn] at hk
   split at hk
   ·rename_i aE
    injection hk with hk
    subst hk
    exact (hf ⟨k,aE⟩).2
   ·cases hk
 | _=>grind [rf]
theorem arg_val {T:Ty} (ha:rf T=true) {i:TypeId} (hl:aq P T (.inl i)=true) {r:Reach} {b0:Nat} {v:Value} (h:Value.okWide P w r b0 i v):v=aZ T v.cells.toList:=by
 cases T with
 | int k=>
  have hu:=gT hl
  cases v <;> simp[Value.okWide,Cell.okWide,Cell.ok,hu] at h <;> simp[aZ,isAgg,Value.cells]
 | bool=>
  have hu:P.underlying i=some .bool:=by
   grind [aq]
  cases v <;> simp[Value.okWide,Cell.okWide,Cell.ok,hu] at h <;> simp[aZ,isAgg,Value.cells]
 | str=>
  have hu:=eP hl
  cases v <;> simp[Value.okWide,Cell.okWide,Cell.ok,hu] at h <;> simp[aZ,isAgg,Value.cells]
 | aa e=>
  obtain ⟨el,hu,_⟩:=kx hl
  cases v <;> simp[Value.okWide,Cell.okWide,Cell.ok,hu] at h <;> simp[aZ,isAgg,Value.cells]
 | unit=>
  simp only[aq,Bool.and_eq_true] at hl
  have h2:=hl.2
  split at h2
  ·rename_i fs hu
   simp only[Value.okWide,hu] at h
   obtain ⟨cs,rfl,_⟩:=h
   simp[aZ,isAgg,Value.cells]
  ·cases h2
 | pair a b=>
  simp only[aq,Bool.and_eq_true] at hl
  have h2:=hl.2
  split at h2
  ·rename_i fs hu
   simp only[Value.okWide,hu] at h
   obtain ⟨cs,rfl,_⟩:=h
   simp[aZ,isAgg,Value.cells]
  ·cases h2
 | _=>simp[rf] at ha
def qE (P:Program):List (PM×Ty)->List TypeId->Bool
 | [],[]=>true
 | (.ro,T)::ps,t::ts=>rf T&&aq P T (.inl t)&&P.readableRec t&&Nat.blt t P.types.size&&qE P ps ts
 | _,_=>false
theorem DL:∀ (ps:List (PM×Ty)) (ts:List TypeId) (args:List Value) (ds:List (DataW H)) (p:List MemPlace) {b0:Nat},qE P ps ts=true->DataW.TrodAll enc P w 0 (λ_=>true) true ts args ds p ->
  (∀ (j:Nat) t v,ts[j]?=some t->args[j]?=some v->Value.okWide P w .any b0 t v)->∃ v,G_ ps v/\gv P w (BL w) DE ps v args (λ_ _=>0)
 | [],[],args,ds,p,b0,_,h,_=>by
  cases args with
  | nil=>exact ⟨(),trivial,rfl⟩
  | cons _ _=>simp[DataW.TrodAll] at h
 | (.ro,T)::ps,t::ts,args,ds,p,b0,hl,h,ap=>by
  simp only[qE,Bool.and_eq_true] at hl
  cases args with
  | nil=>simp[DataW.TrodAll] at h
  | cons v args=>
   cases ds with
   | nil=>simp[DataW.TrodAll] at h
   | cons d ds=>
    obtain ⟨p1,q1,⟨fuel,h1⟩,h2,_⟩:=h
    obtain ⟨x,RM,hx⟩:=(Lg T hl.1.1.1.1).1 t hl.1.1.1.2 _ _ _ h1
    obtain ⟨xs,Qh,RN⟩:=DL ps ts args ds q1 (b0:=b0) hl.2 h2 (λj t' v' ht hv=>ap (j+1) t' v' ht hv)
    exact ⟨(x,xs),⟨RM,Qh⟩,v,args,λ_ _=>0,λ_ _=>0,rfl,λ_ _=>Nat.le_refl _,⟨_,arg_val hl.1.1.1.1 hl.1.1.1.2 (ap 0 t v rfl rfl),hx⟩,RN⟩
theorem zB (A6:laidOutB P=true) {W W':World} (hb:RowKit.Below W.heap.size W W') {sp:Nat->Bool}:∀ (ps:List (PM×Ty)) (ts:List TypeId) (args:List Value) (ds:List (DataW H)) (p:List MemPlace),qE P ps ts=true->DataW.TrodAll enc P W 0 (λ_=>true) true ts args ds p ->
  (∀ x ∈ p,x.block < W.heap.size)->(∀ x ∈ p,sp x.block=true)->DataW.TrodAll enc P W' 0 sp true ts args ds p
 | [],[],args,ds,p,_,h,_,_=>by
  grind [DataW.TrodAll]
 | (.ro,T)::ps,t::ts,args,ds,p,hl,h,aE,i7=>by
  simp only[qE,Bool.and_eq_true] at hl
  cases args with
  | nil=>simp[DataW.TrodAll] at h
  | cons v args=>
   cases ds with
   | nil=>simp[DataW.TrodAll] at h
   | cons d ds=>
    obtain ⟨p1,q1,h1,h2,rfl⟩:=h
    have ht:t < P.types.size:=by simp_all
    exact ⟨p1,q1,WideElems.Trod_stays A6 hl.1.1.2 ht h1 (λx hx=>hb.same (aE x (List.mem_append_left _ hx))) (λx hx=>i7 x (List.mem_append_left _ hx)),
     zB A6 hb ps ts args ds q1 hl.2 h2 (λx hx=>aE x (List.mem_append_right _ hx)) (λx hx=>i7 x (List.mem_append_right _ hx)),rfl⟩
theorem Ha {f:FuncId} {cap:Bool} {ps:List (PM×Ty)} {Fn:(ba (ps.map (·.2))).den->Option (ba ([((Ty.bool,ah .bool):Ty×Md)].map (·.1)++dT ps)).den} (hs:Sound P f { cap:=cap,ps:=ps,rs:=[(.bool,ah .bool)],F:=Fn }) (EU:∀ v,G_ ps v->∃ u,Fn v=some (true,u))
  {ts:List TypeId} (hl:qE P ps ts=true) {args:List Value} {ds:List (DataW H)} {p:List MemPlace} (hA:DataW.TrodAll enc P w 0 (λ_=>true) true ts args ds p) {b0:Nat} (ap:∀ (j:Nat) t v,ts[j]?=some t->args[j]?=some v->Value.okWide P w .any b0 t v) (ht:oW P w λ_ _=>0) :
  Calls P f args.toArray w λe W'=>e=.returned (.bool true)/\RowKit.Below w.heap.size w W':=by
 obtain ⟨v,RP,hv⟩:=DL ps ts args ds p hl hA ap
 obtain ⟨u,hu⟩:=EU v RP
 refine (hs w (BL w) (λ_ _=>0) v args hv (λ_ _=>Nat.zero_le _) (λb i h=>by omega) (λb i h=>?_) ht _ hu).mono λe W' h=>?_
 ·rcases h with h | h
  ·omega
  ·exact h
 ·obtain ⟨rv,rfl,bH,A',G,GR,GM,_,_,_,_,_,_,_,lB,_⟩:=h
  obtain ⟨cs,h1,h2⟩:=lB
  simp only[dU] at h1 h2
  have h2:cs=[.bool true]:=h2
  subst h2
  exact ⟨by rw[h1];rfl,bH.os,bH.tape,bH.output,bH.size,λb hb=>bH.obj b hb λ_=>rfl⟩
theorem IH {C:Checked} {f:Func} {s:ChangeSpec} {W W':World} {args:Array Value} {ds:List (DataW H)} {p:List MemPlace} {apart fresh handsOn:Bool} (A6:laidOutB P=true) {ps:List (PM×Ty)} {ts:List TypeId} (TU:f.params.toList=ts) (hl:qE P ps ts=true) {tb:TypeId} (hr:f.resultTypes=#[tb]) (hu:P.underlying tb=some .bool)
  (N8:s.vars=[]) (hW:DataW.Whole enc P f.params.toList s.vars apart W args.toList ds [] p) (hA:DataW.TrodAll enc P W 0 (λ_=>true) true ts args.toList ds p) (Pc:s.fn H (ds++[])={ results:=[.lit (.bool true)],args:=ds }) (hb:RowKit.Below W.heap.size W W') :
  s.post enc P f apart fresh handsOn false W args (.bool true) W':=by
 have aE:∀ x ∈ p,x.block < W.heap.size:=λx hx=>by simpa using hW.lt x hx
 refine ⟨ds,[],p,[],p,[],hW,?_,?_,?_,World.keptBut_mono (λx hx=>⟨hx,.inr (.inl hx)⟩) (hb.frame (· ∈ p)),λe=>by cases e⟩
 ·rw[Pc,hr]
  exact ⟨[],[],RowKit.shut_bool hu true,rfl,rfl⟩
 ·grind [zB]
 ·rw[Pc,N8]
  rfl
end
end OT
namespace OT
open Go
def EV (P:Program) (l:List (Nat×Ty)):Bool:=l.all λp=>aq P p.2 (.inl p.1)
def Aq (P:Program) (l:List (Nat×Ty)):Bool:=l.all λp=>!(p.2.fA&&isAgg p.2)||(iN P p.2 (.inl p.1)&&(P.eqGuardType P.depth p.1 == false)&&Nat.ble (dep p.2) 10000)
theorem wg {α:Type}:∀ {l:List (Nat×α)} {i:Nat} {x:α},fe l i=some x->(i,x) ∈ l
 | (k,y)::l,i,x,h=>by
  simp only[fe] at h
  split at h
  ·simp_all
  ·exact List.mem_cons_of_mem _ (wg h)
def tZ (P:Program) (l:List (Nat×kE)):Prop:=∀ f g,fe l f=some g->Sound P f g/\l5 P f g.cap
theorem an (P:Program):tZ P []:=λf g h=>by cases h
theorem Li {P:Program} {f:Nat} {g:kE} {l:List (Nat×kE)} (h1:Sound P f g) (h2:l5 P f g.cap) (h3:tZ P l):tZ P ((f,g)::l):=λf' g' h=>by
 simp only[fe] at h
 split at h
 ·simp_all
 ·exact h3 f' g' h
theorem MF {P:Program} {E:Env} {tl:List (Nat×Ty)} {gl:List (Nat×kE)} (h1:E.TI=fe tl) (h2:E.G=fe gl) (h3:EV P tl=true) (h4:Aq P tl=true) (h5:tZ P gl):jx P E where
 ti i T h:=by rw[h1] at h;exact List.all_eq_true.1 h3 _ (wg h)
 eq i T h hq ha:=by
  rw[h1] at h
  have:=List.all_eq_true.1 h4 _ (wg h)
  simp_all
 fn f g h:=by rw[h2] at h;exact h5 f g h
def Ok (P:Program) (f:FuncId) (g:kE):Prop:=Sound P f g/\l5 P f g.cap
theorem fc {P:Program} {f:Nat} {g:kE} {l:List (Nat×kE)} (h:Ok P f g) (h3:tZ P l):tZ P ((f,g)::l):=Li h.1 h.2 h3
def BM (fn:Func) (cap:Bool):Bool:=!(fn.name == "runtime.NumGoroutine")&&!fn.body.isNone&&Nat.beq fn.nfree (match cap with | true=>1 | false=>0)
noncomputable def okB (P:Program) (E:Env) (fn:Func) (ps:PQ) (rs:RQ) (es:List Nat) (cap:Bool) (tl:TL):Bool:=(EV P tl&&Aq P tl)&&(BM fn cap&&Ap P E fn ps rs es)
theorem N9 {P:Program} {E:Env} {f:FuncId} {fn:Func} (hf:P.funcs[f]?=some fn) {g:kE} (hh:∀ v H,g.vd v H=true->H=[]) {es fr:List Nat} {tl:TL} {gl:GL} (h1:E.TI=fe tl) (h2:E.G=fe gl) (ap:okB P E fn g.ps g.rs es g.cap tl=true) (hg:tZ P gl) (hF:∀ v,g.F v=lift λk=>Ai E k fn g.ps g.rs es fr v):Ok P f g:=by
 simp only[okB,BM,Bool.and_eq_true,Bool.not_eq_true',Nat.beq_eq] at ap
 obtain ⟨⟨J,a2⟩,⟨⟨b1,b2⟩,b3⟩,c⟩:=ap
 have hb:fn.body.isSome=true:=by
  simp_all
 exact ⟨Ac (MF h1 h2 J a2 hg) hf hb hh c λv out h=>FU (by rw[<-hF];exact h),fn,hf,b1,b2,b3⟩
structure FD where
 fn:Func
 tl:TL
 ps:PQ
 rs:RQ
 gl:GL:=[]
 es:List Nat:=[]
 fr:List Nat:=[]
 cap:Bool:=false
 fz:List (Nat×Nat×Nat):=[]
 lv:List (Nat×List Nat):=[]
 lx:List (Nat×List Nat):=[]
 lf:List (Nat×List (Nat×Md)):=[]
 od:List (Nat×List Nat):=[]
 ar:List (Nat×List Nat):=[]
 bx:List (Nat×List Nat):=[]
 pd:List (Nat×List Nat):=[]
 er:List (Nat×List (Nat×Nat)):=[]
noncomputable def FD.E (D:FD):Env:={ TI:=fe D.tl,G:=fe D.gl,fz:=D.fz,lv:=D.lv,lx:=D.lx,lf:=D.lf,od:=D.od,ar:=D.ar,bx:=D.bx,pd:=D.pd,er:=D.er }
noncomputable def FD.W (D:FD) (k:Nat) (a:(ba (D.ps.map (·.2))).den):Option (ba (D.rs.map (·.1)++dT D.ps)).den:=Ai D.E k D.fn D.ps D.rs D.es D.fr a
noncomputable def FD.F (D:FD) (a:(ba (D.ps.map (·.2))).den):Option (ba (D.rs.map (·.1)++dT D.ps)).den:=lift λk=>D.W k a
noncomputable def FD.sig (D:FD):kE:={ cap:=D.cap,ps:=D.ps,rs:=D.rs,F:=D.F }
noncomputable def FD.fin (D:FD):St->Option (ba (D.rs.map (·.1)++dT D.ps)).den:=AN D.ps D.rs D.es D.fn.results.toList (JC D.fr)
noncomputable def FD.K0 (D:FD):KT (ba (D.rs.map (·.1)++dT D.ps)).den:=LI D.fin
noncomputable def FD.N (D:FD) (k:Nat) (p:List Nat):St->KT (ba (D.rs.map (·.1)++dT D.ps)).den->Option (ba (D.rs.map (·.1)++dT D.ps)).den:=kB D.E k D.fin (sub p (tA D.fn))
noncomputable def FD.L (D:FD) (k:Nat) (p live:List Nat) (qt:List (Nat×Md)) (K:KT (ba (D.rs.map (·.1)++dT D.ps)).den) (σ:St):Option (ba (D.rs.map (·.1)++dT D.ps)).den:=uN (D.N k p) (dz live qt) K k σ
theorem aw {P:Program} {D:FD} {f:FuncId} (hf:P.funcs[f]?=some D.fn) (ht:(EV P D.tl&&Aq P D.tl)=true) (ap:(BM D.fn D.cap&&Ap P D.E D.fn D.ps D.rs D.es)=true) (hg:tZ P D.gl):Ok P f D.sig:=
 N9 (hh:=λ_ _ h=>List.isEmpty_iff.1 h) (es:=D.es) (fr:=D.fr) (tl:=D.tl) (gl:=D.gl) (E:=D.E) hf rfl rfl (by rw[okB,ht,Bool.true_and];exact ap) hg λ_=>rfl
end OT
namespace OT
open Go
theorem ct {n:Int} (h:-9223372036854775808<=n/\n<=9223372036854775807):al n=n:=by
 grind [al,IntKind.wrap_i64]
theorem ak:maxLen=9223372036854775807:=by simp[maxLen]
theorem xx {V R:Type} {B:(V->Option R)->V->Option R} (f:V->R) (I:V->Prop) (μ:V->Nat)
  (h:∀ v,I v->∀ self,B self v=some (f v)\/∃ v',B self v=self v'/\f v'=f v/\I v'/\μ v' < μ v):∀ (k:Nat) (v:V),I v->μ v < k->au B k v=some (f v)
 | 0,v,_,hk=>by omega
 | k+1,v,hI,hk=>by
  show B (au B k) v=some (f v)
  rcases h v hI (au B k) with h1 | ⟨v',h1,h2,h3,h4⟩
  ·exact h1
  ·rw[h1,xx f I μ h k v' h3 (by omega),h2]
end OT
set_option linter.unusedVariables false
set_option linter.unusedSimpArgs false
namespace OT
open Go
theorem mO {V R:Type} (B:(V->Option R)->V->Option R) (k:Nat) (v:V):au B (k+1) v=B (au B k) v:=rfl
def rg {α:Type} (f:α->Nat):List α->Nat
 | []=>0
 | x::xs=>f x+rg f xs
theorem BN {α:Type} (f:α->Nat):∀ (xs:List α) (x:α),x ∈ xs->f x<=rg f xs
 | y::xs,x,h=>by
  simp only[rg]
  rcases List.mem_cons.1 h with rfl | h
  ·omega
  ·have:=BN f xs x h;omega
 | [],_,h=>by cases h
theorem vw {α:Type} (f:α->Nat):∀ (xs ys:List α),rg f (xs++ys)=rg f xs+rg f ys
 | [],ys=>by simp[rg]
 | x::xs,ys=>by simp only[List.cons_append,rg,vw f xs ys];omega
def zz:(t:Ty)->t.den->Nat
 | .str,v=>List.length v
 | .pair a b,v=>zz a v.1+zz b v.2
 | .aa e,v=>List.length v+rg (zz e) v
 | _,_=>0
theorem t9 {e:Ty} {xs:List e.den} {x:e.den} (h:x ∈ xs):zz e x+1<=zz (.aa e) xs:=by
 have:=BN (zz e) xs x h
 have:1<=xs.length:=List.length_pos_of_mem h
 show _<=List.length xs+_
 omega
theorem qa {e:Ty} (xs:List e.den):xs.length<=zz (.aa e) xs:=Nat.le_add_right _ _
theorem yJ {e:Ty} (x:e.den) (xs:List e.den):zz (.aa e) (x::xs)=zz e x+1+zz (.aa e) xs:=by
 grind [zz,rg]
theorem kS {e:Ty} (xs ys:List e.den):zz (.aa e) (xs++ys)=zz (.aa e) xs+zz (.aa e) ys:=by
 grind [zz,vw]
end OT
set_option linter.unusedVariables false
set_option linter.unusedSimpArgs false
namespace OT
open Go
end OT
set_option linter.unusedVariables false
set_option linter.unusedSimpArgs false
namespace OT
open Go
def aX {S O α:Type} (f:Nat->S->α->Sum O S) (fin:S->O):Nat->List α->S->O
 | _,[],s=>fin s
 | i,x::xs,s=>match f i s x with
  | .inl o=>o
  | .inr s'=>aX f fin (i+1) xs s'
theorem bI {V S O α:Type} {B:(V->Option O)->V->Option O} (xs:List α) (enc:S->Int->V) (f:Nat->S->α->Sum O S) (fin:S->O) (I:Nat->S->Prop) (yG:xs.length<=maxLen)
  (cw:∀ (i:Nat) (hi:i < xs.length) (s:S) self,I i s->B self (enc s (i:Int))=match f i s xs[i] with | .inl o=>some o | .inr s'=>self (enc s' (al ((i:Int)+1))))
  (hI:∀ (i:Nat) (hi:i < xs.length) (s s':S),I i s->f i s xs[i]=.inr s'->I (i+1) s')
  (iS:∀ (s:S) self,I xs.length s->B self (enc s (xs.length:Int))=some (fin s)) (s:S) (h0:I 0 s):∀ k,xs.length < k->au B k (enc s 0)=some (aX f fin 0 xs s):=by
 have main:∀ (m i:Nat) (s:S),xs.length - i=m->i<=xs.length->I i s->∀ k,m < k->au B k (enc s (i:Int))=some (aX f fin i (xs.drop i) s):=by
  intro m
  induction m with
  | zero=>
   intro i s hm hi hs k hk
   have kg:i=xs.length:=by omega
   subst kg
   cases k <;> grind [au,aX]
  | succ m ih=>
   intro i s hm hi hs k hk
   have aE:i < xs.length:=by omega
   cases k <;> grind [au,List.drop_eq_getElem_cons,aX,ct,ak]
 intro k hk
 simpa using main xs.length 0 s (by omega) (by omega) h0 k hk
theorem o6 {O α:Type} (p:α->Bool) (bad:O) (fin:Unit->O):∀ (xs:List α) (i:Nat),aX (λ_ _ x=>if p x then .inr () else .inl bad) fin i xs ()=if xs.all p then fin () else bad
 | [],_=>rfl
 | x::xs,i=>by
  simp only[aX,List.all_cons]
  by_cases h:p x=true
  ·simp[h,o6 p bad fin xs (i+1)]
  ·simp[h]
def jG {α:Type} (c:α->Int):List α->Int
 | []=>0
 | x::xs=>if c x=0 then jG c xs else c x
theorem xy {O α:Type} (c:α->Int) (bad:Int->O) (fin:Unit->O):∀ (xs:List α) (i:Nat),aX (λ_ _ x=>if c x=0 then .inr () else .inl (bad (c x))) fin i xs ()=if jG c xs=0 then fin () else bad (jG c xs)
 | [],_=>rfl
 | x::xs,i=>by
  simp only[aX,jG]
  by_cases h:c x=0
  ·simp[h,xy c bad fin xs (i+1)]
  ·simp[h]
theorem Hc {R:Type} (a:Option R):both a a=a:=by simp[both]
theorem uV {R α:Type} {v:List α} {a b r:Option R} (h1:v=[]->a=r) (h2:b=r):qR v a b=r:=by
 cases v <;> grind [qR,Hc]
theorem cm {n:Nat} (h:n<=200000000000):n<=bV:=by grind [bV]
end OT
set_option linter.unusedVariables false
set_option linter.unusedSimpArgs false
namespace OT
open Go
section
variable {P:Program} {w:World} {A:Cells}
end
end OT
set_option linter.unusedVariables false
set_option linter.unusedSimpArgs false
namespace OT
open Go Go.Sort
instance RR (e:Ty):Inhabited e.den:=⟨e.zero⟩
section
variable {P:Program}
end
end OT
