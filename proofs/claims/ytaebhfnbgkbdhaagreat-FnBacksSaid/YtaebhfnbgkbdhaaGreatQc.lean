/- The proof's parts, merged: Calls, third part.. No conditions but those that each states. -/
import Derived.Test.YtaebhfnbgkbdhaaGreatQb
import Derived.MapKept
import Derived.WideMake
import Derived.OrdersHeld
import Derived.LoopN
import Derived.Scope
import Derived.ProofKit
import Derived.Deep.Slices
import Derived.Laws.BitsLemmas
import Derived.Shelf.SlSortCmp.NoneTotal
set_option linter.unusedVariables false
set_option linter.unusedSimpArgs false
namespace OT
open Go
section
variable {P:Program} {C:Ctx} {A:Cells} {X:FP} {σ:St} {a:Act} {w:World} {F:Nat->FP} {R:Type} {x:R} {Q:Exit->Act->World->Prop} {o:Oper} {E:Env}
def o5 (b:Bool) (n:Nat):Nat:=match b with
 | true=>n
 | false=>0
theorem Ig {w2:World} {A2:Cells}:∀ (q:Path) (t:Ty) {m':Md} {v':t.den} {cs:List Value} {G':FP} {ad:Option (Nat×Nat)} {pl:Pl},af P w2 A2 t m' [] v' cs G'->bm q<=1->aD w q t [] cs ad=some pl ->
  ∃ H' aJ,aD w2 q t [] cs ad=some ⟨pl.t,H',aJ,pl.ad⟩/\(bm q < 1->mz pl.t=true->aJ=pl.cs):=by
 intro q
 induction q with
 | nil=>
  intro t m' v' cs G' ad pl Y hq hp
  simp only[aD,Option.some.injEq] at hp
  subst hp
  exact ⟨_,_,rfl,λ_ _=>rfl⟩
 | cons s q ih=>
  intro t m' v' cs G' ad pl Y hq hp
  cases t with
  | pair a b=>
   obtain ⟨h0,F1,F2,hs,r1,r2⟩:=Y
   cases s with
   | fst=>
    simp only[aD,h0,if_false] at hp ⊢
    exact ih a r1 (by simpa [bm] using hq) (by simpa using hp)
   | snd=>
    simp only[aD,h0,if_false] at hp ⊢
    exact ih b r2 (by simpa [bm] using hq) (by simpa using hp)
   | idx i=>simp[aD] at hp
   | hJ i=>simp[aD] at hp
  | aa e=>
   cases s with
   | idx i=>
    obtain ⟨xa,cap,news,Fi,r1,r2,r3,r4,r5,r6,r7,r8⟩:=tT Y
    subst r1
    cases xa with
    | none=>grind [aD]
    | some aX=>
     simp only[aD,hole,List.any_nil,Bool.false_eq_true,if_false,List.filterMap_nil] at hp ⊢
     split at hp
     ·rename_i hi
      rw[if_pos hi]
      have cH:=r6 i _ (List.getElem?_eq_getElem hi)
      obtain ⟨g1,g2⟩:=r3 aX rfl
      have hl:=af.length _ cH
      have hh:Has w2 aX.block (aX.off+i*e.sz) ((news.drop (i*e.sz)).take e.sz):=λj u hu=>by
       rw[List.getElem?_take] at hu
       split at hu
       ·rw[List.getElem?_drop] at hu
        rw[Nat.add_assoc];exact g2 _ u hu
       ·cases hu
      rw[bB hh hl]
      obtain ⟨H',aJ,h1,Y⟩:=qw (A:=λ_ _=>True) (m:=.leaf) (v:=v'[i]) (F:=λ_ _=>0) q e cH (.inl (by grind [bm])) hp
      grind [bm]
     ·cases hp
   | _=>simp[aD] at hp
  | arr n e=>
   cases s with
   | fst=>simp[aD] at hp
   | snd=>simp[aD] at hp
   | idx i=>simp[aD] at hp
   | hJ i=>
    obtain ⟨_,hf,hl,hlen,hr⟩:=Y
    simp only[aD,List.isEmpty_nil,if_true] at hp ⊢
    split at hp
    ·rename_i hi
     rw[if_pos hi]
     exact ih e (Ro.flat e (m:=.leaf) (λ_ _=>0) hf (hr i _ (List.getElem?_eq_getElem (by grind)))) (by simpa [bm] using hq) hp
    ·cases hp
  | _=>grind [aD]
theorem Gx {t:Ty} {m':Md} {v':t.den} {cs:List Value} {G':FP} {w2:World} {A2:Cells} (ad:Option (Nat×Nat)) (Y:af P w2 A2 t m' [] v' cs G'):iN 1 False w t [] cs ad w2 [] cs:=by
 intro q pl hq hp
 grind [Ig]
theorem Bh (h:bn P C A σ a w F) {r:Nat} {ow:Bool} {b i:Nat} (ha:AX A F σ.n r ow b i):b < w.heap.size:=by
 rcases ha with ha | ⟨_,j,hj,_,hp⟩
 ·exact h.dA b i (.inr ha)
 ·exact h.dA b i (.inl (by grind [a_]))
def mO:List (PM×Ty)->Bool
 | []=>true
 | (.du _ _,_)::_=>false
 | (.fx _,_)::_=>false
 | (.iU _,_)::_=>false
 | (.fh _,_)::_=>false
 | _::ps=>mO ps
theorem lj {ow:Bool} {y:Nat×Path} {ws:List (Nat×Path)}:∀ (ps:List (PM×Ty)) {v:(ba (ps.map (·.2))).den} {ss:List Slot} {fT:List Value},mO ps=true->ov P A σ a w F ow ps v ss fT (y::ws)->False
 | [],_,_,_,_,h=>by cases h.2.2
 | (pm,t)::ps,_,_,_,hm,h=>by
  obtain ⟨s,xk,tv,kP,wp,mM,_,_,hw,dY,fI⟩:=h
  cases pm with
  | ro=>obtain ⟨ox,_⟩:=dY;subst ox;have hw:_=mM:=hw;subst hw;exact lj ps hm fI
  | fix f=>obtain ⟨ox,_⟩:=dY;subst ox;have hw:_=mM:=hw;subst hw;exact lj ps hm fI
  | du m m'=>cases hm
  | fx m=>cases hm
  | iU m=>cases hm
  | fh m=>cases hm
theorem Ey (h:bn P C A σ a w F) {f:FuncId} {g:kF} (hs:Sound P f g) {ow:Bool} (mN:ow=true->(mr g.rs&&eM g.ps)=true) {r:Nat} {p:Path} {t:Ty} {m:Md} {v1:t.den} {cs:List Value} {ad:Option (Nat×Nat)} {il:Bool} {v:(ba (g.ps.map (·.2))).den} {fT:List Value} {out:(ba (g.rs.map (·.1)++dT g.ps)).den} (hF:g.F v=some out)
  (b1:At σ r p t m [] v1) (b2:place σ a w r p=some ⟨t,[],cs,ad⟩) (b3:il=true->∃ b o,ad=some (b,o))
  (b5 : ∀ (A0:Cells) (F0 Fp:FP),(∀ b i,A b i->A0 b i)->(ow=true->∀ b i j,j < σ.n->j≠r->1<=F j b i->A0 b i)->af P w A0 t m [] v1 cs Fp ->
      (il=true->∀ b o,ad=some (b,o)->Has w b o cs/\(∀ j,j < t.sz->w.frozen? ⟨b,o+j,none⟩=false)/\∀ b' i,bj b o t.sz b' i+Fp b' i<=F0 b' i)->(il=false->∀ b i,Fp b i<=F0 b i)->gr P w A0 (g.vj v) g.ps v fT F0)
  {d:Option Tmp} {K:St->Option R} (q1:(match lA σ r p t m t.zero (λ_=>some ()) with | some _=>K ((σ.put r .dead).aI d (lg (dU g.rs out).1)) | none=>none)=some x) (Ih:mO g.ps=true->False) :
  Calls P f fT.toArray w λe w'=>∃ rv,e=.returned rv/\Nx P C K x (a.put d rv) w'/\(mO g.ps=true->Ext w w' (λ_ _=>0)):=by
 cases pK:lA σ r p t m t.zero (λ_=>some ()) with
 | none=>grind
 | some u=>
 rw[pK] at q1
 simp only at q1
 obtain ⟨hr,m2,H2,v2,be,rF,F2,s1,s2,s3,s4,s5,_⟩:=rE h pK
 obtain ⟨_,e3,e4,e5⟩:=b1.inj s1
 subst e3;subst e4
 have e5:=eq_of_heq e5
 subst e5
 rw[b2] at s2
 simp only[Option.some.injEq,Pl.mk.injEq,true_and] at s2
 obtain ⟨rfl,rfl⟩:=s2
 obtain ⟨L2,QY⟩:=af.fp t s3
 obtain ⟨F0,vp⟩:∃ F0:FP,∀ b i,F0 b i=o5 il (dL ad t.sz b i)+dC w t m [] cs b i:=⟨λb i=>o5 il (dL ad t.sz b i)+dC w t m [] cs b i,λ_ _=>rfl⟩
 have PJ:∀ b i,F0 b i<=dL ad t.sz b i+dC w t m [] cs b i:=λb i=>by
  rw[vp];cases il <;> simp[o5]
 have Ez:∀ b i,F0 b i<=F r b i:=λb i=>by grind
 have gC:∀ b i,F r b i<=ao σ.n F b i:=λb i=>a_ F hr b i
 have mE:∀ b i,ao σ.n F b i<=1:=λb i=>by have:=h.f5 b i;omega
 have zn:∀ b i,A b i->AX A F σ.n r ow b i:=λb i h=>.inl h
 have Gy:∀ b i,1<=F r b i->b < w.heap.size:=λb i hp=>h.dA b i (.inl (by grind))
 have eO:=b5 (AX A F σ.n r ow) F0 (dC w t m [] cs) zn (λmN b i j hj ci hp=>.inr ⟨mN,j,hj,ci,hp⟩)
  (af.mono zn (λ_ _ _ _ h=>h) (λ_ _ h=>h) t L2 (λ_ _=>Nat.le_refl _) (λ_ _ _ _ h=>h))
  (λhP b o e=>⟨(s5 b o e).1,(s5 b o e).2,λb' i=>by rw[vp,hP,e];exact Nat.le_refl _⟩) (λhP b i=>by grind)
 refine (hs w _ F0 v _ eO (λb i=>by grind) (λb i hp ha=>?_) (λb i hp=>?_) (h.sj λb i hp=>by grind) out hF).mono λe w' sv=>?_
 ·have h1:=Ez b i;have Y:=gC b i
  rcases ha with ha | ⟨_,j,hj,ci,Gz⟩
  ·exact h.gD b i (by grind) ha
  grind [jQ]
 ·rcases hp with hp | hp
  ·grind
  ·exact Bh h hp
 ·obtain ⟨rv,rfl,bI,A',G,GR,GM,g1,g2,g3,g4,g5,g6,g7,g8,g9⟩:=sv
  refine ⟨rv,rfl,?_⟩
  obtain ⟨x1,x2⟩:=wb bI
  obtain ⟨l_,A2,J,a2,a3,a4,a6⟩:∃ l_ A2:Cells,(∀ b i,A b i->l_ b i)/\(∀ b i,l_ b i->A b i\/(w.heap.size<=b/\b < w'.heap.size/\G b i=0))/\(∀ b i,l_ b i->A2 b i)/\(∀ b i,A2 b i->l_ b i\/(1<=F0 b i/\G b i=0)) /\
    fj P w' A2 (dU g.rs out).1 rv GR:=by
   cases ow with
   | true=>
    have ho:=mN rfl
    simp only[Bool.and_eq_true] at ho
    exact ⟨A,A,λ_ _ h=>h,λ_ _ h=>.inl h,λ_ _ h=>h,λ_ _ h=>.inl h,fj.free (l9 g.rs out ho.1) g8⟩
   | false=>
    have jv:∀ b i,A' b i->G b i=0:=λb i ha=>by
     grind
    refine ⟨λb i=>A b i\/(w.heap.size<=b/\A' b i),A',λ_ _ h=>.inl h,λb i ha=>ha.imp id λ⟨h1,Y⟩=>⟨h1,g6 b i (.inr Y),jv b i Y⟩,λb i ha=>?_,λb i ha=>?_,g8⟩
    ·grind
    ·rcases g2 b i ha with (GA | ⟨e,_⟩) | h0 | hn
     ·grind
     all_goals grind
  have Ii:=ou bI.size
  have h1:=h.put hr (s:=.dead) (v:=tmp a r) (Fd:=λ_ _=>0) (X':=F r) trivial (λb k=>by omega) (λ_ _ _ _ e=>by cases e)
  rw[iw] at h1
  have vw:=h1.grow x1 (A1:=l_) (X1:=λb i=>if w.heap.size<=b then G b i else F r b i) J (λb i ha=>?_) (λb i=>?_)
  rotate_left
  ·grind
  ·grind
  have h3:=vw.world x2 (λb i hp=>by
   grind)
  have h4:=h3.giveUp (A1:=A2) (X1:=GR) a3 (λb i ha=>by
   grind) (λb i=>by
   grind)
  have lC:=rK (σ:=σ.put r .dead) (a:=a) a6
  exact ⟨gq h4 q1 lC.1 (λ_ _=>Nat.le_refl _) lC.2,λhm=>(Ih hm).elim⟩
theorem CA (h:bn P C A σ a w F) {f:FuncId} {g:kF} (hs:Sound P f g) {ow:Bool} (mN:ow=true->(mr g.rs&&eM g.ps)=true) {r:Nat} {p:Path} {t:Ty} {m:Md} {H:List Path} {v1:t.den} {cs:List Value} {ad:Option (Nat×Nat)} {il:Bool} {v:(ba (g.ps.map (·.2))).den} {fT:List Value} {out:(ba (g.rs.map (·.1)++dT g.ps)).den} (hF:g.F v=some out)
  (b1:At σ r p t m H v1) (b2:place σ a w r p=some ⟨t,H,cs,ad⟩) (hP:il=false)
  (b5 : ∀ (A0:Cells) (F0 Fp:FP),(∀ b i,A b i->A0 b i)->(ow=true->∀ b i j,j < σ.n->j≠r->1<=F j b i->A0 b i)->af P w A0 t m H v1 cs Fp ->
      (il=true->∀ b o,ad=some (b,o)->Has w b o cs/\(∀ j,j < t.sz->w.frozen? ⟨b,o+j,none⟩=false)/\∀ b' i,bj b o t.sz b' i+Fp b' i<=F0 b' i)->(il=false->∀ b i,Fp b i<=F0 b i)->gr P w A0 (g.vj v) g.ps v fT F0)
  {d:Option Tmp} {K:St->Option R} (q1:oU σ r p (λσ=>K (σ.aI d (lg (dU g.rs out).1)))=some x) (Ih:mO g.ps=true->False) :
  Calls P f fT.toArray w λe w'=>∃ rv,e=.returned rv/\Nx P C K x (a.put d rv) w'/\(mO g.ps=true->Ext w w' (λ_ _=>0)):=by
 have hr:r < σ.n:=jR b2
 obtain ⟨A1,fN,F1,gQ,vn,F0,k1,k2,k3,k4,_,k5,k6,k7⟩:=AT h q1 b1
 rw[b2] at k5
 simp only[Option.some.injEq,Pl.mk.injEq,true_and] at k5
 obtain ⟨rfl,rfl⟩:=k5
 have gC:∀ b i,F r b i<=ao σ.n F b i:=λb i=>a_ F hr b i
 have mE:∀ b i,ao σ.n F b i<=1:=λb i=>by have:=h.f5 b i;omega
 have Tp:∀ b i,F0 b i+ao fN.n F1 b i<=1:=λb i=>by have h:=k3.f5 b i;simpa using h
 have Tq:∀ b i,1<=F0 b i->¬ A1 b i:=λb i hp=>k3.gD b i (by grind)
 have Tr:∀ b i,1<=F0 b i\/A1 b i->b < w.heap.size:=λb i hp=>k3.dA b i (hp.imp (λhp=>by grind) id)
 have zn:∀ b i,A1 b i->AX A1 F σ.n r ow b i:=λb i h=>.inl h
 have eO:=b5 (AX A1 F σ.n r ow) F0 F0 (λb i h=>.inl (k2 b i h)) (λmN b i j hj ci hp=>.inr ⟨mN,j,hj,ci,hp⟩)
  (af.mono (λb i h=>.inl (k2 b i h)) (λ_ _ _ _ h=>h) (λ_ _ h=>h) t k6 (λ_ _=>Nat.le_refl _) (λ_ _ _ _ h=>h))
  (λe=>by grind) (λ_ b i=>Nat.le_refl _)
 refine (hs w _ F0 v _ eO (λb i=>by grind) (λb i hp ha=>?_) (λb i hp=>?_) (k3.sj λb i hp=>by grind) out hF).mono λe w' sv=>?_
 ·rcases ha with ha | ⟨_,j,hj,ci,Gz⟩
  all_goals grind [jQ]
 ·rcases hp with hp | hp | ⟨_,j,hj,ci,Gz⟩
  ·grind
  ·grind
  ·exact h.dA b i (.inl (by grind [a_]))
 ·obtain ⟨rv,rfl,bI,A',G,GR,GM,g1,g2,g3,g4,g5,g6,g7,g8,g9⟩:=sv
  refine ⟨rv,rfl,?_⟩
  obtain ⟨x1,x2⟩:=wb bI
  obtain ⟨l_,A2,J,a2,a3,a4,a6⟩:∃ l_ A2:Cells,(∀ b i,A1 b i->l_ b i)/\(∀ b i,l_ b i->A1 b i\/(w.heap.size<=b/\b < w'.heap.size/\G b i=0))/\(∀ b i,l_ b i->A2 b i)/\(∀ b i,A2 b i->l_ b i\/(1<=F0 b i/\G b i=0)) /\
    fj P w' A2 (dU g.rs out).1 rv GR:=by
   cases ow with
   | true=>
    have ho:=mN rfl
    simp only[Bool.and_eq_true] at ho
    exact ⟨A1,A1,λ_ _ h=>h,λ_ _ h=>.inl h,λ_ _ h=>h,λ_ _ h=>.inl h,fj.free (l9 g.rs out ho.1) g8⟩
   | false=>
    have jv:∀ b i,A' b i->G b i=0:=λb i ha=>by
     grind
    refine ⟨λb i=>A1 b i\/(w.heap.size<=b/\A' b i),A',λ_ _ h=>.inl h,λb i ha=>ha.imp id λ⟨h1,Y⟩=>⟨h1,g6 b i (.inr Y),jv b i Y⟩,λb i ha=>?_,λb i ha=>?_,g8⟩
    ·grind
    ·rcases g2 b i ha with (GA | ⟨e,_⟩) | h0 | hn
     all_goals grind
  have Ii:=ou bI.size
  have vw:=k3.grow x1 (A1:=l_) (X1:=λb i=>if w.heap.size<=b then G b i else F0 b i) J (λb i ha=>?_) (λb i=>?_)
  rotate_left
  ·grind
  ·grind
  have h3:=vw.world x2 (λb i hp=>by
   grind)
  have h4:=h3.giveUp (A1:=A2) (X1:=GR) a3 (λb i ha=>by
   grind) (λb i=>by
   grind)
  have lC:=rK (σ:=fN) (a:=a) a6
  exact ⟨gq h4 k1 lC.1 (λ_ _=>Nat.le_refl _) lC.2,λhm=>(Ih hm).elim⟩
theorem JK {F2:Nat->FP} {n r0:Nat} {ow:Bool} (hF:∀ j b i,F2 j b i<=F j b i):∀ b i,AX A F2 n r0 ow b i->AX A F n r0 ow b i:=λb i h=>h.imp id λ⟨e,j,h1,Y,h3⟩=>⟨e,j,h1,Y,Nat.le_trans h3 (hF j b i)⟩
set_option maxHeartbeats 1000000 in
theorem GB (h:bn P C A σ a w F) {f:FuncId} {g:kF} (hs:Sound P f g) {ow:Bool} (mN:ow=true->(mr g.rs&&(eM g.ps||ju g.ps))=true) {xs:List Operand} {ex:List Slot} {tX:List Value} (ap:xs.all (bg P)=true)
  (hex:∀ (A':Cells) (σ':St),(∀ b i,A b i->A' b i)->lR P A' σ' a w ex tX) {d:Option Tmp} {K:St->Option R} (hk:wL g ow σ xs ex d K=some x) :
  Calls P f (xs.map a.eval++tX).toArray w λe w'=>∃ rv,e=.returned rv/\Nx P C K x (a.put d rv) w'/\(mO g.ps=true->Ext w w' (λ_ _=>0)):=by
 unfold wL at hk
 obtain ⟨A1,fN,F1,k1,k2,k3,k4⟩:=KJ g.ps xs h hk
 have iK:=xl k3 xs ap (hex A1 fN k2)
 obtain ⟨v,ws,q1,q2⟩:=KL k3 g.ps iK k1
 obtain ⟨FX,zo,q2,hU⟩:∃ FX:Nat->FP,(∀ j b i,FX j b i<=F1 j b i)/\ov P A1 fN a w FX ow g.ps v (xs.map (bh fN)++ex) (xs.map a.eval++tX) ws/\(ow=true->mr g.rs=true/\(eM g.ps=true\/(ju g.ps=true/\∀ j b i,1<=FX j b i->Bg (ce w b i)=true))):=by
  by_cases cy:eM g.ps=true
  ·exact ⟨F1,λ_ _ _=>Nat.le_refl _,q2,λe=>by have:=mN e;simp only[Bool.and_eq_true] at this;exact ⟨this.1,.inl cy⟩⟩
  ·by_cases hu:ju g.ps=true
   ·exact ⟨wc w F1,KN w F1,o4 g.ps hu q2,λe=>by have:=mN e;simp only[Bool.and_eq_true] at this;exact ⟨this.1,.inr ⟨hu,λj b i hp=>If hp⟩⟩⟩
   ·exact ⟨F1,λ_ _ _=>Nat.le_refl _,q2,λe=>by have:=mN e;simp only[Bool.and_eq_true,Bool.or_eq_true] at this;exact absurd this.2 (by simp[cy,hu])⟩
 split at q1
 rotate_left
 ·cases q1
 rename_i hc
 simp only[Bool.and_eq_true,Nat.ble_eq] at hc
 obtain ⟨hlen,OH⟩:=hc
 match ws,hlen with
 | [],_=>
  have q1:((g.F v).bind λout=>iW fN g.ps [] (dU g.rs out).2 λσ=>K (σ.aI d (lg (dU g.rs out).1)))=some x:=by
   grind [H6]
  cases hF:g.F v with
  | none=>grind
  | some out=>
  rw[hF] at q1
  simp only[Option.bind_some] at q1
  obtain ⟨n1,n2⟩:=gw (R:=R) (A0:=AX A1 FX fN.n fN.n ow) (λb i h=>.inl h) (r0:=fN.n) (λmN b i j hj ci hp=>.inr ⟨mN,j,hj,ci,hp⟩) g.ps q2 (λr _ aB=>by omega)
  rw[n2] at q1
  refine (hs w _ (λ_ _=>0) v _ (n1 _) (λ_ _=>Nat.zero_le _) (λb i hp=>by omega) (λb i hp=>?_) (k3.sj λb i hp=>by omega) out hF).mono λe w' sv=>?_
  ·rcases hp with hp | hp
   ·omega
   ·exact Bh k3 (JK zo b i hp)
  ·obtain ⟨rv,rfl,bI,A',G,GR,GM,g1,g2,g3,g4,g5,g6,g7,g8,g9⟩:=sv
   have hX:∀ b i,GR b i<=0\/(w.heap.size<=b/\b < w'.heap.size/\GR b i<=1):=λb i=>by
    grind
   refine ⟨rv,rfl,?_⟩
   cases ow with
   | true=>
    have ho:=hU rfl
    have vw:=k3.grow bI (A1:=A1) (X1:=GR) (λ_ _ h=>h) (λ_ _ h=>.inl h) hX
    have lC:=rK (σ:=fN) (a:=a) (fj.free (A':=A1) (l9 g.rs out ho.1) g8)
    exact ⟨gq vw q1 lC.1 (λ_ _=>Nat.le_refl _) lC.2,λ_=>bI⟩
   | false=>
    have vw:=k3.grow bI (A1:=A') (X1:=GR) (λb i ha=>g1 b i (.inl ha)) (λb i ha=>by
     rcases g2 b i ha with (GA | ⟨e,_⟩) | h0 | hn
     all_goals grind) hX
    have lC:=rK (σ:=fN) (a:=a) g8
    exact ⟨gq vw q1 lC.1 (λ_ _=>Nat.le_refl _) lC.2,λ_=>bI⟩
 | [(r,p)],_=>
  simp only[apart,Bool.and_eq_true,Nat.ble_eq,and_true] at OH
  obtain ⟨_,tV,il,tk,t,m,H,v1,cs,ad,b0,b1,b2,b3,b4,b5,b8,b7,b6⟩:=Ew g.ps q2 OH
  have q3:(tk=true->g.vj v H=true)/\((g.F v).bind λout=>iW fN g.ps [(r,p)] (dU g.rs out).2 λσ=>K (σ.aI d (lg (dU g.rs out).1)))=some x:=by
   cases hv:D4 g.ps with
   | false=>
    rw[hv] at q1
    exact ⟨λe=>(by grind),q1⟩
   | true=>
    rw[hv] at q1
    simp only[H6] at q1
    rw[b1.eq] at q1
    grind
  obtain ⟨q0,q1⟩:=q3
  replace b5:=λA0 F0 Fp J a2 a3 a4 a5=>b5 A0 F0 Fp J a2 a3 a4 a5 (g.vj v) q0
  have OI:=λA0 F0 Fp J (a2:ow=true->∀ b i j,j < fN.n->j≠r->1<=F1 j b i->A0 b i) a3 a4 a5=>b5 A0 F0 Fp J (λe b i j hj ci hp=>a2 e b i j hj ci (Nat.le_trans hp (zo j b i))) a3 a4 a5
  have L3:tV=true->ow=true->(mr g.rs&&eM g.ps)=true:=λe1 e2=>by
   obtain ⟨u1,u2 | u2⟩:=hU e2
   ·rw[u1,u2];rfl
   ·rw[b0.2.2.1 (qB _ u2.1)] at e1;cases e1
  cases hF:g.F v with
  | none=>grind
  | some out=>
  rw[hF] at q1
  simp only[Option.bind_some] at q1
  cases tk with
  | true=>
   obtain ⟨hE,hP,_⟩:=b8 rfl
   subst hE
   exact CA k3 hs (L3 rfl) hF b1 b2 (b8 rfl).2.1 OI (((b8 rfl).2.2 fN (λσ=>K (σ.aI d (lg (dU g.rs out).1))) (dU g.rs out).2).symm.trans q1) (λhm=>lj g.ps hm q2)
  | false=>
  obtain rfl:=b0.1 rfl
  cases tV with
  | true=>exact Ey k3 hs (L3 rfl) hF b1 b2 b3 OI ((b7 rfl rfl fN (λσ=>K (σ.aI d (lg (dU g.rs out).1))) (dU g.rs out).2).symm.trans q1) (λhm=>lj g.ps hm q2)
  | false=>
  obtain ⟨mo,o1,QZ,e1,e2⟩:=b6 rfl (dU g.rs out).2
  rw[e1] at q1
  have Q4:=q1
  obtain ⟨hr,m2,H2,v2,be,rF,F2,s1,s2,s3,s4,s5,_⟩:=rE k3 q1
  obtain ⟨_,e3,e4,e5⟩:=b1.inj s1
  subst e3;subst e4
  have e5:=eq_of_heq e5
  subst e5
  rw[b2] at s2
  simp only[Option.some.injEq,Pl.mk.injEq,true_and] at s2
  obtain ⟨rfl,rfl⟩:=s2
  obtain ⟨L2,QY⟩:=af.fp t s3
  obtain ⟨F0,vp⟩:∃ F0:FP,∀ b i,F0 b i=o5 il (dL ad t.sz b i)+dC w t m [] cs b i:=⟨λb i=>o5 il (dL ad t.sz b i)+dC w t m [] cs b i,λ_ _=>rfl⟩
  have PJ:∀ b i,F0 b i<=dL ad t.sz b i+dC w t m [] cs b i:=λb i=>by
   rw[vp];cases il <;> simp[o5]
  have Ez:∀ b i,F0 b i<=F1 r b i:=λb i=>by grind
  have gC:∀ b i,F1 r b i<=ao fN.n F1 b i:=λb i=>a_ F1 hr b i
  have mE:∀ b i,ao fN.n F1 b i<=1:=λb i=>by have:=k3.f5 b i;omega
  have zn:∀ b i,A1 b i->AX A1 FX fN.n r ow b i:=λb i h=>.inl h
  have eO:=b5 (AX A1 FX fN.n r ow) F0 (dC w t m [] cs) zn (λmN b i j hj ci hp=>.inr ⟨mN,j,hj,ci,hp⟩)
   (af.mono zn (λ_ _ _ _ h=>h) (λ_ _ h=>h) t L2 (λ_ _=>Nat.le_refl _) (λ_ _ _ _ h=>h))
   (λhP b o e=>⟨(s5 b o e).1,(s5 b o e).2,λb' i=>by rw[vp,hP,e];exact Nat.le_refl _⟩) (λhP b i=>by grind)
  refine (hs w _ F0 v _ eO (λb i=>by grind) (λb i hp ha=>?_) (λb i hp=>?_) (k3.sj λb i hp=>by grind) out hF).mono λe w' sv=>?_
  ·have h1:=Ez b i;have Y:=gC b i
   rcases ha with ha | ⟨_,j,hj,ci,Gz⟩
   ·exact k3.gD b i (by grind) ha
   have Gz:=Nat.le_trans Gz (zo j b i)
   grind [jQ]
  ·rcases hp with hp | hp
   ·exact k3.dA b i (.inl (by grind))
   ·exact Bh k3 (JK zo b i hp)
  ·obtain ⟨rv,rfl,bI,A',G,GR,GM,g1,g2,g3,g4,g5,g6,g7,g8,g9⟩:=sv
   refine ⟨rv,rfl,?_⟩
   obtain ⟨GC,F3,t1,t2,t3,t4⟩:=e2 w' A' GM g9
   obtain ⟨x1,x2⟩:=wb bI
   obtain ⟨l_,A2,J,a2,a3,a4,a5,a6⟩:∃ l_ A2:Cells,(∀ b i,A1 b i->l_ b i)/\(∀ b i,l_ b i->A1 b i\/(w.heap.size<=b/\b < w'.heap.size/\G b i=0))/\(∀ b i,l_ b i->A2 b i)/\(∀ b i,A2 b i->l_ b i\/(1<=F0 b i/\G b i=0)) /\
     af P w' A2 t mo [] o1 GC F3/\fj P w' A2 (dU g.rs out).1 rv GR:=by
    cases ow with
    | true=>
     obtain ⟨u1,u2 | ⟨u2,u3⟩⟩:=hU rfl
     ·exact ⟨A1,A1,λ_ _ h=>h,λ_ _ h=>.inl h,λ_ _ h=>h,λ_ _ h=>.inl h,af.free (QZ u2) (b4 u2).2 t1,fj.free (l9 g.rs out u1) g8⟩
     ·have jv:∀ b i,A' b i->G b i=0:=λb i ha=>by
       rcases Nat.eq_zero_or_pos (G b i) with h0 | h0
       ·exact h0
       grind
      refine ⟨λb i=>A1 b i\/(w.heap.size<=b/\A' b i),λb i=>A' b i/\(A1 b i\/w.heap.size<=b\/1<=F0 b i),λ_ _ h=>.inl h,λb i ha=>ha.imp id λ⟨h1,Y⟩=>⟨h1,g6 b i (.inr Y),jv b i Y⟩,λb i ha=>?_,λb i ha=>?_,af.u8 (λb i n ha hn=>⟨ha,?_⟩) t (b0.2.2.2 u2) t1,fj.free (l9 g.rs out u1) g8⟩
      ·rcases ha with ha | ⟨h1,Y⟩
       ·exact ⟨g1 b i (.inl ha),.inl ha⟩
       ·exact ⟨Y,.inr (.inl h1)⟩
      ·obtain ⟨h1,Y | Y | Y⟩:=ha
       ·exact .inl (.inl Y)
       ·exact .inl (.inr ⟨Y,h1⟩)
       ·exact .inr ⟨Y,jv b i h1⟩
      ·rcases g2 b i ha with (GA | ⟨_,j,hj,ci,hp⟩) | h0 | JH
       ·exact .inl GA
       ·exfalso
        have hb:=u3 j b i hp
        have Ts:=Nat.le_trans hp (zo j b i)
        have hz:F0 b i=0:=by
         have:=Ez b i
         grind [jQ]
        cases hc:ce w b i with
        | none=>rw[hc] at hb;cases hb
        | some u=>
         have:=bI.cell b i (lK hc) hz u hc
         rw[this] at hn
         injection hn with hn
         rw[hc,hn] at hb
         cases hb
       all_goals grind
    | false=>
     have jv:∀ b i,A' b i->G b i=0:=λb i ha=>by
      rcases Nat.eq_zero_or_pos (G b i) with h0 | h0
      ·exact h0
      grind
     refine ⟨λb i=>A1 b i\/(w.heap.size<=b/\A' b i),A',λ_ _ h=>.inl h,λb i ha=>ha.imp id λ⟨h1,Y⟩=>⟨h1,g6 b i (.inr Y),jv b i Y⟩,λb i ha=>?_,λb i ha=>?_,t1,g8⟩
     ·grind
     ·rcases g2 b i ha with (GA | ⟨e,_⟩) | h0 | hn
      ·grind
      ·cases e
      ·grind
      grind
   have Ii:=ou bI.size
   have vw:=k3.grow x1 (A1:=l_) (X1:=λb i=>if w.heap.size<=b then G b i else 0) J (λb i ha=>?_) (λb i=>?_)
   rotate_left
   ·rcases a2 b i ha with ha | ⟨h1,Y,h3⟩
    ·exact .inl ha
    grind
   ·by_cases hb:w.heap.size<=b
    ·rw[if_pos hb]
     rcases Nat.eq_zero_or_pos (G b i) with h0 | h0
     ·left;omega
     grind
    grind
   obtain ⟨_,m4,H4,v4,Jo,Tt,F4,u1,u2,u3,u4,u5,u6⟩:=rE vw Q4
   obtain ⟨_,e3,e4,e5⟩:=b1.inj u1
   subst e3;subst e4
   have e5:=eq_of_heq e5
   subst e5
   have Gy:∀ b i,1<=F1 r b i->b < w.heap.size:=λb i hp=>k3.dA b i (.inl (by grind))
   have df:=lG (σ':=fN) (a':=a) (w2:=World.news w w') (k3.cj r hr) rfl rfl (λb i ha u hu=>x1.cell b i (k3.dA b i (.inr ha)) rfl u hu) (λb i hp u hu=>x1.cell b i (Gy b i hp) rfl u hu) b2
   rw[df] at u2
   simp only[Option.some.injEq,Pl.mk.injEq,true_and] at u2
   obtain ⟨rfl,rfl⟩:=u2
   have hM:dC (World.news w w') t m [] cs=dC w t m [] cs:=Ev t s3 (λb i hp u hu=>x1.cell b i (Gy b i (by grind)) rfl u hu)
   have Q5:∀ b i,dC w t m [] cs b i<=F4 b i:=λb i=>by have:=(af.fp t u3).2 b i;rw[hM] at this;exact this
   have Dd:=af.length _ t1
   have hl:=af.length _ s3
   have fM:il=false->GC=cs:=λhP=>KM Dd (af.one _ t1) hl (af.one _ s3) (t4 hP)
   have xm:∀ b i,1<=dL ad t.sz b i->F4 b i=0:=λb i hp=>by
    grind
   have Bi:∀ b i,b < w.heap.size->1<=G b i->1<=dL ad t.sz b i\/1<=F4 b i:=λb i hb hp=>by
    grind
   have NN:∀ b i,GR b i+F3 b i<=(if w.heap.size<=b then G b i else 0)+F4 b i:=λb i=>by
    have h7:=g7 b i;have Y:=t2 b i
    by_cases hb:w.heap.size<=b
    ·grind
    ·rw[if_neg hb]
     rcases Nat.eq_zero_or_pos (GR b i+F3 b i) with h0 | h0
     ·omega
     ·have h4:=g4 b i
      rcases g3 b i (by omega) with h1 | h1
      ·rw[vp] at h1
       cases hP:il with
       | true=>
        obtain ⟨b',o',di⟩:=b3 hP
        grind [dL]
       | false=>
        grind [o5]
      ·omega
   obtain ⟨A3,qx,Fr,n1,n2,n3,n4,n5⟩:=u6 w' A2 GC F3 GR (x2.mono λb i hz=>by
     grind) a3 (λb i ha=>by
     rcases a4 b i ha with ha | ⟨h1,Y⟩
     ·exact .inl ha
     ·refine .inr ⟨?_,by grind⟩
      have hb:b < w.heap.size:=Gy b i (by grind)
      rw[if_neg (by omega)]
      rw[vp] at h1
      cases hP:il with
      | true=>
       obtain ⟨b',o',di⟩:=b3 hP
       grind [dL]
      | false=>
       grind [o5]) NN (λb o e=>by
     cases hP:il with
     | true=>grind
     | false=>
      rw[fM hP]
      intro j u hu
      have hj:=(List.getElem?_eq_some_iff.1 hu).1
      have h9:dL ad t.sz b (o+j)=1:=by grind [dL,bj]
      have h8:=xm b (o+j) (by omega)
      refine x2.cell b (o+j) ?_ ?_ u ((u5 b o e).1 j u hu)
      ·rw[Ii];exact Nat.lt_of_lt_of_le (Gy b (o+j) (by grind)) bI.size
      ·rw[vp,hP]
       have:=Q5 b (o+j)
       simp only[o5,Nat.zero_add];omega) (λe=>by
     cases hP:il with
     | true=>obtain ⟨b',o',di⟩:=b3 hP;rw[e] at di;cases di
     | false=>exact fM hP) a5
   have lC:=rK (σ:=qx) (a:=a) (fj.mono n2 a6)
   cases hP:il with
   | true=>
    subst hP
    exact ⟨gq n3 n1 lC.1 (λ_ _=>Nat.le_refl _) lC.2,λhm=>(lj g.ps hm q2).elim⟩
   | false=>
    subst hP
    have hc:=fM rfl
    subst hc
    have h5:=n5 (kb (bm p+1)) (kL _ (k3.eg r)) (sk _ (k3.eg r)) rfl (λp' snap hb ap hlen=>by
     have:=tM (bm p+1) (k3.eg r) hb ap
     exact ⟨1,False,by omega,λ_=>.inl (by omega),λ_=>by omega,Gx ad a5⟩)
    have JL:=rK (σ:={ qx with vr:=(fN.eI r (kb (bm p+1))).vr,aA:=fN.aA }) (a:=a) (fj.mono n2 a6)
    exact ⟨gq h5 n1 JL.1 (λ_ _=>Nat.le_refl _) JL.2,λhm=>(lj g.ps hm q2).elim⟩
 | _::_::_,hl=>simp at hl
theorem Bj (h:bn P C A σ a w F) {f:FuncId} {g:kF} (hs:Sound P f g) {xs:List Operand} {ex:List Slot} {tX:List Value} (ap:xs.all (bg P)=true)
  (hex:∀ (A':Cells) (σ':St),(∀ b i,A b i->A' b i)->lR P A' σ' a w ex tX) {d:Option Tmp} {K:St->Option R} (hk:sb g σ xs ex d K=some x) :
  Calls P f (xs.map a.eval++tX).toArray w λe w'=>∃ rv,e=.returned rv/\Nx P C K x (a.put d rv) w'/\(mO g.ps=true->Ext w w' (λ_ _=>0)):=by
 unfold sb at hk
 split at hk
 all_goals grind [GB,L0]
theorem zp {f:FuncId} {cap:Bool} (he:l8 P f cap) (args:Array Value):(callFunc f args).run P w=.ok (.enter f args) w:=by
 obtain ⟨fn,h1,Y,h3,_⟩:=he
 have Tu:fn.name ≠ "runtime.NumGoroutine" := by simpa using Y
 have OF:fn.body≠none:=by grind
 simp_all [callFunc]
theorem CB (h:bn P C A σ a w F) {f:FuncId} {args:Array Operand} {ts:Array TypeId} (ho:o.op=.call { callee:=.value (.func f),args:=args,argTypes:=ts }) (ap:args.toList.all (bg P)=true) {g:kF} (hs:Sound P f g) (he:l8 P f false)
  {K:St->Option R} (hk:sb g σ args.toList [] o.dst K=some x):o.wp P a w (λa' w'=>Nx P C K x a' w'/\(mO g.ps=true->Ext w w' (λ_ _=>0))) Q:=by
 have dB:(execOp a.eval o).run P w=.ok (.enter f (args.map a.eval)) w:=by
  have e:a.eval (.func f)=.func (.func f) #[] #[]:=rfl
  grind [execOp,resolve,Deferred.ofValue,invoke,zp]
 unfold Oper.wp
 rw[dB,Oper.upon_enter]
 have hc:=Bj h hs (ex:=[]) (tX:=[]) ap (λ_ _ _=>trivial) hk
 have:(args.toList.map a.eval++[]).toArray=args.map a.eval:=by grind
 rw[this] at hc
 exact hc.mono λe w' ⟨rv,he,hn⟩=>by grind
theorem CC (h:bn P C A σ a w F) {i:Tmp} {args:Array Operand} {ts:Array TypeId} (ho:o.op=.call { callee:=.value (.tmp i),args:=args,argTypes:=ts }) (ap:args.toList.all (bg P)=true) {f:FuncId} {n:Int} (iK:AC (σ.get i)=some (f,n)) {g:kF} (hs:Sound P f g) (he:l8 P f g.cap)
  {K:St->Option R} (hk:sb g σ args.toList (match g.cap with | true=>[.cp (.int .i64) n] | false=>[]) o.dst K=some x):o.wp P a w (λa' w'=>Nx P C K x a' w'/\(mO g.ps=true->Ext w w' (λ_ _=>0))) Q:=by
 have hi:i < σ.n:=by
  rcases Nat.lt_or_ge i σ.n with hi | hi
  ·exact hi
  ·rw[ek (Nat.not_lt.2 hi)] at iK;cases iK
 have OJ:=h.cj i hi
 unfold AC at iK
 split at iK
 rotate_left
 ·cases iK
 rename_i v hg
 injection iK with hv
 subst hv
 rw[hg] at OJ
 obtain ⟨cs,h1,qV,rfl,fn,h3,h4⟩:=OJ
 have e:a.eval (.tmp i)=.func (.func f) #[] qV:=h1
 have dB:(execOp a.eval o).run P w=.ok (.enter f (args.map a.eval++qV)) w:=by
  grind [execOp,resolve,Deferred.ofValue,invoke,zp]
 unfold Oper.wp
 rw[dB,Oper.upon_enter]
 obtain ⟨Tv,f1,f2,f3,f4⟩:=he
 rw[h3] at f1
 injection f1 with f1
 subst f1
 have hex:∃ tX:List Value,(args.toList.map a.eval++tX).toArray=args.map a.eval++qV/\∀ (A':Cells) (σ':St),(∀ b i,A b i->A' b i)->lR P A' σ' a w (match g.cap with | true=>[.cp (.int .i64) n] | false=>[]) tX:=by
  rcases h4 with ⟨h4,rfl⟩ | ⟨h4,ad,rfl,h5,h6,h7⟩
  ·have:g.cap=false:=by grind
   rw[this]
   exact ⟨[],by grind,λ_ _ _=>trivial⟩
  ·have:g.cap=true:=by grind
   rw[this]
   refine ⟨[.pointer (some ad)],by grind,λA' σ' hA=>⟨.inl ⟨ad,rfl,h5,[.int .i64 n],rfl,(λj u hu=>?_),rfl⟩,trivial⟩⟩
   grind
 obtain ⟨tX,PK,hex⟩:=hex
 have hc:=Bj h hs ap hex hk
 rw[PK] at hc
 exact hc.mono λe w' ⟨rv,he,hn⟩=>by grind
end
end OT
set_option linter.unusedVariables false
set_option linter.unusedSimpArgs false
namespace OT
open Go
section
variable {P:Program} {w:World} {A:Cells}
def yD:Value->Bool
 | .int _ _ | .bool _ | .string _=>true
 | _=>false
theorem Ro.simple:∀ (t:Ty) {v:t.den} {cs:List Value},t.fv=true->Ro P w A t v cs->∀ x ∈ cs,yD x=true:=by
 intro t
 induction t with
 | int k=>intro v cs _ h x hx;simp only[Ro] at h;subst h;simp at hx;subst hx;rfl
 | bool=>intro v cs _ h x hx;simp only[Ro] at h;subst h;simp at hx;subst hx;rfl
 | str=>intro v cs _ h x hx;simp only[Ro] at h;subst h;simp at hx;subst hx;rfl
 | unit=>grind [Ro]
 | pair a b eG et=>
  intro v cs he h x hx
  simp only[Ty.fv,Bool.and_eq_true] at he
  rw[<-List.take_append_drop a.sz cs] at hx
  rcases List.mem_append.1 hx with hx | hx
  ·exact eG he.1 h.1 x hx
  ·exact et he.2 h.2 x hx
 | arr n e ih=>
  intro v cs he h x hx
  obtain ⟨_,hv,hl,hr⟩:=h
  obtain ⟨j,hj,rfl⟩:=List.mem_iff_getElem.1 hx
  have hs:0 < e.sz:=by
   grind
  have hi:j / e.sz < n:=by
   rw[Nat.div_lt_iff_lt_mul hs];omega
  have h1:=hr (j / e.sz) _ (List.getElem?_eq_getElem (by omega))
  refine ih he h1 _ (List.mem_iff_getElem?.2 ⟨j % e.sz,?_⟩)
  grind [Nat.mod_lt,Nat.div_add_mod]
 | _=>grind [Ty.fv]
theorem CD {x:Value} (h:yD x=true) (n:Nat):Instr.sameBits n x x=true:=by
 cases x <;> simp[yD] at h <;> cases n <;> simp[Instr.sameBits,MapKept.bytes_beq]
theorem GD {t:Ty} {v:t.den} {cs:List Value} (ha:isAgg t=true) (he:t.fv=true) (h:Ro P w A t v cs):Instr.sameBits 10000 (aZ t cs) (aZ t cs)=true:=by
 have hs:=Ro.simple t he h
 simp only[aZ,ha,if_true,Instr.sameBits,beq_self_eq_true,Bool.true_and,List.all_eq_true]
 rintro ⟨x,y⟩ tH
 have hz:(x,y) ∈ cs.zip cs:=by simpa using tH
 have Tw:x=y/\x ∈ cs:=by
  clear h hs tH
  induction cs with
  | nil=>simp at hz
  | cons c cs ih=>
   grind [List.zip_cons_cons]
 grind [CD]
theorem Bk:∀ (t:Ty),(∀ (i:TypeId) (d:Nat) (e:Bool) (v:t.den) (cs:List Value),aq P t (.inl i)=true->iL P t (.inl i)=true->dep t<=d->Ro P w A t v cs->(Instr.checkKey e d i (aZ t cs)).run P w=.ok () w) /\
  (∀ (fs:List Field) (off d:Nat) (e:Bool) (v:t.den) (xs:Array Value),aq P t (.inr (fs,off))=true->iL P t (.inr fs)=true->dep t<=d+1->Ro P w A t v (xs.toList.drop off) ->
   (forIn fs PUnit.unit λf _=>(if f.name ≠ "_" then do
     let x <- part f.type xs f.offset
     Instr.checkKey e d f.type x
     pure (ForInStep.yield PUnit.unit)
    else pure (ForInStep.yield PUnit.unit):Sem (ForInStep PUnit))).run P w=.ok () w):=by
 intro t
 induction t with
 | int k=>
  refine ⟨λi d e v cs hl he hd h=>?_,λfs off d e v xs hl=>by simp[aq] at hl⟩
  simp only[Ro] at h
  subst h
  cases d with
  | zero=>simp[dep] at hd
  | succ d=>rw[bp _ _ rfl];simp[Instr.checkKey,run_underlying (gP hl)]
 | bool=>
  refine ⟨λi d e v cs hl he hd h=>?_,λfs off d e v xs hl=>by simp[aq] at hl⟩
  simp only[Ro] at h
  subst h
  have hu:P.underlying i=some .bool:=by
   grind [aq]
  cases d <;> simp_all [dep,Instr.checkKey,run_underlying]
 | str=>
  refine ⟨λi d e v cs hl he hd h=>?_,λfs off d e v xs hl=>by simp[aq] at hl⟩
  simp only[Ro] at h
  subst h
  cases d <;> simp_all [dep,Instr.checkKey,run_underlying,eN]
 | unit=>
  refine ⟨λi d e v cs hl he hd h=>?_,λfs off d e v xs hl he hd h=>?_⟩
  ·simp only[Ro] at h
   subst h
   simp only[aq,Bool.and_eq_true] at hl
   have h3:=hl.2
   split at h3
   ·rename_i fs hu
    have yA:fs.toList=[]:=List.isEmpty_iff.1 h3
    cases d with
    | zero=>simp[dep] at hd
    | succ d=>
     show (Instr.checkKey e (d+1) i (.agg #[])).run P w=_
     simp_all [Instr.checkKey,run_underlying]
   ·cases h3
  simp_all [aq]
 | pair a b eG et=>
  have second:∀ (fs:List Field) (off d:Nat) (e:Bool) (v:(Ty.pair a b).den) (xs:Array Value),aq P (.pair a b) (.inr (fs,off))=true->iL P (.pair a b) (.inr fs)=true->dep (.pair a b)<=d+1->Ro P w A (.pair a b) v (xs.toList.drop off) ->
    (forIn fs PUnit.unit λf _=>(if f.name ≠ "_" then do
      let x <- part f.type xs f.offset
      Instr.checkKey e d f.type x
      pure (ForInStep.yield PUnit.unit)
     else pure (ForInStep.yield PUnit.unit):Sem (ForInStep PUnit))).run P w=.ok () w:=by
   intro fs off d e v xs hl he hd h1
   cases fs with
   | nil=>simp_all
   | cons f r=>
    simp only[aq,Bool.and_eq_true,Nat.beq_eq,Nat.ble_eq] at hl
    simp only[iL,Bool.and_eq_true,bne_iff_ne,ne_eq] at he
    simp only[dep] at hd
    obtain ⟨Gh,Gj⟩:=h1
    have p1:=kN (P:=P) (w:=w) hl.1.2 (cs:=xs) (off:=off) (Ro.length _ Gh)
    have e1:=eG.1 f.type d e v.1 _ hl.1.2 he.1.2 (by omega) Gh
    rw[List.drop_drop] at Gj
    have e2:=et.2 r (off+a.sz) d e v.2 xs hl.2 he.2 (by omega) Gj
    simp_all
  refine ⟨λi d e v cs hl he hd h=>?_,second⟩
  simp only[aq,Bool.and_eq_true] at hl
  simp only[iL,Bool.and_eq_true,Bool.not_eq_true'] at he
  have h3:=hl.2
  have h4:=he.2
  split at h3
  ·rename_i fs hu
   rw[hu] at h4
   simp only at h4
   split at h3
   ·rename_i f r w9
    rw[w9] at h4
    simp only at h4
    cases d with
    | zero=>grind [dep]
    | succ d=>
     show (Instr.checkKey e (d+1) i (.agg cs.toArray)).run P w=_
     rw[Instr.checkKey]
     simp only[Sem.run_bind,run_underlying hu,Result.andThen_ok]
     rw[<-Array.forIn_toList,w9]
     have:=second (f::r) 0 d e v cs.toArray (by grind [aq]) (by grind [iL]) hd (by simpa using h)
     rw[this]
     rfl
   ·cases h3
  ·cases h3
 | arr n e ih=>
  refine ⟨λi d em v cs hl he hd h=>?_,λfs off d em v xs hl=>by simp[aq] at hl⟩
  simp only[aq,Bool.and_eq_true] at hl
  have h3:=hl.2
  simp only[iL] at he
  split at h3
  ·rename_i n' el hu
   simp only[Bool.and_eq_true,Nat.beq_eq,Nat.ble_eq] at h3
   obtain ⟨⟨rfl,_⟩,hle⟩:=h3
   rw[hu] at he
   simp only at he
   obtain ⟨inf,i1,i2,_⟩:=dM (eh hle)
   have fi:P.cellsOf el=e.sz:=by grind [Program.cellsOf]
   obtain ⟨_,l1,_,r1⟩:=h
   cases d with
   | zero=>simp[dep] at hd
   | succ d=>
    simp only[dep] at hd
    show (Instr.checkKey em (d+1) i (.agg cs.toArray)).run P w=_
    rw[Instr.checkKey]
    simp only[Sem.run_bind,run_underlying hu,Result.andThen_ok,Std.Legacy.Range.forIn_eq_forIn_range',Std.Legacy.Range.size,Nat.sub_zero,Nat.add_one_sub_one,Nat.div_one]
    have key:∀ (m j:Nat),j+m=n->(forIn (List.range' j m) PUnit.unit λi _=>(do
       let x <- part el cs.toArray (i*(<- Go.sizeOf el))
       Instr.checkKey em d el x
       pure (ForInStep.yield PUnit.unit):Sem (ForInStep PUnit))).run P w=.ok () w:=by
     intro m
     induction m with
     | zero=>simp_all
     | succ m LV=>
      intro j hj
      have J:=r1 j _ (List.getElem?_eq_getElem (l:=v) (i:=j) (by omega))
      have p1:=kN (P:=P) (w:=w) hle (cs:=cs.toArray) (off:=j*e.sz) (Ro.length _ J)
      have e1:=ih.1 el d em _ _ hle he (by omega) J
      rw[List.range'_succ]
      simp only[List.forIn_cons,Sem.run_bind,run_sizeOf hle,p1,e1,Result.andThen_ok,Sem.run_pure]
      grind
    simp_all
  ·cases h3
 | _=>grind [iL]
def sw (P:Program) (w:World) (A:Cells) (k v:Ty) (es:List (Value×Value)) (m:List (k.den×v.den)):Prop:=
 es.length=m.length/\∀ (i:Nat) (y:k.den×v.den),m[i]?=some y->∃ (kc vc:List Value),es[i]?=some (aZ k kc,aZ v vc)/\Ro P w A k y.1 kc/\Ro P w A v y.2 vc
structure Ae (P:Program) (k:Ty) (i:TypeId):Prop where
 lay:aq P k (.inl i)=true
 agg:isAgg k=true
 fv:k.fv=true
 flat:k.flat=true
 iL:iL P k (.inl i)=true
 dep:dep k<=9000
theorem yE {k v:Ty} {i:TypeId} (h:aq P (.map k v) (.inl i)=true):∃ ki vi,P.underlying i=some (.map ki vi)/\Ae P k ki/\aq P v (.inl vi)=true/\Jx P v vi=true:=by
 simp only[aq,Bool.and_eq_true] at h
 have Y:=h.2
 split at Y
 ·rename_i ki vi hu
  simp only[Bool.and_eq_true,LP,Nat.ble_eq] at Y
  obtain ⟨⟨⟨h3,h4⟩,⟨⟨⟨⟨h5,h6⟩,h7⟩,h8⟩,h9⟩⟩,vx⟩:=Y
  exact ⟨ki,vi,hu,⟨h3,h5,h6,h7,h8,h9⟩,h4,vx⟩
 ·cases Y
theorem GE {k v:Ty} {ki:TypeId} (K:Ae P k ki) {x:k.den} {xc:List Value} (hx:Ro P w A k x xc):∀ (es:List MapEntry) (m:List (k.den×v.den)) (i:Nat),sw P w A k v (es.map λe=>(e.key,e.val)) m ->
  (Instr.findAsking ki (aZ k xc) es i).run P w=.ok ((m.findIdx? λy=>k.eq x y.1).bind λj=>(es[j]?).map λe=>(i+j,e.val)) w:=by
 intro es
 induction es with
 | nil=>
  simp_all [Instr.findAsking]
 | cons e es ih=>
  intro m i h
  cases m with
  | nil=>have:=h.1;simp at this
  | cons y m=>
   obtain ⟨kc,vc,h1,Y,h3⟩:=h.2 0 y rfl
   simp only[List.map_cons,List.getElem?_cons_zero,Option.some.injEq,Prod.mk.injEq] at h1
   have heq:(Op.equal ki (aZ k xc) (aZ k kc)).run P w=.ok (k.eq x y.1) w:=(JC (P:=P) (w:=w) (A:=A) k).1 ki Op.maxDepth x y.1 xc kc K.lay K.iL (by have:=K.dep;grind [Op.maxDepth]) hx Y
   have fI:sw P w A k v (es.map λe=>(e.key,e.val)) m:=⟨by have:=h.1;simpa using this,λj z hz=>by
    have:=h.2 (j+1) z (by simpa using hz)
    simpa using this⟩
   simp only[Instr.findAsking,Sem.run_bind,h1.1,heq,Result.andThen_ok,List.findIdx?_cons]
   cases hq:k.eq x y.1 with
   | true=>simp
   | false=>
    simp only[Bool.false_eq_true,if_false,ih m (i+1) fI,Option.bind_map]
    congr 2
    grind
theorem GF {k:Ty} {ki:TypeId} (K:Ae P k ki):∃ d,P.underlying ki=some d/\∀ x y,Instr.sameNow d x y=none:=by
 have hl:=K.lay
 have ha:=K.agg
 have he:=K.fv
 cases k with
 | pair a b=>
  simp only[aq,Bool.and_eq_true] at hl
  have h3:=hl.2
  split at h3
  ·rename_i fs hu;exact ⟨_,hu,λ_ _=>rfl⟩
  ·cases h3
 | unit=>
  simp only[aq,Bool.and_eq_true] at hl
  have h3:=hl.2
  split at h3
  ·rename_i fs hu;exact ⟨_,hu,λ_ _=>rfl⟩
  ·cases h3
 | arr n e=>
  simp only[aq,Bool.and_eq_true] at hl
  have h3:=hl.2
  split at h3
  ·rename_i n' el hu;exact ⟨_,hu,λ_ _=>rfl⟩
  ·cases h3
 | _=>simp[isAgg] at ha
theorem Dv {k v:Ty} {ki:TypeId} (K:Ae P k ki) {x:k.den} {xc:List Value} (hx:Ro P w A k x xc) {es:List MapEntry} {m:List (k.den×v.den)} (h:sw P w A k v (es.map λe=>(e.key,e.val)) m) :
  (Instr.findKey ki (aZ k xc) es).run P w=.ok ((m.findIdx? λy=>k.eq x y.1).bind λj=>(es[j]?).map λe=>(j,e.val)) w:=by
 obtain ⟨d,hu,hd⟩:=GF K
 have ha:=GE (v:=v) K hx es m 0 h
 simp only[Nat.zero_add] at ha
 unfold Instr.findKey
 simp only[Sem.run_bind,run_underlying hu,Result.andThen_ok]
 cases es <;> simp_all [Instr.findNow]
theorem tY {k v:Ty} {m:Md} {y:List (k.den×v.den)} {cs:List Value} {F:FP} (h:af P w A (.map k v) m [] y cs F) :
  k.flat=true/\v.flat=true/\∃ (r:Nat) (es:Array MapEntry) (clock:Nat),cs=[.map (some r)]/\w.heap[r]?=some (.map es clock)/\sw P w A k v (es.toList.map λe=>(e.key,e.val)) y/\(m.own=true->1<=F r 0):=by
 simp only[af,hole,List.any_nil,Bool.false_eq_true,if_false] at h
 split at h
 ·rename_i hm
  obtain ⟨h1,Y,r,ke,h3,h4,h5,h6,h7⟩:=h
  obtain ⟨es,clock,q1,q2⟩:=FM h4
  refine ⟨h1,Y,r,es,clock,h3,q1,?_,λ_=>h5⟩
  have q2:(es.toList.map λe=>(e.key,e.val))=ke:=q2
  rw[q2]
  exact ⟨h6,h7⟩
 ·rename_i hm
  obtain ⟨_,_,h1,Y,r,ke,h3,h4,h5,h6,h7⟩:=h
  obtain ⟨es,clock,q1,q2⟩:=FM h4
  refine ⟨h1,Y,r,es,clock,h3,q1,?_,λe=>absurd e hm⟩
  have q2:(es.toList.map λe=>(e.key,e.val))=ke:=q2
  rw[q2]
  exact ⟨h6,h7⟩
theorem GG {α:Type} {k:Ty} (m:List (k.den×α)) (x:k.den):gi k m x=(m.findIdx? λe=>k.eq x e.1).bind λj=>(m[j]?).map (·.2):=by
 unfold gi
 induction m with
 | nil=>rfl
 | cons y m ih=>
  simp only[List.find?_cons,List.findIdx?_cons]
  cases hq:k.eq x y.1 with
  | true=>simp
  | false=>
   simp only[Bool.false_eq_true,if_false]
   rw[ih]
   cases m.findIdx? (λe=>k.eq x e.1) <;> simp
theorem Ij {v:Ty} {i:TypeId} (hz:Jx P v i=true) (hv:aq P v (.inl i)=true) {z:Value} {L:List Value} (h1:(zeroValue i).run P w=.ok z w) (Y:z.cells.toList=L) (hl:L.length=v.sz):z=aZ v L:=by
 obtain ⟨inf,i1,i2,i3,i4⟩:=dM (eh hv)
 unfold Jx at hz
 rw[i1] at hz
 simp only at hz
 cases Q6:inf.zero with
 | none=>grind
 | some z0=>
  have:z=z0:=by
   simp_all [zeroValue,typeInfo]
  subst this
  rw[Q6] at hz
  unfold aZ
  cases ha:isAgg v with
  | true=>
   rw[ha] at hz
   cases z <;> simp at hz
   simp only[Value.cells] at Y
   subst Y
   simp
  | false=>
   grind [Value.cells]
theorem Ik:∀ (t:Ty),t.fv=true->∀ {v1 v2:t.den} {gQ be:List Value},Ro P w A t v1 gQ->Ro P w A t v2 be->t.eq v1 v2=true->be=gQ:=by
 intro t
 induction t with
 | int k=>
  intro _ v1 v2 gQ be h1 Y he
  simp only[Ro] at h1 Y
  subst h1;subst Y
  have:v1=v2:=by cases k <;> simpa [Ty.eq] using he
  rw[this]
 | bool=>
  grind [Ro,Ty.eq]
 | str=>
  grind [Ro,Ty.eq]
 | unit=>
  grind [Ro]
 | pair a b eG et=>
  intro hq v1 v2 gQ be h1 Y he
  simp only[Ty.fv,Bool.and_eq_true] at hq
  simp only[Ty.eq,Bool.and_eq_true] at he
  have e1:=eG hq.1 h1.1 Y.1 he.1
  have e2:=et hq.2 h1.2 Y.2 he.2
  grind [List.take_append_drop]
 | arr n e ih=>
  intro hq v1 v2 gQ be h1 Y he
  obtain ⟨_,l1,c1,r1⟩:=h1
  obtain ⟨_,l2,c2,r2⟩:=Y
  refine List.ext_getElem (by omega) λj Tz TA=>?_
  have hs:0 < e.sz:=by
   grind
  have hi:j / e.sz < n:=by
   rw[Nat.div_lt_iff_lt_mul hs];omega
  have J:=r1 (j / e.sz) _ (List.getElem?_eq_getElem (by omega))
  have a2:=r2 (j / e.sz) _ (List.getElem?_eq_getElem (by omega))
  have Q7:e.eq (v1[j / e.sz]'(by omega)) (v2[j / e.sz]'(by omega))=true:=by
   simp only[Ty.eq,List.all_eq_true] at he
   exact he (_,_) (List.mem_iff_getElem?.2 ⟨j / e.sz,by grind⟩)
  have h3:=ih hq J a2 Q7
  have hm:=Nat.mod_lt j hs
  have hd:=Nat.div_add_mod j e.sz
  have h4:=congrArg (·[j % e.sz]?) h3
  grind
 | _=>grind [Ty.fv]
theorem EA {k v:Ty} {t:TypeId} (hl:aq P (.map k v) (.inl t)=true) (hz:v.lw=true) {x:k.den} {xc:List Value} (hx:Ro P w A k x xc) {r:Nat} {es:Array MapEntry} {clock:Nat} (hb:w.heap[r]?=some (.map es clock)) {y:List (k.den×v.den)}
  (he:sw P w A k v (es.toList.map λe=>(e.key,e.val)) y) (ok:Bool) :
  ∃ vc,Ro P w A v (AD (gi k y x) v.zero) vc/\(Instr.lookup t (.map (some r)) (aZ k xc) ok).run P w=.ok (if ok then .tuple #[aZ v vc,.bool (gi k y x).isSome] else aZ v vc) w:=by
 obtain ⟨ki,vi,hu,K,hv,PL⟩:=yE hl
 have hc:=(Bk (P:=P) (w:=w) (A:=A) k).1 ki 10000 es.isEmpty x xc K.lay K.iL (by have:=K.dep;omega) hx
 have hf:=Dv (v:=v) K hx he
 obtain ⟨L,hL⟩:=jT v hz
 obtain ⟨z,A7,Gl⟩:=oO (P:=P) (w:=w) hv hL
 obtain ⟨r1,r2,r3⟩:=o3 (P:=P) (w:=w) (A:=A) v hL hv
 rw[GG]
 cases Bl:y.findIdx? (λe=>k.eq x e.1) with
 | none=>
  rw[Bl] at hf
  simp only[Option.bind_none] at hf ⊢
  refine ⟨L,r2,?_⟩
  have Do:z=aZ v L:=Ij PL hv A7 Gl r3
  cases ok <;> simp[Instr.lookup,run_underlying hu,MapKept.run_getObj_map hb,hc,hf,A7,Do]
 | some j=>
  rw[Bl] at hf
  have hj:j < y.length:=(List.findIdx?_eq_some_iff_findIdx_eq.1 Bl).1
  obtain ⟨kc,vc,g1,g2,g3⟩:=he.2 j y[j] (List.getElem?_eq_getElem hj)
  rw[List.getElem?_map] at g1
  cases OK:es.toList[j]? with
  | none=>grind
  | some e=>
   rw[OK] at g1
   simp only[Option.map_some,Option.some.injEq,Prod.mk.injEq] at g1
   simp only[OK,Option.bind_some,Option.map_some,List.getElem?_eq_getElem hj] at hf ⊢
   refine ⟨vc,g3,?_⟩
   cases ok <;> simp[Instr.lookup,run_underlying hu,MapKept.run_getObj_map hb,hc,hf,g1.2]
end
section
variable {P:Program} {C:Ctx} {A:Cells} {X:FP} {σ:St} {a:Act} {w:World} {F:Nat->FP} {R:Type} {x:R} {Q:Exit->Act->World->Prop} {o:Oper} {E:Env}
theorem CE (h:bn P C A σ a w F) (dZ:∀ i T,E.TI i=some T->aq P T (.inl i)=true) {t:Nat} (ho:o.op=.makeMap t none) {K:St->Option R}
  (hk:(gA E t λt=>match t with
  | .map k v=>if k.flat&&v.flat then K (σ.aI o.dst (.own (.map k v) (av (.map k v)) [] [])) else none
  | _=>none)=some x):o.wp P a w (λa' w'=>Nx P C K x a' w'/\Ext w w' (λ_ _=>0)) Q:=by
 obtain ⟨T,hT,hk⟩:=bN hk
 split at hk
 ·rename_i k v
  split at hk
  ·rename_i hc
   simp only[Bool.and_eq_true] at hc
   have dB:(execOp a.eval o).run P w=.ok (.value (.map (some w.heap.size))) (w.alloc (.map #[] 0)):=by
    simp[execOp,ho,run_makeMap_plain]
   have bI:=fF w (.map #[] 0)
   have h1:Rel P C A (λb i=>0+bj w.heap.size 0 1 b i) σ a (w.alloc (.map #[] 0)) F:=by
    refine h.grow bI (λ_ _ h=>h) (λ_ _ h=>.inl h) (λb i=>?_)
    by_cases hb:b=w.heap.size
    ·subst hb
     right
     exact ⟨Nat.le_refl _,by simp,by grind [bj]⟩
    grind [bj]
   have qZ:(w.alloc (.map #[] 0)).heap[w.heap.size]?=some (.map #[] 0):=heap_alloc_new w _
   refine fE dB ⟨gq h1 hk (Fd:=bj w.heap.size 0 1) ⟨_,(bp (.map k v) _ rfl).symm,?_⟩ (λb i=>by simp) (λ_ _ _ _ e=>by cases e),bI⟩
   simp only[af,hole,List.any_nil,Bool.false_eq_true,if_false,av,lz,Md.own,if_true]
   refine ⟨hc.1,hc.2,w.heap.size,[],rfl,?_,by simp[bj],rfl,λi y hy=>by cases hy⟩
   exact FN qZ
  ·cases hk
 ·cases hk
theorem CF (h:bn P C A σ a w F) (dZ:∀ i T,E.TI i=some T->aq P T (.inl i)=true) {t:Nat} {y z:Operand} {ok:Bool} (ho:o.op=.lookup t y z ok) (ap:bg P y=true/\bg P z=true) {K:St->Option R}
  (hk:yh E σ t (bh σ y) (bh σ z) ok o.dst K=some x):o.wp P a w (λa' w'=>Nx P C K x a' w'/\Ext w w' (λ_ _=>0)) Q:=by
 unfold yh at hk
 obtain ⟨T,hT,hk⟩:=bN hk
 have cJ:=dZ _ _ hT
 split at hk
 ·rename_i k v
  split at hk
  ·rename_i hz
   rcases bE h ap.1 with hs | ⟨xs,e⟩
   rotate_left
   ·grind
   rcases bE h ap.2 with oq | ⟨xs,e2⟩
   rotate_left
   ·exfalso
    rw[e2] at hk
    split at hk
    ·split at hk
     ·obtain ⟨_,_,_,_,_,_,_,_,h1,_⟩:=d7 h hk
      grind [aU]
     ·cases hk
    ·cases hk
   split at hk
   ·rename_i r p snap hv
    rw[hv] at hs
    split at hk
    ·rename_i fR
     obtain ⟨hr,t',m',H',v',aJ,aX,F',h1,dr,h3,h4,h5,h6⟩:=d7 h hk
     split at h1
     ·rename_i hH
      have hH:=List.isEmpty_iff.1 hH
      subst hH
      obtain ⟨e1,h1⟩:=aU h1
      subst e1
      obtain ⟨pl,g1,g2,g3⟩:=hs.2 fR
      rw[h3] at g1
      injection g1 with g1
      subst g1
      obtain ⟨f1,f2,b,es,clock,q1,q2,q3,q4⟩:=tY h4
      simp only at g2
      subst q1
      rw[bp (.map k v) _ rfl] at g2
      split at h1
      ·rename_i t2 ix L4
       rw[L4] at oq
       obtain ⟨e2,h1⟩:=aU h1
       subst e2
       obtain ⟨kc,Dq,ff⟩:=oq
       obtain ⟨vc,r1,r2⟩:=EA (P:=P) cJ hz ff q2 q3 ok
       have dB:(execOp a.eval o).run P w=.ok (.value (if ok then .tuple #[aZ v vc,.bool (gi t2 v' ix).isSome] else aZ v vc)) w:=by
        simp_all [execOp]
       cases ok with
       | true=>
        simp only at h1
        refine fE dB ⟨aP h h1 ⟨#[aZ v vc,.bool (gi t2 v' ix).isSome],λ_ _ _=>0,rfl,λb i=>by grind [eF],λj y hy=>?_⟩ (λ_ _ _ _ e=>by cases e),Ext.refl _ _⟩
        match j with
        | 0=>simp at hy;subst hy;exact ⟨_,rfl,.inr ⟨vc,rfl,Ro.rep v _ (bS v) r1⟩⟩
        | 1=>simp at hy;subst hy;exact ⟨_,rfl,.inr ⟨[.bool _],rfl,rfl⟩⟩
        | n+2=>simp at hy
       | false=>
        simp only at h1
        exact fE dB ⟨aP h h1 ⟨vc,rfl,r1⟩ (λ_ _ _ _ e=>by cases e),Ext.refl _ _⟩
      ·cases h1
     ·cases h1
    ·cases hk
   ·cases hk
  ·cases hk
 ·cases hk
theorem EB {r:Nat} {es xn:Array MapEntry} {clock rL:Nat} (hb:w.heap[r]?=some (.map es clock)):Ext w { w with heap:=w.heap.setIfInBounds r (.map xn rL) } (bj r 0 1):=by
 have Q8:∀ b,b≠r->(w.heap.setIfInBounds r (.map xn rL))[b]?=w.heap[b]?:=λb ci=>by grind
 refine ⟨by simp,λb i OL hz u hu=>?_,λb n hn=>?_,λb i OL=>?_,rfl,rfl,rfl,λb OL hz=>?_,Nat.le_refl _⟩
 ·grind [bj,ce,sd]
 ·obtain ⟨c,e,fr,h1,Y,h3⟩:=hn
  have Q9:b≠r:=λe=>by grind
  exact ⟨c,e,fr,by grind,Y,h3⟩
 ·grind [World.frozen?]
 ·have Q9:b≠r:=λe=>by simp_all [bj]
  grind
theorem EC {k v:Ty} {t:TypeId} (hl:aq P (.map k v) (.inl t)=true) {x:k.den} {xc:List Value} (hx:Ro P w A k x xc) {z:v.den} {JM:List Value} (TB:Ro P w A v z JM) {r:Nat} {es:Array MapEntry} {clock:Nat} (hb:w.heap[r]?=some (.map es clock)) {y:List (k.den×v.den)}
  (he:sw P w A k v (es.toList.map λe=>(e.key,e.val)) y) :
  ∃ (xn:Array MapEntry) (rL:Nat),(Instr.mapUpdate t (.map (some r)) (aZ k xc) (aZ v JM)).run P w=.ok () { w with heap:=w.heap.setIfInBounds r (.map xn rL) }/\sw P w A k v (xn.toList.map λe=>(e.key,e.val)) (gj k y x z):=by
 obtain ⟨ki,vi,hu,K,hv,_⟩:=yE hl
 have hc:=(Bk (P:=P) (w:=w) (A:=A) k).1 ki 10000 false x xc K.lay K.iL (by have:=K.dep;omega) hx
 have hf:=Dv (v:=v) K hx he
 unfold gj
 cases Bl:y.findIdx? (λe=>k.eq x e.1) with
 | none=>
  rw[Bl] at hf
  simp only[Option.bind_none] at hf ⊢
  refine ⟨es.push { key:=aZ k xc,val:=aZ v JM,born:=clock },clock+1,?_,?_,λi q hq=>?_⟩
  ·simp[Instr.mapUpdate,run_underlying hu,MapKept.run_getObj_map hb,hc,hf,MapKept.run_setObj_map _ hb,Result.andThen]
  ·have:=he.1;grind
  ·have hlen:(es.toList.map λe=>(e.key,e.val)).length=y.length:=he.1
   rw[Array.toList_push,List.map_append]
   by_cases hi:i < y.length
   ·rw[List.getElem?_append_left hi] at hq
    rw[List.getElem?_append_left (by grind)]
    exact he.2 i q hq
   grind
 | some j=>
  rw[Bl] at hf
  have Q_:=List.findIdx?_eq_some_iff_findIdx_eq.1 Bl
  have hj:j < y.length:=Q_.1
  obtain ⟨kc,vc,g1,g2,g3⟩:=he.2 j y[j] (List.getElem?_eq_getElem hj)
  rw[List.getElem?_map] at g1
  have hlen:es.size=y.length:=by have:=he.1;simpa using this
  have ma:es.toList[j]?=some es[j]:=by simp[hlen,hj]
  rw[ma] at g1
  simp only[Option.map_some,Option.some.injEq,Prod.mk.injEq] at g1
  simp only[Option.bind_some] at hf ⊢
  rw[ma] at hf
  simp only[Option.map_some] at hf
  have PN:k.eq x (y[j]).1=true:=by
   grind
  have SC:aZ k kc=aZ k xc:=by
   have:=Ik k K.fv hx g2 PN
   rw[this]
  have uY:(Instr.keyThatStays (aZ k xc) (aZ k xc)).run P w=.ok (aZ k xc) w:=by
   simp[Instr.keyThatStays,GD K.agg K.fv hx]
  have nB:(es[j]?).map (·.key)=some (aZ k xc):=by
   grind
  refine ⟨es.modify j λe=>{ e with key:=aZ k xc,val:=aZ v JM },clock,?_,?_,λi q hq=>?_⟩
  ·simp[Instr.mapUpdate,run_underlying hu,MapKept.run_getObj_map hb,hc,hf,nB,uY,MapKept.run_setObj_map _ hb,Result.andThen]
  ·simp[hlen]
  ·rw[List.getElem?_set] at hq
   rw[List.getElem?_map,Array.getElem?_toList,Array.getElem?_modify]
   by_cases gB:j=i
   ·grind
   ·rw[if_neg gB] at hq ⊢
    have:=he.2 i q hq
    grind
theorem yF (h:bn P C A σ a w F) (dZ:∀ i T,E.TI i=some T->aq P T (.inl i)=true) {t:Nat} {y z u:Operand} (ho:o.op=.mapUpdate t y z u) (hd:o.dst=none) (ap:bg P y=true/\bg P z=true/\bg P u=true) {K:St->Option R}
  (hk:yi E σ t (bh σ y) (bh σ z) (bh σ u) K=some x):o.wp P a w (Nx P C K x) Q:=by
 unfold yi at hk
 obtain ⟨T,hT,hk⟩:=bN hk
 have cJ:=dZ _ _ hT
 split at hk
 ·rename_i k v
  rcases bE h ap.1 with hs | ⟨xs,e⟩
  rotate_left
  ·grind
  split at hk
  ·rename_i r p snap hv
   rw[hv] at hs
   split at hk
   ·rename_i fR
    obtain ⟨hr,t',m',H',v',aJ,aX,F',h1,dr,h3,h4,h5,h6⟩:=d7 h hk
    split at h1
    ·rename_i hH
     simp only[Bool.and_eq_true,List.isEmpty_iff] at hH
     obtain ⟨cy,hH⟩:=hH
     subst hH
     obtain ⟨e1,h1⟩:=aU h1
     subst e1
     obtain ⟨pl,g1,g2,g3⟩:=hs.2 fR
     rw[h3] at g1
     injection g1 with g1
     subst g1
     split at h1
     ·rename_i t2 ix t3 uv L4 TC
      have oq:aV P A σ a w (a.eval z) (.val t2 ix) (λ_ _=>0):=by
       grind [bE]
      have Ra:aV P A σ a w (a.eval u) (.val t3 uv) (λ_ _=>0):=by
       grind [bE]
      obtain ⟨e2,h1⟩:=aU h1
      subst e2
      obtain ⟨e3,h1⟩:=aU h1
      subst e3
      obtain ⟨kc,Dq,ff⟩:=oq
      obtain ⟨uc,Rb,OM⟩:=Ra
      obtain ⟨hr,m2,H2,v2,be,rF,F2,q1,q2,q3,q4,q5,q6⟩:=rE h h1
      obtain ⟨_,e2,e3,e4⟩:=At.inj ⟨dr⟩ q1
      subst e2;subst e3
      have e4:=eq_of_heq e4
      subst e4
      rw[h3] at q2
      injection q2 with q2
      injection q2 with TD TE Rc Rd
      subst Rc;subst Rd
      have cH:=q3
      obtain ⟨f1,f2,b,es,clock,b1,b2,b3,b4⟩:=tY q3
      have b4:=b4 cy
      simp only at g2
      subst b1
      rw[bp (.map t2 t3) _ rfl] at g2
      obtain ⟨xn,rL,r1,r2⟩:=EC (P:=P) cJ ff OM b2 b3
      generalize tW:({ w with heap:=w.heap.setIfInBounds b (.map xn rL) }:World)=w2 at r1
      have bI:Ext w w2 (bj b 0 1):=by grind [EB]
      have vt:∀ b i,F r b i<=1:=λb i=>by have:=h.f5 b i;grind [a_]
      have dB:(execOp a.eval o).run P w=.ok .skip w2:=by
       simp[execOp,ho,g2,Dq,Rb,r1]
      refine AW dB hd ?_
      have hA:∀ b' i,A b' i->∀ u,ce w b' i=some u->ce w2 b' i=some u:=λb' i ha u hu=>by
       refine bI.cell b' i (h.dA b' i (.inr ha)) ?_ u hu
       rcases Nat.eq_zero_or_pos (bj b 0 1 b' i) with h0 | h0
       ·exact h0
       ·have:b'=b/\i=0:=by
         grind [bj]
        obtain ⟨rfl,rfl⟩:=this
        exact absurd ha (h.gD b' 0 (by grind [a_]))
      have qZ:ce w2 b 0=some (sc (entriesOf xn)):=by
       grind [FN]
      have uU:af P w2 A (.map t2 t3) m' [] (gj t2 v' ix uv) [.map (some b)] F2:=by
       simp only[af,hole,List.any_nil,Bool.false_eq_true,if_false,cy,if_true]
       refine ⟨f1,f2,b,entriesOf xn,rfl,qZ,b4,r2.1,λi q hq=>?_⟩
       obtain ⟨Re,Rf,j1,j2,j3⟩:=r2.2 i q hq
       exact ⟨Re,Rf,j1,Ro.mono hA (λ_ _ h=>h) t2 j2,Ro.mono hA (λ_ _ h=>h) t3 j3⟩
      have zo:∀ b' i,bj b 0 1 b' i<=F2 b' i:=λb' i=>by
       grind [bj]
      have qX:∀ b' o',aX=some (b',o')->Has w2 b' o' [.map (some b)]:=λb' o' ea j u hu=>by
       have Rg:=(q5 b' o' ea).1 j u hu
       have hj:=(List.getElem?_eq_some_iff.1 hu).1
       have Rh:j=0:=by simpa using hj
       subst Rh
       have Y:=q4 b' (o'+0);have h4:=zo b' (o'+0);have h5:=vt b' (o'+0);have h7:=a_ F hr b' (o'+0)
       have h6:dL aX (Ty.map t2 t3).sz b' (o'+0)=1:=by
        grind [dL,bj,Ty.sz]
       exact bI.cell _ _ (h.dA b' (o'+0) (.inl (by grind))) (by omega) u Rg
      obtain ⟨A3,qx,Fr,n1,n2,n3,n4,n5⟩:=q6 w2 A [.map (some b)] F2 (λ_ _=>0) (bI.mono λb' i hz=>by
        grind) (λ_ _ h=>h) (λ_ _ h=>.inl h) (λb i=>by omega) qX (λ_=>rfl) uU
      refine ⟨_,n1,A3,_,n5 mp (nM (h.eg r)) (tL (h.eg r)) rfl λp' snap hb ap hlen=>?_⟩
      have h5:=vX (h.eg r) hb ap
      refine ⟨bm p'+1,False,by omega,λ_=>.inl (by omega),λ_=>by omega,?_⟩
      intro q pl hq hp
      grind [aD]
     ·cases h1
    ·cases h1
   ·cases hk
  ·cases hk
 ·cases hk
theorem CG (h:bn P C A σ a w F) (dZ:∀ i T,E.TI i=some T->aq P T (.inl i)=true) {t:Nat} {y:Operand} (ho:o.op=.call { callee:=.builtin .len,args:=#[y],argTypes:=#[t] }) (ap:bg P y=true) {K:St->Option R}
  (hk:yj E σ t (bh σ y) (λn=>K (σ.aI o.dst (.val (.int .i64) (n:Int))))=some x):o.wp P a w (Nx P C K x) Q:=by
 unfold yj at hk
 obtain ⟨T,hT,hk⟩:=bN hk
 have cJ:=dZ _ _ hT
 split at hk
 ·rename_i k v
  rcases bE h ap with hs | ⟨xs,e⟩
  rotate_left
  ·grind
  split at hk
  ·rename_i r p snap hv
   rw[hv] at hs
   split at hk
   ·rename_i fR
    obtain ⟨hr,t',m',H',v',aJ,aX,F',h1,dr,h3,h4,h5,h6⟩:=d7 h hk
    split at h1
    ·rename_i hH
     have hH:=List.isEmpty_iff.1 hH
     subst hH
     obtain ⟨e1,h1⟩:=aU h1
     subst e1
     obtain ⟨pl,g1,g2,g3⟩:=hs.2 fR
     rw[h3] at g1
     injection g1 with g1
     subst g1
     obtain ⟨f1,f2,b,es,clock,q1,q2,q3,q4⟩:=tY h4
     simp only at g2
     subst q1
     rw[bp (.map k v) _ rfl] at g2
     obtain ⟨ki,vi,hu,_,_,_⟩:=yE cJ
     have hlen:es.size=List.length v':=by have:=q3.1;simpa using this
     have dB:(execOp a.eval o).run P w=.ok (.value (.int .i64 ((List.length v':Nat):Int))) w:=by
      rw[pT ho]
      simp[Builtin.len_,g2,run_underlying hu,MapKept.run_getObj_map q2,goInt,hlen]
     exact fE dB (aP h h1 ⟨[.int .i64 _],rfl,rfl⟩ (λ_ _ _ _ e=>by cases e))
    ·cases h1
   ·cases hk
  ·cases hk
 ·cases hk
end
end OT
set_option linter.unusedVariables false
set_option linter.unusedSimpArgs false
namespace OT
open Go
structure jz (P:Program) (E:Env):Prop where
 ti:∀ i T,E.TI i=some T->aq P T (.inl i)=true
 eq:JD P E
 fn:∀ f g,E.G f=some g->Sound P f g/\l8 P f g.cap
def ED (P:Program) (t:TypeId):Bool:=match P.underlying t with
 | some (.slice _)=>true
 | some .string=>true
 | _=>false
theorem xo {P:Program} {t:TypeId} (h:ED P t=true):(∃ e',P.underlying t=some (.slice e'))\/P.underlying t=some .string:=by
 grind [ED]
def Bm (P:Program) (c:Call):Bool:=match c.callee with
 | .builtin .append | .builtin .copy=>match c.argTypes.toList with
  | [_,tx]=>ED P tx
  | _=>false
 | _=>true
def iy (P:Program):Op->Bool
 | .move x | .assign x | .nilCheck x | .box _ x | .load _ x | .unOp _ _ x | .convert _ _ x | .fieldAddr _ x _ | .field _ x _=>bg P x
 | .pick c a b=>bg P c&&bg P a&&bg P b
 | .mapUpdate _ m k v=>bg P m&&bg P k&&bg P v
 | .lookup _ a x _ | .store _ a x | .binOp _ _ a x _ | .indexAddr _ a x | .index _ a x | .makeSlice _ a x=>bg P a&&bg P x
 | .build _ ps | .buildSlice _ _ ps=>ps.toList.all λp=>bg P p.2
 | .slice _ x lo hi _=>bg P x&&lo.all (bg P)&&hi.all (bg P)
 | .makeFunc (.func f) _ cs=>(P.funcs[f]?).any λfn=>fn.nfree == cs.size
 | .call c=>c.args.toList.all (bg P)&&Bm P c
 | _=>true
section
variable {P:Program} {C:Ctx} {A:Cells} {X:FP} {σ:St} {a:Act} {w:World} {F:Nat->FP} {R:Type} {x:R} {Q:Exit->Act->World->Prop} {o:Oper} {E:Env}
theorem oy {α:Type} {l:Array α} {m:List α} (h:l.toList=m):l=m.toArray:=by grind
def lD (E:Env):Op->Bool
 | .move _ | .assign _ | .pick .. | .build .. | .load .. | .nilCheck _ | .binOp .. | .unOp .. | .fieldAddr .. | .field .. | .indexAddr .. | .index .. | .slice .. | .extract .. | .makeFunc ..=>true
 | .convert _ t _=>match E.TI t with
  | some T=>T.flat
  | none=>false
 | .call c=>match c.callee with
  | .builtin .len=>match c.argTypes.toList with
   | [t]=>!FJ (E.TI t)
   | _=>false
  | _=>false
 | _=>false
theorem Af (hE:jz P E) (h:bn P C A σ a w F) {bV i:Nat} (br:iy P o.op=true) (iJ:lD E o.op=true) {K:St->Option R} (hk:iE E bV i o σ K=some x):Tk P o a w (Nx P C K x):=by
 unfold iE at hk
 cases ho:o.op with
 | move y=>rw[ho] at hk br;exact F_ h ho br hk
 | assign y=>rw[ho] at hk br;exact Cy h ho br hk
 | pick c y z=>
  grind [iy,Ga]
 | build t ps=>rw[ho] at hk br;exact Et h hE.ti ho br hk
 | load t y=>rw[ho] at hk br;exact Eh h hE.ti ho br hk
 | nilCheck y=>rw[ho] at hk br;exact zX h ho br hk
 | binOp op t y z t2=>
  rw[ho] at hk br
  simp only[iy,Bool.and_eq_true] at br
  exact Ep h hE.ti hE.eq ho br hk
 | unOp op t y=>
  rw[ho] at hk br
  refine Gg h ho br (K:=K) ?_
  grind
 | convert s t y=>
  rw[ho] at hk br iJ
  refine A8 h hE.ti ho br (λT hT=>?_) hk
  grind [lD]
 | fieldAddr t y j=>rw[ho] at hk br;exact yw h hE.ti ho br hk
 | field t y j=>rw[ho] at hk br;exact Em h hE.ti ho br hk
 | indexAddr t y z=>
  rw[ho] at hk br
  simp only[iy,Bool.and_eq_true] at br
  exact yx h hE.ti ho br hk
 | index t y z=>
  rw[ho] at hk br
  simp only[iy,Bool.and_eq_true] at br
  exact En h hE.ti ho br hk
 | slice t y lo hi mx=>
  rw[ho] at hk br
  cases mx with
  | none=>
   simp only[iy,Bool.and_eq_true] at br
   refine Eo h hE.ti ho ⟨br.1.1,λz hz=>?_,λz hz=>?_⟩ hk
   all_goals grind
  | some m=>cases hk
 | extract y j=>
  grind [A9]
 | makeFunc fn first cs=>
  rw[ho] at hk br
  cases fn with
  | func f=>exact z6 h ho br hk
  | _=>cases hk
 | call c=>
  rw[ho] at hk br iJ
  simp only[iy,Bool.and_eq_true] at br
  obtain ⟨eO,hc⟩:=br
  obtain ⟨callee,args,ts⟩:=c
  cases callee with
  | builtin b=>
   cases b with
   | len=>
    simp only at hk
    split at hk
    ·rename_i y t h1 Y
     have e1:=oy h1;have e2:=oy Y
     subst e1;subst e2
     simp only[List.all_cons,Bool.and_eq_true] at eO
     simp only[lD,Bool.not_eq_true'] at iJ
     rw[iJ] at hk
     exact Ic h hE.ti ho eO.1 hk
    ·cases hk
   | _=>grind [lD]
  | _=>grind [lD]
 | _=>grind [lD]
def quiet (E:Env):Op->Bool
 | .alloc _ | .box .. | .buildSlice .. | .makeSlice .. | .convert .. | .makeMap .. | .lookup ..=>true
 | .call c=>match c.callee with
  | .value (.func f)=>match E.G f with
   | some g=>mO g.ps
   | none=>false
  | _=>false
 | _=>false
theorem GH (hE:jz P E) (h:bn P C A σ a w F) {bV i:Nat} (br:iy P o.op=true) (iJ:lD E o.op=false) {K:St->Option R} (hk:iE E bV i o σ K=some x) :
  o.wp P a w (λa' w'=>Nx P C K x a' w'/\(quiet E o.op=true->Ext w w' (λ_ _=>0))) Q:=by
 have wq:∀ {N:Act->World->Prop},o.wp P a w (λa' w'=>N a' w'/\Ext w w' (λ_ _=>0)) Q->o.wp P a w (λa' w'=>N a' w'/\(quiet E o.op=true->Ext w w' (λ_ _=>0))) Q:=λh=>Oper.wp_mono (λa' w' h=>⟨h.1,λ_=>h.2⟩) h
 have wn:∀ {N:Act->World->Prop},quiet E o.op=false->o.wp P a w N Q->o.wp P a w (λa' w'=>N a' w'/\(quiet E o.op=true->Ext w w' (λ_ _=>0))) Q:=λhq h=>Oper.wp_mono (λa' w' h=>⟨h,λe=>by grind⟩) h
 unfold iE at hk
 cases ho:o.op with
 | alloc t=>rw[ho] at hk;rw[<-ho];exact wq (Gk h hE.ti ho hk)
 | box t y=>rw[ho] at hk br;rw[<-ho];exact wq (KF h ho br hk)
 | buildSlice t n ps=>rw[ho] at hk br;rw[<-ho];exact wq (yB h hE.ti ho br hk)
 | store t y z=>
  rw[ho] at hk br
  simp only[iy,Bool.and_eq_true] at br
  rw[<-ho]
  refine wn (by rw[ho];rfl) ?_
  cases hd:o.dst with
  | none=>rw[hd] at hk;exact Ej h hE.ti ho hd br hk
  | some d=>grind
 | convert s t y=>rw[ho] at hk br;rw[<-ho];exact wq (Cx h hE.ti ho br hk)
 | makeMap t rv=>
  rw[ho] at hk
  rw[<-ho]
  cases rv with
  | none=>exact wq (CE h hE.ti ho hk)
  | some _=>cases hk
 | lookup t y z ok=>
  rw[ho] at hk br
  simp only[iy,Bool.and_eq_true] at br
  rw[<-ho]
  exact wq (CF h hE.ti ho br hk)
 | mapUpdate t y z u=>
  rw[ho] at hk br
  simp only[iy,Bool.and_eq_true] at br
  rw[<-ho]
  refine wn (by rw[ho];rfl) ?_
  cases hd:o.dst with
  | none=>rw[hd] at hk;exact yF h hE.ti ho hd ⟨br.1.1,br.1.2,br.2⟩ hk
  | some d=>grind
 | makeSlice t y z=>
  rw[ho] at hk br
  simp only[iy,Bool.and_eq_true] at br
  rw[<-ho]
  exact wq (zZ h hE.ti ho br hk)
 | call c=>
  rw[ho] at hk br iJ
  simp only[iy,Bool.and_eq_true] at br
  obtain ⟨eO,hc⟩:=br
  obtain ⟨callee,args,ts⟩:=c
  rw[<-ho]
  cases callee with
  | builtin b=>
   cases b with
   | len=>
    simp only at hk
    split at hk
    ·rename_i y t h1 Y
     have e1:=oy h1;have e2:=oy Y
     subst e1;subst e2
     simp only[List.all_cons,Bool.and_eq_true] at eO
     simp only[lD,Bool.not_eq_false'] at iJ
     rw[iJ] at hk
     exact wn (by rw[ho];rfl) (CG h hE.ti ho eO.1 hk)
    ·cases hk
   | append=>
    simp only at hk
    split at hk
    ·rename_i y z t tZ h1 Y
     have e1:=oy h1
     subst e1
     simp only[Bm] at hc
     split at hc
     ·rename_i t0 tx h3
      rw[h3] at Y
      injection Y with Y h4
      subst Y
      have e2:=oy h3
      subst e2
      simp only[List.all_cons,Bool.and_eq_true] at eO
      exact wn (by rw[ho];rfl) (step_append h hE.ti ho ⟨eO.1,eO.2.1⟩ (xo hc) hk)
     ·cases hc
    ·cases hk
   | copy=>
    simp only at hk
    split at hk
    ·rename_i y z t tZ h1 Y
     have e1:=oy h1
     subst e1
     simp only[Bm] at hc
     split at hc
     ·rename_i t0 tx h3
      rw[h3] at Y
      injection Y with Y h4
      subst Y
      have e2:=oy h3
      subst e2
      simp only[List.all_cons,Bool.and_eq_true] at eO
      exact wn (by rw[ho];rfl) (Gt h hE.ti ho ⟨eO.1,eO.2.1⟩ (xo hc) hk)
     ·cases hc
    ·cases hk
   | _=>cases hk
  | value y=>
   cases y with
   | func f=>
    simp only at hk
    split at hk
    ·rename_i g hg
     split at hk
     ·rename_i gX
      obtain ⟨h1,Y⟩:=hE.fn f g hg
      rw[gX] at Y
      refine Oper.wp_mono (λa' w' h=>⟨h.1,λe=>h.2 ?_⟩) (CB h ho eO h1 Y hk)
      grind [quiet]
     ·cases hk
    ·cases hk
   | tmp i=>
    refine wn (by rw[ho];rfl) ?_
    simp only at hk
    split at hk
    ·rename_i f n iK
     split at hk
     ·rename_i g hg
      obtain ⟨h1,Y⟩:=hE.fn f g hg
      refine Oper.wp_mono (λa' w' h=>h.1) (CC h ho eO iK h1 Y (K:=K) (x:=x) ?_)
      grind
     ·cases hk
    ·cases hk
   | _=>cases hk
  | _=>cases hk
 | _=>grind [lD]
theorem KO (hE:jz P E) (h:bn P C A σ a w F) {bV i:Nat} (br:iy P o.op=true) {K:St->Option R} (hk:iE E bV i o σ K=some x):o.wp P a w (Nx P C K x) Q:=by
 cases iJ:lD E o.op with
 | true=>exact (Af hE h br iJ hk).wp
 | false=>grind [Oper.wp_mono,GH]
end
end OT
set_option linter.unusedVariables false
set_option linter.unusedSimpArgs false
namespace OT
open Go
noncomputable def EE (e:Ty):Operand->Option e.den
 | .const v=>match jM v with
  | .val t y=>if h:t=e then some (h ▸ y) else none
  | _=>none
 | _=>none
noncomputable def sx (e:Ty):List (Nat×Operand)->Nat->Option (List e.den)
 | [],_=>some []
 | (j,x)::ps,n=>if Nat.beq j n then (match EE e x,sx e ps (n+1) with
  | some y,some ys=>some (y::ys)
  | _,_=>none) else none
noncomputable def oz (E:Env):Op->Option Slot
 | .alloc t=>match E.TI t with
  | some T=>if T.lw then some (.box T (av T) [] T.zero) else none
  | none=>none
 | .buildSlice t n ps=>match E.TI t with
  | some (.aa e)=>if Nat.beq n ps.size&&e.lw&&Nat.ble (n*e.sz) 16777216&&(Nat.beq n 0||decide (ag e=av e)) then (sx e ps.toList 0).map λvs=>.own (.aa e) (.aa true (av e)) [] vs else none
  | _=>none
 | _=>none
section
variable {P:Program} {C:Ctx} {A:Cells} {X:FP} {σ:St} {a:Act} {w:World} {F:Nat->FP} {R:Type} {x:R} {Q:Exit->Act->World->Prop} {o:Oper} {E:Env}
theorem zq {e:Ty} {y:Operand} {v:e.den} (h:EE e y=some v):∃ c,y=.const c/\jM c=.val e v:=by
 unfold EE at h
 split at h
 ·rename_i c
  split at h
  ·rename_i t y he
   split at h
   ·rename_i Ri
    subst Ri
    injection h with h
    exact ⟨c,rfl,by rw[he,<- h]⟩
   ·cases h
  ·cases h
 ·cases h
theorem zr {e:Ty} {j n:Nat} {y:Operand} {ps:List (Nat×Operand)} {vs:List e.den} (h:sx e ((j,y)::ps) n=some vs):j=n/\∃ v ys,EE e y=some v/\sx e ps (n+1)=some ys/\vs=v::ys:=by
 simp only[sx] at h
 split at h
 ·rename_i hj
  split at h
  ·rename_i v ys h1 Y
   injection h with h
   exact ⟨Nat.eq_of_beq_eq_true hj,v,ys,h1,Y,h.symm⟩
  ·cases h
 ·cases h
theorem Bn {e:Ty} {fz:Nat->Bool} {m:Md} {K:Md->List e.den->St->Option R}:∀ (ps:List (Nat×Operand)) {n:Nat} {vs acc:List e.den},(ps=[]\/ag e=m)->sx e ps n=some vs->tz σ e fz ps n m acc K=K m (acc++vs) σ
 | [],n,vs,acc,_,h=>by
  injection h with h
  rw[<-h,List.append_nil]
  rfl
 | (j,y)::ps,n,vs,acc,hm,h=>by
  obtain ⟨hj,v,ys,h1,Y,rfl⟩:=zr h
  obtain ⟨c,rfl,hc⟩:=zq h1
  have hm:ag e=m:=hm.resolve_left (by simp)
  have:=Bn (fz:=fz) (m:=m) (K:=K) (acc:=acc++[v]) ps (.inr hm) Y
  simp only[tz]
  rw[hj,Nat.beq_refl,if_pos rfl]
  show ep σ (jM c) _ e _=_
  rw[hc]
  simp only[ep,cS,dite_true]
  rw[if_pos hm,this,List.append_assoc]
  rfl
theorem Dw (h:Rel P C A X σ a w F) {e:Ty}:∀ (ps:List (Nat×Operand)) {n:Nat} {L Z:List Value} {vs:List e.den},L.length=n*e.sz->Z.length=ps.length*e.sz->sx e ps n=some vs ->
  ∃ L':List Value,vs.length=ps.length/\L'.length=ps.length*e.sz/\(∀ (i:Nat) (y:e.den),vs[i]?=some y->Ro P w A e y ((L'.drop (i*e.sz)).take e.sz))/\Instr.fill (λi=>some (i*e.sz,e.sz)) (L++Z).toArray (ps.map λp=>(p.1,a.eval p.2))=some (L++L').toArray
 | [],n,L,Z,vs,hL,hZ,hc=>by
  injection hc with hc
  subst hc
  have:Z=[]:=by simpa using hZ
  subst this
  exact ⟨[],rfl,by simp,λi y hy=>(by cases hy),by simp[Instr.fill]⟩
 | (j,y)::ps,n,L,Z,vs,hL,hZ,hc=>by
  obtain ⟨hj,v,ys,h1,Y,rfl⟩:=zr hc
  subst hj
  obtain ⟨c,rfl,fM⟩:=zq h1
  have hs:=bE (P:=P) h (o:=.const c) rfl
  have ho:bh σ (.const c)=.val e v:=fM
  rw[ho] at hs
  rcases hs with ⟨cs,k1,k2⟩ | ⟨xs,e'⟩
  rotate_left
  ·cases e'
  have nu:=Ro.length _ k2
  have Gr:Z.length=e.sz+ps.length*e.sz:=by rw[hZ,List.length_cons,Nat.succ_mul,Nat.add_comm]
  obtain ⟨L',g1,g2,g3,g4⟩:=Dw h ps (n:=j+1) (L:=L++cs) (Z:=Z.drop e.sz) (by rw[List.length_append,hL,nu,Nat.succ_mul]) (by rw[List.length_drop,Gr];omega) Y
  refine ⟨cs++L',by simp[g1],by rw[List.length_append,nu,g2,List.length_cons,Nat.succ_mul,Nat.add_comm],λi z hz=>?_,?_⟩
  ·cases i with
   | zero=>
    injection hz with hz
    subst hz
    rw[Nat.zero_mul,List.drop_zero,List.take_append_of_le_length (Nat.le_of_eq nu.symm),List.take_of_length_le (Nat.le_of_eq nu)]
    exact k2
   | succ i=>
    have hz:ys[i]?=some z:=by simpa using hz
    rw[Nat.succ_mul,Nat.add_comm,<- nu,List.drop_length_add_append,nu]
    exact g3 i z hz
  ·rw[List.map_cons,k1,qz (pl:=λi=>some (i*e.sz,e.sz)) rfl nu (dz nu (Ro.one _ k2)) (by simp[hL,Gr])]
   have e1:(L++Z).take (j*e.sz)=L:=by rw[<-hL,List.take_left]
   have e2:(L++Z).drop (j*e.sz+e.sz)=Z.drop e.sz:=by rw[<-hL,List.drop_length_add_append]
   rw[e1,e2,g4,List.append_assoc]
theorem Il {s:Slot} (hs:oz E o.op=some s) {bV i:Nat} {K:St->Option R}:iE E bV i o σ K=K (σ.aI o.dst s):=by
 unfold oz at hs
 split at hs
 ·grind [iE,gA]
 ·rename_i t n ps ho
  unfold iE
  simp only[ho]
  split at hs
  ·rename_i e hT
   simp only[gA,hT]
   split at hs
   ·rename_i hc
    simp only[Bool.and_eq_true,Bool.or_eq_true,decide_eq_true_eq] at hc
    obtain ⟨⟨⟨h1,Y⟩,h3⟩,h4⟩:=hc
    rw[h1,Y,h3]
    obtain ⟨vs,hv,hs⟩:=Option.map_eq_some_iff.1 hs
    have:=Bn (σ:=σ) (fz:=D1 E.fz bV i) (m:=av e) (K:=λm v σ=>K (σ.aI o.dst (.own (.aa e) (.aa true m) [] v))) (acc:=[]) ps.toList (h4.imp (λh=>by
     have h0:=Nat.eq_of_beq_eq_true h
     have h5:=Nat.eq_of_beq_eq_true h1
     exact List.eq_nil_of_length_eq_zero (by rw[Array.length_toList];omega)) id) hv
    simp only[Bool.and_self,if_true]
    rw[this,<- hs]
    rfl
   ·cases hs
  ·cases hs
 ·cases hs
theorem GI {N:Act->World->Prop} (hh:o.wp P a w N Q):o.wp P a w (λa' w'=>(∀ d,o.dst≠some d->tmp a' d=tmp a d)/\N a' w') Q:=by
 have key:∀ (a0:Act) v,a0.tmps=a.tmps->∀ d,o.dst≠some d->tmp (a0.put o.dst v) d=tmp a d:=λa0 v h0 d hd=>by
  unfold tmp Act.put
  cases ho:o.dst <;> simp_all
 unfold Oper.wp at *
 generalize (execOp a.eval o).run P w=r at *
 simp_all [Oper.upon]
theorem zs {d:Nat} (h:ym σ d=true):d < σ.n/\σ.get d=.dead/\(∀ k,(d,k,false) ∉ σ.aA)/\∀ r p snap,(d,r,p,snap) ∉ σ.gh:=by
 unfold ym at h
 simp only[Bool.and_eq_true,Bool.not_eq_true',Nat.blt_eq] at h
 obtain ⟨⟨⟨h1,Y⟩,h3⟩,h4⟩:=h
 refine ⟨h1,?_,λk hm=>?_,λr p snap hm=>?_⟩
 ·grind
 ·revert h3 hm
  generalize σ.aA=l
  induction l with
  | nil=>grind
  | cons e l ih=>
   obtain ⟨k1,n1,b1⟩:=e
   simp_all [rX]
 ·rw[List.any_eq_false] at h4
  exact h4 _ hm (by simp)
theorem Rel.tmp (h:Rel P C A X σ a w F) {d:Nat} (hp:ym σ d=true) (v:Value):Rel P C A X σ (a.put (some d) v) w F:=by
 obtain ⟨hd,hg,hl,Jt⟩:=zs hp
 have fi:=h.size
 have ht:∀ i,i≠d->OT.tmp (a.put (some d) v) i=OT.tmp a i:=λi hi=>by
  grind [fD]
 have df:∀ r p,place σ (a.put (some d) v) w r p=place σ a w r p:=λr p=>by
  unfold place
  by_cases hr:r=d
  ·subst hr;rw[hg];rfl
  ·rw[ht r hr]
 have fe:nz σ a w σ (a.put (some d) v) w:=λr p snap hb=>⟨hb,λap=>⟨ap,λ_ pl hp=>⟨pl.H,pl.cs,by simp_all,λ_=>rfl⟩⟩⟩
 refine { h with size:=by simp[Act.put,fi],defers:=by simpa [Act.put] using h.defers,cj:=λi hi=>?_,gh:=λd' r p snap hm=>?_,fH:=λj k hm=>?_,whole:=λr t m H v' hr hk=>?_,e7:=λj k hm R hR=>?_ }
 ·by_cases ew:i=d
  ·subst ew;rw[hg];trivial
  ·rw[ht i ew]
   exact aV.eL fe (λ_ _ h=>h) (λ_ _ _ _ h=>h) (λ_ _ h=>h) (λ_ _ _=>⟨λ_ h=>h,rfl⟩) (h.cj i hi)
 ·rw[ht d' (λe=>by grind)]
  exact iv.eL fe (h.gh d' r p snap hm)
 ·rw[ht j (λe=>by grind)]
  exact h.fH j k hm
 ·rw[ht r (λe=>by grind)]
  exact h.whole r t m H v' hr hk
 ·have:j≠d:=λe=>by subst e;rw[hg] at hR;cases hR
  rw[ht j this] at hR
  exact h.e7 j k hm R hR
def PS (P:Program) (A:Cells) (w:World) (tv:Value):Slot->FP->Prop
 | .own t m H v,F=>∃ cs,tv=aZ t cs/\af P w A t m H v cs F
 | .box t m H v,F=>∃ b L F1,tv=.pointer (some ⟨b,0,none⟩)/\L.length=t.sz/\Has w b 0 L/\(∀ j,j < t.sz->w.frozen? ⟨b,j,none⟩=false) /\
   (∀ x i,bj b 0 t.sz x i+F1 x i<=F x i)/\af P w A t m H v L F1/\cr w b (t.sz,false)
 | _,_=>False
theorem PS.slot {tv:Value} {s:Slot} {G:FP} (h:PS P A w tv s G):aV P A σ a w tv s G:=by
 cases s with
 | own t m H v=>exact h
 | box t m H v=>
  obtain ⟨b,L,F1,h1,Y,h3,h4,h5,h6,h7⟩:=h
  exact ⟨b,0,L,F1,h1,Y,h3,λj hj=>by grind,h5,h6⟩
 | _=>exact h.elim
theorem PS.whole {tv:Value} {s:Slot} {G:FP} (h:PS P A w tv s G):∀ t m H v',s=.box t m H v'->∃ b,tv=.pointer (some ⟨b,0,none⟩)/\cr w b (t.sz,false):=by
 rintro t m H v rfl
 obtain ⟨b,L,F1,h1,Y,h3,h4,h5,h6,h7⟩:=h
 grind
theorem PS.eL {A':Cells} {w':World} {tv:Value} {s:Slot} {G:FP} (hA:∀ b i,A b i->A' b i) (hc:∀ b i,A b i->∀ u,ce w b i=some u->ce w' b i=some u) (hb:∀ b n,cr w b n->cr w' b n)
  (hF:∀ b i,1<=G b i->(∀ u,ce w b i=some u->ce w' b i=some u)/\w'.frozen? ⟨b,i,none⟩=w.frozen? ⟨b,i,none⟩) (h:PS P A w tv s G):PS P A' w' tv s G:=by
 cases s with
 | own t m H v=>obtain ⟨cs,h1,Y⟩:=h;exact ⟨cs,h1,af.mono hA hc hb t Y (λ_ _=>Nat.le_refl _) (λb i hp=>(hF b i hp).1)⟩
 | box t m H v=>
  obtain ⟨b,L,F1,h1,Y,h3,h4,h5,h6,h7⟩:=h
  have hr:∀ j,j < t.sz->1<=G b j:=λj hj=>by
   grind [bj]
  exact ⟨b,L,F1,h1,Y,λj u hu=>(hF _ _ (by grind)).1 u (h3 j u hu),λj hj=>by grind,h5,
   af.mono hA hc hb t h6 (λ_ _=>Nat.le_refl _) (λb i hp=>(hF b i (by grind)).1),hb _ _ h7⟩
 | _=>exact h.elim
def PF (P:Program) (E:Env) (ops:Array Oper) (A:Cells) (a:Act) (w:World):List Nat->FP->Prop
 | [],_=>True
 | j::D,X=>∃ (o:Oper) (d:Nat) (s:Slot) (Fj X':FP),ops[j]?=some o/\o.dst=some d/\oz E o.op=some s/\PS P A w (tmp a d) s Fj/\(∀ b i,X' b i+Fj b i<=X b i)/\PF P E ops A a w D X'
theorem PF.eL {ops:Array Oper} {A':Cells} {a':Act} {w':World} (hA:∀ b i,A b i->A' b i) (hc:∀ b i,A b i->∀ u,ce w b i=some u->ce w' b i=some u) (hb:∀ b n,cr w b n->cr w' b n) :
  ∀ (D:List Nat) {X:FP},(∀ j ∈ D,∀ o d,ops[j]?=some o->o.dst=some d->tmp a' d=tmp a d)->(∀ b i,1<=X b i->(∀ u,ce w b i=some u->ce w' b i=some u)/\w'.frozen? ⟨b,i,none⟩=w.frozen? ⟨b,i,none⟩) ->
   PF P E ops A a w D X->PF P E ops A' a' w' D X
 | [],_,_,_,_=>trivial
 | j::D,X,ht,hF,h=>by
  obtain ⟨o,d,s,Fj,X',h1,Y,h3,h4,h5,h6⟩:=h
  exact ⟨o,d,s,Fj,X',h1,Y,h3,by
   rw[ht j (by simp) o d h1 Y]
   exact PS.eL hA hc hb (λb i hp=>hF b i (by have:=h5 b i;omega)) h4,h5,PF.eL hA hc hb D (λk hk=>ht k (by simp[hk])) (λb i hp=>hF b i (by have:=h5 b i;omega)) h6⟩
theorem PF.grow {ops:Array Oper}:∀ (D:List Nat) {X X1:FP},(∀ b i,X b i<=X1 b i)->PF P E ops A a w D X->PF P E ops A a w D X1
 | [],_,_,_,_=>trivial
 | j::D,X,X1,hx,h=>by
  obtain ⟨o,d,s,Fj,X',h1,Y,h3,h4,h5,h6⟩:=h
  exact ⟨o,d,s,Fj,X',h1,Y,h3,h4,λb i=>Nat.le_trans (h5 b i) (hx b i),h6⟩
theorem PF.take {ops:Array Oper} {j:Nat}:∀ (D:List Nat) {X:FP},j ∈ D->PF P E ops A a w D X ->
  ∃ (o:Oper) (d:Nat) (s:Slot) (Fj X':FP),ops[j]?=some o/\o.dst=some d/\oz E o.op=some s/\PS P A w (tmp a d) s Fj/\(∀ b i,X' b i+Fj b i<=X b i)/\PF P E ops A a w (D.erase j) X'
 | [],_,hj,_=>by cases hj
 | k::D,X,hj,h=>by
  by_cases qC:k=j
  ·subst qC
   rw[List.erase_cons_head]
   exact h
  ·have l6:j ∈ D:=by
    rcases List.mem_cons.1 hj with e | e
    ·exact absurd e.symm qC
    ·exact e
   obtain ⟨o,d,s,Fk,X1,h1,Y,h3,h4,h5,h6⟩:=h
   obtain ⟨o',d',s',Fj,X2,g1,g2,g3,g4,g5,g6⟩:=PF.take D l6 h6
   rw[List.erase_cons_tail (by simpa using qC)]
   exact ⟨o',d',s',Fj,λb i=>X2 b i+Fk b i,g1,g2,g3,g4,λb i=>by have:=g5 b i;have:=h5 b i;show X2 b i+Fk b i+Fj b i<=X b i;omega,o,d,s,Fk,X2,h1,Y,h3,h4,λb i=>Nat.le_refl _,g6⟩
theorem Im (h:Rel P C A X σ a w F) (dZ:∀ i T,E.TI i=some T->aq P T (.inl i)=true) {s:Slot} (hs:oz E o.op=some s) {d:Nat} (hp:ym σ d=true) :
  ∃ (v:Value) (w':World) (Fj:FP),(execOp a.eval o).run P w=.ok (.value v) w'/\Ext w w' (λ_ _=>0)/\Rel P C A (λb i=>X b i+Fj b i) σ (a.put (some d) v) w' F/\PS P A w' v s Fj:=by
 unfold oz at hs
 split at hs
 ·rename_i t ho
  split at hs
  ·rename_i T hT
   split at hs
   ·rename_i vu
    injection hs with hs
    subst hs
    have cJ:=dZ _ _ hT
    obtain ⟨L,hL⟩:=jT T vu
    obtain ⟨z,A7,Gl⟩:=oO (P:=P) (w:=w) cJ hL
    obtain ⟨r1,r2,r3⟩:=o3 (P:=P) (w:=w) (A:=A) T hL cJ
    have hc:z.cells=L.toArray:=by grind
    have h1:=h.alloc L.toArray t (0,0)
    have cy:=qy w L.toArray t (0,0) false (.inr (Nat.le_refl _))
    have ON:L.length=T.sz:=af.length T r1
    simp only[List.size_toArray,ON] at cy h1
    have oR:=af.alloc h r1 (λb i hp=>by simp at hp) (fF w (.cells L.toArray t))
    refine ⟨.pointer (some ⟨w.heap.size,0,none⟩),w.alloc (.cells L.toArray t),bj w.heap.size 0 T.sz,?_,fF w _,h1.tmp hp _,w.heap.size,L,(λ_ _=>0),rfl,ON,oo w L.toArray t (0,0) (λj u hu=>by simpa using hu) (af.one _ r1),λj hj=>cy.frozen hj,λ_ _=>Nat.le_refl _,oR,cy⟩
    simp_all [execOp,Instr.alloc,newVar,newRow]
   ·cases hs
  ·cases hs
 ·rename_i t n ps ho
  split at hs
  ·rename_i e hT
   split at hs
   ·rename_i hc
    obtain ⟨vs,hv,hs⟩:=Option.map_eq_some_iff.1 hs
    subst hs
    simp only[Bool.and_eq_true,Bool.or_eq_true,decide_eq_true_eq,Nat.beq_eq,Nat.ble_eq] at hc
    obtain ⟨⟨⟨hn,hz⟩,gX⟩,h4⟩:=hc
    have hl:=dZ _ _ hT
    simp only[aq,Bool.and_eq_true] at hl
    have Y:=hl.2
    split at Y
    ·rename_i el hu
     simp only[Bool.and_eq_true,Nat.ble_eq] at Y
     obtain ⟨fi,jG⟩:=Y
     obtain ⟨Lz,Gs⟩:=jT e hz
     obtain ⟨r1,r2,r3⟩:=o3 (P:=P) (w:=w) (A:=A) _ Gs jG
     obtain ⟨inf,i1,i2,i3,i4⟩:=dM (eh jG)
     obtain ⟨z,z1,z2⟩:=i4 Lz Gs
     have QQ:z.cells.size=e.sz:=by grind
     have mK:ps.toList.length=n:=by simpa using hn.symm
     obtain ⟨L',g1,g2,g3,g4⟩:=Dw h ps.toList (n:=0) (L:=[]) (Z:=((Array.range (n*e.sz)).map (z.cells[· % z.cells.size]!)).toList) (by simp) (by simp[hn]) hv
     simp only[List.nil_append,Array.toArray_toList] at g4
     rw[mK] at g1 g2
     have dB:(execOp a.eval o).run P w=.ok (.value (.slice (some ⟨w.heap.size,0,none⟩) n n)) (w.alloc (.cells L'.toArray el)):=by
      by_cases tj:n*e.sz=0
      ·have:n=0:=by rcases Nat.mul_eq_zero.1 tj with h | h <;> omega
       subst this
       have mJ:ps=#[]:=by grind
       subst mJ
       have Dc:L'=[]:=by simpa using g2
       subst Dc
       simp[execOp,ho,Instr.buildSlice,run_underlying hu,Go.sizeOf,typeInfo,i1,Instr.fill,newRow,show Array.range 0=#[] from rfl]
      simp_all [run_buildSlice,execOp]
     have tO:=h.alloc L'.toArray el (0,0)
     have cy:=qy w L'.toArray el (0,0) (vT e) (.inr (Nat.le_refl _))
     have Rj:L'.toArray.size=n*e.sz:=by simpa using g2
     rw[Rj] at cy tO
     have yG:n<=maxLen:=by simp only[maxLen];have:=Nat.le_mul_of_pos_right n fi;omega
     refine ⟨_,_,λb i=>bj w.heap.size 0 (n*e.sz) b i+ao n (λ_ _ _=>0) b i,dB,fF w _,?_,?_⟩
     ·refine (tO.less (λb i=>?_)).tmp hp _
      simp[eF]
     ·refine ⟨_,(bp (.aa e) _ rfl).symm,?_⟩
      simp only[af,hole,List.any_nil,Bool.false_eq_true,if_false,Md.own,if_true,Md.e]
      refine ⟨_,n,by rw[g1],by rw[g1];exact Nat.le_refl _,yG,(λe=>by cases e),λad di=>?_⟩
      injection di with di;subst di
      refine ⟨rfl,rfl,cy,λ_ _ _=>0,λb i=>by rw[g1];exact Nat.le_refl _,λi y hy=>?_⟩
      have hi:=(List.getElem?_eq_some_iff.1 hy).1
      have km:=g3 i y hy
      have hm:ag e=av e:=h4.resolve_left (by omega)
      refine ⟨_,Ro.length _ km,oo w L'.toArray el (0,0) (λj u hu=>?_) (Ro.one _ km),?_⟩
      ·grind
      ·simp only[List.filterMap_nil]
       exact af.alloc h (Ro.rep e (λ_ _=>0) (by rw[<-hm];exact bS _) km) (λb k hp=>by simp at hp) (fF w _)
    ·cases Y
   ·cases hs
  ·cases hs
 ·cases hs
theorem Rel.KP (h:Rel P C A X σ a w F):∃ C':Ctx,C'.w0=w/\C'.A0=A/\(∀ b i,A b i->C'.F0 b i=0)/\Rel P C' A X σ a w F/\(∀ {A2:Cells} {X2:FP} {eu:St} {a2:Act} {w2:World} {F2:Nat->FP},Rel P C' A2 X2 eu a2 w2 F2->Rel P C A2 X2 eu a2 w2 F2):=by
 refine ⟨⟨w,A,λb i=>X b i+ao σ.n F b i,C.args⟩,rfl,rfl,λb i ha=>?_,?_,λ{A2 X2 eu a2 w2 F2} Y=>?_⟩
 ·show X b i+ao σ.n F b i=0
  rcases Nat.eq_zero_or_pos (X b i+ao σ.n F b i) with h0 | h0
  ·exact h0
  ·exact absurd ha (h.gD b i h0)
 ·exact { h with ext:=Ext.refl _ _,own:=λb i hp=>.inl hp,a0:=λ_ _ h=>h,J:=λ_ _ h=>.inl h,fH:=h.fH,e7:=h.e7,mB:=h.sj λb i hp=>hp }
 ·have fi:C.w0.heap.size<=w.heap.size:=h.ext.size
  refine { Y with ext:=h.ext.trans Y.ext (λb i hb hz=>?_),own:=λb i hp=>?_,a0:=λb i ha=>Y.a0 b i (h.a0 b i ha),J:=λb i ha=>?_,fH:=Y.fH,e7:=Y.e7,mB:=h.mB }
  ·show X b i+ao σ.n F b i=0
   rcases Nat.eq_zero_or_pos (X b i+ao σ.n F b i) with h0 | h0
   ·exact h0
   ·rcases h.own b i h0 with h1 | h1 <;> omega
  ·rcases Y.own b i hp with h1 | h1
   ·exact h.own b i h1
   grind
  ·rcases Y.J b i ha with h1 | h1 | h1
   ·exact h.J b i h1
   ·exact .inr (h.own b i h1)
   grind
theorem Rel.frame (h:Rel P C A X σ a w F):∃ C1:Ctx,bn P C1 A σ a w F/\∀ {A2:Cells} {eu:St} {a2:Act} {w2:World} {F2:Nat->FP},bn P C1 A2 eu a2 w2 F2->Rel P C A2 X eu a2 w2 F2 /\
  (∀ b i,A b i->A2 b i)/\(∀ b i,A b i->∀ u,ce w b i=some u->ce w2 b i=some u)/\(∀ b n,cr w b n->cr w2 b n)/\(∀ b i,1<=X b i->(∀ u,ce w b i=some u->ce w2 b i=some u)/\w2.frozen? ⟨b,i,none⟩=w.frozen? ⟨b,i,none⟩):=by
 have Rk:∀ b i,1<=X b i->ao σ.n F b i=0:=λb i hp=>by have:=h.f5 b i;omega
 have L5:∀ b i,1<=X b i->b < w.heap.size:=λb i hp=>h.dA b i (.inl (by omega))
 refine ⟨⟨w,A,ao σ.n F,C.args⟩,?_,λ{A2 eu a2 w2 F2} Y=>⟨?_,Y.a0,λb i ha u hu=>?_,Y.ext.lY,λb i hp=>⟨λu hu=>Y.ext.cell b i (L5 b i hp) (Rk b i hp) u hu,Y.ext.oM b i (L5 b i hp)⟩⟩⟩
 ·exact { h with
   f5:=λb i=>by have:=h.f5 b i;grind
   gD:=λb i hp=>h.gD b i (by grind)
   dA:=λb i hp=>h.dA b i (hp.imp (λhp=>by grind) id)
   ext:=Ext.refl _ _
   own:=λb i hp=>.inl (by grind)
   a0:=λ_ _ h=>h,J:=λ_ _ h=>.inl h,fH:=h.fH,e7:=h.e7,mB:=h.sj λb i hp=>by grind }
 ·have fi:C.w0.heap.size<=w.heap.size:=h.ext.size
  have mP:∀ b i,1<=X b i->ao eu.n F2 b i=0:=λb i hp=>by
   rcases Nat.eq_zero_or_pos (ao eu.n F2 b i) with h0 | h0
   ·exact h0
   ·rcases Y.own b i (by grind) with h1 | h1
    all_goals grind
  have cy:∀ b i,1<=ao σ.n F b i->1<=C.F0 b i\/C.w0.heap.size<=b:=λb i hp=>h.own b i (by omega)
  refine { Y with f5:=λb i=>?_,gD:=λb i hp=>?_,dA:=λb i hp=>?_,ext:=h.ext.trans Y.ext (λb i hb hz=>?_),own:=λb i hp=>?_,a0:=λb i ha=>Y.a0 b i (h.a0 b i ha),J:=λb i ha=>?_,fH:=Y.fH,e7:=Y.e7,mB:=h.mB }
  ·have h1:0+ao eu.n F2 b i<=1:=Y.f5 b i
   have:=mP b i
   have:=h.f5 b i
   omega
  ·by_cases hx:1<=X b i
   ·intro ha
    rcases Y.J b i ha with h1 | h1 | h1
    ·exact h.gD b i (by omega) h1
    all_goals grind
   ·exact Y.gD b i (by grind)
  ·by_cases hx:1<=X b i
   ·exact Nat.lt_of_lt_of_le (L5 b i hx) Y.ext.size
   ·exact Y.dA b i (hp.imp (λhp=>by grind) id)
  ·grind
  ·by_cases hx:1<=X b i
   ·exact h.own b i (by omega)
   ·rcases Y.own b i (by grind) with h1 | h1
    all_goals grind
  ·rcases Y.J b i ha with h1 | h1 | h1
   ·exact h.J b i h1
   all_goals grind
 ·refine Y.ext.cell b i (lK hu) ?_ u hu
  show ao σ.n F b i=0
  rcases Nat.eq_zero_or_pos (ao σ.n F b i) with h0 | h0
  ·exact h0
  ·exact absurd ha (h.gD b i (by omega))
end
end OT
set_option linter.unusedVariables false
set_option linter.unusedSimpArgs false
namespace OT
open Go
section
variable {P:Program} {C:Ctx} {A:Cells} {X:FP} {σ:St} {a:Act} {w:World} {F:Nat->FP} {R:Type} {x:R} {Q:Exit->Act->World->Prop} {o:Oper} {E:Env}
theorem Rel.congr (h:Rel P C A X σ a w F) {σ':St} (hn:σ'.n=σ.n) (hg:∀ i,σ'.get i=σ.get i) (hv:∀ i,σ'.dJ i=σ.dJ i) (hl:∀ e,e ∈ σ'.aA↔e ∈ σ.aA) (Jt:∀ e,e ∈ σ'.gh->e ∈ σ.gh):Rel P C A X σ' a w F:=by
 have fe:nz σ a w σ' a w:=λr p snap hb=>⟨by rw[hv];exact hb,λap=>by
  unfold St.ok at ap ⊢
  rw[hv] at ap
  exact ⟨ap,λ_ pl df=>⟨pl.H,pl.cs,by unfold place at df ⊢;rw[hg];exact df,λ_=>rfl⟩⟩⟩
 refine ⟨by rw[hn];exact h.size,h.defers,λi hi=>?_,λd r p snap hm=>iv.eL fe (h.gh d r p snap (Jt _ hm)),λb i=>by rw[hn];exact h.f5 b i,λb i hp=>by rw[hn] at hp;exact h.gD b i hp,λb i hp=>by rw[hn] at hp;exact h.dA b i hp,
  λi=>by rw[hv];exact h.eg i,h.ext,λb i hp=>by rw[hn] at hp;exact h.own b i hp,h.a0,h.J,λj k hm=>h.fH j k ((hl _).1 hm),λr t m H v hr hk=>?_,λj k hm R hR=>?_,h.mB⟩
 ·rw[hg]
  exact aV.eL fe (λ_ _ h=>h) (λ_ _ _ _ h=>h) (λ_ _ h=>h) (λ_ _ _=>⟨λ_ h=>h,rfl⟩) (h.cj i (by rw[<-hn];exact hi))
 ·rw[hg] at hr
  exact h.whole r t m H v hr λk hm=>hk k ((hl _).2 hm)
 ·rw[hg] at hR
  exact h.e7 j k ((hl _).1 hm) R hR
theorem Rel.same (h:Rel P C A X σ a w F) {t:Nat} {s:Slot} (hs:σ.get t=s):Rel P C A X (σ.y8 t s) a w F:=
 h.congr rfl (λi=>by
  rw[uT]
  split
  ·rename_i hc;rw[<-hs,hc.1]
  ·rfl) (λi=>rfl) (λe=>Iff.rfl) (λe he=>he)
theorem Bo (h:Rel P C A X σ a w F) {ops:Array Oper} {o:Oper} {K:Bool->St->Option R} (hk:tA ops.toList σ o.guard K=some x):∃ (b:Bool) (σ':St),K b σ'=some x/\Rel P C A X σ' a w F/\Region.wanted o (yielded ops a.tmps)=b:=by
 unfold tA at hk
 split at hk
 ·rename_i hg;exact ⟨true,σ,hk,h,by simp[Region.wanted,hg]⟩
 ·rename_i j want hg
  split at hk
  ·cases hk
  ·rename_i t ht
   rw[Array.getElem?_toList] at ht
   have hy:∀ v,tmp a t=v->t < σ.n->yielded ops a.tmps j=match v with | .bool b=>some b | _=>none:=λv hv rG=>by
    have aB:t < a.tmps.size:=by rw[h.size];exact rG
    unfold yielded
    rw[ht]
    have:a.tmps[t]?=some v:=by rw[Array.getElem?_eq_getElem aB,<- hv];simp[tmp,aB]
    simp only[Option.bind_some,this]
    cases v <;> rfl
   have aB:∀ s,σ.get t=s->s≠.dead->t < σ.n:=λs hs ci=>by
    rcases Nat.lt_or_ge t σ.n with hi | hi
    ·exact hi
    ·rw[ek (Nat.not_lt.2 hi)] at hs;exact absurd hs.symm ci
   split at hk
   ·rename_i b Bp
    have rG:=aB _ Bp (by intro e;cases e)
    have hs:=h.cj t rG
    rw[Bp] at hs
    have hv:=A4 hs
    have Dx:=hy _ hv rG
    simp only at Dx
    cases b with
    | true=>exact ⟨_,_,hk,Rel.same h Bp,by simp only[Region.wanted,hg,Dx];cases want <;> rfl⟩
    | false=>exact ⟨_,_,hk,Rel.same h Bp,by simp only[Region.wanted,hg,Dx];cases want <;> rfl⟩
   ·rename_i Bp
    have rG:=aB _ Bp (by intro e;cases e)
    have hs:=h.cj t rG
    rw[Bp] at hs
    obtain ⟨vs,Fi,h1,_⟩:=hs
    have Dx:=hy _ h1 rG
    simp only at Dx
    exact ⟨false,σ,hk,h,by simp only[Region.wanted,hg,Dx];cases want <;> rfl⟩
   ·cases hk
theorem yH (h:Rel P C A X σ a w F) (o:Oper):∃ F',Rel P C A X (σ.aI o.dst (.iI [])) (a.put o.dst undef) w F':=
 h.aI o.dst (s:=.iI []) (v:=undef) (Fd:=λ_ _=>0) (X':=X) ⟨#[],λ_ _ _=>0,rfl,λb i=>by simp[ao],λj y hy=>by cases hy⟩ (λb i=>Nat.le_refl _) (λ_ _ _ _ e=>by cases e)
theorem L6 (hE:jz P E) {bV:Nat} {ops:Array Oper} (br:∀ o ∈ ops.toList,iy P o.op=true) {K:St->Option R} (hQ:∀ a w,Nx P C K x a w->Q .normal a w) :
  ∀ (rest:List Oper) (i:Nat) {σ:St} {A:Cells} {a:Act} {w:World} {F:Nat->FP},ops.toList.drop i=rest->bn P C A σ a w F->yk E bV ops.toList rest i σ K=some x->wpOps P ops Q (List.range' i rest.length) a w:=by
 intro rest
 induction rest with
 | nil=>intro i σ A a w F hd h hk;exact hQ a w ⟨σ,hk,A,F,h⟩
 | cons o rest ih=>
  intro i σ A a w F hd h hk
  have hi:ops[i]?=some o:=by
   have:(ops.toList.drop i)[0]?=some o:=by rw[hd];rfl
   rw[List.getElem?_drop] at this
   simpa using this
  have jD:ops.toList.drop (i+1)=rest:=by rw[<-List.drop_drop,hd];rfl
  have t9:o ∈ ops.toList:=List.mem_of_getElem? (i:=i) (by simpa using hi)
  simp only[yk] at hk
  obtain ⟨b,fN,hk,h1,hw⟩:=Bo h hk
  show wpOps P ops Q (i::List.range' (i+1) rest.length) a w
  simp only[wpOps,hi,hw]
  cases b with
  | true=>
   simp only[if_true]
   refine .inl (Oper.wp_mono (λa' w' hn=>?_) (KO hE h1 (br o t9) hk))
   obtain ⟨eu,ff,A2,F2,Y⟩:=hn
   exact ih (i+1) jD Y ff
  | false=>
   simp only[Bool.false_eq_true,if_false]
   obtain ⟨F2,Y⟩:=yH h1 o
   exact ih (i+1) jD Y hk
theorem GJ (hE:jz P E) {bV id:Nat} {ops:Array Oper} (br:∀ o ∈ ops.toList,iy P o.op=true) (h:bn P C A σ a w F) {K:St->Option R} (hk:yk E bV ops.toList ops.toList 0 σ K=some x) (hQ:∀ a w,Nx P C K x a w->Q .normal a w) :
  (Code.region id ops false).wp P Q a w:=by
 refine wp_region ?_
 have:=L6 hE br hQ ops.toList 0 (by simp) h hk
 simpa [List.range_eq_range'] using this
def kQ (P:Program) (md:Region.Mode) (ops:Array Oper) (Q:Exit->Act->World->Prop) (S:Array Bool->World->Prop):Nat->Array Bool->Act->World->Prop
 | 0,dV,a,w=>Region.ready md ops dV=[]/\Q .normal a w
 | fuel+1,dV,a,w=>
  (Region.ready md ops dV=[]->Q .normal a w) /\
  ∀ i ∈ Region.ready md ops dV,wpOp P ops Q i (λa' w'=>S (dV.setIfInBounds i true) w'/\kQ P md ops Q S fuel (dV.setIfInBounds i true) a' w') a w
theorem xp {md:Region.Mode} {ops:Array Oper} {S:Array Bool->World->Prop}:∀ (fuel:Nat) (dV:Array Bool) (a:Act) (w:World),kQ P md ops Q S fuel dV a w->wpAny P md ops Q fuel dV a w
 | 0,_,_,_,h=>h
 | fuel+1,_,_,_,h=>⟨h.1,λi hi=>wpOp_mono (λa' w' h'=>xp fuel _ a' w' h'.2) (h.2 i hi)⟩
def rM (md:Region.Mode) (ops:Array Oper) (l:Array Bool):Prop:=∀ j o,ops[j]?=some o->l.getD j false=true->∀ e ∈ o.after,Region.binds md e=true->l.getD e.on false=true
theorem sy {md:Region.Mode} {ops:Array Oper} {l:Array Bool} (h:rM md ops l) {j:Nat} (hj:j ∈ Region.ready md ops l):rM md ops (l.setIfInBounds j true):=by
 obtain ⟨_,oj,xq,iP⟩:=mem_ready.1 hj
 intro k o hk hl e he hb
 by_cases qC:j=k
 ·subst qC
  rw[xq] at hk
  injection hk with hk
  subst hk
  exact getD_set_true (iP e he hb)
 ·rw[getD_set_ne false qC] at hl
  exact getD_set_true (h k o hk hl e he hb)
def SU (md:Region.Mode) (ops:Array Oper) (S:Array Bool->World->Prop) (i:Nat):World->Prop:=λw'=>∃ l,rM md ops l/\l.getD i true=false/\S l w'
theorem mQ {md:Region.Mode} {ops:Array Oper} {S:Array Bool->World->Prop} {i:Nat} {oi:Oper} {v:Value} (hi:ops[i]?=some oi) (sA:∀ (j:Nat) (o:Oper) cs b,ops[j]?=some o->o.op≠.select cs b)
  (hQ:∀ c a w,Q (.panic c) (a.put oi.dst v) w->Q (.panic c) a w) (hS:∀ l w,S (l.setIfInBounds i true) w↔S l w) :
  ∀ (fuel:Nat) (dV:Array Bool) (a:Act) (w:World),
   (∀ j oj,ops[j]?=some oj->j≠i->dV.getD j true=false->(∀ e ∈ oj.after,Region.binds md e=true->e.on≠i)->oi.apart ops oj=true) ->
   i ∈ Region.ready md ops dV->rM md ops dV->YieldsIf P ops (SU md ops S i) oi v a->S dV w ->
   kQ P md ops Q S fuel (dV.setIfInBounds i true) (a.put oi.dst v) w->kQ P md ops Q S (fuel+1) dV a w:=by
 intro fuel
 induction fuel with
 | zero=>
  intro dV a w _ hr hc hy hs H
  have jH:dV.getD i true=false:=(mem_ready.1 hr).1
  refine ⟨λh=>(by rw[h] at hr;cases hr),λj hj=>?_⟩
  by_cases fC:j=i
  ·subst fC;exact hy.wpOp hi ⟨dV,hc,jH,hs⟩ ⟨(hS _ _).2 hs,H⟩
  ·have:=ready_mono hj fC
   rw[H.1] at this
   cases this
 | succ fuel ih=>
  intro dV a w Ag hr hc hy hs H
  have jH:dV.getD i true=false:=(mem_ready.1 hr).1
  refine ⟨λh=>(by rw[h] at hr;cases hr),λj hj=>?_⟩
  by_cases fC:j=i
  ·subst fC;exact hy.wpOp hi ⟨dV,hc,jH,hs⟩ ⟨(hS _ _).2 hs,H⟩
  ·have h1:=H.2 j (ready_mono hj fC)
   obtain ⟨L7,oj,xq,iP⟩:=mem_ready.1 hj
   have PO:∀ e ∈ oj.after,Region.binds md e=true->e.on≠i:=λe he hb heq=>by
    have h1:=iP e he hb
    have h0:=(mem_ready.1 hr).1
    rw[heq] at h1
    rcases Nat.lt_or_ge i dV.size with h' | h'
    ·simp[h'] at h0 h1;rw[h0] at h1;cases h1
    ·simp[Array.getElem?_eq_none h'] at h1
   have Y:=wpOp_putIf xq (Ag j oj xq fC L7 PO) (λcs b=>sA i oi cs b hi) (λcs b=>sA j oj cs b xq) hQ hy h1
   have L8:∀ k ok,ops[k]?=some ok->k≠i->(dV.setIfInBounds j true).getD k true=false ->
     (∀ e ∈ ok.after,Region.binds md e=true->e.on≠i)->oi.apart ops ok=true:=λk ok hk Rl jH jv=>by
    refine Ag k ok hk Rl ?_ jv
    by_cases L9:j=k
    ·subst L9;exact L7
    ·rw[getD_set_ne true L9] at jH;exact jH
   refine wpOp_mono (λa' w' h3=>?_) Y
   have h4:=h3.2.1
   have h5:=h3.2.2
   rw[Array.setIfInBounds_comm _ _ (Ne.symm fC)] at h4 h5
   have h6:=(hS _ _).1 h4
   exact ⟨h6,ih (dV.setIfInBounds j true) a' w' L8 (ready_mono hr (Ne.symm fC)) (sy hc hj) h3.1 h6 h5⟩
def zt (ops:Array Oper):Nat->Nat->Nat->Bool
 | 0,_,_=>false
 | n+1,d,i=>match ops[d]? with
  | some o=>o.after.toList.any λe=>Region.binds .any e&&(Nat.beq e.on i||zt ops n e.on i)
  | none=>false
theorem lk {ops:Array Oper} {l:Array Bool} (h:rM .any ops l):∀ (n d i:Nat),zt ops n d i=true->l.getD d false=true->l.getD i false=true
 | 0,_,_,ha,_=>by cases ha
 | n+1,d,i,ha,hd=>by
  simp only[zt] at ha
  split at ha
  ·rename_i o ho
   obtain ⟨e,he,hb⟩:=List.any_eq_true.1 ha
   simp only[Bool.and_eq_true,Bool.or_eq_true,Nat.beq_eq] at hb
   have hl:=h d o ho hd e (by simpa using he) hb.1
   rcases hb.2 with hb | hb
   ·rw[<-hb];exact hl
   ·exact lk h n e.on i hb hl
  ·cases ha
def gR (E:Env) (ops:Array Oper) (d:Nat):Bool:=match ops[d]? with
 | some o=>!lD E o.op&&!quiet E o.op
 | none=>false
def qD (l:Array Bool):List Nat->Array Bool
 | []=>l
 | j::js=>qD (l.setIfInBounds j true) js
def pY (E:Env) (bV:Nat) (ops:Array Oper) (pd:List Nat):List Nat->Array Bool->Bool->Bool
 | [],l,_=>(Region.ready .any ops l).isEmpty
 | i::is,l,f=>match ops[i]? with
  | none=>false
  | some o=>
   match pd.any (Nat.beq i) with
   | true=>!is.any (Nat.beq i)&&(Region.ready .any ops l).contains i&&(Region.ready .any ops (qD l (pd.filter λj=>!Nat.beq i j))).all (λj=>pd.any (Nat.beq j))&&pY E bV ops pd is (l.setIfInBounds i true) f
   | false=>
   match lD E o.op&&(Region.free .any ops l i&&(Region.ready .any ops l).contains i&&(!reads o.op||AF E bV i||D6 E bV i||(f&&(List.range ops.size).all λd=>!gR E ops d||zt ops ops.size d i))) with
   | true=>pY E bV ops pd is (l.setIfInBounds i true) f
   | false=>(Region.ready .any ops l).contains i&&(Region.ready .any ops (qD l pd)).all (Nat.beq i)&&pY E bV ops pd is (l.setIfInBounds i true) false
noncomputable def t_ (E:Env) (ops:Array Oper) (pd:List Nat):Bool:=pd.all λj=>match ops[j]? with
 | some o=>(match o.guard with
  | none=>true
  | some _=>false)&&(oz E o.op).isSome&&(match o.dst with
   | some d=>(List.range ops.size).all λk=>Nat.beq k j||(match ops[k]? with
    | some o'=>(match o'.dst with
     | some d'=>!Nat.beq d' d
     | none=>true)
    | none=>true)
   | none=>false)
 | none=>false
def xr:List Nat->Bool
 | []=>true
 | i::is=>!is.any (Nat.beq i)&&xr is
noncomputable def pZ (E:Env) (ops:Array Oper) (pd:List Nat) (er:List (Nat×Nat)):Bool:=er.all λe=>!pd.any (Nat.beq e.1)&&(Nat.ble ops.size e.2||(gR E ops e.2&&!pd.any (Nat.beq e.2)&&zt ops ops.size e.2 e.1))&&(match ops[e.1]? with
 | some o=>(match o.guard with
  | none=>true
  | some _=>false)&&(match o.op,o.dst with
   | .load _ (.tmp x),some d=>!Nat.beq x d&&(List.range ops.size).all λk=>Nat.beq k e.1||(match ops[k]? with
    | some o'=>(match o'.dst with
     | some d'=>!Nat.beq d' d&&(!Nat.beq d' x||zt ops ops.size e.1 k)
     | none=>true)
    | none=>true)
   | _,_=>false)
 | none=>false)
noncomputable def Bq (E:Env) (bV:Nat) (ops:Array Oper) (is:List Nat):Bool:=
 Region.noSelect ops&&Nat.ble is.length ops.size&&(t_ E ops (fB E.pd bV)&&(fB E.pd bV).all λj=>is.any (Nat.beq j))&&(xr is&&(List.range ops.size).all (λk=>is.any (Nat.beq k))&&pZ E ops (fB E.pd bV) (wM E.er bV))&&pY E bV ops (fB E.pd bV) is (Array.replicate ops.size false) (match fB E.pd bV with
  | []=>true
  | _::_=>false)
theorem JN {K:St->Option R}:∀ (is:List Nat) {σ:St} {A:Cells} {F:Nat->FP},bn P C A σ a w F->C8 σ is K=some x->∃ (A':Cells) (σ':St) (F':Nat->FP),K σ'=some x/\bn P C A' σ' a w F':=by
 intro is
 induction is with
 | nil=>intro σ A F h hk;exact ⟨A,σ,F,hk,h⟩
 | cons i is ih=>
  intro σ A F h hk
  simp only[C8] at hk
  split at hk
  ·rename_i t m H v hg
   split at hk
   ·rename_i hc
    simp only[Bool.and_eq_true,List.isEmpty_iff] at hc
    obtain ⟨hH,tU⟩:=hc
    subst hH
    obtain ⟨A1,F1,_,h1,_,_⟩:=Gw h hg
    exact ih h1 hk
   ·cases hk
  ·cases hk
theorem Rel.L_ (h:bn P C A σ a w F):∃ C':Ctx,C'.w0=w/\C'.A0=A/\(∀ b i,A b i->C'.F0 b i=0)/\bn P C' A σ a w F/\(∀ {A2:Cells} {eu:St} {a2:Act} {w2:World} {F2:Nat->FP},bn P C' A2 eu a2 w2 F2->bn P C A2 eu a2 w2 F2):=by
 have cy:∀ b i,1<=ao σ.n F b i->1<=C.F0 b i\/C.w0.heap.size<=b:=λb i hp=>h.own b i (by show 1<=0+_;omega)
 refine ⟨⟨w,A,ao σ.n F,C.args⟩,rfl,rfl,λb i ha=>?_,?_,λ{A2 eu a2 w2 F2} Y=>?_⟩
 ·rcases Nat.eq_zero_or_pos (ao σ.n F b i) with h0 | h0
  ·exact h0
  ·exact absurd ha (h.gD b i (by show 1<=0+_;omega))
 ·exact { h with ext:=Ext.refl _ _,own:=λb i hp=>.inl (by have hp:1<=0+ao σ.n F b i:=hp;show 1<=ao σ.n F b i;omega),a0:=λ_ _ h=>h,J:=λ_ _ h=>.inl h,fH:=h.fH,e7:=h.e7,mB:=h.sj λb i hp=>by have hp:1<=ao σ.n F b i:=hp;show 1<=0+_;omega }
 ·have fi:C.w0.heap.size<=w.heap.size:=h.ext.size
  refine { Y with ext:=h.ext.trans Y.ext (λb i hb hz=>?_),own:=λb i hp=>?_,a0:=λb i ha=>Y.a0 b i (h.a0 b i ha),J:=λb i ha=>?_,fH:=Y.fH,e7:=Y.e7,mB:=h.mB }
  ·show ao σ.n F b i=0
   rcases Nat.eq_zero_or_pos (ao σ.n F b i) with h0 | h0
   ·exact h0
   ·rcases cy b i h0 with h1 | h1 <;> omega
  ·rcases Y.own b i hp with h1 | h1
   ·exact cy b i h1
   ·exact .inr (Nat.le_trans fi h1)
  ·rcases Y.J b i ha with h1 | h1 | h1
   ·exact h.J b i h1
   ·exact .inr (cy b i h1)
   ·exact .inr (.inr (Nat.le_trans fi h1))
theorem KQ (h:bn P C A σ a w F) (hE:jz P E) {bV i:Nat} (br:iy P o.op=true) (iJ:lD E o.op=true) (xf:AE σ o=true) {K:St->Option R} (hk:iE E bV i o σ K=some x) :
  ∃ v,(∀ w',(∀ b i,A b i->∀ u,ce w b i=some u->ce w' b i=some u)->(execOp a.eval o).run P w'=.ok (.value v) w')/\Nx P C K x (a.put o.dst v) w:=by
 unfold AE at xf
 split at xf
 ·rename_i t y ho
  split at xf
  ·rename_i t' v hv
   unfold iE at hk
   simp only[ho,wJ] at hk
   cases hf:D1 E.fz bV i 8 with
   | true=>rw[hf] at hk;simp only[hv] at hk;cases hk
   | false=>
   rw[hf] at hk
   simp only[hv,rY] at hk
   obtain ⟨T,hT,hk⟩:=bN hk
   have cJ:=hE.ti _ _ hT
   split at hk
   ·rename_i e;subst e
    rw[ho] at br
    rcases bE h br with hs | ⟨xs,e⟩
    rotate_left
    ·rw[e] at hv;cases hv
    rw[hv] at hs
    obtain ⟨⟨b,off,sp⟩,h1,Y,L,h3,h4,h5⟩:=hs
    simp only[List.cons.injEq,and_true] at h1
    simp only at Y;subst Y
    refine ⟨aZ t' L,λw' jw=>?_,aP h hk ⟨L,rfl,h5⟩ (λ_ _ _ _ e=>by cases e)⟩
    simp[execOp,ho,h1,Instr.loadAt,Instr.sureAddr,nP cJ (λj u hu=>jw _ _ (h4 j u hu).2 u (h4 j u hu).1) h3 (Ro.one _ h5)]
   ·cases hk
  ·cases xf
 ·rename_i s t y ho
  unfold iE at hk
  simp only[ho] at hk
  rw[ho] at br
  refine xe h hE.ti ho br (λT hT=>?_) xf hk
  rw[ho] at iJ
  simp only[lD,hT] at iJ
  exact iJ
 ·cases xf
def rf (ops:Array Oper) (l:Array Bool) (u:Nat):Prop:=ops.size<=u\/l.getD u false=false
def SD (E:Env) (ops:Array Oper) (w0:World) (C:Ctx) (RC:List (Nat×Nat×Nat×Nat×List Value)):Array Bool->World->Prop:=λl w'=>((∀ d,gR E ops d=true->l.getD d false=false)->Ext w0 w' (λ_ _=>0))/\(∀ b i,C.A0 b i->∀ u,ce C.w0 b i=some u->ce w' b i=some u)/\∀ e ∈ RC,rf ops l e.2.1->Has w' e.2.2.1 e.2.2.2.1 e.2.2.2.2
theorem KR {next:Act->World->Prop} (h:Tk P o a w next):o.wp P a w (λa' w'=>w=w'/\next a' w') Q:=by
 obtain ⟨v,h1,Y⟩:=h
 exact fE (h1 w λ_=>Ext.refl _ _) ⟨rfl,Y⟩
theorem rg {md:Region.Mode} {ops:Array Oper} {S S':Array Bool->World->Prop} (hS:∀ l w,S l w->S' l w):∀ (fuel:Nat) (dV:Array Bool) (a:Act) (w:World),kQ P md ops Q S fuel dV a w->kQ P md ops Q S' fuel dV a w
 | 0,_,_,_,h=>h
 | fuel+1,_,_,_,h=>⟨h.1,λi hi=>wpOp_mono (λa' w' h'=>⟨hS _ _ h'.1,rg hS fuel _ a' w' h'.2⟩) (h.2 i hi)⟩
theorem Br (a:Act) (d:Nat):a.put (some d) (tmp a d)=a:=by
 have:a.tmps.setIfInBounds d (tmp a d)=a.tmps:=by
  unfold tmp
  apply Array.ext
  ·simp
  ·intro i h1 Y
   rw[Array.getElem_setIfInBounds]
   split
   ·rename_i e;subst e;simp[Y]
   ·rfl
 show { a with tmps:=a.tmps.setIfInBounds d (tmp a d) }=a
 rw[this]
theorem NO {ops:Array Oper} {K:St->Option R}:∀ (js:List Nat) {σ:St} {F:Nat->FP},bn P C A σ a w F->FK ops.toList σ js K=some x->∃ (σ':St) (F':Nat->FP),K σ'=some x/\bn P C A σ' a w F':=by
 intro js
 induction js with
 | nil=>intro σ F h hk;exact ⟨σ,F,hk,h⟩
 | cons j js ih=>
  intro σ F h hk
  simp only[FK] at hk
  split at hk
  ·rename_i d hd
   obtain ⟨F1,h1⟩:=h.aI (some d) (s:=.dead) (v:=tmp a d) (Fd:=λ_ _=>0) (X':=λ_ _=>0) trivial (λb i=>Nat.le_refl _) (λ_ _ _ _ e=>by cases e)
   rw[Br] at h1
   exact ih h1 hk
  ·cases hk
theorem sB:∀ (js:List Nat) (l:Array Bool) (k:Nat) (b:Bool),(qD l js).getD k b=if k ∈ js/\k < l.size then true else l.getD k b
 | [],l,k,b=>by simp[qD]
 | j::js,l,k,b=>by
  rw[qD,sB js]
  simp only[Array.size_setIfInBounds]
  by_cases h1:k ∈ js/\k < l.size
  ·rw[if_pos h1,if_pos ⟨by simp[h1.1],h1.2⟩]
  ·rw[if_neg h1]
   by_cases qC:j=k
   ·subst qC
    by_cases aB:j < l.size
    ·rw[if_pos ⟨by simp,aB⟩];simp[aB]
    ·rw[if_neg (λh=>aB h.2)];simp[aB]
   ·rw[getD_set_ne b qC,if_neg]
    rintro ⟨Y,h3⟩
    rcases List.mem_cons.1 Y with e | e
    ·exact qC e.symm
    ·exact h1 ⟨e,h3⟩
theorem gS {l:List Nat} {i:Nat}:l.any (Nat.beq i)=true↔i ∈ l:=by
 rw[List.any_eq_true]
 constructor
 ·rintro ⟨y,h1,Y⟩;rw[Nat.eq_of_beq_eq_true Y];exact h1
 ·intro h;exact ⟨i,h,Nat.beq_refl i⟩
theorem rh {ops:Array Oper} {pd:List Nat} (h:t_ E ops pd=true) {j:Nat} (hj:j ∈ pd):∃ o d s,ops[j]?=some o/\o.guard=none/\o.dst=some d/\oz E o.op=some s/\∀ k o',ops[k]?=some o'->k≠j->o'.dst≠some d:=by
 unfold t_ at h
 have h:=List.all_eq_true.1 h j hj
 split at h
 ·rename_i o ho
  simp only[Bool.and_eq_true] at h
  obtain ⟨⟨h1,Y⟩,h3⟩:=h
  split at h3
  ·rename_i d hd
   obtain ⟨s,hs⟩:=Option.isSome_iff_exists.1 Y
   refine ⟨o,d,s,ho,?_,hd,hs,λk o' hk qC e=>?_⟩
   ·split at h1
    ·assumption
    ·cases h1
   ·have:=List.all_eq_true.1 h3 k (List.mem_range.2 (Array.getElem?_eq_some_iff.1 hk).1)
    rw[hk] at this
    simp only[e,Bool.or_eq_true] at this
    rcases this with h4 | h4
    ·exact qC (Nat.eq_of_beq_eq_true h4)
    ·simp at h4
  ·cases h3
 ·cases h
def RE (ops:Array Oper) (er:List (Nat×Nat)) (L:Array Bool) (a:Act) (w:World) (e:Nat×Nat×Nat×Nat×List Value):Prop:=(e.1,e.2.1) ∈ er/\L.getD e.1 false=true /\
 ∃ o t x d,ops[e.1]?=some o/\o.op=.load t (.tmp x)/\o.dst=some d/\tmp a x=.pointer (some ⟨e.2.2.1,e.2.2.2.1,none⟩)/\(tmp a d).cells.toList=e.2.2.2.2/\(rf ops L e.2.1->Has w e.2.2.1 e.2.2.2.1 e.2.2.2.2)
theorem vy:∀ {is:List Nat},xr is=true->is.Nodup
 | [],_=>List.nodup_nil
 | i::is,h=>by
  simp only[xr,Bool.and_eq_true,Bool.not_eq_true'] at h
  refine List.nodup_cons.2 ⟨λhm=>?_,vy h.2⟩
  have:=h.1
  rw[gS.2 hm] at this
  cases this
theorem lI {E:Env} {ops:Array Oper} {pd:List Nat} {er:List (Nat×Nat)} (h:pZ E ops pd er=true) {j u:Nat} (hj:(j,u) ∈ er):j ∉ pd/\(ops.size<=u\/(gR E ops u=true/\u ∉ pd/\zt ops ops.size u j=true))/\∃ o t x d,ops[j]?=some o/\o.guard=none/\o.op=.load t (.tmp x)/\o.dst=some d/\x≠d /\
  ∀ k o',ops[k]?=some o'->k≠j->o'.dst≠some d/\(o'.dst=some x->zt ops ops.size j k=true):=by
 unfold pZ at h
 have h1:=List.all_eq_true.1 h _ hj
 simp only[Bool.and_eq_true,Bool.or_eq_true,Bool.not_eq_true',Nat.ble_eq] at h1
 obtain ⟨⟨h0,hu⟩,h1⟩:=h1
 refine ⟨λhm=>?_,hu.imp id λq=>⟨q.1.1,λhm=>?_,q.2⟩,?_⟩
 ·rw[gS.2 hm] at h0
  cases h0
 ·have q2:=q.1.2
  rw[gS.2 hm] at q2
  cases q2
 split at h1
 ·rename_i o ho
  simp only[Bool.and_eq_true] at h1
  obtain ⟨Y,h3⟩:=h1
  split at h3
  ·rename_i t x d Gm hd
   simp only[Bool.and_eq_true,Bool.not_eq_true',List.all_eq_true,List.mem_range] at h3
   obtain ⟨h4,h5⟩:=h3
   refine ⟨o,t,x,d,ho,?_,Gm,hd,(λe=>by subst e;rw[Nat.beq_refl] at h4;cases h4),λk o' hk qC=>?_⟩
   ·cases hg:o.guard with
    | none=>rfl
    | some g=>rw[hg] at Y;cases Y
   ·have h6:=h5 k (Array.getElem?_eq_some_iff.1 hk).1
    rw[hk] at h6
    simp only[Bool.or_eq_true] at h6
    rcases h6 with h6 | h6
    ·exact absurd (Nat.eq_of_beq_eq_true h6) qC
    ·cases jD:o'.dst with
     | none=>exact ⟨(λe=>by cases e),λe=>by cases e⟩
     | some d'=>
      rw[jD] at h6
      simp only[Bool.and_eq_true,Bool.or_eq_true,Bool.not_eq_true'] at h6
      refine ⟨λe=>?_,λe=>?_⟩
      ·injection e with e;subst e;rw[Nat.beq_refl] at h6;cases h6.1
      ·injection e with e;subst e
       rcases h6.2 with h7 | h7
       ·rw[Nat.beq_refl] at h7;cases h7
       ·exact h7
  ·cases h3
 ·cases h1
theorem nD:∀ {p q:Path},mt p q=true->p=q
 | [],[],_=>rfl
 | .fst::p,.fst::q,h=>by simp only[mt] at h;rw[nD h]
 | .snd::p,.snd::q,h=>by simp only[mt] at h;rw[nD h]
 | .idx i::p,.idx j::q,h=>by simp only[mt,Bool.and_eq_true] at h;rw[Nat.eq_of_beq_eq_true h.1,nD h.2]
 | .hJ i::p,.hJ j::q,h=>by simp only[mt,Bool.and_eq_true] at h;rw[Nat.eq_of_beq_eq_true h.1,nD h.2]
theorem GK (h:Rel P C A X σ a w F) {o:Oper} (ap:H7 σ o=true) {t x d:Nat} (ho:o.op=.load t (.tmp x)) (hd:o.dst=some d) {b off:Nat} (hx:tmp a x=.pointer (some ⟨b,off,none⟩)):Has w b off (tmp a d).cells.toList/\d < a.tmps.size:=by
 unfold H7 at ap
 rw[ho,hd] at ap
 simp only at ap
 have lt:∀ {i:Nat},σ.get i≠.dead->i < σ.n:=λ{i} hi=>by
  rcases Nat.lt_or_ge i σ.n with h1 | h1
  ·exact h1
  ·exact absurd (ek (Nat.not_lt.2 h1)) hi
 split at ap
 ·rename_i r p s Dy
  split at ap
  ·rename_i r' p' s' qE
   simp only[Bool.and_eq_true] at ap
   obtain ⟨⟨h1,Y,h3⟩,h4⟩:=ap
   have e1:=Nat.eq_of_beq_eq_true h1
   have e2:=nD h4
   subst e1;subst e2
   have Bs:=h.cj x (lt (by rw[Dy];intro e;cases e))
   rw[Dy] at Bs
   obtain ⟨pl,b',o',g1,g2,g3,_⟩:=Bs.2 Y
   rw[hx] at g3
   simp only[Value.pointer.injEq,Option.some.injEq,Addr.mk.injEq,and_true] at g3
   obtain ⟨rfl,rfl⟩:=g3
   have zu:=h.cj d (lt (by rw[qE];intro e;cases e))
   rw[qE] at zu
   obtain ⟨za,k1,k2,_⟩:=zu.2 h3
   rw[g1] at k1
   injection k1 with k1
   subst k1
   have hr:=jR g1
   have df:=g1
   unfold place at df
   cases hR:bk w (tmp a r) (σ.get r) with
   | none=>rw[hR] at df;cases df
   | some R=>
    rw[hR] at df
    simp only[Option.bind_some] at df
    obtain ⟨m,v,F1,q1,_,q2,_⟩:=mC (h.cj r hr) hR
    obtain ⟨z1,m',v',F',z2⟩:=Da p R.t q1 (λb o e=>(q2 b o e).1) df
    rw[k2,dz (af.length _ z2) (af.one _ z2)]
    exact ⟨z1 _ _ g2,by rw[h.size];exact lt (by rw[qE];intro e;cases e)⟩
  ·rename_i v qE
   simp only[Bool.and_eq_true] at ap
   obtain ⟨Y,hi⟩:=ap
   unfold Jm at hi
   split at hi
   rotate_left
   ·cases hi
   rename_i bb dr
   subst hi
   have Bs:=h.cj x (lt (by rw[Dy];intro e;cases e))
   rw[Dy] at Bs
   obtain ⟨pl,b',o',g1,g2,g3,_⟩:=Bs.2 Y
   rw[hx] at g3
   simp only[Value.pointer.injEq,Option.some.injEq,Addr.mk.injEq,and_true] at g3
   obtain ⟨rfl,rfl⟩:=g3
   have zu:=h.cj d (lt (by rw[qE];intro e;cases e))
   rw[qE] at zu
   obtain ⟨be,k1,k2⟩:=zu
   obtain ⟨hr,t',m',H',v',aJ,aX,F',i1,i2,i3,i4,i5,i6⟩:=d7 h dr
   rw[i3] at g1
   injection g1 with g1
   subst g1
   simp only at g2
   subst g2
   obtain ⟨e,i1⟩:=aU i1
   subst e
   simp only[Option.some.injEq,decide_eq_true_eq] at i1
   have hh:Has w b off aJ:=by first | exact (i6 b off rfl).1 | exact i6 b off rfl | exact (i5 b off rfl).1 | exact i5 b off rfl
   have c1:aJ=[.int .i64 v]:=by
    have i4:_:=i4
    simp only[af] at i4
    rw[<-i1]
    first | exact i4.1 | exact i4 | exact i4.2 | simp_all
   have c2:be=[.int .i64 v]:=k2
   rw[k1,c2,dz rfl (λu hu=>by rw[List.mem_singleton] at hu;subst hu;rfl)]
   rw[c1] at hh
   exact ⟨hh,by rw[h.size];exact lt (by rw[qE];intro e;cases e)⟩
  ·cases ap
 ·rename_i tb mb Hb vb Dy
  split at ap
  ·rename_i r' p' s' qE
   simp only[Bool.and_eq_true] at ap
   obtain ⟨⟨h1,h3⟩,h4⟩:=ap
   have e1:=Nat.eq_of_beq_eq_true h1
   have e2:=nD h4
   subst e1;subst e2
   have zu:=h.cj d (lt (by rw[qE];intro e;cases e))
   rw[qE] at zu
   obtain ⟨za,k1,k2,_⟩:=zu.2 h3
   have hr:=jR k1
   have df:=k1
   unfold place at df
   cases hR:bk w (tmp a x) (σ.get x) with
   | none=>rw[hR] at df;cases df
   | some R=>
    rw[hR] at df
    simp only[Option.bind_some] at df
    obtain ⟨m,v,F1,q1,_,q2,_⟩:=mC (h.cj x hr) hR
    obtain ⟨z1,m',v',F',z2⟩:=Da [] R.t q1 (λb o e=>(q2 b o e).1) df
    rw[k2,dz (af.length _ z2) (af.one _ z2)]
    have di:za.ad=some (b,off):=by
     rw[Dy,hx] at hR
     simp only[bk,Option.some.injEq] at hR
     subst hR
     simp only[aD,Option.some.injEq] at df
     subst df
     rfl
    exact ⟨z1 _ _ di,by rw[h.size];exact lt (by rw[qE];intro e;cases e)⟩
  ·cases ap
 ·cases ap
theorem quiet_of {bV i:Nat} {o:Oper} {K:St->Option R} (hk:iE E bV i o σ K=some x) (hm:uQ o.op=false) (ht:lD E o.op=false):quiet E o.op=true:=by
 unfold iE at hk
 cases ho:o.op <;> rw[ho] at hk hm ht <;> first | rfl | (cases hm;done) | (cases ht;done) | (simp only[reduceCtorEq] at hk;done) | skip
theorem Bt (h:bn P C A σ a w F) (hE:jz P E) {t x0:Nat} {mv:Bool} (br:iy P o.op=true) (ho:o.op=.load t (.tmp x0)) {K:St->Option R} (hk:rY E σ t (bh σ (.tmp x0)) mv o.dst K=some x) :
  ∃ b off v cs,tmp a x0=.pointer (some ⟨b,off,none⟩)/\Has w b off cs/\v.cells.toList=cs/\∀ w',Has w' b off cs->(execOp a.eval o).run P w'=.ok (.value v) w':=by
 unfold rY at hk
 obtain ⟨T,hT,hk⟩:=bN hk
 have cJ:=hE.ti _ _ hT
 have run:∀ b off L,a.eval (.tmp x0)=.pointer (some ⟨b,off,none⟩)->L.length=T.sz->(∀ u ∈ L,u.oneCell'=true)->∀ w',Has w' b off L->(execOp a.eval o).run P w'=.ok (.value (aZ T L)) w':=λb off L hy hl gW w' hL=>by
  simp[execOp,ho,hy,Instr.loadAt,Instr.sureAddr,nP cJ hL hl gW]
 rw[ho] at br
 rcases bE h (show bg P (.tmp x0)=true from br) with hs | ⟨xs,e⟩
 rotate_left
 ·rw[e] at hk;cases hk
 split at hk
 ·rename_i t' v hv
  rw[hv] at hs
  split at hk
  ·rename_i e;subst e
   obtain ⟨⟨b,off,sp⟩,h1,Y,L,h3,h4,h5⟩:=hs
   simp only[List.cons.injEq,and_true] at h1
   simp only at Y;subst Y
   exact ⟨b,off,aZ t' L,L,h1,λj u hu=>(h4 j u hu).1,dz h3 (Ro.one _ h5),run b off L h1 h3 (Ro.one _ h5)⟩
  ·cases hk
 ·rename_i r p snap hv
  rw[hv] at hs
  split at hk
  ·rename_i fR
   obtain ⟨hr,t',m',H',v',aJ,aX,F',h1,Y,h3,h4,h5,h6⟩:=d7 h hk
   obtain ⟨pl,b,off,g1,g2,g3,g4⟩:=hs.2 fR
   rw[h3] at g1
   injection g1 with g1
   subst g1
   simp only at g2
   subst g2
   split at h1
   ·rename_i e;subst e
    have hh:Has w b off aJ:=by first | exact (h6 b off rfl).1 | exact h6 b off rfl | exact (h5 b off rfl).1 | exact h5 b off rfl
    exact ⟨b,off,aZ t' aJ,aJ,g3,hh,dz (af.length _ h4) (af.one _ h4),run b off aJ g3 (af.length _ h4) (af.one _ h4)⟩
   ·cases h1
  ·cases hk
 ·cases hk
theorem KS (h:bn P C A σ a w F) (hE:jz P E) {bV i t x0:Nat} (br:iy P o.op=true) (ho:o.op=.load t (.tmp x0)) {K:St->Option R} (hk:iE E bV i o σ K=some x) :
  ∃ b off v cs,tmp a x0=.pointer (some ⟨b,off,none⟩)/\Has w b off cs/\v.cells.toList=cs/\∀ w',Has w' b off cs->(execOp a.eval o).run P w'=.ok (.value v) w':=by
 unfold iE at hk
 simp only[ho,wJ] at hk
 split at hk
 ·exact Bt h hE br ho hk
 ·split at hk
  ·split at hk
   ·obtain ⟨A1,fN,F1,_,_,_,_,_,k1,_,k3,_⟩:=ol h hk
    exact Bt k3 hE br ho k1
   ·cases hk
  ·cases hk
structure Inv (P:Program) (E:Env) (ops:Array Oper) (pd:List Nat) (w0:World) (C:Ctx) (is:List Nat) (l:Array Bool) (f:Bool) (σ:St) (fuel:Nat) (A:Cells) (a:Act) (w:World) (X:FP) (F:Nat->FP) (D:List Nat) (L:Array Bool) (er:List (Nat×Nat)) (RC:List (Nat×Nat×Nat×Nat×List Value)):Prop where
 h:Rel P C A X σ a w F
 pf:PF P E ops A a w D X
 nd:D.Nodup
 zw:∀ j ∈ D,j ∈ pd
 dl:∀ j ∈ D,l.getD j false=false
 gD:∀ j ∈ D,j ∈ is
 JO:∀ j ∈ pd,l.getD j false=true\/j ∈ is
 vz:(is.filter λk=>decide (k ∉ D)).length<=fuel
 cl:rM .any ops L
 hS:(∀ d,gR E ops d=true->L.getD d false=false)->Ext w0 w (λ_ _=>0)
 hf:f=true->w=w0/\pd=[]
 xt:l.size=ops.size
 p5:L.size=ops.size
 hL:∀ k,L.getD k false=true↔(l.getD k false=true\/k ∈ D)
 GN:is.Nodup
 GO:∀ k,k < ops.size->l.getD k false=true\/k ∈ is
 io:∀ k ∈ is,l.getD k false=false
 rc:∀ e ∈ RC,RE ops er L a w e
theorem ll {l:Array Bool} {k:Nat} (h:k < l.size):l.getD k true=l.getD k false:=by simp[h]
theorem cb {l:Array Bool} {i k:Nat} (hi:i < l.size):(l.setIfInBounds i true).getD k false=true↔(k=i\/l.getD k false=true):=by
 by_cases hk:i=k
 ·subst hk;simp[hi]
 ·rw[getD_set_ne false hk]
  constructor
  ·exact .inr
  ·rintro (h | h)
   ·exact absurd h.symm hk
   ·exact h
theorem CH {D:List Nat} {j:Nat} (hD:j ∉ D):∀ (is:List Nat),j ∈ is->(is.filter λk=>decide (k ∉ j::D)).length+1<=(is.filter λk=>decide (k ∉ D)).length:=by
 have hle:∀ (is:List Nat),(is.filter λk=>decide (k ∉ j::D)).length<=(is.filter λk=>decide (k ∉ D)).length:=by
  intro is
  induction is with
  | nil=>exact Nat.le_refl _
  | cons i is ih=>
   simp only[List.filter_cons]
   by_cases h1:i ∈ D
   ·have Y:i ∈ j::D:=by simp[h1]
    simp only[h1,Y,not_true_eq_false,decide_false,Bool.false_eq_true,if_false]
    exact ih
   ·by_cases Y:i ∈ j::D
    ·simp only[h1,Y,not_true_eq_false,not_false_eq_true,decide_false,decide_true,Bool.false_eq_true,if_false,if_true,List.length_cons]
     omega
    ·simp only[h1,Y,not_false_eq_true,decide_true,if_true,List.length_cons]
     omega
 intro is
 induction is with
 | nil=>intro h;cases h
 | cons i is ih=>
  intro h
  simp only[List.filter_cons]
  by_cases gB:i=j
  ·subst gB
   have Y:i ∈ i::D:=by simp
   simp only[hD,Y,not_true_eq_false,not_false_eq_true,decide_false,decide_true,Bool.false_eq_true,if_false,if_true,List.length_cons]
   have:=hle is
   omega
  ·have h3:j ∈ is:=by
    rcases List.mem_cons.1 h with e | e
    ·exact absurd e.symm gB
    ·exact e
   have:=ih h3
   by_cases h1:i ∈ D
   ·have Y:i ∈ j::D:=by simp[h1]
    simp only[h1,Y,not_true_eq_false,decide_false,Bool.false_eq_true,if_false]
    exact this
   ·have Y:i ∉ j::D:=by simp[h1,gB]
    simp only[h1,Y,not_false_eq_true,decide_true,if_true,List.length_cons]
    omega
section
variable {ops:Array Oper} {pd:List Nat} {w0:World} {is:List Nat} {l L:Array Bool} {f:Bool} {fuel:Nat} {D:List Nat} {i:Nat} {er:List (Nat×Nat)} {RC:List (Nat×Nat×Nat×Nat×List Value)}
theorem Inv.wd (v:Inv P E ops pd w0 C is l f σ fuel A a w X F D L er RC) (hi:i ∈ Region.ready .any ops l) (hD:i ∉ D):i ∈ Region.ready .any ops L:=by
 obtain ⟨h0,o,ho,iP⟩:=mem_ready.1 hi
 have aB:i < ops.size:=(Array.getElem?_eq_some_iff.1 ho).1
 refine mem_ready.2 ⟨?_,o,ho,λe he hb=>(v.hL _).2 (.inl (iP e he hb))⟩
 rw[ll (by rw[v.p5];exact aB)]
 rw[ll (by rw[v.xt];exact aB)] at h0
 cases hh:L.getD i false with
 | false=>rfl
 | true=>
  rcases (v.hL i).1 hh with h1 | h1
  ·rw[h0] at h1;cases h1
  ·exact absurd h1 hD
theorem Inv.ua (v:Inv P E ops pd w0 C is l f σ fuel A a w X F D L er RC) {j:Nat} {S:List Nat} (hS:∀ k ∈ D,k ∈ S) (hj:j ∈ Region.ready .any ops L) (JP:j ∉ S):j ∈ Region.ready .any ops (qD l S):=by
 obtain ⟨h0,o,ho,iP⟩:=mem_ready.1 hj
 have aB:j < ops.size:=(Array.getElem?_eq_some_iff.1 ho).1
 refine mem_ready.2 ⟨?_,o,ho,λe he hb=>?_⟩
 ·rw[sB,if_neg (λh=>JP h.1),ll (by rw[v.xt];exact aB)]
  rw[ll (by rw[v.p5];exact aB)] at h0
  cases hh:l.getD j false with
  | false=>rfl
  | true=>rw[(v.hL j).2 (.inl hh)] at h0;cases h0
 ·rw[sB]
  have h1:=iP e he hb
  rcases (v.hL _).1 h1 with Y | Y
  ·split
   ·rfl
   ·exact Y
  ·have aB:e.on < L.size:=by
    rcases Nat.lt_or_ge e.on L.size with h' | h'
    ·exact h'
    ·simp[Array.getElem?_eq_none h'] at h1
   rw[if_pos ⟨hS _ Y,by rw[v.xt,<- v.p5];exact aB⟩]
theorem Inv.xu (v:Inv P E ops pd w0 C is l f σ fuel A a w X F D L er RC) {j:Nat} (h:L.getD j true=false):j ∉ D/\l.getD j false=false/\l.getD j true=false:=by
 have aB:j < L.size:=by
  rcases Nat.lt_or_ge j L.size with h' | h'
  ·exact h'
  ·simp[Array.getElem?_eq_none h'] at h
 rw[ll aB] at h
 have h1:l.getD j false=false:=by
  cases hh:l.getD j false with
  | false=>rfl
  | true=>rw[(v.hL j).2 (.inl hh)] at h;cases h
 have Y:j ∉ D:=λhD=>by
  rw[(v.hL j).2 (.inr hD)] at h
  cases h
 exact ⟨Y,h1,by rw[ll (by rw[v.xt,<- v.p5];exact aB)];exact h1⟩
theorem Inv.next (v:Inv P E ops pd w0 C (i::is) l f σ (fuel+1) A a w X F D L er RC) (hD:i ∉ D) (hr:i ∈ Region.ready .any ops L) {C2:Ctx} {f2:Bool} {eu:St} {A2:Cells} {a2:Act} {w2:World} {F2:Nat->FP}
  (Y:Rel P C2 A2 X eu a2 w2 F2) (hp:PF P E ops A2 a2 w2 D X) (Rm:(∀ d,gR E ops d=true->(L.setIfInBounds i true).getD d false=false)->Ext w0 w2 (λ_ _=>0)) (OG:f2=true->w2=w0/\pd=[]) {OO:List (Nat×Nat×Nat×Nat×List Value)} (Rn:∀ e ∈ OO,RE ops er (L.setIfInBounds i true) a2 w2 e) :
  Inv P E ops pd w0 C2 is (l.setIfInBounds i true) f2 eu fuel A2 a2 w2 X F2 D (L.setIfInBounds i true) er OO:=by
 obtain ⟨_,o,ho,_⟩:=mem_ready.1 hr
 have aB:i < ops.size:=(Array.getElem?_eq_some_iff.1 ho).1
 have p6:i < l.size:=by rw[v.xt];exact aB
 have p8:i < L.size:=by rw[v.p5];exact aB
 refine ⟨Y,hp,v.nd,v.zw,λj hj=>?_,λj hj=>?_,λj hj=>?_,?_,sy v.cl hr,Rm,OG,by simpa using v.xt,by simpa using v.p5,λk=>?_,(List.nodup_cons.1 v.GN).2,λk hk=>?_,λk hk=>?_,Rn⟩
 ·rw[getD_set_ne false (λe=>by subst e;exact hD hj)];exact v.dl j hj
 ·rcases List.mem_cons.1 (v.gD j hj) with e | e
  ·subst e;exact absurd hj hD
  ·exact e
 ·rcases v.JO j hj with h | h
  ·exact .inl ((cb p6).2 (.inr h))
  ·rcases List.mem_cons.1 h with e | e
   ·exact .inl ((cb p6).2 (.inl e))
   ·exact .inr e
 ·have:=v.vz
  simp only[List.filter_cons,hD,not_false_eq_true,decide_true,if_true,List.length_cons] at this
  omega
 ·rw[cb p8,cb p6,v.hL]
  exact or_assoc.symm
 ·rcases v.GO k hk with h | h
  ·exact .inl ((cb p6).2 (.inr h))
  ·rcases List.mem_cons.1 h with e | e
   ·exact .inl ((cb p6).2 (.inl e))
   ·exact .inr e
 ·rw[getD_set_ne false (λe=>by subst e;exact (List.nodup_cons.1 v.GN).1 hk)]
  exact v.io k (List.mem_cons_of_mem _ hk)
theorem Inv.EF (v:Inv P E ops pd w0 C (i::is) l f σ fuel A a w X F D L er RC) (hD:i ∈ D) (tm:i ∉ is) {eu:St} {X2:FP} {F2:Nat->FP} (Y:Rel P C A X2 eu a w F2) (hp:PF P E ops A a w (D.erase i) X2) :
  Inv P E ops pd w0 C is (l.setIfInBounds i true) f eu fuel A a w X2 F2 (D.erase i) L er RC:=by
 have p8:i < L.size:=by
  have h1:=(v.hL i).2 (.inr hD)
  rcases Nat.lt_or_ge i L.size with h' | h'
  ·exact h'
  ·simp[Array.getElem?_eq_none h'] at h1
 have p6:i < l.size:=by rw[v.xt,<- v.p5];exact p8
 have nt:∀ k,k ∈ D.erase i↔k≠i/\k ∈ D:=λk=>v.nd.mem_erase_iff
 refine ⟨Y,hp,v.nd.erase _,λj hj=>v.zw j ((nt j).1 hj).2,λj hj=>?_,λj hj=>?_,λj hj=>?_,?_,v.cl,v.hS,v.hf,by simpa using v.xt,v.p5,λk=>?_,(List.nodup_cons.1 v.GN).2,λk hk=>?_,λk hk=>?_,v.rc⟩
 ·obtain ⟨h3,h4⟩:=(nt j).1 hj
  rw[getD_set_ne false (λe=>h3 e.symm)];exact v.dl j h4
 ·obtain ⟨h3,h4⟩:=(nt j).1 hj
  rcases List.mem_cons.1 (v.gD j h4) with e | e
  ·exact absurd e h3
  ·exact e
 ·rcases v.JO j hj with h | h
  ·exact .inl ((cb p6).2 (.inr h))
  ·rcases List.mem_cons.1 h with e | e
   ·exact .inl ((cb p6).2 (.inl e))
   ·exact .inr e
 ·have:=v.vz
  simp only[List.filter_cons,hD,not_true_eq_false,decide_false,Bool.false_eq_true,if_false] at this
  refine Nat.le_trans (Nat.le_of_eq (congrArg List.length (List.filter_congr λk hk=>?_))) this
  have:k≠i:=λe=>by subst e;exact tm hk
  simp only[nt,this,ne_eq,not_false_eq_true,true_and]
 ·rw[v.hL,cb p6,nt]
  constructor
  ·rintro (h | h)
   ·exact .inl (.inr h)
   ·by_cases hk:k=i
    ·exact .inl (.inl hk)
    ·exact .inr ⟨hk,h⟩
  ·rintro ((h | h) | h)
   ·subst h;exact .inr hD
   ·exact .inl h
   ·exact .inr h.2
 ·rcases v.GO k hk with h | h
  ·exact .inl ((cb p6).2 (.inr h))
  ·rcases List.mem_cons.1 h with e | e
   ·exact .inl ((cb p6).2 (.inl e))
   ·exact .inr e
 ·rw[getD_set_ne false (λe=>by subst e;exact tm hk)]
  exact v.io k (List.mem_cons_of_mem _ hk)
theorem OP {j:Nat} (aB:j < L.size) {k:Nat} (hu:(L.setIfInBounds j true).getD k false=false):L.getD k false=false:=by
 cases hl:L.getD k false with
 | false=>rfl
 | true=>rw[(cb aB).2 (.inr hl)] at hu;cases hu
theorem Inv.oL (v:Inv P E ops pd w0 C is l f σ fuel A a w X F D L er RC) (ma:pZ E ops pd er=true) {j:Nat} {o':Oper} (hj:ops[j]?=some o') (jH:L.getD j false=false) {a2:Act} {w2:World}
  (ht:∀ d,o'.dst≠some d->tmp a2 d=tmp a d) (hh:∀ e ∈ RC,rf ops (L.setIfInBounds j true) e.2.1->Has w2 e.2.2.1 e.2.2.2.1 e.2.2.2.2):∀ e ∈ RC,RE ops er (L.setIfInBounds j true) a2 w2 e:=by
 intro e he
 obtain ⟨h1,Y,o,t,x,d,h3,h4,h5,h6,h7,h8⟩:=v.rc e he
 obtain ⟨_,_,o1,t1,x1,d1,g1,_,g2,g3,_,g4⟩:=lI ma h1
 rw[h3] at g1
 injection g1 with g1
 subst g1
 rw[h4] at g2
 injection g2 with _ g2
 injection g2 with g2
 subst g2
 rw[h5] at g3
 injection g3 with g3
 subst g3
 have ci:j≠e.1:=λe'=>by rw[e'] at jH;rw[Y] at jH;cases jH
 obtain ⟨k1,k2⟩:=g4 j o' hj ci
 have k3:o'.dst≠some x:=λe'=>by
  have:=lk v.cl _ _ _ (k2 e') Y
  rw[this] at jH;cases jH
 exact ⟨h1,by rw[getD_set_ne false ci];exact Y,o,t,x,d,h3,h4,h5,by rw[ht x k3];exact h6,by rw[ht d k1];exact h7,hh e he⟩
theorem Inv.still (v:Inv P E ops pd w0 C (i::is) l f σ fuel A a w X F D L er RC) (ma:pZ E ops pd er=true) {bV:Nat} (GP:wM E.er bV=er) {o':Oper} (hj:ops[i]?=some o') (jH:L.getD i false=false) {C2:Ctx} {A2:Cells} {X2:FP} {eu:St} {a2:Act} {w2:World} {F2:Nat->FP} (Y:Rel P C2 A2 X2 eu a2 w2 F2)
  (ht:∀ d,o'.dst≠some d->tmp a2 d=tmp a d) (bI:uQ o'.op=false->Ext w w2 (λ_ _=>0)) (yI:wN E bV ops.toList i o' is eu=true):∀ e ∈ RC,rf ops (L.setIfInBounds i true) e.2.1->Has w2 e.2.2.1 e.2.2.2.1 e.2.2.2.2:=by
 intro e he hu
 obtain ⟨g1,g2,o,t,x,d,g3,g4,g5,g6,g7,g8⟩:=v.rc e he
 have p8:i < L.size:=by rw[v.p5];exact (Array.getElem?_eq_some_iff.1 hj).1
 have OQ:rf ops L e.2.1:=hu.imp id λhu=>by
  cases hl:L.getD e.2.1 false with
  | false=>rfl
  | true=>rw[(cb p8).2 (.inr hl)] at hu;cases hu
 cases hm:uQ o'.op with
 | false=>exact (g8 OQ).ext (bI hm)
 | true=>
  simp only[wN,hm,Bool.true_or,Bool.not_true,Bool.false_or,D7,GP,List.all_eq_true] at yI
  have:=yI _ g1
  obtain ⟨GQ,OM,o1,t1,x1,d1,k1,_,k2,k3,_,k4⟩:=lI ma g1
  rw[g3] at k1
  injection k1 with k1
  subst k1
  rw[g4] at k2
  injection k2 with _ k2
  injection k2 with k2
  subst k2
  rw[g5] at k3
  injection k3 with k3
  subst k3
  have ci:i≠e.1:=λe'=>by rw[e'] at jH;rw[g2] at jH;cases jH
  have hl:l.getD e.1 false=true:=((v.hL e.1).1 g2).resolve_right λhD=>GQ (v.zw _ hD)
  have In:is.any (Nat.beq e.1)=false:=by
   cases hb:is.any (Nat.beq e.1) with
   | false=>rfl
   | true=>
    have:=v.io e.1 (List.mem_cons_of_mem _ (gS.1 hb))
    rw[hl] at this;cases this
  have Ip:(is.any (Nat.beq e.2.1)||Nat.ble ops.toList.length e.2.1)=true:=by
   rcases Nat.lt_or_ge e.2.1 ops.size with h9 | h9
   ·have Ma:=OQ.resolve_left (by omega)
    have Rp:e.2.1≠i:=λe'=>by
     have:=hu.resolve_left (by omega)
     rw[(cb p8).2 (.inl e')] at this;cases this
    rcases v.GO _ h9 with vx | vx
    ·rw[(v.hL _).2 (.inl vx)] at Ma;cases Ma
    ·rcases List.mem_cons.1 vx with GS | GS
     ·exact absurd GS Rp
     ·rw[gS.2 GS,Bool.true_or]
   ·have:Nat.ble ops.toList.length e.2.1=true:=by simpa using h9
    rw[this,Bool.or_true]
  rw[In,Ip,Bool.not_true,Bool.false_or,Bool.false_or,Array.getElem?_toList,g3] at this
  simp only at this
  obtain ⟨q1,q2⟩:=k4 i o' hj ci
  have q3:o'.dst≠some x:=λe'=>by
   have:=lk v.cl _ _ _ (q2 e') g2
   rw[this] at jH;cases jH
  have hx:tmp a2 x=.pointer (some ⟨e.2.2.1,e.2.2.2.1,none⟩):=by rw[ht x q3];exact g6
  obtain ⟨z1,z2⟩:=GK Y this g4 g5 hx
  rw[ht d q1,g7] at z1
  exact z1
theorem Inv.early (hE:jz P E) (mJ:t_ E ops pd=true) {bV:Nat} (GQ:fB E.pd bV=pd) (ma:pZ E ops pd er=true) (iP:D8 E bV ops.toList is σ=true) (hC:∀ b i,C.A0 b i->C.F0 b i=0)
  (v:Inv P E ops pd w0 C is l f σ (fuel+1) A a w X F D L er RC) {j:Nat} (hj:j ∈ pd) (hr:j ∈ Region.ready .any ops L) {S:Array Bool->World->Prop}
  (hS:∀ w',Ext w w' (λ_ _=>0)->((∀ d,gR E ops d=true->(L.setIfInBounds j true).getD d false=false)->Ext w0 w' (λ_ _=>0))->S (L.setIfInBounds j true) w')
  (next:∀ (a':Act) (w':World) (X':FP),Inv P E ops pd w0 C is l f σ fuel A a' w' X' F (j::D) (L.setIfInBounds j true) er RC->kQ P .any ops Q S fuel (L.setIfInBounds j true) a' w') :
  wpOp P ops Q j (λa' w'=>S (L.setIfInBounds j true) w'/\kQ P .any ops Q S fuel (L.setIfInBounds j true) a' w') a w:=by
 obtain ⟨o,d,s,ho,hg,hd,hs,ci⟩:=rh mJ hj
 have p8:j < L.size:=by rw[v.p5];exact (Array.getElem?_eq_some_iff.1 ho).1
 obtain ⟨Mb,JQ,_⟩:=v.xu (mem_ready.1 hr).1
 have Iq:j ∈ is:=(v.JO j hj).resolve_left (by rw[JQ];simp)
 have ap:ym σ d=true:=by
  unfold D8 at iP
  rw[GQ] at iP
  have:=List.all_eq_true.1 iP j hj
  rw[Array.getElem?_toList,ho,gS.2 Iq] at this
  simpa [hd] using this
 obtain ⟨val,w',Fj,dB,bI,Y,Rq⟩:=Im (o:=o) v.h hE.ti hs ap
 have kR:(∀ d,gR E ops d=true->(L.setIfInBounds j true).getD d false=false)->Ext w0 w' (λ_ _=>0):=λvA=>(v.hS λd' jD=>by
  cases hh:L.getD d' false with
  | false=>rfl
  | true=>rw[<-vA d' jD,(cb p8).2 (.inr hh)]).trans bI (λ_ _ _ _=>rfl)
 have hw:Region.wanted o (yielded ops a.tmps)=true:=by simp[Region.wanted,hg]
 unfold wpOp
 simp only[ho,hw,if_true]
 refine .inl (fE dB ⟨hS w' bI kR,?_⟩)
 rw[hd]
 have Rr:d < σ.n:=(zs ap).1
 refine next _ _ (λb i=>X b i+Fj b i) ⟨Y,⟨o,d,s,Fj,X,ho,hd,hs,?_,λb i=>Nat.le_refl _,?_⟩,List.nodup_cons.2 ⟨Mb,v.nd⟩,?_,?_,?_,v.JO,?_,sy v.cl hr,kR,λhf=>?_,v.xt,by simpa using v.p5,λk=>?_,v.GN,v.GO,v.io,v.oL ma ho (by have:=(mem_ready.1 hr).1;rw[ll p8] at this;exact this) (λd' jD=>by rw[fD,if_neg (λe=>jD (by rw[hd,e.1]))]) (λe he hu=>by
  obtain ⟨_,_,_,_,_,_,_,_,_,_,_,q⟩:=v.rc e he
  exact (q (hu.imp id λhu=>OP p8 hu)).ext bI)⟩
 ·have:tmp (a.put (some d) val) d=val:=by rw[fD,v.h.size,if_pos ⟨rfl,Rr⟩]
  rw[this];exact Rq
 ·refine PF.eL (λ_ _ h=>h) (λb i ha u hu=>bI.cell b i (lK hu) rfl u hu) bI.lY D (λk hk o' d' oT jD=>?_) (λb i hp=>⟨λu hu=>bI.cell b i (lK hu) rfl u hu,bI.oM b i (v.h.dA b i (.inl (by omega)))⟩) v.pf
  have:d'≠d:=λe=>ci k o' oT (λe'=>by subst e';exact Mb hk) (by rw[jD,e])
  rw[fD,if_neg (λh=>this h.1.symm)]
 ·intro k hk
  rcases List.mem_cons.1 hk with e | e
  ·subst e;exact hj
  ·exact v.zw k e
 ·intro k hk
  rcases List.mem_cons.1 hk with e | e
  ·subst e;exact JQ
  ·exact v.dl k e
 ·intro k hk
  rcases List.mem_cons.1 hk with e | e
  ·subst e;exact Iq
  ·exact v.gD k e
 ·have:=CH Mb is Iq
  have:=v.vz
  omega
 ·have:=(v.hf hf).2
  rw[this] at hj;cases hj
 ·rw[cb p8,v.hL,List.mem_cons]
  constructor
  ·rintro (h | h | h)
   ·exact .inr (.inl h)
   ·exact .inl h
   ·exact .inr (.inr h)
  ·rintro (h | h | h)
   ·exact .inr (.inl h)
   ·exact .inl h
   ·exact .inr (.inr h)
theorem GT (hE:jz P E) {bV:Nat} (br:∀ o ∈ ops.toList,iy P o.op=true) {K:St->Option R} (hP:∀ c a w,¬ Q (.panic c) a w) (sA:Region.noSelect ops=true) (mJ:t_ E ops pd=true) (GQ:fB E.pd bV=pd) {er:List (Nat×Nat)} (GP:wM E.er bV=er) (ma:pZ E ops pd er=true) :
  ∀ (is:List Nat) (l:Array Bool) (f:Bool) {C:Ctx} {σ:St},(∀ a w,Nx P C K x a w->Q .normal a w)->(∀ b i,C.A0 b i->C.F0 b i=0)->pY E bV ops pd is l f=true->tB E bV ops.toList is σ K=some x ->
   ∀ (fuel:Nat) {A:Cells} {a:Act} {w:World} {X:FP} {F:Nat->FP} {D:List Nat} {L:Array Bool} {RC:List (Nat×Nat×Nat×Nat×List Value)},Inv P E ops pd w0 C is l f σ fuel A a w X F D L er RC->kQ P .any ops Q (SD E ops w0 C RC) fuel L a w:=by
 intro is
 induction is with
 | nil=>
  intro l f C σ hQ hC hg hk fuel A a w X F D L RC v
  simp only[pY,List.isEmpty_iff] at hg
  have hD:D=[]:=by
   cases D with
   | nil=>rfl
   | cons j D=>have:=v.gD j (by simp);cases this
  subst hD
  have hr:Region.ready .any ops L=[]:=by
   rw[List.eq_nil_iff_forall_not_mem]
   intro j hj
   have:=v.ua (S:=[]) (λ_ h=>h) hj (by simp)
   rw[qD,hg] at this
   cases this
  have hq:=hQ a w ⟨σ,hk,A,F,v.h.less λ_ _=>Nat.zero_le _⟩
  cases fuel with
  | zero=>exact ⟨hr,hq⟩
  | succ fuel=>exact ⟨λ_=>hq,by rw[hr];simp⟩
 | cons i is ih=>
  intro l f C σ hQ hC hg hk
  simp only[tB] at hk
  split at hk
  ·cases hk
  rename_i iP
  simp only[pY] at hg
  cases hi:ops[i]? with
  | none=>rw[hi] at hg;cases hg
  | some o=>
  rw[Array.getElem?_toList,hi] at hk
  rw[hi] at hg
  simp only at hk hg
  have Bc:i < ops.size:=(Array.getElem?_eq_some_iff.1 hi).1
  have t9:o ∈ ops.toList:=List.mem_of_getElem? (i:=i) (by simpa using hi)
  have EF:∀ (fuel:Nat) {A:Cells} {a:Act} {w:World} {X:FP} {F:Nat->FP} {D:List Nat} {L:Array Bool} {RC:List (Nat×Nat×Nat×Nat×List Value)},Inv P E ops pd w0 C (i::is) l f σ fuel A a w X F D L er RC->i ∈ D->kQ P .any ops Q (SD E ops w0 C RC) fuel L a w:=by
   intro fuel A a w X F D L RC v hD
   have xv:=v.zw i hD
   rw[gS.2 xv] at hg
   simp only[Bool.and_eq_true,Bool.not_eq_true'] at hg
   obtain ⟨⟨⟨tm,_⟩,_⟩,hg⟩:=hg
   have tm:i ∉ is:=λhm=>by rw[gS.2 hm] at tm;cases tm
   obtain ⟨o',d',s',oT,xw,jD,vB,_⟩:=rh mJ xv
   rw[hi] at oT
   injection oT with oT
   subst oT
   obtain ⟨o2,d,s,Fi,X',g1,g2,g3,g4,g5,g6⟩:=PF.take D hD v.pf
   rw[hi] at g1
   injection g1 with g1
   subst g1
   simp only[tA,xw] at hk
   split at hk
   ·cases hk
   rw[Il g3,g2] at hk
   split at hk
   rotate_left
   ·cases hk
   obtain ⟨F2,Y⟩:=v.h.aI (some d) g4.slot g5 g4.whole
   rw[Br] at Y
   exact ih _ f hQ hC hg hk fuel (v.EF hD tm Y g6)
  intro fuel
  induction fuel with
  | zero=>
   intro A a w X F D L RC v
   by_cases hD:i ∈ D
   ·exact EF 0 v hD
   ·have:=v.vz
    simp[List.filter_cons,hD] at this
  | succ fuel Rs=>
  intro A a w X F D L RC v
  by_cases hD:i ∈ D
  ·exact EF _ v hD
  have xx:∀ e ∈ RC,rf ops L e.2.1->Has w e.2.2.1 e.2.2.2.1 e.2.2.2.2:=λe he=>by obtain ⟨_,_,_,_,_,_,_,_,_,_,_,q⟩:=v.rc e he;exact q
  have PP:∀ w',Ext w w' (λ_ _=>0)->∀ (l':Array Bool),(∀ k,l'.getD k false=false->L.getD k false=false)->((∀ d,gR E ops d=true->l'.getD d false=false)->Ext w0 w' (λ_ _=>0))->SD E ops w0 C RC l' w':=λw' jw l' Dz hh=>⟨hh,(λb i ha u hu=>by
   have:=v.h.ext.cell b i (lK hu) (hC b i ha) u hu
   exact jw.cell b i (lK this) rfl u this),λe he hu=>(xx e he (hu.imp id (Dz _))).ext jw⟩
  have GU:∀ j,j ∈ pd->j ∈ Region.ready .any ops L->wpOp P ops Q j (λa' w'=>SD E ops w0 C RC (L.setIfInBounds j true) w'/\kQ P .any ops Q (SD E ops w0 C RC) fuel (L.setIfInBounds j true) a' w') a w:=λj hj hr=>
   v.early hE mJ GQ ma iP hC hj hr (λw' jw hh=>PP w' jw _ (λk hk=>OP (by rw[v.p5];obtain ⟨_,oj,xq,_⟩:=mem_ready.1 hr;exact (Array.getElem?_eq_some_iff.1 xq).1) hk) hh) (λa' w' X' v'=>Rs v')
  have Bu:SD E ops w0 C RC L w:=⟨v.hS,(λb i ha u hu=>v.h.ext.cell b i (lK hu) (hC b i ha) u hu),xx⟩
  cases zx:pd.any (Nat.beq i) with
  | true=>
   rw[zx] at hg
   simp only[Bool.and_eq_true,Bool.not_eq_true',List.all_eq_true] at hg
   obtain ⟨⟨⟨tm,tn⟩,yI⟩,hg⟩:=hg
   have jU:i ∈ Region.ready .any ops L:=v.wd (by simpa using tn) hD
   refine ⟨λh0=>(by rw[h0] at jU;cases jU),λj hj=>GU j ?_ hj⟩
   by_cases JP:j ∈ pd.filter (λj=>!Nat.beq i j)
   ·exact (List.mem_filter.1 JP).1
   ·refine gS.1 (yI j (v.ua (λk hk=>List.mem_filter.2 ⟨v.zw k hk,?_⟩) hj JP))
    cases hb:Nat.beq i k with
    | false=>rfl
    | true=>rw[Nat.eq_of_beq_eq_true hb] at hD;exact absurd hk hD
  | false=>
  rw[zx] at hg
  simp only at hg
  have ST:i ∉ pd:=λhm=>by rw[gS.2 hm] at zx;cases zx
  have Ir:∀ j ∈ D,∀ o' d,ops[j]?=some o'->o'.dst=some d->o.dst≠some d:=λj hj o' d oT jD=>by
   obtain ⟨o2,d2,s2,g1,_,g2,_,g3⟩:=rh mJ (v.zw j hj)
   rw[oT] at g1;injection g1 with g1;subst g1
   rw[jD] at g2;injection g2 with g2;subst g2
   exact g3 i o hi (λe=>by subst e;exact hD hj)
  obtain ⟨b,fN,hk,h1,hw⟩:=Bo v.h hk
  have Dt:(match (generalizing:=false) b with
    | true=>iE E bV i o fN λσ=>match wN E bV ops.toList i o is σ with
     | true=>tB E bV ops.toList is σ K
     | false=>none
    | false=>tB E bV ops.toList is (fN.aI o.dst (.iI [])) K)=some x/\(b=true->AF E bV i=true->AE fN o=true):=by
   cases b with
   | true=>
    simp only at hk
    cases hn:(AF E bV i&&!AE fN o) with
    | true=>rw[hn] at hk;cases hk
    | false=>
     rw[hn] at hk
     exact ⟨hk,λ_ xf=>by rw[xf] at hn;simpa using hn⟩
   | false=>exact ⟨hk,λe=>by cases e⟩
  obtain ⟨hk,PR⟩:=Dt
  have qY:∀ (val:Value),∀ j ∈ D,∀ o' d,ops[j]?=some o'->o'.dst=some d->tmp (a.put o.dst val) d=tmp a d:=λval j hj o' d oT jD=>by
   have:=Ir j hj o' d oT jD
   cases Mc:o.dst with
   | none=>rfl
   | some e=>rw[fD,if_neg (λh=>this (by rw[Mc,h.1]))]
  split at hg
  ·rename_i JR
   simp only[Bool.and_eq_true,Bool.or_eq_true,Bool.not_eq_true',List.all_eq_true,List.mem_range] at JR
   obtain ⟨iJ,⟨Ag,Bv⟩,tn⟩:=JR
   have jU:i ∈ Region.ready .any ops L:=v.wd (by simpa using Bv) hD
   have xy:∀ j oj,ops[j]?=some oj->j≠i->L.getD j true=false->(∀ e ∈ oj.after,Region.binds .any e=true->e.on≠i)->o.apart ops oj=true:=λj oj xq fC jH jv=>Region.free_spec hi Ag j oj xq fC (v.xu jH).2.2 jv
   have kS:gR E ops i=false:=by simp[gR,hi,iJ]
   have vA:∀ (l':Array Bool),(∀ d,gR E ops d=true->(l'.setIfInBounds i true).getD d false=false)↔∀ d,gR E ops d=true->l'.getD d false=false:=λl'=>by
    constructor
    ·intro hh d hd
     have:=hh d hd
     rw[getD_set_ne false (λe=>by subst e;rw[kS] at hd;cases hd)] at this
     exact this
    ·intro hh d hd
     rw[getD_set_ne false (λe=>by subst e;rw[kS] at hd;cases hd)]
     exact hh d hd
   have JS:∀ (C:Ctx) (RC:List (Nat×Nat×Nat×Nat×List Value)),(∀ e ∈ RC,(e.1,e.2.1) ∈ er)->∀ l w,SD E ops w0 C RC (l.setIfInBounds i true) w↔SD E ops w0 C RC l w:=λC RC cI l' w'=>by
    unfold SD
    rw[vA]
    refine and_congr Iff.rfl (and_congr Iff.rfl (forall_congr' λe=>forall_congr' λhe=>?_))
    have ci:i≠e.2.1:=λe'=>by
     rcases (lI ma (cI e he)).2.1 with h | ⟨h,_⟩
     ·omega
     ·rw[<-e',kS] at h;cases h
    unfold rf
    rw[getD_set_ne false ci]
   have cI:∀ e ∈ RC,(e.1,e.2.1) ∈ er:=λe he=>(v.rc e he).1
   have NP:∀ {l':Array Bool} {u:Nat},(∃ j,(j,u) ∈ er)->(rf ops (l'.setIfInBounds i true) u->rf ops l' u):=λ{l' u} ⟨j,hj⟩ hu=>by
    have ci:i≠u:=λe'=>by
     rcases (lI ma hj).2.1 with h | ⟨h,_⟩
     ·omega
     ·rw[<-e',kS] at h;cases h
    unfold rf at hu ⊢
    rwa [getD_set_ne false ci] at hu
   have JT:(∀ d,gR E ops d=true->(L.setIfInBounds i true).getD d false=false)->Ext w0 w (λ_ _=>0):=λhd=>v.hS ((vA L).1 hd)
   have we:L.getD i false=false:=by
    have h0:=(mem_ready.1 jU).1
    rw[ll (by rw[v.p5];exact Bc)] at h0
    exact h0
   have uY:∀ (val:Value),∀ e ∈ RC,RE ops er (L.setIfInBounds i true) (a.put o.dst val) w e:=λval=>v.oL ma hi we (λd hd=>by
    cases ho:o.dst with
    | none=>rfl
    | some d'=>rw[fD,if_neg (λe=>hd (by rw[ho,e.1]))]) (λe he hu=>xx e he (NP ⟨_,cI e he⟩ hu))
   cases b with
   | true=>
    simp only at hk
    cases Me:AF E bV i with
    | true=>
     obtain ⟨C',c1,c2,c3,c4,c5⟩:=h1.KP
     obtain ⟨C1,f1,f2⟩:=c4.frame
     obtain ⟨val,dB,eu,ff,A2,F2,Y⟩:=KQ f1 hE (br o t9) iJ (PR rfl Me) hk
     simp only at ff
     split at ff
     rotate_left
     ·cases ff
     have Mf:∀ b i,C'.A0 b i->C'.F0 b i=0:=λb i ha=>c3 b i (by rw[<-c2];exact ha)
     obtain ⟨e1,e2,e3,e4,e5⟩:=f2 Y
     refine rg (S:=SD E ops w0 C' RC) (λl' w' hs=>⟨hs.1,(λb i ha u hu=>hs.2.1 b i (by rw[c2];exact h1.a0 b i ha) u (by rw[c1];exact h1.ext.cell b i (lK hu) (hC b i ha) u hu)),hs.2.2⟩) _ _ _ _
      (mQ hi (Region.noSelect_spec sA) (λc a w hq=>(hP c _ _ hq).elim) (JS C' RC cI) fuel L a w xy jU v.cl (.inl ⟨hw,λw' kR=>dB w' λb i ha u hu=>?_⟩) ⟨v.hS,(λb i ha u hu=>by rw[c1] at hu;exact hu),xx⟩
      (ih _ f (λa w ⟨qx,q1,A3,F3,q2⟩=>hQ a w ⟨qx,q1,A3,F3,c5 q2⟩) Mf hg ff fuel (v.next hD jU e1 (PF.eL e2 e3 e4 D (qY val) e5 v.pf) JT v.hf (uY val))))
     obtain ⟨l',pE,jH,kR⟩:=kR
     exact kR.2.1 b i (by rw[c2];exact ha) u (by rw[c1];exact hu)
    | false=>
    cases Bw:D6 E bV i with
    | true=>
     obtain ⟨u,Ah⟩:∃ u,(i,u) ∈ er:=by
      unfold D6 at Bw
      rw[GP] at Bw
      obtain ⟨e,Rt,Ru⟩:=List.any_eq_true.1 Bw
      rw[Nat.eq_of_beq_eq_true Ru]
      exact ⟨e.2,Rt⟩
     obtain ⟨_,OR,o1,t1,x1,d1,g1,_,g2,g3,g4,_⟩:=lI ma Ah
     rw[hi] at g1
     injection g1 with g1
     subst g1
     obtain ⟨C1,f1,f2⟩:=h1.frame
     obtain ⟨b0,off,PT,cs,q1,q2,q3,q4⟩:=KS f1 hE (br o t9) g2 hk
     obtain ⟨val,dB,eu,ff,A2,F2,Y⟩:=Af hE f1 (br o t9) iJ hk
     have AZ:val=PT:=by
      have r1:=dB w λ_=>Ext.refl _ _
      have r2:=q4 w q2
      rw[r1] at r2
      injection r2 with r2 _
      injection r2
     subst AZ
     simp only at ff
     split at ff
     rotate_left
     ·cases ff
     rename_i Ai
     obtain ⟨e1,e2,e3,e4,e5⟩:=f2 Y
     have qZ:RE ops er (L.setIfInBounds i true) (a.put o.dst val) w (i,u,b0,off,cs):=by
      refine ⟨Ah,(cb (by rw[v.p5];exact Bc)).2 (.inl rfl),o,t1,x1,d1,hi,g2,g3,?_,?_,λ_=>q2⟩
      ·rw[g3,fD,if_neg (λe=>g4 e.1.symm)];exact q1
      ·simp only[wN,Bw,Bool.or_true,Bool.not_true,Bool.false_or,D7,GP,List.all_eq_true] at Ai
       have h9:=Ai _ Ah
       have In:is.any (Nat.beq i)=false:=by
        cases hb:is.any (Nat.beq i) with
        | false=>rfl
        | true=>exact absurd (gS.1 hb) (List.nodup_cons.1 v.GN).1
       have Ip:(is.any (Nat.beq u)||Nat.ble ops.toList.length u)=true:=by
        rcases Nat.lt_or_ge u ops.size with k1 | k1
        ·obtain ⟨k2,_,k3⟩:=OR.resolve_left (by omega)
         rcases v.GO u k1 with k4 | k4
         ·have k5:=(v.hL u).2 (.inl k4)
          have:=lk v.cl _ _ _ k3 k5
          rw[we] at this;cases this
         ·rcases List.mem_cons.1 k4 with k5 | k5
          ·rw[k5,kS] at k2;cases k2
          ·rw[gS.2 k5,Bool.true_or]
        ·have:Nat.ble ops.toList.length u=true:=by simpa using k1
         rw[this,Bool.or_true]
       rw[In,Ip,Bool.not_true,Bool.false_or,Bool.false_or,Array.getElem?_toList,hi] at h9
       simp only at h9
       have vx:=(GK Y h9 g2 g3 (b:=b0) (off:=off) (by rw[g3,fD,if_neg (λe=>g4 e.1.symm)];exact q1)).2
       rw[g3] at vx ⊢
       rw[fD,if_pos ⟨rfl,by simpa [Act.put] using vx⟩];exact q3
     refine rg (S:=SD E ops w0 C ((i,u,b0,off,cs)::RC)) (λl' w' hs=>⟨hs.1,hs.2.1,λe he=>hs.2.2 e (List.mem_cons_of_mem _ he)⟩) _ _ _ _
      (mQ hi (Region.noSelect_spec sA) (λc a w hq=>(hP c _ _ hq).elim) (JS C _ (λe he=>by rcases List.mem_cons.1 he with rfl | he;exact Ah;exact cI e he)) fuel L a w xy jU v.cl (.inl ⟨hw,λw' kR=>?_⟩) ⟨Bu.1,Bu.2.1,λe he hu=>?_⟩
      (ih _ f hQ hC hg ff fuel (v.next hD jU e1 (PF.eL e2 e3 e4 D (qY val) e5 v.pf) JT v.hf (λe he=>?_))))
     ·obtain ⟨l',pE,jH,kR⟩:=kR
      refine q4 w' (kR.2.2 _ List.mem_cons_self ?_)
      rcases OR with k1 | ⟨_,_,k3⟩
      ·exact .inl k1
      ·right
       show l'.getD u false=false
       cases Mg:l'.getD u false with
       | false=>rfl
       | true=>
        have:=lk pE _ _ _ k3 Mg
        rcases Nat.lt_or_ge i l'.size with h' | h'
        ·simp[h'] at this jH;rw[jH] at this;cases this
        ·simp[Array.getElem?_eq_none h'] at this
     ·rcases List.mem_cons.1 he with rfl | he
      ·exact q2
      ·exact xx e he hu
     ·rcases List.mem_cons.1 he with rfl | he
      ·exact qZ
      ·exact uY val e he
    | false=>
    obtain ⟨C1,f1,f2⟩:=h1.frame
    obtain ⟨val,dB,eu,ff,A2,F2,Y⟩:=Af hE f1 (br o t9) iJ hk
    simp only at ff
    split at ff
    rotate_left
    ·cases ff
    obtain ⟨e1,e2,e3,e4,e5⟩:=f2 Y
    refine mQ hi (Region.noSelect_spec sA) (λc a w hq=>(hP c _ _ hq).elim) (JS C RC cI) fuel L a w xy jU v.cl (.inl ⟨hw,λw' kR=>dB w' λhr=>?_⟩) Bu (ih _ f hQ hC hg ff fuel (v.next hD jU e1 (PF.eL e2 e3 e4 D (qY val) e5 v.pf) JT v.hf (uY val)))
    rcases tn with ((tn | tn) | tn) | ⟨hM,PU⟩
    ·rw[hr] at tn;cases tn
    ·rw[Me] at tn;cases tn
    ·rw[Bw] at tn;cases tn
    ·rw[(v.hf hM).1]
     obtain ⟨l',pE,jH,kR⟩:=kR
     refine kR.1 λd hd=>?_
     have OS:d < ops.size:=by
      unfold gR at hd
      split at hd
      ·rename_i od Mc;exact (Array.getElem?_eq_some_iff.1 Mc).1
      ·cases hd
     rcases PU d OS with hh | hh
     ·rw[hd] at hh;cases hh
     ·cases Mg:l'.getD d false with
      | false=>rfl
      | true=>
       have:=lk pE _ _ _ hh Mg
       rcases Nat.lt_or_ge i l'.size with h' | h'
       ·simp[h'] at this jH;rw[jH] at this;cases this
       ·simp[Array.getElem?_eq_none h'] at this
   | false=>
    obtain ⟨F2,Y⟩:=yH h1 o
    exact mQ hi (Region.noSelect_spec sA) (λc a w hq=>(hP c _ _ hq).elim) (JS C RC cI) fuel L a w xy jU v.cl (v:=undef) (.inr ⟨hw,rfl⟩) Bu (ih _ f hQ hC hg hk fuel (v.next hD jU Y (PF.eL (λ_ _ h=>h) (λ_ _ _ _ h=>h) (λ_ _ h=>h) D (qY undef) (λ_ _ _=>⟨λ_ h=>h,rfl⟩) v.pf) JT v.hf (uY undef)))
  ·simp only[Bool.and_eq_true,List.all_eq_true] at hg
   obtain ⟨⟨Bv,yI⟩,hg⟩:=hg
   have jU:i ∈ Region.ready .any ops L:=v.wd (by simpa using Bv) hD
   have EG:i < L.size:=by rw[v.p5];exact Bc
   have we:L.getD i false=false:=by
    have h0:=(mem_ready.1 jU).1
    rw[ll EG] at h0
    exact h0
   refine ⟨λh0=>(by rw[h0] at jU;cases jU),λj hj=>?_⟩
   by_cases OU:j ∈ pd
   ·exact GU j OU hj
   have gB:i=j:=Nat.eq_of_beq_eq_true (yI j (v.ua v.zw hj OU))
   subst gB
   unfold wpOp
   simp only[hi,hw]
   have hold:∀ {d},(L.setIfInBounds i true).getD d false=false->L.getD d false=false:=λ{d} hh=>by
    cases hl:L.getD d false with
    | false=>rfl
    | true=>rw[(cb EG).2 (.inr hl)] at hh;cases hh
   have pK:(L.setIfInBounds i true).getD i false=true:=(cb EG).2 (.inl rfl)
   cases b with
   | true=>
    simp only[if_true]
    obtain ⟨C1,f1,f2⟩:=h1.frame
    have qE:∀ w',(∀ b i,A b i->∀ u,ce w b i=some u->ce w' b i=some u)->∀ b i,C.A0 b i->∀ u,ce C.w0 b i=some u->ce w' b i=some u:=λw' he b i ha u hu=>he b i (v.h.a0 b i ha) u (v.h.ext.cell b i (lK hu) (hC b i ha) u hu)
    cases iJ:lD E o.op with
    | true=>
     refine .inl (Oper.wp_mono (λa' w' hn=>?_) (GI (KR (Af hE f1 (br o t9) iJ hk))))
     obtain ⟨ht,Rv,eu,ff,A2,F2,Y⟩:=hn
     subst Rv
     simp only at ff
     split at ff
     rotate_left
     ·cases ff
     obtain ⟨e1,e2,e3,e4,e5⟩:=f2 Y
     have kR:(∀ d,gR E ops d=true->(L.setIfInBounds i true).getD d false=false)->Ext w0 w (λ_ _=>0):=λhd=>v.hS λd vA=>hold (hd d vA)
     exact ⟨⟨kR,qE _ e3,λe he hu=>xx e he (hu.imp id hold)⟩,ih _ false hQ hC hg ff fuel (v.next hD jU e1 (PF.eL e2 e3 e4 D (λj hj o' d oT jD=>ht d (Ir j hj o' d oT jD)) e5 v.pf) kR (λe=>by cases e) (v.oL ma hi we ht λe he hu=>xx e he (hu.imp id hold)))⟩
    | false=>
    refine .inl (Oper.wp_mono (λa' w' hn=>?_) (GI (GH hE f1 (br o t9) iJ hk)))
    obtain ⟨ht,⟨eu,ff,A2,F2,Y⟩,hq⟩:=hn
    simp only at ff
    split at ff
    rotate_left
    ·cases ff
    rename_i Ai
    obtain ⟨e1,e2,e3,e4,e5⟩:=f2 Y
    have kR:(∀ d,gR E ops d=true->(L.setIfInBounds i true).getD d false=false)->Ext w0 w' (λ_ _=>0):=λhd=>by
     have Mh:quiet E o.op=true:=by
      cases Mh:quiet E o.op with
      | true=>rfl
      | false=>
       have Rw:gR E ops i=true:=by simp[gR,hi,iJ,Mh]
       have:=hd i Rw
       rw[pK] at this;cases this
     exact (v.hS λd vA=>hold (hd d vA)).trans (hq Mh) (λ_ _ _ _=>rfl)
    have Mi:=v.still ma GP hi we Y ht (λhm=>hq (quiet_of hk hm iJ)) Ai
    exact ⟨⟨kR,qE _ e3,Mi⟩,ih _ false hQ hC hg ff fuel (v.next hD jU e1 (PF.eL e2 e3 e4 D (λj hj o' d oT jD=>ht d (Ir j hj o' d oT jD)) e5 v.pf) kR (λe=>by cases e) (v.oL ma hi we ht Mi))⟩
   | false=>
    simp only[Bool.false_eq_true,if_false]
    obtain ⟨F2,Y⟩:=yH h1 o
    have kR:(∀ d,gR E ops d=true->(L.setIfInBounds i true).getD d false=false)->Ext w0 w (λ_ _=>0):=λhd=>v.hS λd vA=>hold (hd d vA)
    exact ⟨⟨kR,Bu.2.1,λe he hu=>xx e he (hu.imp id hold)⟩,ih _ false hQ hC hg hk fuel (v.next hD jU Y (PF.eL (λ_ _ h=>h) (λ_ _ _ _ h=>h) (λ_ _ h=>h) D (qY undef) (λ_ _ _=>⟨λ_ h=>h,rfl⟩) v.pf) kR (λe=>by cases e) (v.oL ma hi we (λd hd=>by
     cases ho:o.dst with
     | none=>rfl
     | some d'=>rw[fD,if_neg (λe=>hd (by rw[ho,e.1]))]) λe he hu=>xx e he (hu.imp id hold)))⟩
end
theorem KU (hE:jz P E) (hm:P.follows .mixedOrders=true) {bV id:Nat} {ops:Array Oper} (br:∀ o ∈ ops.toList,iy P o.op=true) {is bx:List Nat} (hd:Bq E bV ops is=true) (h:bn P C A σ a w F) {K:St->Option R} (hk:C8 σ bx (λσ=>FK ops.toList σ (fB E.pd bV) λσ=>tB E bV ops.toList is σ K)=some x)
  (hQ:∀ a w,Nx P C K x a w->Q .normal a w) (hP:∀ c a w,¬ Q (.panic c) a w):(Code.region id ops true).wp P Q a w:=by
 simp only[Bq,Bool.and_eq_true,Nat.ble_eq] at hd
 obtain ⟨⟨⟨⟨sA,hlen⟩,mJ,PV⟩,⟨kS,PW⟩,ma⟩,hg⟩:=hd
 have h0:=h.drew
 obtain ⟨A1,fN,F1,hk,h1⟩:=JN bx h0 hk
 obtain ⟨eu,F2,hk,h1⟩:=NO (fB E.pd bV) h1 hk
 obtain ⟨C',c1,c2,c3,c4,c5⟩:=h1.L_
 have Mf:∀ b i,C'.A0 b i->C'.F0 b i=0:=λb i ha=>c3 b i (by rw[<-c2];exact ha)
 have Ds:∀ k,(Array.replicate ops.size false).getD k false=false:=λk=>by
  by_cases hk:k < ops.size <;> simp[hk]
 refine wp_region_any hm (xp _ _ _ _ (GT hE br hP sA mJ rfl rfl ma is _ _ (λa w ⟨qx,q1,A3,F3,q2⟩=>hQ a w ⟨qx,q1,A3,F3,c5 q2⟩) Mf hg hk ops.size (w0:=w.drew) (D:=[]) (RC:=[]) ⟨c4,trivial,List.nodup_nil,(λ_ h=>by cases h),(λ_ h=>by cases h),(λ_ h=>by cases h),λj hj=>.inr (gS.1 (List.all_eq_true.1 PV j hj)),
  Nat.le_trans (List.length_filter_le _ _) hlen,λj o hj hl=>?_,λ_=>Ext.refl _ _,λhf=>⟨rfl,?_⟩,by simp,by simp,(λk=>by simp),vy kS,λk hk=>.inr (gS.1 (List.all_eq_true.1 PW k (List.mem_range.2 hk))),λk _=>Ds k,λe he=>by cases he⟩))
 ·rw[Ds] at hl;cases hl
 ·split at hf
  ·assumption
  ·cases hf
end
end OT
set_option linter.unusedVariables false
set_option linter.unusedSimpArgs false
namespace OT
open Go
section
variable {P:Program} {C:Ctx} {A:Cells} {X:FP} {σ:St} {a:Act} {w:World} {F:Nat->FP} {R:Type} {x:R} {E:Env}
theorem Bx (f:Nat->Slot):∀ (live:List Nat) (i:Nat),fd (live.map λj=>(j,f j)) i=if live.any (Nat.beq i) then some (f i) else none
 | [],i=>rfl
 | j::live,i=>by
  simp only[List.map_cons,fd,List.any_cons]
  by_cases gB:i=j
  ·simp_all
  ·have h1:Nat.beq j i=false:=by
    grind [Nat.eq_of_beq_eq_true]
   have Y:Nat.beq i j=false:=by
    grind [Nat.eq_of_beq_eq_true]
   simp only[h1,Y,Bool.false_eq_true,if_false,Bool.false_or,Bx f live i]
theorem p_ (live:List Nat) (fr:List (Nat×Md)) (σ:St) (i:Nat):(dx live fr σ).get i=if i < σ.n/\live.any (Nat.beq i)=true then qv fr i (dK live fr σ i) else .dead:=by
 unfold St.get dx
 simp only[Bx]
 grind [Nat.blt_eq]
theorem sC (live:List Nat) (fr:List (Nat×Md)) (σ:St) (i:Nat):(dx live fr σ).dJ i=[0,0,0,0,0]:=rfl
theorem sD {s:List Nat} (h:s.length<=5):Below (s.map λ_=>0) [0,0,0,0,0]:=by
 intro j y hj
 grind
theorem sE {live:List Nat} {fr:List (Nat×Md)} {r:Nat} (hr:tC live fr r=true) {p:Path} {pl:Pl} (hp:place σ a w r p=some pl):place (dx live fr σ) a w r p=some pl:=by
 grind [jR,tC,place,p_,qv,dK,bk]
theorem GV {live:List Nat} {fr:List (Nat×Md)} {i:Nat} {G:FP} (hs:aV P A σ a w (tmp a i) (σ.get i) G) (hG:∀ b k,G b k<=1) :
  ∃ G':FP,(∀ b k,G' b k<=G b k)/\∀ A':Cells,(∀ b k,A b k->A' b k)->(∀ b k,1<=G b k->G' b k=0->A' b k)->aV P A' (dx live fr σ) a w (tmp a i) (qv fr i (dK live fr σ i)) G':=by
 have same:∀ b k,A b k->∀ u,ce w b k=some u->ce w b k=some u:=λ_ _ _ _ h=>h
 have dead:qv fr i .dead=.dead:=by grind [qv]
 have sF:∀ {s:Slot},(∀ t m H v,s≠.own t m H v)->(∀ t m H v,s≠.box t m H v)->qv fr i s=s:=λ{s} h1 Y=>by
  grind [qv]
 cases hg:σ.get i with
 | dead=>exact ⟨λ_ _=>0,λ_ _=>Nat.zero_le _,λA' _ _=>by simp only[dK,hg,dead];trivial⟩
 | mn=>
  rw[hg] at hs
  exact ⟨λ_ _=>0,λ_ _=>Nat.zero_le _,λA' _ _=>by simp only[dK,hg];rw[sF (by intros;simp) (by intros;simp)];exact hs⟩
 | val t v=>
  rw[hg] at hs
  obtain ⟨cs,h1,Y⟩:=hs
  exact ⟨λ_ _=>0,λ_ _=>Nat.zero_le _,λA' hA _=>by simp only[dK,hg];rw[sF (by intros;simp) (by intros;simp)];exact ⟨cs,h1,Ro.mono same hA t Y⟩⟩
 | cp t v=>
  rw[hg] at hs
  exact ⟨λ_ _=>0,λ_ _=>Nat.zero_le _,λA' hA _=>by simp only[dK,hg];rw[sF (by intros;simp) (by intros;simp)];exact Ro.mono same hA (.ptr t) hs⟩
 | own t m H v=>
  rw[hg] at hs
  obtain ⟨cs,h1,Y⟩:=hs
  have hk:dK live fr σ i=.own t m H v:=by grind [dK]
  rw[hk]
  unfold qv
  split
  ·exact ⟨G,λ_ _=>Nat.le_refl _,λA' hA _=>⟨cs,h1,af.mono hA same (λ_ _ h=>h) t Y (λ_ _=>Nat.le_refl _) (λ_ _ _ _ h=>h)⟩⟩
  ·rename_i m1 hm
   simp only
   split
   ·rename_i hc
    simp only[Bool.and_eq_true,List.isEmpty_iff] at hc
    obtain ⟨hH,hf⟩:=hc
    subst hH
    obtain ⟨G1,g1,g2⟩:=af.fits t hf Y hG
    refine ⟨G1,g1,λA' hA qF=>?_⟩
    have hr:=g2 A' hA qF
    split
    ·rename_i e;subst e;exact ⟨cs,h1,af.ro t (bS t) hr⟩
    ·exact ⟨cs,h1,hr⟩
   ·exact ⟨λ_ _=>0,λ_ _=>Nat.zero_le _,λA' _ _=>trivial⟩
 | box t m H v=>
  rw[hg] at hs
  obtain ⟨b,o,L,F1,s1,s2,s3,s4,s5,s6⟩:=hs
  have hk:dK live fr σ i=.box t m H v:=by grind [dK]
  rw[hk]
  unfold qv
  split
  ·exact ⟨G,λ_ _=>Nat.le_refl _,λA' hA _=>⟨b,o,L,F1,s1,s2,s3,s4,s5,af.mono hA same (λ_ _ h=>h) t s6 (λ_ _=>Nat.le_refl _) (λ_ _ _ _ h=>h)⟩⟩
  ·rename_i m1 hm
   simp only
   split
   ·rename_i hc
    simp only[Bool.and_eq_true,List.isEmpty_iff] at hc
    obtain ⟨hH,hf⟩:=hc
    subst hH
    obtain ⟨G1,g1,g2⟩:=af.fits t hf s6 (λb' k=>by grind)
    refine ⟨λb' k=>bj b o t.sz b' k+G1 b' k,λb' k=>by grind,λA' hA qF=>⟨b,o,L,G1,s1,s2,s3,s4,λ_ _=>Nat.le_refl _,g2 A' hA λb' k hp hz=>?_⟩⟩
    grind
   ·exact ⟨λ_ _=>0,λ_ _=>Nat.zero_le _,λA' _ _=>trivial⟩
 | ref r p snap=>
  rw[hg] at hs
  refine ⟨λ_ _=>0,λ_ _=>Nat.zero_le _,λA' _ _=>?_⟩
  simp only[dK,hg]
  split
  ·rename_i hc
   simp only[Bool.and_eq_true] at hc
   rw[sF (by intros;simp) (by intros;simp)]
   obtain ⟨pl,h1,Y,h3⟩:=hs.2 hc.1
   have hl:snap.length<=5:=by grind
   exact ⟨by grind [sC,sD],λ_=>⟨pl,sE hc.2 h1,Y,by simpa using h3⟩⟩
  ·rw[dead];trivial
 | ptr r p snap=>
  rw[hg] at hs
  refine ⟨λ_ _=>0,λ_ _=>Nat.zero_le _,λA' _ _=>?_⟩
  simp only[dK,hg]
  split
  ·rename_i hc
   simp only[Bool.and_eq_true] at hc
   rw[sF (by intros;simp) (by intros;simp)]
   obtain ⟨pl,b,o,h1,Y,h3,h4⟩:=hs.2 hc.1
   have hl:snap.length<=5:=by omega
   exact ⟨by grind [sC,sD],λ_=>⟨pl,b,o,sE hc.2 h1,Y,h3,by simpa using h4⟩⟩
  ·rw[dead];trivial
 | sub r p snap lo hi=>
  rw[hg] at hs
  refine ⟨λ_ _=>0,λ_ _=>Nat.zero_le _,λA' _ _=>?_⟩
  simp only[dK,hg]
  split
  ·rename_i hc
   simp only[Bool.and_eq_true] at hc
   rw[sF (by intros;simp) (by intros;simp)]
   obtain ⟨pl,e,xa,n,cap,lH,cap',h1,Y,h3,h4,h5,h6,h7,h8,h9,vx,GS⟩:=hs.2 hc.1
   have hl:snap.length<=5:=by grind
   exact ⟨by grind [sC,sD],λ_=>⟨pl,e,xa,n,cap,lH,cap',sE hc.2 h1,Y,h3,h4,h5,h6,h7,h8,h9,vx,by simpa using GS⟩⟩
  ·rw[dead];trivial
 | iI xs=>
  rw[hg] at hs
  obtain ⟨vs,Fi,h1,Y,h3⟩:=hs
  refine ⟨G,λ_ _=>Nat.le_refl _,λA' hA _=>?_⟩
  simp only[dK,hg]
  rw[sF (by intros;simp) (by intros;simp)]
  exact ⟨vs,Fi,h1,Y,λj y hy=>by
   obtain ⟨v,g1,g2⟩:=h3 j y hy
   exact ⟨v,g1,g2.imp id λ⟨cs,g3,g4⟩=>⟨cs,g3,af.mono hA same (λ_ _ h=>h) _ g4 (λ_ _=>Nat.le_refl _) (λ_ _ _ _ h=>h)⟩⟩⟩
theorem wg (h:bn P C A σ a w F) (live:List Nat) (fr:List (Nat×Md)):tQ P C (dx live fr σ) a w:=by
 have hle:∀ i,i < σ.n->∀ b k,F i b k<=1:=λi hi b k=>by have:=h.f5 b k;grind [a_]
 have each:∀ i,∃ G':FP,(∀ b k,i < σ.n->G' b k<=F i b k)/\(¬ i < σ.n->∀ b k,G' b k=0)/\∀ A':Cells,(∀ b k,A b k->A' b k)->(∀ b k,1<=F i b k->G' b k=0->A' b k)->i < σ.n->aV P A' (dx live fr σ) a w (tmp a i) ((dx live fr σ).get i) G':=by
  intro i
  by_cases hi:i < σ.n
  ·by_cases hl:live.any (Nat.beq i)=true
   ·obtain ⟨G',g1,g2⟩:=GV (live:=live) (fr:=fr) (h.cj i hi) (hle i hi)
    exact ⟨G',λb k _=>g1 b k,λhn=>absurd hi hn,λA' hA qF _=>by grind [p_]⟩
   ·exact ⟨λ_ _=>0,λ_ _ _=>Nat.zero_le _,λ_ _ _=>rfl,λA' _ _ _=>by rw[p_,if_neg (λhc=>hl hc.2)];trivial⟩
  ·exact ⟨λ_ _=>0,λ_ _ _=>Nat.zero_le _,λ_ _ _=>rfl,λA' _ _ kj=>absurd kj hi⟩
 obtain ⟨F',Mj⟩:=Classical.axiomOfChoice each
 have gC:∀ b k,ao σ.n F' b k<=ao σ.n F b k:=λb k=>yo b k λj hj=>(Mj j).1 b k hj
 refine ⟨λb k=>A b k\/∃ j,j < σ.n/\1<=F j b k/\F' j b k=0,F',?_⟩
 have hold:∀ {b k j},j < σ.n->1<=F j b k->1<=0+ao σ.n F b k:=λ{b k j} hj hp=>by grind [a_]
 refine ⟨h.size,h.defers,λi hi=>(Mj i).2.2 _ (λ_ _ h=>.inl h) (λb k hp hz=>.inr ⟨i,hi,hp,hz⟩) hi,(λd r p snap hm=>by cases hm),λb k=>by have:=h.f5 b k;have:=gC b k;show 0+ao σ.n F' b k<=1;omega,λb k hp ha=>?_,λb k hp=>?_,
  λi=>by rw[sC];rfl,h.ext,λb k hp=>h.own b k (by have:=gC b k;have hp:1<=0+ao σ.n F' b k:=hp;grind),λb k ha=>.inl (h.a0 b k ha),λb k ha=>?_,h.fH,λr t m H v hg hl=>?_,λj k hm R' f_=>?_,h.mB⟩
 ·have hp:1<=0+ao σ.n F' b k:=hp
  rcases ha with ha | ⟨j,hj,h1,Y⟩
  ·exact h.gD b k (by grind) ha
  ·obtain ⟨i,hi,zx⟩:=AI (show 1<=ao σ.n F' b k by omega)
   have ci:i≠j:=λe=>by grind
   have:=jQ F hi hj ci b k
   have:=(Mj i).1 b k hi
   have:=h.f5 b k
   omega
 ·rcases hp with hp | (ha | ⟨j,hj,h1,_⟩)
  ·exact h.dA b k (.inl (by have:=gC b k;have hp:1<=0+ao σ.n F' b k:=hp;grind))
  ·exact h.dA b k (.inr ha)
  ·exact h.dA b k (.inl (hold hj h1))
 ·rcases ha with ha | ⟨j,hj,h1,_⟩
  ·exact h.J b k ha
  ·exact .inr (h.own b k (hold hj h1))
 ·rw[p_] at hg
  split at hg
  ·have:∃ m0 H0 v0,σ.get r=.box t m0 H0 v0:=by
    grind [qv,dK]
   obtain ⟨m0,H0,v0,LJ⟩:=this
   exact h.whole r t m0 H0 v0 LJ hl
  ·cases hg
 ·have Ef:bk w (tmp a j) (σ.get j)=some R'\/∃ H0,bk w (tmp a j) (σ.get j)=some { R' with H:=H0 }:=by
   rw[p_] at f_
   split at f_
   ·unfold qv at f_
    split at f_
    ·grind [dK,bk]
    ·split at f_
     ·grind [dK,bk]
     ·rename_i t0 m0 H0 v0 hk
      have vw:σ.get j=.box t0 m0 H0 v0:=by
       grind [dK]
      split at f_
      all_goals simp_all [bk]
     grind [bk]
   grind [bk]
  rcases Ef with hr | ⟨H0,hr⟩
  ·exact h.e7 j k hm R' hr
  ·have:=h.e7 j k hm _ hr
   exact this
theorem KV (live:List Nat) (σ:St):oL live σ=dx live [] σ:=rfl
theorem KW (h:bn P C A σ a w F) (live:List Nat):tQ P C (oL live σ) a w:=by grind [KV,wg]
end
end OT
set_option linter.unusedVariables false
set_option linter.unusedSimpArgs false
namespace OT
open Go
def QK (P:Program) (C:Ctx) {R:Type} (K:Ex->St->Option R) (fin:St->Option R) (x:R):Exit->Act->World->Prop
 | .normal,a,w=>∃ σ,K .normal σ=some x/\tQ P C σ a w
 | .exit id,a,w=>∃ σ,K (.exit id) σ=some x/\tQ P C σ a w
 | .ret,a,w=>∃ σ,fin σ=some x/\tQ P C σ a w
 | _,_,_=>False
noncomputable def codeOk (P:Program) (E:Env):Code->Bool
 | .skip=>true
 | .region id ops d=>ops.toList.all (λo=>iy P o.op)&&(match d with
  | false=>true
  | true=>P.follows .mixedOrders&&Bq E id ops (fB E.od id))
 | .seq a b=>codeOk P E a&&codeOk P E b
 | .cond c a b=>bg P c&&codeOk P E a&&codeOk P E b
 | .block _ b=>codeOk P E b
 | .loop b=>codeOk P E b
 | .scope b=>codeOk P E b
 | .exit _=>true
 | .ret=>true
 | _=>true
section
variable {P:Program} {C:Ctx} {R:Type} {x:R} {E:Env} {fin:St->Option R} {n:Nat}
theorem KX (hE:jz P E):∀ (c:Code),codeOk P E c=true->∀ {σ:St} {A:Cells} {a:Act} {w:World} {F:Nat->FP} {K:Ex->St->Option R},bn P C A σ a w F->kB E n fin c σ K=some x->c.wp P (QK P C K fin x) a w:=by
 intro c
 induction c with
 | skip=>intro _ σ A a w F K h hk;exact wp_skip ⟨σ,hk,A,F,h⟩
 | region id ops d=>
  intro hc σ A a w F K h hk
  simp only[codeOk,Bool.and_eq_true] at hc
  have br:∀ o ∈ ops.toList,iy P o.op=true:=λo ho=>List.all_eq_true.1 hc.1 o ho
  cases d with
  | false=>exact GJ hE br h hk (λa w ⟨σ',h1,A',F',Y⟩=>by
    obtain ⟨A2,eu,F2,h3,h4⟩:=JN _ Y h1
    exact ⟨eu,h3,A2,F2,h4⟩)
  | true=>
   have Y:=hc.2
   simp only[Bool.and_eq_true] at Y
   exact KU hE Y.1 br Y.2 h hk (λa w ⟨σ',h1,Y⟩=>⟨σ',h1,Y⟩) (λc a w hq=>hq)
 | seq a b eG et=>
  intro hc σ A ac w F K h hk
  simp only[codeOk,Bool.and_eq_true] at hc
  refine wp_seq (wp_mono (eG hc.1 h hk) λe a' w' hq=>?_)
  cases e with
  | normal=>obtain ⟨σ',h1,A',F',Y⟩:=hq;exact et hc.2 Y h1
  | exit j=>obtain ⟨σ',h1,Y⟩:=hq;exact ⟨σ',h1,Y⟩
  | ret=>exact hq
  | _=>exact hq.elim
 | cond c a b eG et=>
  intro hc σ A ac w F K h hk
  simp only[codeOk,Bool.and_eq_true] at hc
  simp only[kB] at hk
  rcases bE h hc.1.1 with hs | ⟨xs,e⟩
  rotate_left
  ·rw[e] at hk;cases hk
  grind [wY,wp_cond_true,wp_cond_false]
 | block id b ih=>
  intro hc σ A ac w F K h hk
  refine wp_block (wp_mono (ih hc h hk) λe a' w' hq=>?_)
  cases e with
  | normal=>exact hq
  | exit j=>
   obtain ⟨σ',h1,Y⟩:=hq
   simp only[aj] at h1
   simp only[Exit.inBlock]
   by_cases hj:j=id
   ·subst hj
    rw[if_pos (by simp)] at h1
    rw[if_pos rfl]
    exact ⟨σ',h1,Y⟩
   ·have:Nat.beq j id=false:=by
     grind [Nat.eq_of_beq_eq_true]
    rw[this,if_neg (by simp)] at h1
    rw[if_neg hj]
    exact ⟨σ',h1,Y⟩
  | ret=>exact hq
  | _=>exact hq.elim
 | loop b ih=>
  intro hc σ A ac w F K h hk
  simp only[kB] at hk
  have key:∀ (m:Nat) (σ:St) (ac:Act) (w:World),tQ P C σ ac w->uR (kB E n fin b) (dx (fB E.lv (jl b)) (D9 E.lf (jl b))) K m σ=some x->Code.rounds P b (QK P C K fin x) m ac w:=by
   intro m
   induction m with
   | zero=>intro σ ac w h hk;cases hk
   | succ m LV=>
    intro σ ac w h hk
    obtain ⟨A',F',h⟩:=h
    rw[rounds_succ]
    refine wp_mono (ih hc h hk) λe a' w' hq=>?_
    cases e with
    | normal=>
     obtain ⟨σ',h1,A2,F2,Y⟩:=hq
     exact LV _ a' w' (wg Y _ _) h1
    | exit j=>exact hq
    | ret=>exact hq
    | _=>exact hq.elim
  exact wp_loop_rounds n (key n _ ac w (wg h _ _) hk)
 | scope b ih=>
  intro hc σ A ac w F K h hk
  refine wp_scope_straight (wp_mono (ih hc h hk) λe a' w' hq=>?_)
  cases e with
  | normal=>exact hq
  | exit j=>exact hq
  | ret=>exact hq
  | _=>exact hq.elim
 | exit id=>
  intro hc σ A ac w F K h hk
  exact wp_exit ⟨_,hk,KW h _⟩
 | ret=>
  intro hc σ A ac w F K h hk
  exact wp_ret ⟨σ,hk,A,F,h⟩
 | _=>grind [kB]
end
end OT
set_option linter.unusedVariables false
set_option linter.unusedSimpArgs false
namespace OT
open Go
section
variable {P:Program} {C:Ctx} {A:Cells} {X:FP} {σ:St} {a:Act} {w:World} {F:Nat->FP} {R:Type} {x:R} {E:Env}
def sG (tmps:Array Value):ResultVar->Sem Value
 | .tmp t=>pure (tmps.getD t undef)
 | .cell a t=>do loadVar t (<- asAddr (tmps.getD a undef))
theorem By {α:Type} (f:α->Sem Value):∀ (l:List α) (vs:List Value),l.length=vs.length->(∀ (j:Nat) (y:α) (v:Value),l[j]?=some y->vs[j]?=some v->(f y).run P w=.ok v w)->(l.mapM f).run P w=.ok vs w
 | [],[],_,_=>rfl
 | y::l,v::vs,hl,h=>by
  have h0:=h 0 y v rfl rfl
  have ih:=By f l vs (by simpa using hl) (λj y v hy hv=>h (j+1) y v hy hv)
  simp_all
 | [],_::_,h,_=>by simp at h
 | _::_,[],h,_=>by simp at h
theorem CI {fn:Func} {tmps:Array Value} {vs:List Value} (hl:fn.results.toList.length=vs.length) (h:∀ (j:Nat) (y:ResultVar) (v:Value),fn.results.toList[j]?=some y->vs[j]?=some v->(sG tmps y).run P w=.ok v w) :
  (results fn tmps).run P w=.ok (if h:vs.toArray.size=1 then vs.toArray[0] else .tuple vs.toArray) w:=by
 have h1:=By (P:=P) (w:=w) (sG tmps) fn.results.toList vs hl h
 have Y:(fn.results.mapM (sG tmps)).run P w=.ok vs.toArray w:=by
  have e:fn.results=fn.results.toList.toArray:=by simp
  rw[e,List.mapM_toArray,map_eq_pure_bind,Sem.run_bind,h1,Result.andThen_ok,Sem.run_pure]
 have e:results fn tmps=(do
  let vs <- fn.results.mapM (sG tmps)
  pure (if h:vs.size=1 then vs[0] else .tuple vs)):=by
  unfold results
  congr 1
 simp_all
def wh (E:Env):List (Ty×Md)->List ResultVar->Bool
 | [],[]=>true
 | _::rs,.tmp _::xs=>wh E rs xs
 | (t,_)::rs,.cell _ ty::xs=>(match E.TI ty with
  | some T=>decide (T=t)
  | none=>false)&&wh E rs xs
 | _,_=>false
theorem NQ (hE:jz P E) (h:Rel P C A X σ a w F) {rv:ResultVar} {t:Ty} (pR:∀ b ty,rv=.cell b ty->E.TI ty=some t) {mv:Bool} {K:Md->t.den->St->Option R} (hk:ep σ (wO σ rv) mv t K=some x) :
  ∃ (tv:Value),(sG a.tmps rv).run P w=.ok tv w/\∃ (A':Cells) (σ':St) (F':Nat->FP) (m:Md) (v:t.den) (cs:List Value) (Fv:FP),K m v σ'=some x/\(∀ b i,A b i->A' b i)/\Rel P C A' (λb i=>X b i+Fv b i) σ' a w F'/\tv=aZ t cs/\af P w A' t m [] v cs Fv:=by
 cases rv with
 | tmp i=>
  rcases bE h (o:=.tmp i) rfl with hs | ⟨xs,e⟩
  rotate_left
  ·grind [wO,ep]
  obtain ⟨A',σ',F',m,v,cs,Fv,k1,k2,k3,k4,kr,k5,k6⟩:=ko h hs hk
  exact ⟨_,rfl,A',σ',F',m,v,cs,Fv,k1,k2,k3,k5,k6⟩
 | cell i ty=>
  have hT:=pR i ty rfl
  have cJ:=hE.ti _ _ hT
  simp only[wO] at hk
  split at hk
  ·rename_i t0 m0 H0 v0 hg
   have hi:i < σ.n:=by
    grind [ek]
   have hs:=h.cj i hi
   rw[hg] at hs
   obtain ⟨b,o,L,F1,s1,s2,s3,s4,s5,s6⟩:=hs
   have df:place σ a w i []=some ⟨t0,H0,L,some (b,o)⟩:=by
    grind [place,bk,bB,aD]
   have Ad:aV P A σ a w (aZ t0 L) (.ref i [] (σ.dJ i)) (λ_ _=>0):=⟨Below.refl _,λ_=>⟨_,df,rfl,.inr (h.eg i)⟩⟩
   have ht:t0=t:=by
    grind [ep,d7,aU]
   subst ht
   obtain ⟨A',σ',F',m,v,cs,Fv,k1,k2,k3,k4,kr,k5,k6⟩:=ko h Ad hk
   refine ⟨aZ t0 L,?_,A',σ',F',m,v,cs,Fv,k1,k2,k3,k5,k6⟩
   have e:a.tmps.getD i undef=.pointer (some ⟨b,o,none⟩):=s1
   grind [nP,af.one,sG,asAddr]
  grind [ep]
theorem Mk (hE:jz P E) {ts:List Ty} {mv:Nat->Bool} {fin:St->((ba ts).den->Option R)->Option R}:∀ (rs:List (Ty×Md)) (rB:List ResultVar) (j:Nat) {σ:St} {A:Cells} {X:FP} {F:Nat->FP} {K:(ba (rs.map (·.1)++ts)).den->Option R},
  wh E rs rB=true->Rel P C A X σ a w F->D_ σ ts mv fin rs rB j K=some x ->
  ∃ (A':Cells) (σ':St) (X':FP) (F':Nat->FP) (sH:List Value) (L:List wG) (Fi:Nat->FP) (pre:(ba ts).den->(ba (rs.map (·.1)++ts)).den),(∀ b i,A b i->A' b i)/\Rel P C A' X' σ' a w F'/\fin σ' (λy=>K (pre y))=some x/\(∀ y,dU rs (pre y)=(L,y)) /\
   sH.length=L.length/\sH.length=rB.length/\(∀ (k:Nat) (y:ResultVar) (v:Value),rB[k]?=some y->sH[k]?=some v->(sG a.tmps y).run P w=.ok v w)/\(∀ b i,X b i+ao L.length Fi b i<=X' b i) /\
   ∀ A2:Cells,(∀ b i,A' b i->A2 b i)->(∀ b i,1<=X' b i->X b i=0->ao L.length Fi b i=0->A2 b i)->∀ k y,L[k]?=some y->∃ v cs,sH[k]?=some v/\v=aZ y.t cs/\af P w A2 y.t y.m [] y.v cs (Fi k):=by
 intro rs
 induction rs with
 | nil=>
  intro rB j σ A X F K JU h hk
  cases rB with
  | nil=>exact ⟨A,σ,X,F,[],[],λ_ _ _=>0,id,λ_ _ h=>h,h,hk,λy=>rfl,rfl,rfl,(λk y v hy=>by cases hy),(λb i=>by simp[ao]),λA2 _ _ k y hy=>by cases hy⟩
  | cons _ _=>cases JU
 | cons p rs ih=>
  intro rB j σ A X F K JU h hk
  obtain ⟨t,m⟩:=p
  cases rB with
  | nil=>cases hk
  | cons rv rB=>
   simp only[D_] at hk
   have pR:∀ b ty,rv=.cell b ty->E.TI ty=some t:=λb ty e=>by
    grind [wh]
   have PX:wh E rs rB=true:=by
    cases rv <;> grind [wh]
   obtain ⟨tv,dB,A1,fN,F1,m1,v1,cs,Fv,k1,k2,k3,k4,k5⟩:=NQ hE h pR hk
   split at k1
   ·rename_i hm
    obtain ⟨A',σ',X',F',sH,L,Fi,pre,g1,g2,g3,g4,g5,g6,g7,g8,g9⟩:=ih rB (j+1) PX k3 k1
    have mE:∀ b i,X' b i<=1:=λb i=>by have:=g2.f5 b i;omega
    have tU:∃ G:FP,(∀ b i,G b i<=Fv b i)/\∀ A2:Cells,(∀ b i,A1 b i->A2 b i)->(∀ b i,1<=Fv b i->G b i=0->A2 b i)->af P w A2 t m [] v1 cs G:=by
     by_cases DA:m1=m
     ·subst DA
      exact ⟨Fv,λ_ _=>Nat.le_refl _,λA2 hA _=>af.mono hA (λ_ _ _ _ h=>h) (λ_ _ h=>h) t k5 (λ_ _=>Nat.le_refl _) (λ_ _ _ _ h=>h)⟩
     ·rcases hm with hm | hm
      ·grind
      ·exact af.fits t hm k5 (λb i=>by grind)
    obtain ⟨G,G1,G2⟩:=tU
    have gC:∀ b i,ao (L.length+1) (λk=>match k with | 0=>G | k+1=>Fi k) b i=G b i+ao L.length Fi b i:=λb i=>by
     rw[Nat.add_comm,kH]
     congr 1
     ·simp[ao]
     grind
    refine ⟨A',σ',X',F',tv::sH,⟨t,m,v1⟩::L,λk=>match k with | 0=>G | k+1=>Fi k,λy=>(v1,pre y),λb i ha=>g1 b i (k2 b i ha),g2,g3,λy=>by grind [dU],by simp[g5],by simp[g6],λk y v hy hv=>?_,λb i=>?_,λA2 hA qF k y hy=>?_⟩
    ·grind
    ·grind
    ·have PY:∀ b i,1<=X' b i->X b i=0->G b i+ao L.length Fi b i=0->A2 b i:=λb i h1 Y h3=>qF b i h1 Y (by grind)
     cases k with
     | zero=>
      grind
     | succ k=>
      refine g9 A2 hA (λb i h1 Y h3=>PY b i h1 (by omega) (by grind)) k y hy
   ·cases k1
theorem Bz {l:List (Nat×Nat×Bool)} {i j:Nat} {c:Bool} (h:rz l i j c=true):(i,j,c) ∈ l:=by
 induction l <;> grind [rz,Nat.beq_eq]
def ge (F:Nat->FP):List Nat->FP
 | []=>λ_ _=>0
 | i::l=>λb k=>F i b k+ge F l b k
theorem sI (F:Nat->FP) (i:Nat) (G:FP) (b k:Nat):∀ (l:List Nat),i ∉ l->ge (bL F i G) l b k=ge F l b k
 | [],_=>rfl
 | j::l,hj=>by
  simp only[List.mem_cons,not_or] at hj
  simp only[ge,sI F i G b k l hj.2]
  rw[show bL F i G j=F j by grind [bL]]
theorem DB:∀ (l:List Nat) {n:Nat} (F:Nat->FP),l.Nodup->(∀ i ∈ l,i < n)->∀ b k,ge F l b k<=ao n F b k
 | [],n,F,_,_,b,k=>Nat.zero_le _
 | i::l,n,F,hn,hl,b,k=>by
  have JH:=List.nodup_cons.1 hn
  have h1:=DB l (bL F i λ_ _=>0) JH.2 (λj hj=>hl j (List.mem_cons_of_mem _ hj)) b k
  grind [sI,jP,ge]
theorem BA {F:Nat->FP} {b k:Nat}:∀ {l:List Nat},1<=ge F l b k->∃ i ∈ l,1<=F i b k
 | [],h=>by simp[ge] at h
 | i::l,h=>by
  simp only[ge] at h
  rcases Nat.eq_zero_or_pos (F i b k) with h0 | h0
  ·obtain ⟨j,hj,hp⟩:=BA (F:=F) (b:=b) (k:=k) (l:=l) (by omega)
   grind
  grind
def wi:List (PM×Ty)->Bool
 | []=>true
 | _::ps=>wi ps
theorem KY (h:Rel P C A X σ a w F):∀ (j:Nat) (ps:List (PM×Ty)) (es:List Nat) {K:(ba (dT ps)).den->Option R},wi ps=true->es.Nodup->j+ps.length<=C.args.size->mu σ j ps es K=some x ->
  ∃ (vs:(ba (dT ps)).den) (us:List Nat) (Gi:Nat->FP),K vs=some x/\(∀ i ∈ us,i ∈ es)/\us.Nodup/\(∀ i ∈ us,i < σ.n)/\(∀ i b k,i ∈ us->Gi i b k<=F i b k) /\
   ∀ A2:Cells,(∀ b k,A b k->A2 b k)->(∀ i b k,i ∈ us->1<=F i b k->Gi i b k=0->A2 b k)->fY P w A2 ps vs (C.args.toList.drop j) (ge Gi us):=by
 intro j ps
 induction ps generalizing j with
 | nil=>intro es K _ _ _ hk;exact ⟨(),[],λ_ _ _=>0,by cases es <;> exact hk,(λi hi=>by cases hi),List.nodup_nil,(λi hi=>by cases hi),(λi b k hi=>by cases hi),λ_ _ _=>trivial⟩
 | cons p ps ih=>
  intro es K hp kS hj hk
  obtain ⟨pm,t⟩:=p
  have l6:j+1+ps.length<=C.args.size:=by grind
  have JV:(C.args.toList.drop j).tail=C.args.toList.drop (j+1):=by rw[List.tail_drop]
  have NR:(C.args.toList.drop j).head?=some (C.args.getD j undef):=by
   simp only[List.length_cons] at hj
   rw[List.head?_drop,Array.getElem?_toList,Array.getElem?_eq_getElem (by omega)]
   simp[show j < C.args.size by omega]
  have QD:∀ i,i < σ.n->∀ b k,F i b k<=1:=λi hi b k=>by have:=h.f5 b k;grind [a_]
  cases pm with
  | ro=>
   obtain ⟨vs,us,Gi,g1,g2,g3,g4,g5,g6⟩:=ih (j+1) es hp kS l6 hk
   exact ⟨vs,us,Gi,g1,g2,g3,g4,g5,λA2 hA qF=>by grind [fY]⟩
  | fix f=>
   obtain ⟨vs,us,Gi,g1,g2,g3,g4,g5,g6⟩:=ih (j+1) es hp kS l6 hk
   exact ⟨vs,us,Gi,g1,g2,g3,g4,g5,λA2 hA qF=>by grind [fY]⟩
  | iU f=>
   obtain ⟨vs,us,Gi,g1,g2,g3,g4,g5,g6⟩:=ih (j+1) es hp kS l6 hk
   exact ⟨vs,us,Gi,g1,g2,g3,g4,g5,λA2 hA qF=>by grind [fY]⟩
  | fh f=>
   obtain ⟨vs,us,Gi,g1,g2,g3,g4,g5,g6⟩:=ih (j+1) es hp kS l6 hk
   exact ⟨vs,us,Gi,g1,g2,g3,g4,g5,λA2 hA qF=>by grind [fY]⟩
  | du m0 m=>
   cases es with
   | nil=>cases hk
   | cons i es=>
    have BB:=List.nodup_cons.1 kS
    simp only[mu] at hk
    split at hk
    ·rename_i t' m' H v hg
     split at hk
     ·rename_i hc
      simp only[Bool.and_eq_true,List.isEmpty_iff,Bool.or_eq_true,decide_eq_true_eq] at hc
      obtain ⟨⟨hH,hm⟩,sn⟩:=hc
      subst hH
      obtain ⟨e,hk⟩:=aU hk
      subst e
      obtain ⟨vs,us,Gi,g1,g2,g3,g4,g5,g6⟩:=ih (j+1) es hp BB.2 l6 hk
      have hi:i < σ.n:=by
       grind [ek]
      have hs:=h.cj i hi
      rw[hg] at hs
      obtain ⟨b,o,L,F1,s1,s2,s3,s4,s5,s6⟩:=hs
      have SV:=h.fH i j (Bz sn)
      have JW:i ∉ us:=λhu=>BB.1 (g2 i hu)
      have tU:∃ G:FP,(∀ b k,G b k<=F1 b k)/\∀ A2:Cells,(∀ b i,A b i->A2 b i)->(∀ b i,1<=F1 b i->G b i=0->A2 b i)->af P w A2 t' m [] v L G:=by
       rcases hm with hm | hm
       ·subst hm
        exact ⟨F1,λ_ _=>Nat.le_refl _,λA2 hA _=>af.mono hA (λ_ _ _ _ h=>h) (λ_ _ h=>h) t' s6 (λ_ _=>Nat.le_refl _) (λ_ _ _ _ h=>h)⟩
       ·exact af.fits t' hm s6 (λb' k=>by grind)
      obtain ⟨G,G1,G2⟩:=tU
      refine ⟨(v,vs),i::us,bL Gi i λb' k=>bj b o t'.sz b' k+G b' k,g1,λi' kj=>?_,List.nodup_cons.2 ⟨JW,g3⟩,λi' kj=>?_,λi' b' k kj=>?_,λA2 hA qF=>?_⟩
      ·grind
      ·grind
      ·by_cases JX:i'=i
       ·grind [bL]
       ·simp only[bL,if_neg JX]
        grind
      ·refine ⟨λb' k=>bj b o t'.sz b' k+G b' k,ge Gi us,λb' k=>?_,⟨b,o,L,G,by grind,s2,s3,λ_ _=>Nat.le_refl _,G2 A2 hA λb' k hp hz=>?_⟩,?_⟩
       ·grind [ge,sI,bL]
       ·grind [bL]
       ·rw[JV]
        refine g6 A2 hA λi' b' k kj hp hz=>qF i' b' k (List.mem_cons_of_mem _ kj) hp ?_
        have ci:i'≠i:=λe=>by grind
        simp only[bL,if_neg ci];exact hz
     ·cases hk
    ·cases hk
  | fx m=>
   cases es with
   | nil=>cases hk
   | cons i es=>
    have BB:=List.nodup_cons.1 kS
    simp only[mu] at hk
    have main:∀ (t':Ty) (m':Md) (H:List Path) (v:t'.den),(σ.get i=.own t' m' H v\/σ.get i=.box t' m' H v)->(if H.isEmpty&&(decide (m'=m)||fits m' m)&&rz σ.aA i j true then cS t' t v λv=>mu σ (j+1) ps es λvs=>K (v,vs) else none)=some x ->
      ∃ (vs:(ba (dT ((PM.fx m,t)::ps))).den) (us:List Nat) (Gi:Nat->FP),K vs=some x/\(∀ i' ∈ us,i' ∈ i::es)/\us.Nodup/\(∀ i ∈ us,i < σ.n)/\(∀ i b k,i ∈ us->Gi i b k<=F i b k) /\
       ∀ A2:Cells,(∀ b k,A b k->A2 b k)->(∀ i b k,i ∈ us->1<=F i b k->Gi i b k=0->A2 b k)->fY P w A2 ((PM.fx m,t)::ps) vs (C.args.toList.drop j) (ge Gi us):=by
     intro t' m' H v hg hk
     split at hk
     ·rename_i hc
      simp only[Bool.and_eq_true,List.isEmpty_iff,Bool.or_eq_true,decide_eq_true_eq] at hc
      obtain ⟨⟨hH,hm⟩,sn⟩:=hc
      subst hH
      obtain ⟨e,hk⟩:=aU hk
      subst e
      obtain ⟨vs,us,Gi,g1,g2,g3,g4,g5,g6⟩:=ih (j+1) es hp BB.2 l6 hk
      have hi:i < σ.n:=by
       grind [ek]
      have hs:=h.cj i hi
      have cH:∃ (cs:List Value) (F1:FP),aZ t' cs=C.args.getD j undef/\(∀ b k,F1 b k<=F i b k)/\af P w A t' m' [] v cs F1:=by
       have hl:=h.e7 i j (Bz sn)
       rcases hg with hg | hg
       ·rw[hg] at hs hl
        obtain ⟨cs,h1,Y⟩:=hs
        have:=hl _ rfl
        grind [dz,af.length,af.one]
       ·rw[hg] at hs hl
        obtain ⟨b,o,L,F1,s1,s2,s3,s4,s5,s6⟩:=hs
        rw[s1] at hl
        have:=hl _ rfl
        grind [bB]
      obtain ⟨gQ,F1,PZ,hF,s6⟩:=cH
      have JW:i ∉ us:=λhu=>BB.1 (g2 i hu)
      have tU:∃ G:FP,(∀ b k,G b k<=F1 b k)/\∀ A2:Cells,(∀ b i,A b i->A2 b i)->(∀ b i,1<=F1 b i->G b i=0->A2 b i)->af P w A2 t' m [] v gQ G:=by
       rcases hm with hm | hm
       ·subst hm
        exact ⟨F1,λ_ _=>Nat.le_refl _,λA2 hA _=>af.mono hA (λ_ _ _ _ h=>h) (λ_ _ h=>h) t' s6 (λ_ _=>Nat.le_refl _) (λ_ _ _ _ h=>h)⟩
       ·exact af.fits t' hm s6 (λb' k=>by grind)
      obtain ⟨G,G1,G2⟩:=tU
      refine ⟨(v,vs),i::us,bL Gi i G,g1,λi' kj=>?_,List.nodup_cons.2 ⟨JW,g3⟩,λi' kj=>?_,λi' b' k kj=>?_,λA2 hA qF=>?_⟩
      ·grind
      ·grind
      ·by_cases JX:i'=i
       ·subst JX
        simp only[bL,if_true]
        grind
       ·simp only[bL,if_neg JX]
        grind
      ·refine ⟨G,ge Gi us,λb' k=>?_,⟨gQ,by rw[NR,PZ],G2 A2 hA λb' k hp hz=>?_⟩,?_⟩
       ·simp only[ge,sI Gi i _ b' k us JW]
        simp only[bL,if_true];exact Nat.le_refl _
       ·refine qF i b' k List.mem_cons_self (by grind) ?_
        simp only[bL,if_true];exact hz
       ·rw[JV]
        refine g6 A2 hA λi' b' k kj hp hz=>qF i' b' k (List.mem_cons_of_mem _ kj) hp ?_
        have ci:i'≠i:=λe=>by grind
        simp only[bL,if_neg ci];exact hz
     ·cases hk
    split at hk
    ·rename_i t' m' H v hg;exact main t' m' H v (.inl hg) hk
    ·rename_i t' m' H v hg;exact main t' m' H v (.inr hg) hk
    ·cases hk
end
end OT
set_option linter.unusedVariables false
set_option linter.unusedSimpArgs false
namespace OT
open Go
section
variable {P:Program} {w:World} {A:Cells} {R:Type} {x:R} {E:Env}
theorem lS:∀ (ps:List (PM×Ty)) (v:(ba (ps.map (·.2))).den),(cw ps v).length=ps.length
 | [],_=>rfl
 | (.ro,t)::ps,v=>by cases t <;> simp[cw,lS ps v.2]
 | (.fix f,t)::ps,v=>by cases t <;> simp[cw,lS ps v.2]
 | (.du m m',t)::ps,v=>by simp[cw,lS ps v.2]
 | (.fx m,t)::ps,v=>by simp[cw,lS ps v.2]
 | (.iU m,t)::ps,v=>by simp[cw,lS ps v.2]
 | (.fh m,t)::ps,v=>by simp[cw,lS ps v.2]
theorem wj:∀ (ps:List (PM×Ty)) {v:(ba (ps.map (·.2))).den} {xs:List Value} {G:FP},gr P w A Du ps v xs G->xs.length=ps.length
 | [],_,_,_,h=>by have h:_=[]:=h;rw[h];rfl
 | (pm,t)::ps,_,_,_,h=>by
  obtain ⟨y,ys,F1,F2,rfl,_,_,Y⟩:=h
  simp[wj ps Y]
theorem KZ:∀ (ps:List (PM×Ty)) {v:(ba (ps.map (·.2))).den} {xs:List Value} {G:FP},gr P w A Du ps v xs G->wi ps=true ->
  ∃ Fi:Nat->FP,(∀ b k,ao ps.length Fi b k<=G b k)/\∀ i s,(cw ps v)[i]?=some s->∃ y,xs[i]?=some y/\(∀ σ a,aV P A σ a w y s (Fi i))/\(∀ t m H v,s=.box t m H v->(i,i,false) ∈ kG 0 ps) /\
   ((i,i,true) ∈ kG 0 ps->∃ t m H v,s=.own t m H v):=by
 have main:∀ (ps:List (PM×Ty)) (n:Nat) {v:(ba (ps.map (·.2))).den} {xs:List Value} {G:FP},gr P w A Du ps v xs G->wi ps=true ->
   ∃ Fi:Nat->FP,(∀ b k,ao ps.length Fi b k<=G b k)/\∀ i s,(cw ps v)[i]?=some s->∃ y,xs[i]?=some y/\(∀ σ a,aV P A σ a w y s (Fi i))/\(∀ t m H v,s=.box t m H v->(n+i,n+i,false) ∈ kG n ps) /\
    ((n+i,n+i,true) ∈ kG n ps->∃ t m H v,s=.own t m H v):=by
  have aB:∀ (ps:List (PM×Ty)) (n j k:Nat) (c:Bool),(j,k,c) ∈ kG n ps->n<=j/\j=k:=by
   intro ps
   induction ps with
   | nil=>intro n j k c h;cases h
   | cons p ps ih=>
    intro n j k c h
    obtain ⟨pm,t⟩:=p
    cases pm with
    | ro=>have:=ih (n+1) j k c h;omega
    | fix f=>have:=ih (n+1) j k c h;omega
    | fh m=>have:=ih (n+1) j k c h;omega
    | du m m'=>
     rcases List.mem_cons.1 h with e | h
     all_goals grind
    | iU m=>
     rcases List.mem_cons.1 h with e | h
     all_goals grind
    | fx m=>
     rcases List.mem_cons.1 h with e | h
     all_goals grind
  intro ps
  induction ps with
  | nil=>intro n v xs G h _;exact ⟨λ_ _ _=>0,λb k=>Nat.zero_le _,λi s hs=>by cases hs⟩
  | cons p ps ih=>
   intro n v xs G h hp
   obtain ⟨pm,t⟩:=p
   obtain ⟨y,ys,F1,F2,rfl,hs,ha,hr⟩:=h
   have On:wi ps=true:=hp
   obtain ⟨Fi,g1,g2⟩:=ih (n+1) hr On
   obtain ⟨s0,Rx,Is,LI,cy⟩:∃ s0,cw ((pm,t)::ps) v=s0::cw ps v.2/\(∀ σ a,aV P A σ a w y s0 F1)/\(∀ t' m' H' v',s0=.box t' m' H' v'->∃ m,(∃ m',pm=.du m m')\/pm=.iU m)/\((∃ m,pm=.fx m)->∃ t' m H v,s0=.own t' m H v):=by
    cases pm with
    | ro=>
     obtain ⟨cs,h1,Y⟩:=ha
     cases t with
     | ptr e=>
      refine ⟨.cp e v.1,rfl,λσ a=>?_,(λ_ _ _ _ e=>by cases e),λ⟨m,e⟩=>by cases e⟩
      have hl:=Ro.length _ Y
      match cs,hl with
      | [u],_=>
       rw[bp _ _ rfl] at h1
       subst h1
       exact Y
     | _=>exact ⟨.val _ v.1,rfl,λσ a=>⟨cs,h1,Y⟩,(λ_ _ _ _ e=>by cases e),λ⟨m,e⟩=>by cases e⟩
    | fix f=>
     obtain ⟨⟨cs,h1,Y⟩,h3⟩:=ha
     cases t with
     | fn=>
      refine ⟨.val .fn (f,v.1.2),rfl,λσ a=>⟨cs,h1,?_⟩,(λ_ _ _ _ e=>by cases e),λ⟨m,e⟩=>by cases e⟩
      grind
     | _=>exact ⟨.dead,rfl,λσ a=>trivial,(λ_ _ _ _ e=>by cases e),λ⟨m,e⟩=>by cases e⟩
    | du m m'=>
     obtain ⟨b,o,L,F3,h1,Y,h3,h4,h5,h6⟩:=ha
     exact ⟨.box t m [] v.1,rfl,λσ a=>⟨b,o,L,F3,h1,Y,h3,h4,h5,h6⟩,λ_ _ _ _ _=>⟨m,.inl ⟨m',rfl⟩⟩,λ⟨m,e⟩=>by cases e⟩
    | iU m=>
     obtain ⟨b,o,L,F3,h1,Y,h3,h4,h5,h6⟩:=ha
     exact ⟨.box t m [] v.1,rfl,λσ a=>⟨b,o,L,F3,h1,Y,h3,h4,h5,h6⟩,λ_ _ _ _ _=>⟨m,.inr rfl⟩,λ⟨m,e⟩=>by cases e⟩
    | fx m=>
     obtain ⟨cs,h1,Y⟩:=ha
     exact ⟨.own t m [] v.1,rfl,λσ a=>⟨cs,h1,Y⟩,(λ_ _ _ _ e=>by cases e),λ_=>⟨_,_,_,_,rfl⟩⟩
    | fh m=>
     obtain ⟨H,cs,hH,h1,Y⟩:=ha
     obtain rfl:=List.isEmpty_iff.1 hH
     exact ⟨.own t m [] v.1,rfl,λσ a=>⟨cs,h1,Y⟩,(λ_ _ _ _ e=>by cases e),λ_=>⟨_,_,_,_,rfl⟩⟩
   refine ⟨λk=>match k with | 0=>F1 | k+1=>Fi k,λb k=>?_,λi s hi=>?_⟩
   ·have:ao (ps.length+1) (λk=>match k with | 0=>F1 | k+1=>Fi k) b k=F1 b k+ao ps.length Fi b k:=by
     rw[Nat.add_comm,kH]
     grind [ao]
    grind
   ·rw[Rx] at hi
    cases i with
    | zero=>
     injection hi with hi
     subst hi
     refine ⟨y,rfl,Is,λt' m' H' v' e=>?_,λhm=>?_⟩
     ·obtain ⟨m,⟨_,rfl⟩ | rfl⟩:=LI t' m' H' v' e
      ·exact List.mem_cons_self
      ·exact List.mem_cons_self
     ·refine cy ?_
      cases pm with
      | fx m=>exact ⟨m,rfl⟩
      | ro=>have:=aB ps (n+1) _ _ _ hm;omega
      | fix f=>have:=aB ps (n+1) _ _ _ hm;omega
      | fh m=>have:=aB ps (n+1) _ _ _ hm;omega
      | du m m'=>
       rcases List.mem_cons.1 hm with e | hm
       all_goals grind
      | iU m=>
       rcases List.mem_cons.1 hm with e | hm
       all_goals grind
    | succ i=>
     obtain ⟨y',q1,q2,q3,q4⟩:=g2 i s hi
     have P0:n+1+i=n+(i+1):=by omega
     rw[P0] at q3 q4
     refine ⟨y',q1,q2,λt' m' H' v' e=>?_,λhm=>q4 ?_⟩
     ·have:=q3 t' m' H' v' e
      cases pm with
      | ro=>exact this
      | fix f=>exact this
      | fh m=>exact this
      | du m m'=>exact List.mem_cons_of_mem _ this
      | iU m=>exact List.mem_cons_of_mem _ this
      | fx m=>exact List.mem_cons_of_mem _ this
     ·cases pm with
      | ro=>exact hm
      | fix f=>exact hm
      | fh m=>exact hm
      | du m m'=>
       rcases List.mem_cons.1 hm with e | hm
       all_goals grind
      | iU m=>
       rcases List.mem_cons.1 hm with e | hm
       all_goals grind
      | fx m=>
       rcases List.mem_cons.1 hm with e | hm
       all_goals grind
 intro ps v xs G h hp
 obtain ⟨Fi,g1,g2⟩:=main ps 0 h hp
 exact ⟨Fi,g1,λi s hi=>by grind⟩
theorem BC:∀ (ps:List (PM×Ty)) (n j k:Nat) (c:Bool),(j,k,c) ∈ kG n ps->n<=j/\j=k/\j < n+ps.length:=by
 intro ps
 induction ps with
 | nil=>intro n j k c h;cases h
 | cons p ps ih=>
  intro n j k c h
  obtain ⟨pm,t⟩:=p
  simp only[List.length_cons]
  cases pm with
  | ro=>have:=ih (n+1) j k c h;omega
  | fix f=>have:=ih (n+1) j k c h;omega
  | fh m=>have:=ih (n+1) j k c h;omega
  | du m m'=>
   rcases List.mem_cons.1 h with e | h
   all_goals grind
  | iU m=>
   rcases List.mem_cons.1 h with e | h
   all_goals grind
  | fx m=>
   rcases List.mem_cons.1 h with e | h
   all_goals grind
theorem BD:∀ (ss:List Slot) (n i:Nat),fd (pD n ss) i=if n<=i then ss[i - n]? else none
 | [],n,i=>by simp[pD,fd]
 | s::ss,n,i=>by
  simp only[pD,fd,BD ss (n+1) i]
  by_cases hi:n=i
  ·simp_all
  grind [Nat.eq_of_beq_eq_true]
theorem It {g:kF} {v:(ba (g.ps.map (·.2))).den} {xs:List Value} {F0:FP} {n:Nat} (h:gr P w A Du g.ps v xs F0) (hp:wi g.ps=true) (hn:g.ps.length<=n) (h1:∀ b i,F0 b i<=1) (Y:∀ b i,1<=F0 b i->¬ A b i) (h3:∀ b i,1<=F0 b i\/A b i->b < w.heap.size) (EH:oW P w F0) :
  ∃ F,bn P { w0:=w,A0:=A,F0:=F0,args:=xs.toArray } A (rA g.ps v n) { tmps:=xs.toArray++Array.replicate (n - xs.toArray.size) undef,defers:=[] } w F:=by
 obtain ⟨Fi,g1,g2⟩:=KZ g.ps h hp
 have hlen:=wj g.ps h
 have Be:=lS g.ps v
 have nB:∀ i,(rA g.ps v n).get i=if i < n then (match (cw g.ps v)[i]? with | some s=>s | none=>.dead) else .dead:=λi=>by
  grind [St.get,rA,BD,Nat.blt_eq]
 have P1:∀ i (y:Value),xs[i]?=some y->tmp { tmps:=xs.toArray++Array.replicate (n - xs.toArray.size) undef,defers:=[] } i=y:=λi y hy=>by
  have hi:=(List.getElem?_eq_some_iff.1 hy).1
  simp_all [tmp,Array.getElem?_append_left]
 have gC:∀ b k,ao n (λi=>if i < g.ps.length then Fi i else λ_ _=>0) b k<=F0 b k:=λb k=>by
  have e:n=g.ps.length+(n - g.ps.length):=by omega
  rw[e,kH]
  have e1:=congrFun (congrFun (mw (n:=g.ps.length) (f:=λi=>if i < g.ps.length then Fi i else λ_ _=>0) (g:=Fi) (λj hj=>by grind)) b) k
  grind [eF]
 refine ⟨λi=>if i < g.ps.length then Fi i else λ_ _=>0,?_,rfl,λi hi=>?_,(λd r p snap hm=>by cases hm),λb k=>?_,λb k hp=>?_,λb k hp=>?_,λi=>rfl,Ext.refl _ _,λb k hp=>?_,λ_ _ h=>h,λ_ _ h=>.inl h,λj k hm=>?_,λr t m H v' hg hl=>?_,λj k hm R hR=>?_,EH⟩
 ·grind [rA]
 ·rw[nB]
  have hi:i < n:=hi
  rw[if_pos hi]
  cases hs:(cw g.ps v)[i]? with
  | none=>trivial
  | some s=>
   grind
 ·have:=gC b k;have:=h1 b k;show 0+ao n _ b k<=1;omega
 ·have hp:1<=0+ao n (λi=>if i < g.ps.length then Fi i else λ_ _=>0) b k:=hp
  grind
 ·refine h3 b k (hp.imp (λhp=>?_) id)
  have hp:1<=0+ao n (λi=>if i < g.ps.length then Fi i else λ_ _=>0) b k:=hp
  grind
 ·have hp:1<=0+ao n (λi=>if i < g.ps.length then Fi i else λ_ _=>0) b k:=hp
  grind
 ·obtain ⟨_,rfl,hj⟩:=BC g.ps 0 j k false hm
  simp_all
 ·exfalso
  rw[nB] at hg
  split at hg
  ·cases hs:(cw g.ps v)[r]? with
   | none=>grind
   | some s=>
    rw[hs] at hg
    obtain ⟨y,_,_,q3,_⟩:=g2 r s hs
    exact hl r (q3 t m H v' hg)
  ·cases hg
 ·obtain ⟨_,rfl,hj⟩:=BC g.ps 0 j k true hm
  have l6:j < (cw g.ps v).length:=by omega
  have hs:=List.getElem?_eq_getElem l6
  obtain ⟨y,q1,q2,_,q4⟩:=g2 j _ hs
  obtain ⟨t,m,H,v',e⟩:=q4 hm
  have JY:j < n:=by omega
  rw[nB,if_pos JY,hs] at hR
  simp only[e,bk,Option.some.injEq] at hR
  subst hR
  rw[P1 j y q1]
  have Y:=q2 (rA g.ps v n) { tmps:=#[],defers:=[] }
  rw[e] at Y
  obtain ⟨cs,c1,c2⟩:=Y
  have:=dz (af.length _ c2) (af.one _ c2)
  simp_all
noncomputable def Aj (P:Program) (E:Env) (fn:Func) (ps:List (PM×Ty)) (rs:List (Ty×Md)) (es:List Nat):Bool:=
 codeOk P E (tD fn)&&wh E rs fn.results.toList&&wi ps&&Nat.ble ps.length fn.ntmps&&decide es.Nodup
theorem z7 (hE:jz P E) {f:FuncId} {fn:Func} (hf:P.funcs[f]?=some fn) (hb:fn.body.isSome=true) {g:kF} (hh:∀ v H,g.vj v H=true->H=[]) {es fr:List Nat} (ap:Aj P E fn g.ps g.rs es=true) (hF:∀ v out,g.F v=some out->∃ k,Ac E k fn g.ps g.rs es fr v=some out):Sound P f g:=by
 intro w A F0 v xs eO h1 Y h3 EH out iQ
 replace eO:=eO.none (hh v)
 obtain ⟨k,hk⟩:=hF v out iQ
 simp only[Aj,Bool.and_eq_true,Nat.ble_eq,decide_eq_true_eq] at ap
 obtain ⟨⟨⟨⟨JZ,JU⟩,mJ⟩,Jz⟩,kS⟩:=ap
 obtain ⟨c,hc⟩:=Option.isSome_iff_exists.1 hb
 have OV:tD fn=c:=by simp[tD,hc]
 rw[OV] at JZ
 obtain ⟨F,Is⟩:=It eO mJ Jz h1 Y h3 EH
 unfold Ac at hk
 rw[OV] at hk
 have OW:=wj g.ps eO
 have Ml:∀ (a':Act) (w':World) (σ':St),AG g.ps g.rs es fn.results.toList (Jn fr) σ'=some out->tQ P { w0:=w,A0:=A,F0:=F0,args:=xs.toArray } σ' a' w' ->
   a'.defers=[]/\∃ rv,(results fn a'.tmps).run P w'=.ok rv w'/\(∃ GW,Ending.returned rv=.returned GW/\Ext w w' F0/\∃ (A':Cells) (G GR GM:FP),(∀ b i,A b i->A' b i)/\(∀ b i,A' b i->A b i\/1<=F0 b i\/w.heap.size<=b) /\
    (∀ b i,1<=G b i->1<=F0 b i\/w.heap.size<=b)/\(∀ b i,G b i<=1)/\(∀ b i,1<=G b i->¬ A' b i)/\(∀ b i,1<=G b i\/A' b i->b < w'.heap.size)/\(∀ b i,GR b i+GM b i<=G b i) /\
    fj P w' A' (dU g.rs out).1 GW GR/\fY P w' A' g.ps (dU g.rs out).2 xs GM):=by
  intro a' w' σ' ho hr
  obtain ⟨A1,F1,hr⟩:=hr
  unfold AG at ho
  obtain ⟨A2,eu,X2,F2,sH,L,Fi,pre,r1,r2,r3,r4,r5,r6,r7,r8,r9⟩:=Mk hE g.rs fn.results.toList 0 JU hr ho
  obtain ⟨vs,us,Gi,m1,m2,m3,m4,m5,m6⟩:=KY r2 0 g.ps es mJ kS (by simp[OW]) r3
  have P2:pre vs=out:=Option.some.inj m1
  have iY:dU g.rs out=(L,vs):=by rw[<-P2,r4]
  have TF:∀ b i,ao L.length Fi b i<=X2 b i:=λb i=>by grind
  have P3:∀ b i,ge Gi us b i<=ge F2 us b i:=λb i=>by
   have:∀ l:List Nat,(∀ j ∈ l,j ∈ us)->ge Gi l b i<=ge F2 l b i:=by
    intro l
    induction l <;> grind [ge]
   grind
  have TG:∀ b i,ge Gi us b i<=ao eu.n F2 b i:=λb i=>Nat.le_trans (P3 b i) (DB us F2 m3 m4 b i)
  refine ⟨r2.defers,_,CI (by rw[r6]) r7,_,rfl,r2.ext,?_⟩
  obtain ⟨A3,iu⟩:∃ A3:Cells,∀ b i,A3 b i↔(A2 b i\/(1<=X2 b i+ao eu.n F2 b i/\ao L.length Fi b i+ge Gi us b i=0)):=⟨λb i=>A2 b i\/(1<=X2 b i+ao eu.n F2 b i/\ao L.length Fi b i+ge Gi us b i=0),λ_ _=>Iff.rfl⟩
  have Mm:∀ b i,A2 b i->A3 b i:=λb i h=>(iu b i).2 (.inl h)
  have mE:∀ b i,X2 b i+ao eu.n F2 b i<=1:=λb i=>r2.f5 b i
  refine ⟨A3,λb i=>ao L.length Fi b i+ge Gi us b i,ao L.length Fi,ge Gi us,λb i ha=>Mm b i (r2.a0 b i ha),λb i ha=>?_,λb i hp=>?_,λb i=>?_,λb i hp ha=>?_,λb i hp=>?_,λ_ _=>Nat.le_refl _,?_,?_⟩
  ·rcases (iu b i).1 ha with ha | ⟨hp,_⟩
   ·exact r2.J b i ha
   ·exact .inr (r2.own b i hp)
  ·have hp:1<=ao L.length Fi b i+ge Gi us b i:=hp
   exact r2.own b i (by grind)
  ·grind
  ·have hp:1<=ao L.length Fi b i+ge Gi us b i:=hp
   rcases (iu b i).1 ha with ha | ⟨_,hz⟩
   ·exact r2.gD b i (by grind) ha
   ·omega
  ·rcases hp with hp | ha
   ·have hp:1<=ao L.length Fi b i+ge Gi us b i:=hp
    exact r2.dA b i (.inl (by grind))
   ·rcases (iu b i).1 ha with ha | ⟨hp,_⟩
    ·exact r2.dA b i (.inr ha)
    ·exact r2.dA b i (.inl hp)
  ·rw[iY]
   have EI:=r9 A3 Mm (λb i hx _ hz=>(iu b i).2 (.inr ⟨by omega,by
    grind⟩))
   show fj P w' A3 L _ _
   match L,r5,EI with
   | [],_,_=>trivial
   | [y],hl,EI=>
    match sH,hl with
    | [u],_=>
     obtain ⟨u',cs,e1,e2,e3⟩:=EI 0 y rfl
     injection e1 with e1
     subst e1
     refine ⟨cs,by simpa using e2,e3.le λb i=>by simp[ao]⟩
   | y::z::L,hl,EI=>
    refine ⟨sH.toArray,Fi,?_,λ_ _=>Nat.le_refl _,λj q hq=>?_⟩
    all_goals grind
  grind [a_,BA,jQ]
 refine calls_of_wp hf hc (wp_mono (KX hE c JZ Is hk) λe a' w' hq=>?_)
 cases e with
 | normal=>obtain ⟨σ',h4,h5⟩:=hq;exact Ml a' w' σ' h4 h5
 | ret=>obtain ⟨σ',h4,h5⟩:=hq;exact Ml a' w' σ' h4 h5
 | exit j=>obtain ⟨σ',h4,h5⟩:=hq;cases h4
 | _=>exact hq.elim
end
end OT
set_option linter.unusedVariables false
set_option linter.unusedSimpArgs false
namespace OT
open Go
def BE (w:World):Cells:=λb _=>b < w.heap.size
def ri:Ty->Bool
 | .int _ | .bool | .str | .unit=>true
 | .pair a b=>ri a&&ri b
 | .aa e=>ri e
 | _=>false
def zy:(T:Ty)->T.den->Prop
 | .int k,n=>k.min<=fZ k n/\fZ k n<=k.max
 | .str,s=>List.length s<=maxLen
 | .pair a b,v=>zy a v.1/\zy b v.2
 | .aa e,v=>List.length v<=maxLen/\∀ x ∈ (v:List e.den),zy e x
 | _,_=>True
def GX:(ps:List (PM×Ty))->(ba (ps.map (·.2))).den->Prop
 | [],_=>True
 | (_,T)::ps,v=>zy T v.1/\GX ps v.2
section
variable {P:Program} {w:World} {H:Type} {enc:TypeId×Value->H}
theorem wk {T:Ty} {i:TypeId} (h:aq P T (.inl i)=true):P.cellsOf i=T.sz:=by
 obtain ⟨inf,h1,Y,_⟩:=dM (eh h)
 grind [Program.cellsOf]
theorem Iu {a:Addr} {k:Nat} {u:Value} (h:w.cell? (a.add k)=some u) (hk:k=0\/a.spot=none):a.spot=none:=by
 rcases hk with rfl | hk
 ·unfold Addr.add at h
  rw[if_pos rfl] at h
  unfold World.cell? at h
  split at h
  all_goals simp_all
 ·exact hk
theorem K1:∀ (T:Ty),ri T=true ->
  (∀ i,aq P T (.inl i)=true->∀ fuel cs x,DataW.trod enc P w 0 (λ_=>true) true fuel i cs=some x->∃ v:T.den,zy T v/\Ro P w (BE w) T v cs) /\
  (∀ fs off,aq P T (.inr (fs,off))=true->∀ n (cs:List Value),cs.length=off+T.sz->(∀ f ∈ fs,∃ x,DataW.trod enc P w 0 (λ_=>true) true n f.type ((cs.drop f.offset).take (P.cellsOf f.type))=some x)->∃ v:T.den,zy T v/\Ro P w (BE w) T v (cs.drop off)):=by
 intro T
 induction T with
 | int k=>
  intro _
  refine ⟨λi hl fuel cs x h=>?_,λfs off hl=>by simp[aq] at hl⟩
  obtain ⟨n,rfl,_,J0⟩:=DataW.trod_int (gP hl) h
  simp only[Lit.wf,Bool.and_eq_true,decide_eq_true_eq] at J0
  cases k with
  | u8=>
   have h1:fZ .u8 (UInt8.ofInt n)=n:=by
    have:=yz .u8 n (λ_=>by
     have h1:(0:Int)<=n:=J0.1
     have Y:n<=(255:Int):=J0.2
     omega)
    exact this
   refine ⟨(UInt8.ofInt n:UInt8),?_,?_⟩
   ·show IntKind.u8.min<=fZ .u8 (UInt8.ofInt n)/\fZ .u8 (UInt8.ofInt n)<=IntKind.u8.max
    grind
   ·show [Value.int .u8 n]=[Value.int .u8 (fZ .u8 (UInt8.ofInt n))]
    rw[h1]
  | _=>exact ⟨n,J0,rfl⟩
 | bool=>
  intro _
  refine ⟨λi hl fuel cs x h=>?_,λfs off hl=>by simp[aq] at hl⟩
  have hu:P.underlying i=some .bool:=by
   grind [aq]
  obtain ⟨b,rfl,_⟩:=DataW.trod_bool hu h
  exact ⟨b,trivial,rfl⟩
 | str=>
  intro _
  refine ⟨λi hl fuel cs x h=>?_,λfs off hl=>by simp[aq] at hl⟩
  obtain ⟨s,rfl,_,mR⟩:=DataW.trod_string (eN hl) h
  exact ⟨s.data.toList,(by show s.data.toList.length<=maxLen;simp_all),by simp only[Ro]⟩
 | unit=>
  intro _
  refine ⟨λi hl fuel cs x h=>?_,λfs off hl n cs hlen _=>⟨(),trivial,?_⟩⟩
  ·simp only[aq,Bool.and_eq_true] at hl
   have Y:=hl.2
   split at Y
   ·rename_i fs hu
    obtain ⟨xs,n,_,_,hlen,_⟩:=DataW.trod_struct hu h
    have fi:P.cellsOf i=0:=by
     grind [dM,Program.cellsOf,Ty.sz]
    rw[fi] at hlen
    exact ⟨(),trivial,by grind [Ro]⟩
   ·cases Y
  grind [Ro,List.drop_of_length_le,Ty.sz]
 | pair a b eG et=>
  intro ha
  simp only[ri,Bool.and_eq_true] at ha
  have Mn:∀ fs off,aq P (.pair a b) (.inr (fs,off))=true->∀ n (cs:List Value),cs.length=off+(Ty.pair a b).sz->(∀ f ∈ fs,∃ x,DataW.trod enc P w 0 (λ_=>true) true n f.type ((cs.drop f.offset).take (P.cellsOf f.type))=some x)->∃ v:(Ty.pair a b).den,zy (.pair a b) v/\Ro P w (BE w) (.pair a b) v (cs.drop off):=by
   intro fs off hl n cs hlen hf
   cases fs with
   | nil=>simp[aq] at hl
   | cons f r=>
    simp only[aq,Bool.and_eq_true,Nat.beq_eq,Nat.ble_eq] at hl
    obtain ⟨⟨⟨ho,_⟩,h1⟩,Y⟩:=hl
    simp only[Ty.sz] at hlen
    obtain ⟨x,hx⟩:=hf f List.mem_cons_self
    rw[ho,wk h1] at hx
    obtain ⟨v1,o1,r1⟩:=(eG ha.1).1 _ h1 _ _ _ hx
    obtain ⟨v2,o2,r2⟩:=(et ha.2).2 r (off+a.sz) Y n cs (by omega) (λf' J1=>hf f' (List.mem_cons_of_mem _ J1))
    exact ⟨(v1,v2),⟨o1,o2⟩,r1,by simp_all⟩
  refine ⟨λi hl fuel cs x h=>?_,Mn⟩
  have OC:=hl
  simp only[aq,Bool.and_eq_true] at hl
  have Y:=hl.2
  split at Y
  ·rename_i fs hu
   split at Y
   ·rename_i f r w9
    have h3:aq P (.pair a b) (.inr (f::r,0))=true:=by
     grind [aq]
    obtain ⟨xs,n,_,_,hlen,OW,K3⟩:=DataW.trod_struct hu h
    rw[wk OC] at hlen
    have:=Mn (f::r) 0 h3 n cs (by omega) (λf' J1=>by
     rw[<-w9] at J1
     obtain ⟨j,hj,e⟩:=List.mem_iff_getElem.1 J1
     have l6:j < fs.size:=by simpa using hj
     have:=K3 j f' (by grind)
     grind)
    simpa using this
   ·cases Y
  ·cases Y
 | aa e ih=>
  intro ha
  simp only[ri] at ha
  refine ⟨λi hl fuel cs x h=>?_,λfs off hl=>by simp[aq] at hl⟩
  obtain ⟨el,hu,fi,hle⟩:=kx hl
  rcases DataW.trod_slice hu h with ⟨rfl,_⟩ | ⟨a,len,cap,elems,rest,n,_,rfl,_,_,Ox,OX,jG,Iv,fI,_⟩
  ·exact ⟨[],⟨Nat.zero_le _,λx hx=>by cases hx⟩,none,0,rfl,Nat.le_refl _,λ_=>rfl,λad e=>by cases e⟩
  ·rw[wk hle] at Iv fI
   have mL:∀ k y,(w.cells? 0 (a.add (k*e.sz)) e.sz).bind (DataW.trod enc P w 0 (λ_=>true) true n el)=some y->∃ aJ,w.cells? 0 (a.add (k*e.sz)) e.sz=some aJ/\DataW.trod enc P w 0 (λ_=>true) true n el aJ=some y:=λk y hk=>by
    cases hc:w.cells? 0 (a.add (k*e.sz)) e.sz <;> grind
   have J2:0 < cap->a.spot=none:=λv9=>by
    have Bd:∃ aJ,w.cells? 0 (a.add (0*e.sz)) e.sz=some aJ:=by
     by_cases hlen:0 < len
     ·have h0:=Iv 0 hlen
      rw[List.getElem?_eq_getElem (by omega)] at h0
      obtain ⟨aJ,h1,_⟩:=mL 0 _ h0
      grind
     ·obtain rfl:len=0:=by omega
      obtain ⟨oR,og⟩:=fI rfl
      have h0:=og 0 (by omega)
      rw[List.getElem?_eq_getElem (by omega)] at h0
      obtain ⟨aJ,h1,_⟩:=mL (0+0) _ h0
      grind
    obtain ⟨aJ,h1⟩:=Bd
    obtain ⟨_,nu,Y⟩:=World.cells?_some h1
    grind [Addr.add,Iu]
   have each:∀ k:Fin len,∃ v:e.den,zy e v/\∃ L:List Value,L.length=e.sz/\(∀ j u,L[j]?=some u->ce w a.block (a.off+k.val*e.sz+j)=some u/\BE w a.block (a.off+k.val*e.sz+j))/\Ro P w (BE w) e v L:=λk=>by
    have h0:=Iv k.val k.isLt
    rw[List.getElem?_eq_getElem (by grind)] at h0
    obtain ⟨aJ,h1,Y⟩:=mL k.val _ h0
    obtain ⟨v,ho,hv⟩:=(ih ha).1 _ hle _ _ _ Y
    obtain ⟨_,nu,h3⟩:=World.cells?_some h1
    refine ⟨v,ho,aJ,nu,λj u hu=>?_,hv⟩
    have hj:=(List.getElem?_eq_some_iff.1 hu).1
    have h4:=h3 j (by omega)
    rw[hu] at h4
    have iY:=J2 (by grind)
    obtain ⟨b,off,sp⟩:=a
    simp only at iY
    subst iY
    rw[gV,gV] at h4
    have h5:ce w b (off+k.val*e.sz+j)=some u:=yn h4 (Ro.one e hv u (List.mem_of_getElem? hu))
    exact ⟨h5,lK h5⟩
   obtain ⟨f,hf⟩:=Classical.axiomOfChoice each
   refine ⟨List.ofFn f,⟨by simp;omega,λx hx=>?_⟩,some a,cap,by simp,by simpa using Ox,(λe=>by cases e),λad e=>?_⟩
   ·grind
   injection e with e
   subst e
   refine ⟨J2,λk y hk=>?_⟩
   rw[List.getElem?_ofFn] at hk
   split at hk
   ·rename_i aB
    injection hk with hk
    subst hk
    exact (hf ⟨k,aB⟩).2
   ·cases hk
 | _=>grind [ri]
theorem arg_val {T:Ty} (ha:ri T=true) {i:TypeId} (hl:aq P T (.inl i)=true) {r:Reach} {b0:Nat} {v:Value} (h:Value.okWide P w r b0 i v):v=aZ T v.cells.toList:=by
 cases T with
 | int k=>
  have hu:=gP hl
  cases v <;> simp[Value.okWide,Cell.okWide,Cell.ok,hu] at h <;> simp[aZ,isAgg,Value.cells]
 | bool=>
  have hu:P.underlying i=some .bool:=by
   grind [aq]
  cases v <;> simp[Value.okWide,Cell.okWide,Cell.ok,hu] at h <;> simp[aZ,isAgg,Value.cells]
 | str=>
  have hu:=eN hl
  cases v <;> simp[Value.okWide,Cell.okWide,Cell.ok,hu] at h <;> simp[aZ,isAgg,Value.cells]
 | aa e=>
  obtain ⟨el,hu,_⟩:=kx hl
  cases v <;> simp[Value.okWide,Cell.okWide,Cell.ok,hu] at h <;> simp[aZ,isAgg,Value.cells]
 | unit=>
  simp only[aq,Bool.and_eq_true] at hl
  have Y:=hl.2
  split at Y
  ·rename_i fs hu
   simp only[Value.okWide,hu] at h
   obtain ⟨cs,rfl,_⟩:=h
   simp[aZ,isAgg,Value.cells]
  ·cases Y
 | pair a b=>
  simp only[aq,Bool.and_eq_true] at hl
  have Y:=hl.2
  split at Y
  ·rename_i fs hu
   simp only[Value.okWide,hu] at h
   obtain ⟨cs,rfl,_⟩:=h
   simp[aZ,isAgg,Value.cells]
  ·cases Y
 | _=>simp[ri] at ha
def qG (P:Program):List (PM×Ty)->List TypeId->Bool
 | [],[]=>true
 | (.ro,T)::ps,t::ts=>ri T&&aq P T (.inl t)&&P.readableRec t&&Nat.blt t P.types.size&&qG P ps ts
 | _,_=>false
theorem DC:∀ (ps:List (PM×Ty)) (ts:List TypeId) (args:List Value) (ds:List (DataW H)) (p:List MemPlace) {b0:Nat},qG P ps ts=true->DataW.TrodAll enc P w 0 (λ_=>true) true ts args ds p ->
  (∀ (j:Nat) t v,ts[j]?=some t->args[j]?=some v->Value.okWide P w .any b0 t v)->∃ v,GX ps v/\gr P w (BE w) Du ps v args (λ_ _=>0)
 | [],[],args,ds,p,b0,_,h,_=>by
  cases args with
  | nil=>exact ⟨(),trivial,rfl⟩
  | cons _ _=>simp[DataW.TrodAll] at h
 | (.ro,T)::ps,t::ts,args,ds,p,b0,hl,h,ap=>by
  simp only[qG,Bool.and_eq_true] at hl
  cases args with
  | nil=>simp[DataW.TrodAll] at h
  | cons v args=>
   cases ds with
   | nil=>simp[DataW.TrodAll] at h
   | cons d ds=>
    obtain ⟨p1,q1,⟨fuel,h1⟩,Y,_⟩:=h
    obtain ⟨x,Ry,hx⟩:=(K1 T hl.1.1.1.1).1 t hl.1.1.1.2 _ _ _ h1
    obtain ⟨xs,P4,Rz⟩:=DC ps ts args ds q1 (b0:=b0) hl.2 Y (λj t' v' ht hv=>ap (j+1) t' v' ht hv)
    exact ⟨(x,xs),⟨Ry,P4⟩,v,args,λ_ _=>0,λ_ _=>0,rfl,λ_ _=>Nat.le_refl _,⟨_,arg_val hl.1.1.1.1 hl.1.1.1.2 (ap 0 t v rfl rfl),hx⟩,Rz⟩
theorem zA (AU:laidOutB P=true) {W W':World} (hb:RowKit.Below W.heap.size W W') {sp:Nat->Bool}:∀ (ps:List (PM×Ty)) (ts:List TypeId) (args:List Value) (ds:List (DataW H)) (p:List MemPlace),qG P ps ts=true->DataW.TrodAll enc P W 0 (λ_=>true) true ts args ds p ->
  (∀ x ∈ p,x.block < W.heap.size)->(∀ x ∈ p,sp x.block=true)->DataW.TrodAll enc P W' 0 sp true ts args ds p
 | [],[],args,ds,p,_,h,_,_=>by
  grind [DataW.TrodAll]
 | (.ro,T)::ps,t::ts,args,ds,p,hl,h,aB,iY=>by
  simp only[qG,Bool.and_eq_true] at hl
  cases args with
  | nil=>simp[DataW.TrodAll] at h
  | cons v args=>
   cases ds with
   | nil=>simp[DataW.TrodAll] at h
   | cons d ds=>
    obtain ⟨p1,q1,h1,Y,rfl⟩:=h
    have ht:t < P.types.size:=by simp_all
    exact ⟨p1,q1,WideElems.Trod_stays AU hl.1.1.2 ht h1 (λx hx=>hb.same (aB x (List.mem_append_left _ hx))) (λx hx=>iY x (List.mem_append_left _ hx)),
     zA AU hb ps ts args ds q1 hl.2 Y (λx hx=>aB x (List.mem_append_right _ hx)) (λx hx=>iY x (List.mem_append_right _ hx)),rfl⟩
theorem GY {f:FuncId} {cap:Bool} {ps:List (PM×Ty)} {Fn:(ba (ps.map (·.2))).den->Option (ba ([((Ty.bool,ag .bool):Ty×Md)].map (·.1)++dT ps)).den} (hs:Sound P f { cap:=cap,ps:=ps,rs:=[(.bool,ag .bool)],F:=Fn }) (EJ:∀ v,GX ps v->∃ u,Fn v=some (true,u))
  {ts:List TypeId} (hl:qG P ps ts=true) {args:List Value} {ds:List (DataW H)} {p:List MemPlace} (hA:DataW.TrodAll enc P w 0 (λ_=>true) true ts args ds p) {b0:Nat} (ap:∀ (j:Nat) t v,ts[j]?=some t->args[j]?=some v->Value.okWide P w .any b0 t v) (ht:oW P w λ_ _=>0) :
  Calls P f args.toArray w λe W'=>e=.returned (.bool true)/\RowKit.Below w.heap.size w W':=by
 obtain ⟨v,RA,hv⟩:=DC ps ts args ds p hl hA ap
 obtain ⟨u,hu⟩:=EJ v RA
 refine (hs w (BE w) (λ_ _=>0) v args hv (λ_ _=>Nat.zero_le _) (λb i h=>by omega) (λb i h=>?_) ht _ hu).mono λe W' h=>?_
 ·rcases h with h | h
  ·omega
  ·exact h
 ·obtain ⟨rv,rfl,bI,A',G,GR,GM,_,_,_,_,_,_,_,lC,_⟩:=h
  obtain ⟨cs,h1,Y⟩:=lC
  simp only[dU] at h1 Y
  have Y:cs=[.bool true]:=Y
  subst Y
  exact ⟨by rw[h1];rfl,bI.os,bI.tape,bI.output,bI.size,λb hb=>bI.obj b hb λ_=>rfl⟩
theorem Iw {C:Checked} {f:Func} {s:ChangeSpec} {W W':World} {args:Array Value} {ds:List (DataW H)} {p:List MemPlace} {apart fresh handsOn:Bool} (AU:laidOutB P=true) {ps:List (PM×Ty)} {ts:List TypeId} (TH:f.params.toList=ts) (hl:qG P ps ts=true) {tb:TypeId} (hr:f.resultTypes=#[tb]) (hu:P.underlying tb=some .bool)
  (NS:s.vars=[]) (hW:DataW.Whole enc P f.params.toList s.vars apart W args.toList ds [] p) (hA:DataW.TrodAll enc P W 0 (λ_=>true) true ts args.toList ds p) (OY:s.fn H (ds++[])={ results:=[.lit (.bool true)],args:=ds }) (hb:RowKit.Below W.heap.size W W') :
  s.post enc P f apart fresh handsOn false W args (.bool true) W':=by
 have aB:∀ x ∈ p,x.block < W.heap.size:=λx hx=>by simpa using hW.lt x hx
 refine ⟨ds,[],p,[],p,[],hW,?_,?_,?_,World.keptBut_mono (λx hx=>⟨hx,.inr (.inl hx)⟩) (hb.frame (· ∈ p)),λe=>by cases e⟩
 ·rw[OY,hr]
  exact ⟨[],[],RowKit.shut_bool hu true,rfl,rfl⟩
 ·grind [zA]
 ·rw[OY,NS]
  rfl
end
end OT
namespace OT
open Go
def EK (P:Program) (l:List (Nat×Ty)):Bool:=l.all λp=>aq P p.2 (.inl p.1)
def Ak (P:Program) (l:List (Nat×Ty)):Bool:=l.all λp=>!(p.2.fv&&isAgg p.2)||(iL P p.2 (.inl p.1)&&(P.eqGuardType P.depth p.1 == false)&&Nat.ble (dep p.2) 10000)
theorem wl {α:Type}:∀ {l:List (Nat×α)} {i:Nat} {x:α},fd l i=some x->(i,x) ∈ l
 | (k,y)::l,i,x,h=>by
  simp only[fd] at h
  split at h
  ·simp_all
  ·exact List.mem_cons_of_mem _ (wl h)
def ub (P:Program) (l:List (Nat×kF)):Prop:=∀ f g,fd l f=some g->Sound P f g/\l8 P f g.cap
theorem an (P:Program):ub P []:=λf g h=>by cases h
theorem K4 {P:Program} {f:Nat} {g:kF} {l:List (Nat×kF)} (h1:Sound P f g) (Y:l8 P f g.cap) (h3:ub P l):ub P ((f,g)::l):=λf' g' h=>by
 simp only[fd] at h
 split at h
 ·simp_all
 ·exact h3 f' g' h
theorem Mo {P:Program} {E:Env} {tl:List (Nat×Ty)} {gl:List (Nat×kF)} (h1:E.TI=fd tl) (Y:E.G=fd gl) (h3:EK P tl=true) (h4:Ak P tl=true) (h5:ub P gl):jz P E where
 ti i T h:=by rw[h1] at h;exact List.all_eq_true.1 h3 _ (wl h)
 eq i T h hq ha:=by
  rw[h1] at h
  have:=List.all_eq_true.1 h4 _ (wl h)
  simp_all
 fn f g h:=by rw[Y] at h;exact h5 f g h
def Ok (P:Program) (f:FuncId) (g:kF):Prop:=Sound P f g/\l8 P f g.cap
theorem fc {P:Program} {f:Nat} {g:kF} {l:List (Nat×kF)} (h:Ok P f g) (h3:ub P l):ub P ((f,g)::l):=K4 h.1 h.2 h3
def BF (fn:Func) (cap:Bool):Bool:=!(fn.name == "runtime.NumGoroutine")&&!fn.body.isNone&&Nat.beq fn.nfree (match cap with | true=>1 | false=>0)
noncomputable def okB (P:Program) (E:Env) (fn:Func) (ps:PQ) (rs:RQ) (es:List Nat) (cap:Bool) (tl:TL):Bool:=(EK P tl&&Ak P tl)&&(BF fn cap&&Aj P E fn ps rs es)
theorem NT {P:Program} {E:Env} {f:FuncId} {fn:Func} (hf:P.funcs[f]?=some fn) {g:kF} (hh:∀ v H,g.vj v H=true->H=[]) {es fr:List Nat} {tl:TL} {gl:GL} (h1:E.TI=fd tl) (Y:E.G=fd gl) (ap:okB P E fn g.ps g.rs es g.cap tl=true) (hg:ub P gl) (hF:∀ v,g.F v=lift λk=>Ac E k fn g.ps g.rs es fr v):Ok P f g:=by
 simp only[okB,BF,Bool.and_eq_true,Bool.not_eq_true',Nat.beq_eq] at ap
 obtain ⟨⟨J,a2⟩,⟨⟨b1,b2⟩,b3⟩,c⟩:=ap
 have hb:fn.body.isSome=true:=by
  simp_all
 exact ⟨z7 (Mo h1 Y J a2 hg) hf hb hh c λv out h=>FL (by rw[<-hF];exact h),fn,hf,b1,b2,b3⟩
structure FD where
 fn:Func
 tl:TL
 ps:PQ
 rs:RQ
 gl:GL:=[]
 es:List Nat:=[]
 fr:List Nat:=[]
 cap:Bool:=false
 fz:List (Nat×Nat×Nat):=[]
 lv:List (Nat×List Nat):=[]
 lx:List (Nat×List Nat):=[]
 lf:List (Nat×List (Nat×Md)):=[]
 od:List (Nat×List Nat):=[]
 ar:List (Nat×List Nat):=[]
 bx:List (Nat×List Nat):=[]
 pd:List (Nat×List Nat):=[]
 er:List (Nat×List (Nat×Nat)):=[]
noncomputable def FD.E (D:FD):Env:={ TI:=fd D.tl,G:=fd D.gl,fz:=D.fz,lv:=D.lv,lx:=D.lx,lf:=D.lf,od:=D.od,ar:=D.ar,bx:=D.bx,pd:=D.pd,er:=D.er }
noncomputable def FD.W (D:FD) (k:Nat) (a:(ba (D.ps.map (·.2))).den):Option (ba (D.rs.map (·.1)++dT D.ps)).den:=Ac D.E k D.fn D.ps D.rs D.es D.fr a
noncomputable def FD.F (D:FD) (a:(ba (D.ps.map (·.2))).den):Option (ba (D.rs.map (·.1)++dT D.ps)).den:=lift λk=>D.W k a
noncomputable def FD.sig (D:FD):kF:={ cap:=D.cap,ps:=D.ps,rs:=D.rs,F:=D.F }
noncomputable def FD.fin (D:FD):St->Option (ba (D.rs.map (·.1)++dT D.ps)).den:=AG D.ps D.rs D.es D.fn.results.toList (Jn D.fr)
noncomputable def FD.K0 (D:FD):KT (ba (D.rs.map (·.1)++dT D.ps)).den:=Lq D.fin
noncomputable def FD.N (D:FD) (k:Nat) (p:List Nat):St->KT (ba (D.rs.map (·.1)++dT D.ps)).den->Option (ba (D.rs.map (·.1)++dT D.ps)).den:=kB D.E k D.fin (sub p (tD D.fn))
noncomputable def FD.L (D:FD) (k:Nat) (p live:List Nat) (qv:List (Nat×Md)) (K:KT (ba (D.rs.map (·.1)++dT D.ps)).den) (σ:St):Option (ba (D.rs.map (·.1)++dT D.ps)).den:=uR (D.N k p) (dx live qv) K k σ
theorem aw {P:Program} {D:FD} {f:FuncId} (hf:P.funcs[f]?=some D.fn) (ht:(EK P D.tl&&Ak P D.tl)=true) (ap:(BF D.fn D.cap&&Aj P D.E D.fn D.ps D.rs D.es)=true) (hg:ub P D.gl):Ok P f D.sig:=
 NT (hh:=λ_ _ h=>List.isEmpty_iff.1 h) (es:=D.es) (fr:=D.fr) (tl:=D.tl) (gl:=D.gl) (E:=D.E) hf rfl rfl (by rw[okB,ht,Bool.true_and];exact ap) hg λ_=>rfl
end OT
namespace OT
open Go
theorem bQ {n:Int} (h:-9223372036854775808<=n/\n<=9223372036854775807):ai n=n:=by
 grind [ai,IntKind.wrap_i64]
theorem al:maxLen=9223372036854775807:=by simp[maxLen]
theorem xz {V R:Type} {B:(V->Option R)->V->Option R} (f:V->R) (I:V->Prop) (μ:V->Nat)
  (h:∀ v,I v->∀ self,B self v=some (f v)\/∃ v',B self v=self v'/\f v'=f v/\I v'/\μ v' < μ v):∀ (k:Nat) (v:V),I v->μ v < k->au B k v=some (f v)
 | 0,v,_,hk=>by omega
 | k+1,v,hI,hk=>by
  show B (au B k) v=some (f v)
  rcases h v hI (au B k) with h1 | ⟨v',h1,Y,h3,h4⟩
  ·exact h1
  ·rw[h1,xz f I μ h k v' h3 (by omega),Y]
end OT
set_option linter.unusedVariables false
set_option linter.unusedSimpArgs false
namespace OT
open Go
theorem mS {V R:Type} (B:(V->Option R)->V->Option R) (k:Nat) (v:V):au B (k+1) v=B (au B k) v:=rfl
def rj {α:Type} (f:α->Nat):List α->Nat
 | []=>0
 | x::xs=>f x+rj f xs
theorem BG {α:Type} (f:α->Nat):∀ (xs:List α) (x:α),x ∈ xs->f x<=rj f xs
 | y::xs,x,h=>by
  simp only[rj]
  rcases List.mem_cons.1 h with rfl | h
  ·omega
  ·have:=BG f xs x h;omega
 | [],_,h=>by cases h
theorem vC {α:Type} (f:α->Nat):∀ (xs ys:List α),rj f (xs++ys)=rj f xs+rj f ys
 | [],ys=>by simp[rj]
 | x::xs,ys=>by simp only[List.cons_append,rj,vC f xs ys];omega
def zz:(t:Ty)->t.den->Nat
 | .str,v=>List.length v
 | .pair a b,v=>zz a v.1+zz b v.2
 | .aa e,v=>List.length v+rj (zz e) v
 | _,_=>0
theorem ud {e:Ty} {xs:List e.den} {x:e.den} (h:x ∈ xs):zz e x+1<=zz (.aa e) xs:=by
 have:=BG (zz e) xs x h
 have:1<=xs.length:=List.length_pos_of_mem h
 show _<=List.length xs+_
 omega
theorem qa {e:Ty} (xs:List e.den):xs.length<=zz (.aa e) xs:=Nat.le_add_right _ _
theorem yJ {e:Ty} (x:e.den) (xs:List e.den):zz (.aa e) (x::xs)=zz e x+1+zz (.aa e) xs:=by
 grind [zz,rj]
theorem kT {e:Ty} (xs ys:List e.den):zz (.aa e) (xs++ys)=zz (.aa e) xs+zz (.aa e) ys:=by
 grind [zz,vC]
end OT
set_option linter.unusedVariables false
set_option linter.unusedSimpArgs false
namespace OT
open Go
end OT
set_option linter.unusedVariables false
set_option linter.unusedSimpArgs false
namespace OT
open Go
def aW {S O α:Type} (f:Nat->S->α->Sum O S) (fin:S->O):Nat->List α->S->O
 | _,[],s=>fin s
 | i,x::xs,s=>match f i s x with
  | .inl o=>o
  | .inr s'=>aW f fin (i+1) xs s'
theorem bJ {V S O α:Type} {B:(V->Option O)->V->Option O} (xs:List α) (enc:S->Int->V) (f:Nat->S->α->Sum O S) (fin:S->O) (I:Nat->S->Prop) (yG:xs.length<=maxLen)
  (cI:∀ (i:Nat) (hi:i < xs.length) (s:S) self,I i s->B self (enc s (i:Int))=match f i s xs[i] with | .inl o=>some o | .inr s'=>self (enc s' (ai ((i:Int)+1))))
  (hI:∀ (i:Nat) (hi:i < xs.length) (s s':S),I i s->f i s xs[i]=.inr s'->I (i+1) s')
  (iQ:∀ (s:S) self,I xs.length s->B self (enc s (xs.length:Int))=some (fin s)) (s:S) (h0:I 0 s):∀ k,xs.length < k->au B k (enc s 0)=some (aW f fin 0 xs s):=by
 have main:∀ (m i:Nat) (s:S),xs.length - i=m->i<=xs.length->I i s->∀ k,m < k->au B k (enc s (i:Int))=some (aW f fin i (xs.drop i) s):=by
  intro m
  induction m with
  | zero=>
   intro i s hm hi hs k hk
   have kj:i=xs.length:=by omega
   subst kj
   cases k <;> grind [au,aW]
  | succ m ih=>
   intro i s hm hi hs k hk
   have aB:i < xs.length:=by omega
   cases k <;> grind [au,List.drop_eq_getElem_cons,aW,bQ,al]
 intro k hk
 simpa using main xs.length 0 s (by omega) (by omega) h0 k hk
theorem o6 {O α:Type} (p:α->Bool) (bad:O) (fin:Unit->O):∀ (xs:List α) (i:Nat),aW (λ_ _ x=>if p x then .inr () else .inl bad) fin i xs ()=if xs.all p then fin () else bad
 | [],_=>rfl
 | x::xs,i=>by
  simp only[aW,List.all_cons]
  by_cases h:p x=true
  ·simp[h,o6 p bad fin xs (i+1)]
  ·simp[h]
def jI {α:Type} (c:α->Int):List α->Int
 | []=>0
 | x::xs=>if c x=0 then jI c xs else c x
theorem xA {O α:Type} (c:α->Int) (bad:Int->O) (fin:Unit->O):∀ (xs:List α) (i:Nat),aW (λ_ _ x=>if c x=0 then .inr () else .inl (bad (c x))) fin i xs ()=if jI c xs=0 then fin () else bad (jI c xs)
 | [],_=>rfl
 | x::xs,i=>by
  simp only[aW,jI]
  by_cases h:c x=0
  ·simp[h,xA c bad fin xs (i+1)]
  ·simp[h]
theorem GZ {R:Type} (a:Option R):both a a=a:=by simp[both]
theorem uZ {R α:Type} {v:List α} {a b r:Option R} (h1:v=[]->a=r) (Y:b=r):qU v a b=r:=by
 cases v <;> grind [qU,GZ]
theorem cm {n:Nat} (h:n<=200000000000):n<=bX:=by grind [bX]
end OT
set_option linter.unusedVariables false
set_option linter.unusedSimpArgs false
namespace OT
open Go
section
variable {P:Program} {w:World} {A:Cells}
end
end OT
set_option linter.unusedVariables false
set_option linter.unusedSimpArgs false
namespace OT
open Go Go.Sort
instance RB (e:Ty):Inhabited e.den:=⟨e.zero⟩
section
variable {P:Program}
end
end OT
