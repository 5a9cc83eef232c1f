/- The proof's parts, merged: Calls, third part.. No conditions but those that each states. -/
import Derived.Test.YtaebhfnbgkbdhaaGreatRb
import Derived.MapKept
import Derived.WideMake
import Derived.OrdersHeld
import Derived.LoopN
import Derived.Scope
import Derived.ProofKit
import Derived.Deep.Slices
import Derived.Laws.BitsLemmas
set_option linter.unusedVariables false
set_option linter.unusedSimpArgs false
namespace OT
open Go
section
variable {P:Program} {C:Ctx} {A:Cells} {X:FP} {σ:St} {a:Act} {w:World} {F:Nat->FP} {R:Type} {x:R} {Q:Exit->Act->World->Prop} {o:Oper} {E:Env}
def rG (b:Bool) (n:Nat):Nat:=match b with
 | true=>n
 | false=>0
theorem KZ {w2:World} {A2:Cells}:∀ (q:Path) (t:Ty) {m':Md} {v':t.den} {cs:List Value} {G':FP} {ad:Option (Nat×Nat)} {pl:Pl},ah P w2 A2 t m' [] v' cs G'->bD q<=1->aJ w q t [] cs ad=some pl ->
  ∃ H' aS,aJ w2 q t [] cs ad=some ⟨pl.t,H',aS,pl.ad⟩/\(bD q < 1->o8 pl.t=true->aS=pl.cs):=by
 intro q
 induction q with
 | nil=>
  intro t m' v' cs G' ad pl U hq hp
  simp only[aJ,Option.some.injEq] at hp
  subst hp
  exact ⟨_,_,rfl,λ_ _=>rfl⟩
 | cons s q ih=>
  intro t m' v' cs G' ad pl U hq hp
  cases t with
  | pair a b=>
   obtain ⟨h0,F1,F2,hs,r1,r2⟩:=U
   cases s with
   | fst=>
    simp only[aJ,h0,if_false] at hp ⊢
    exact ih a r1 (by simpa [bD] using hq) (by simpa using hp)
   | snd=>
    simp only[aJ,h0,if_false] at hp ⊢
    exact ih b r2 (by simpa [bD] using hq) (by simpa using hp)
   | idx i=>simp[aJ] at hp
   | jI i=>simp[aJ] at hp
  | ae e=>
   cases s with
   | idx i=>
    obtain ⟨xa,cap,news,Fi,r1,r2,r3,r4,r5,r6,r7,r8⟩:=wW U
    subst r1
    cases xa with
    | none=>grind [aJ]
    | some bl=>
     simp only[aJ,hole,List.any_nil,Bool.false_eq_true,if_false,List.filterMap_nil] at hp ⊢
     split at hp
     ·rename_i hi
      rw[if_pos hi]
      have dw:=r6 i _ (List.getElem?_eq_getElem hi)
      obtain ⟨g1,g2⟩:=r3 bl rfl
      have hl:=ah.length _ dw
      have hh:Has w2 bl.block (bl.off+i*e.sz) ((news.drop (i*e.sz)).take e.sz):=λj u hu=>by
       rw[List.getElem?_take] at hu
       split at hu
       ·rw[List.getElem?_drop] at hu
        rw[Nat.add_assoc];exact g2 _ u hu
       ·cases hu
      rw[b9 hh hl]
      obtain ⟨H',aS,h1,U⟩:=tq (A:=λ_ _=>True) (m:=.leaf) (v:=v'[i]) (F:=λ_ _=>0) q e dw (.inl (by grind [bD])) hp
      grind [bD]
     ·cases hp
   | _=>simp[aJ] at hp
  | arr n e=>
   cases s with
   | fst=>simp[aJ] at hp
   | snd=>simp[aJ] at hp
   | idx i=>simp[aJ] at hp
   | jI i=>
    obtain ⟨_,hf,hl,hlen,hr⟩:=U
    simp only[aJ,List.isEmpty_nil,if_true] at hp ⊢
    split at hp
    ·rename_i hi
     rw[if_pos hi]
     exact ih e (Ro.flat e (m:=.leaf) (λ_ _=>0) hf (hr i _ (List.getElem?_eq_getElem (by grind)))) (by simpa [bD] using hq) hp
    ·cases hp
  | _=>grind [aJ]
theorem Jx {t:Ty} {m':Md} {v':t.den} {cs:List Value} {G':FP} {w2:World} {A2:Cells} (ad:Option (Nat×Nat)) (U:ah P w2 A2 t m' [] v' cs G'):kP 1 False w t [] cs ad w2 [] cs:=by
 intro q pl hq hp
 grind [KZ]
theorem DY (h:bE P C A σ a w F) {r:Nat} {ow:Bool} {b i:Nat} (ha:AX A F σ.n r ow b i):b < w.heap.size:=by
 rcases ha with ha | ⟨_,j,hj,_,hp⟩
 ·exact h.eI b i (.inr ha)
 ·exact h.eI b i (.inl (by grind [bu]))
def pu:List (PM×Ty)->Bool
 | []=>true
 | (.cZ _ _,_)::_=>false
 | (.gj _,_)::_=>false
 | (.jX _,_)::_=>false
 | (.iy _,_)::_=>false
 | _::ps=>pu ps
theorem nI {ow:Bool} {y:Nat×Path} {ws:List (Nat×Path)}:∀ (ps:List (PM×Ty)) {v:(bK (ps.map (·.2))).den} {ss:List Slot} {iB:List Value},pu ps=true->qL P A σ a w F ow ps v ss iB (y::ws)->False
 | [],_,_,_,_,h=>by cases h.2.2
 | (pm,t)::ps,_,_,_,hm,h=>by
  obtain ⟨s,z6,tv,nr,wp,pr,_,_,hw,fe,im⟩:=h
  cases pm with
  | ro=>obtain ⟨qM,_⟩:=fe;subst qM;have hw:_=pr:=hw;subst hw;exact nI ps hm im
  | fix f=>obtain ⟨qM,_⟩:=fe;subst qM;have hw:_=pr:=hw;subst hw;exact nI ps hm im
  | cZ m m'=>cases hm
  | gj m=>cases hm
  | jX m=>cases hm
  | iy m=>cases hm
theorem HG (h:bE P C A σ a w F) {f:FuncId} {g:nc} (hs:Sound P f g) {ow:Bool} (pt:ow=true->(oX g.rs&&gg g.ps)=true) {r:Nat} {p:Path} {t:Ty} {m:Md} {v1:t.den} {cs:List Value} {ad:Option (Nat×Nat)} {jZ:Bool} {v:(bK (g.ps.map (·.2))).den} {iB:List Value} {out:(bK (g.rs.map (·.1)++e_ g.ps)).den} (hF:g.F v=some out)
  (b1:At σ r p t m [] v1) (b2:place σ a w r p=some ⟨t,[],cs,ad⟩) (b3:jZ=true->∃ b o,ad=some (b,o))
  (b5 : ∀ (A0:Cells) (F0 Fp:FP),(∀ b i,A b i->A0 b i)->(ow=true->∀ b i j,j < σ.n->j≠r->1<=F j b i->A0 b i)->ah P w A0 t m [] v1 cs Fp ->
      (jZ=true->∀ b o,ad=some (b,o)->Has w b o cs/\(∀ j,j < t.sz->w.frozen? ⟨b,o+j,none⟩=false)/\∀ b' i,bP b o t.sz b' i+Fp b' i<=F0 b' i)->(jZ=false->∀ b i,Fp b i<=F0 b i)->iN P w A0 (g.yh v) g.ps v iB F0)
  {d:Option Tmp} {K:St->Option R} (q1:(match nX σ r p t m t.zero (λ_=>some ()) with | some _=>K ((σ.put r .dead).aQ d (nF (fa g.rs out).1)) | none=>none)=some x) (K1:pu g.ps=true->False) :
  Calls P f iB.toArray w λe w'=>∃ rv,e=.returned rv/\Nx P C K x (a.put d rv) w'/\(pu g.ps=true->Ext w w' (λ_ _=>0)):=by
 cases t_:nX σ r p t m t.zero (λ_=>some ()) with
 | none=>grind
 | some u=>
 rw[t_] at q1
 simp only at q1
 obtain ⟨hr,m2,H2,v2,bA,uD,F2,s1,s2,s3,s4,s5,_⟩:=uC h t_
 obtain ⟨_,e3,e4,e5⟩:=b1.inj s1
 subst e3;subst e4
 have e5:=eq_of_heq e5
 subst e5
 rw[b2] at s2
 simp only[Option.some.injEq,Pl.mk.injEq,true_and] at s2
 obtain ⟨rfl,rfl⟩:=s2
 obtain ⟨O1,Us⟩:=ah.fp t s3
 obtain ⟨F0,yo⟩:∃ F0:FP,∀ b i,F0 b i=rG jZ (eV ad t.sz b i)+eK w t m [] cs b i:=⟨λb i=>rG jZ (eV ad t.sz b i)+eK w t m [] cs b i,λ_ _=>rfl⟩
 have SV:∀ b i,F0 b i<=eV ad t.sz b i+eK w t m [] cs b i:=λb i=>by
  rw[yo];cases jZ <;> simp[rG]
 have HH:∀ b i,F0 b i<=F r b i:=λb i=>by grind
 have jq:∀ b i,F r b i<=aA σ.n F b i:=λb i=>bu F hr b i
 have pe:∀ b i,aA σ.n F b i<=1:=λb i=>by have:=h.iQ b i;omega
 have B8:∀ b i,A b i->AX A F σ.n r ow b i:=λb i h=>.inl h
 have Jy:∀ b i,1<=F r b i->b < w.heap.size:=λb i hp=>h.eI b i (.inl (by grind))
 have fX:=b5 (AX A F σ.n r ow) F0 (eK w t m [] cs) B8 (λpt b i j hj dI hp=>.inr ⟨pt,j,hj,dI,hp⟩)
  (ah.mono B8 (λ_ _ _ _ h=>h) (λ_ _ h=>h) t O1 (λ_ _=>Nat.le_refl _) (λ_ _ _ _ h=>h))
  (λhP b o e=>⟨(s5 b o e).1,(s5 b o e).2,λb' i=>by rw[yo,hP,e];exact Nat.le_refl _⟩) (λhP b i=>by grind)
 refine (hs w _ F0 v _ fX (λb i=>by grind) (λb i hp ha=>?_) (λb i hp=>?_) (h.vg λb i hp=>by grind) out hF).mono λe w' vo=>?_
 ·have h1:=HH b i;have U:=jq b i
  rcases ha with ha | ⟨_,j,hj,dI,Jz⟩
  ·exact h.jr b i (by grind) ha
  grind [l9]
 ·rcases hp with hp | hp
  ·grind
  ·exact DY h hp
 ·obtain ⟨rv,rfl,cr,A',G,GR,GM,g1,g2,g3,g4,g5,g6,g7,g8,g9⟩:=vo
  refine ⟨rv,rfl,?_⟩
  obtain ⟨x1,x2⟩:=yT cr
  obtain ⟨oQ,A2,J,a2,a3,a4,a6⟩:∃ oQ A2:Cells,(∀ b i,A b i->oQ b i)/\(∀ b i,oQ b i->A b i\/(w.heap.size<=b/\b < w'.heap.size/\G b i=0))/\(∀ b i,oQ b i->A2 b i)/\(∀ b i,A2 b i->oQ b i\/(1<=F0 b i/\G b i=0)) /\
    gL P w' A2 (fa g.rs out).1 rv GR:=by
   cases ow with
   | true=>
    have ho:=pt rfl
    simp only[Bool.and_eq_true] at ho
    exact ⟨A,A,λ_ _ h=>h,λ_ _ h=>.inl h,λ_ _ h=>h,λ_ _ h=>.inl h,gL.free (oP g.rs out ho.1) g8⟩
   | false=>
    have iz:∀ b i,A' b i->G b i=0:=λb i ha=>by
     grind
    refine ⟨λb i=>A b i\/(w.heap.size<=b/\A' b i),A',λ_ _ h=>.inl h,λb i ha=>ha.imp id λ⟨h1,U⟩=>⟨h1,g6 b i (.inr U),iz b i U⟩,λb i ha=>?_,λb i ha=>?_,g8⟩
    ·grind
    ·rcases g2 b i ha with (JA | ⟨e,_⟩) | h0 | hn
     ·grind
     all_goals grind
  have K3:=qK cr.size
  have h1:=h.put hr (s:=.dead) (v:=tmp a r) (Fd:=λ_ _=>0) (X':=F r) trivial (λb k=>by omega) (λ_ _ _ _ e=>by cases e)
  rw[kx] at h1
  have yu:=h1.grow x1 (A1:=oQ) (X1:=λb i=>if w.heap.size<=b then G b i else F r b i) J (λb i ha=>?_) (λb i=>?_)
  rotate_left
  ·grind
  ·grind
  have h3:=yu.world x2 (λb i hp=>by
   grind)
  have h4:=h3.giveUp (A1:=A2) (X1:=GR) a3 (λb i ha=>by
   grind) (λb i=>by
   grind)
  have mR:=uE (σ:=σ.put r .dead) (a:=a) a6
  exact ⟨jd h4 q1 mR.1 (λ_ _=>Nat.le_refl _) mR.2,λhm=>(K1 hm).elim⟩
theorem Fz (h:bE P C A σ a w F) {f:FuncId} {g:nc} (hs:Sound P f g) {ow:Bool} (pt:ow=true->(oX g.rs&&gg g.ps)=true) {r:Nat} {p:Path} {t:Ty} {m:Md} {H:List Path} {v1:t.den} {cs:List Value} {ad:Option (Nat×Nat)} {jZ:Bool} {v:(bK (g.ps.map (·.2))).den} {iB:List Value} {out:(bK (g.rs.map (·.1)++e_ g.ps)).den} (hF:g.F v=some out)
  (b1:At σ r p t m H v1) (b2:place σ a w r p=some ⟨t,H,cs,ad⟩) (hP:jZ=false)
  (b5 : ∀ (A0:Cells) (F0 Fp:FP),(∀ b i,A b i->A0 b i)->(ow=true->∀ b i j,j < σ.n->j≠r->1<=F j b i->A0 b i)->ah P w A0 t m H v1 cs Fp ->
      (jZ=true->∀ b o,ad=some (b,o)->Has w b o cs/\(∀ j,j < t.sz->w.frozen? ⟨b,o+j,none⟩=false)/\∀ b' i,bP b o t.sz b' i+Fp b' i<=F0 b' i)->(jZ=false->∀ b i,Fp b i<=F0 b i)->iN P w A0 (g.yh v) g.ps v iB F0)
  {d:Option Tmp} {K:St->Option R} (q1:rA σ r p (λσ=>K (σ.aQ d (nF (fa g.rs out).1)))=some x) (K1:pu g.ps=true->False) :
  Calls P f iB.toArray w λe w'=>∃ rv,e=.returned rv/\Nx P C K x (a.put d rv) w'/\(pu g.ps=true->Ext w w' (λ_ _=>0)):=by
 have hr:r < σ.n:=l_ b2
 obtain ⟨A1,iq,F1,jz,ym,F0,k1,k2,k3,k4,_,k5,k6,k7⟩:=DC h q1 b1
 rw[b2] at k5
 simp only[Option.some.injEq,Pl.mk.injEq,true_and] at k5
 obtain ⟨rfl,rfl⟩:=k5
 have jq:∀ b i,F r b i<=aA σ.n F b i:=λb i=>bu F hr b i
 have pe:∀ b i,aA σ.n F b i<=1:=λb i=>by have:=h.iQ b i;omega
 have WY:∀ b i,F0 b i+aA iq.n F1 b i<=1:=λb i=>by have h:=k3.iQ b i;simpa using h
 have WZ:∀ b i,1<=F0 b i->¬ A1 b i:=λb i hp=>k3.jr b i (by grind)
 have W0:∀ b i,1<=F0 b i\/A1 b i->b < w.heap.size:=λb i hp=>k3.eI b i (hp.imp (λhp=>by grind) id)
 have B8:∀ b i,A1 b i->AX A1 F σ.n r ow b i:=λb i h=>.inl h
 have fX:=b5 (AX A1 F σ.n r ow) F0 F0 (λb i h=>.inl (k2 b i h)) (λpt b i j hj dI hp=>.inr ⟨pt,j,hj,dI,hp⟩)
  (ah.mono (λb i h=>.inl (k2 b i h)) (λ_ _ _ _ h=>h) (λ_ _ h=>h) t k6 (λ_ _=>Nat.le_refl _) (λ_ _ _ _ h=>h))
  (λe=>by grind) (λ_ b i=>Nat.le_refl _)
 refine (hs w _ F0 v _ fX (λb i=>by grind) (λb i hp ha=>?_) (λb i hp=>?_) (k3.vg λb i hp=>by grind) out hF).mono λe w' vo=>?_
 ·rcases ha with ha | ⟨_,j,hj,dI,Jz⟩
  all_goals grind [l9]
 ·rcases hp with hp | hp | ⟨_,j,hj,dI,Jz⟩
  ·grind
  ·grind
  ·exact h.eI b i (.inl (by grind [bu]))
 ·obtain ⟨rv,rfl,cr,A',G,GR,GM,g1,g2,g3,g4,g5,g6,g7,g8,g9⟩:=vo
  refine ⟨rv,rfl,?_⟩
  obtain ⟨x1,x2⟩:=yT cr
  obtain ⟨oQ,A2,J,a2,a3,a4,a6⟩:∃ oQ A2:Cells,(∀ b i,A1 b i->oQ b i)/\(∀ b i,oQ b i->A1 b i\/(w.heap.size<=b/\b < w'.heap.size/\G b i=0))/\(∀ b i,oQ b i->A2 b i)/\(∀ b i,A2 b i->oQ b i\/(1<=F0 b i/\G b i=0)) /\
    gL P w' A2 (fa g.rs out).1 rv GR:=by
   cases ow with
   | true=>
    have ho:=pt rfl
    simp only[Bool.and_eq_true] at ho
    exact ⟨A1,A1,λ_ _ h=>h,λ_ _ h=>.inl h,λ_ _ h=>h,λ_ _ h=>.inl h,gL.free (oP g.rs out ho.1) g8⟩
   | false=>
    have iz:∀ b i,A' b i->G b i=0:=λb i ha=>by
     grind
    refine ⟨λb i=>A1 b i\/(w.heap.size<=b/\A' b i),A',λ_ _ h=>.inl h,λb i ha=>ha.imp id λ⟨h1,U⟩=>⟨h1,g6 b i (.inr U),iz b i U⟩,λb i ha=>?_,λb i ha=>?_,g8⟩
    ·grind
    ·rcases g2 b i ha with (JA | ⟨e,_⟩) | h0 | hn
     all_goals grind
  have K3:=qK cr.size
  have yu:=k3.grow x1 (A1:=oQ) (X1:=λb i=>if w.heap.size<=b then G b i else F0 b i) J (λb i ha=>?_) (λb i=>?_)
  rotate_left
  ·grind
  ·grind
  have h3:=yu.world x2 (λb i hp=>by
   grind)
  have h4:=h3.giveUp (A1:=A2) (X1:=GR) a3 (λb i ha=>by
   grind) (λb i=>by
   grind)
  have mR:=uE (σ:=iq) (a:=a) a6
  exact ⟨jd h4 k1 mR.1 (λ_ _=>Nat.le_refl _) mR.2,λhm=>(K1 hm).elim⟩
theorem MG {F2:Nat->FP} {n r0:Nat} {ow:Bool} (hF:∀ j b i,F2 j b i<=F j b i):∀ b i,AX A F2 n r0 ow b i->AX A F n r0 ow b i:=λb i h=>h.imp id λ⟨e,j,h1,U,h3⟩=>⟨e,j,h1,U,Nat.le_trans h3 (hF j b i)⟩
set_option maxHeartbeats 1000000 in
theorem JB (h:bE P C A σ a w F) {f:FuncId} {g:nc} (hs:Sound P f g) {ow:Bool} (pt:ow=true->(oX g.rs&&(gg g.ps||lE g.ps))=true) {xs:List Operand} {ex:List Slot} {wY:List Value} (ao:xs.all (bv P)=true)
  (hex:∀ (A':Cells) (σ':St),(∀ b i,A b i->A' b i)->oD P A' σ' a w ex wY) {d:Option Tmp} {K:St->Option R} (hk:zy g ow σ xs ex d K=some x) :
  Calls P f (xs.map a.eval++wY).toArray w λe w'=>∃ rv,e=.returned rv/\Nx P C K x (a.put d rv) w'/\(pu g.ps=true->Ext w w' (λ_ _=>0)):=by
 unfold zy at hk
 obtain ⟨A1,iq,F1,k1,k2,k3,k4⟩:=NM g.ps xs h hk
 have fJ:=z7 k3 xs ao (hex A1 iq k2)
 obtain ⟨v,ws,q1,q2⟩:=NO k3 g.ps fJ k1
 obtain ⟨FX,wo,q2,hU⟩:∃ FX:Nat->FP,(∀ j b i,FX j b i<=F1 j b i)/\qL P A1 iq a w FX ow g.ps v (xs.map (bz iq)++ex) (xs.map a.eval++wY) ws/\(ow=true->oX g.rs=true/\(gg g.ps=true\/(lE g.ps=true/\∀ j b i,1<=FX j b i->DX (ce w b i)=true))):=by
  by_cases dj:gg g.ps=true
  ·exact ⟨F1,λ_ _ _=>Nat.le_refl _,q2,λe=>by have:=pt e;simp only[Bool.and_eq_true] at this;exact ⟨this.1,.inl dj⟩⟩
  ·by_cases hu:lE g.ps=true
   ·exact ⟨yU w F1,NQ w F1,rF g.ps hu q2,λe=>by have:=pt e;simp only[Bool.and_eq_true] at this;exact ⟨this.1,.inr ⟨hu,λj b i hp=>KY hp⟩⟩⟩
   ·exact ⟨F1,λ_ _ _=>Nat.le_refl _,q2,λe=>by have:=pt e;simp only[Bool.and_eq_true,Bool.or_eq_true] at this;exact absurd this.2 (by simp[dj,hu])⟩
 split at q1
 rotate_left
 ·cases q1
 rename_i hc
 simp only[Bool.and_eq_true,Nat.ble_eq] at hc
 obtain ⟨hlen,MH⟩:=hc
 match ws,hlen with
 | [],_=>
  have q1:((g.F v).bind λout=>kV iq g.ps [] (fa g.rs out).2 λσ=>K (σ.aQ d (nF (fa g.rs out).1)))=some x:=by
   grind [KN]
  cases hF:g.F v with
  | none=>grind
  | some out=>
  rw[hF] at q1
  simp only[Option.bind_some] at q1
  obtain ⟨n1,n2⟩:=jj (R:=R) (A0:=AX A1 FX iq.n iq.n ow) (λb i h=>.inl h) (r0:=iq.n) (λpt b i j hj dI hp=>.inr ⟨pt,j,hj,dI,hp⟩) g.ps q2 (λr _ av=>by omega)
  rw[n2] at q1
  refine (hs w _ (λ_ _=>0) v _ (n1 _) (λ_ _=>Nat.zero_le _) (λb i hp=>by omega) (λb i hp=>?_) (k3.vg λb i hp=>by omega) out hF).mono λe w' vo=>?_
  ·rcases hp with hp | hp
   ·omega
   ·exact DY k3 (MG wo b i hp)
  ·obtain ⟨rv,rfl,cr,A',G,GR,GM,g1,g2,g3,g4,g5,g6,g7,g8,g9⟩:=vo
   have hX:∀ b i,GR b i<=0\/(w.heap.size<=b/\b < w'.heap.size/\GR b i<=1):=λb i=>by
    grind
   refine ⟨rv,rfl,?_⟩
   cases ow with
   | true=>
    have ho:=hU rfl
    have yu:=k3.grow cr (A1:=A1) (X1:=GR) (λ_ _ h=>h) (λ_ _ h=>.inl h) hX
    have mR:=uE (σ:=iq) (a:=a) (gL.free (A':=A1) (oP g.rs out ho.1) g8)
    exact ⟨jd yu q1 mR.1 (λ_ _=>Nat.le_refl _) mR.2,λ_=>cr⟩
   | false=>
    have yu:=k3.grow cr (A1:=A') (X1:=GR) (λb i ha=>g1 b i (.inl ha)) (λb i ha=>by
     rcases g2 b i ha with (JA | ⟨e,_⟩) | h0 | hn
     all_goals grind) hX
    have mR:=uE (σ:=iq) (a:=a) g8
    exact ⟨jd yu q1 mR.1 (λ_ _=>Nat.le_refl _) mR.2,λ_=>cr⟩
 | [(r,p)],_=>
  simp only[apart,Bool.and_eq_true,Nat.ble_eq,and_true] at MH
  obtain ⟨_,wX,jZ,wm,t,m,H,v1,cs,ad,b0,b1,b2,b3,b4,b5,b8,b7,b6⟩:=HF g.ps q2 MH
  have q3:(wm=true->g.yh v H=true)/\((g.F v).bind λout=>kV iq g.ps [(r,p)] (fa g.rs out).2 λσ=>K (σ.aQ d (nF (fa g.rs out).1)))=some x:=by
   cases hv:G9 g.ps with
   | false=>
    rw[hv] at q1
    exact ⟨λe=>(by grind),q1⟩
   | true=>
    rw[hv] at q1
    simp only[KN] at q1
    rw[b1.eq] at q1
    grind
  obtain ⟨q0,q1⟩:=q3
  replace b5:=λA0 F0 Fp J a2 a3 a4 a5=>b5 A0 F0 Fp J a2 a3 a4 a5 (g.yh v) q0
  have RX:=λA0 F0 Fp J (a2:ow=true->∀ b i j,j < iq.n->j≠r->1<=F1 j b i->A0 b i) a3 a4 a5=>b5 A0 F0 Fp J (λe b i j hj dI hp=>a2 e b i j hj dI (Nat.le_trans hp (wo j b i))) a3 a4 a5
  have O2:wX=true->ow=true->(oX g.rs&&gg g.ps)=true:=λe1 e2=>by
   obtain ⟨u1,u2 | u2⟩:=hU e2
   ·rw[u1,u2];rfl
   ·rw[b0.2.2.1 (tB _ u2.1)] at e1;cases e1
  cases hF:g.F v with
  | none=>grind
  | some out=>
  rw[hF] at q1
  simp only[Option.bind_some] at q1
  cases wm with
  | true=>
   obtain ⟨hE,hP,_⟩:=b8 rfl
   subst hE
   exact Fz k3 hs (O2 rfl) hF b1 b2 (b8 rfl).2.1 RX (((b8 rfl).2.2 iq (λσ=>K (σ.aQ d (nF (fa g.rs out).1))) (fa g.rs out).2).symm.trans q1) (λhm=>nI g.ps hm q2)
  | false=>
  obtain rfl:=b0.1 rfl
  cases wX with
  | true=>exact HG k3 hs (O2 rfl) hF b1 b2 b3 RX ((b7 rfl rfl iq (λσ=>K (σ.aQ d (nF (fa g.rs out).1))) (fa g.rs out).2).symm.trans q1) (λhm=>nI g.ps hm q2)
  | false=>
  obtain ⟨mo,o1,Ut,e1,e2⟩:=b6 rfl (fa g.rs out).2
  rw[e1] at q1
  have Uu:=q1
  obtain ⟨hr,m2,H2,v2,bA,uD,F2,s1,s2,s3,s4,s5,_⟩:=uC k3 q1
  obtain ⟨_,e3,e4,e5⟩:=b1.inj s1
  subst e3;subst e4
  have e5:=eq_of_heq e5
  subst e5
  rw[b2] at s2
  simp only[Option.some.injEq,Pl.mk.injEq,true_and] at s2
  obtain ⟨rfl,rfl⟩:=s2
  obtain ⟨O1,Us⟩:=ah.fp t s3
  obtain ⟨F0,yo⟩:∃ F0:FP,∀ b i,F0 b i=rG jZ (eV ad t.sz b i)+eK w t m [] cs b i:=⟨λb i=>rG jZ (eV ad t.sz b i)+eK w t m [] cs b i,λ_ _=>rfl⟩
  have SV:∀ b i,F0 b i<=eV ad t.sz b i+eK w t m [] cs b i:=λb i=>by
   rw[yo];cases jZ <;> simp[rG]
  have HH:∀ b i,F0 b i<=F1 r b i:=λb i=>by grind
  have jq:∀ b i,F1 r b i<=aA iq.n F1 b i:=λb i=>bu F1 hr b i
  have pe:∀ b i,aA iq.n F1 b i<=1:=λb i=>by have:=k3.iQ b i;omega
  have B8:∀ b i,A1 b i->AX A1 FX iq.n r ow b i:=λb i h=>.inl h
  have fX:=b5 (AX A1 FX iq.n r ow) F0 (eK w t m [] cs) B8 (λpt b i j hj dI hp=>.inr ⟨pt,j,hj,dI,hp⟩)
   (ah.mono B8 (λ_ _ _ _ h=>h) (λ_ _ h=>h) t O1 (λ_ _=>Nat.le_refl _) (λ_ _ _ _ h=>h))
   (λhP b o e=>⟨(s5 b o e).1,(s5 b o e).2,λb' i=>by rw[yo,hP,e];exact Nat.le_refl _⟩) (λhP b i=>by grind)
  refine (hs w _ F0 v _ fX (λb i=>by grind) (λb i hp ha=>?_) (λb i hp=>?_) (k3.vg λb i hp=>by grind) out hF).mono λe w' vo=>?_
  ·have h1:=HH b i;have U:=jq b i
   rcases ha with ha | ⟨_,j,hj,dI,Jz⟩
   ·exact k3.jr b i (by grind) ha
   have Jz:=Nat.le_trans Jz (wo j b i)
   grind [l9]
  ·rcases hp with hp | hp
   ·exact k3.eI b i (.inl (by grind))
   ·exact DY k3 (MG wo b i hp)
  ·obtain ⟨rv,rfl,cr,A',G,GR,GM,g1,g2,g3,g4,g5,g6,g7,g8,g9⟩:=vo
   refine ⟨rv,rfl,?_⟩
   obtain ⟨O3,F3,t1,t2,t3,t4⟩:=e2 w' A' GM g9
   obtain ⟨x1,x2⟩:=yT cr
   obtain ⟨oQ,A2,J,a2,a3,a4,a5,a6⟩:∃ oQ A2:Cells,(∀ b i,A1 b i->oQ b i)/\(∀ b i,oQ b i->A1 b i\/(w.heap.size<=b/\b < w'.heap.size/\G b i=0))/\(∀ b i,oQ b i->A2 b i)/\(∀ b i,A2 b i->oQ b i\/(1<=F0 b i/\G b i=0)) /\
     ah P w' A2 t mo [] o1 O3 F3/\gL P w' A2 (fa g.rs out).1 rv GR:=by
    cases ow with
    | true=>
     obtain ⟨u1,u2 | ⟨u2,u3⟩⟩:=hU rfl
     ·exact ⟨A1,A1,λ_ _ h=>h,λ_ _ h=>.inl h,λ_ _ h=>h,λ_ _ h=>.inl h,ah.free (Ut u2) (b4 u2).2 t1,gL.free (oP g.rs out u1) g8⟩
     ·have iz:∀ b i,A' b i->G b i=0:=λb i ha=>by
       rcases Nat.eq_zero_or_pos (G b i) with h0 | h0
       ·exact h0
       grind
      refine ⟨λb i=>A1 b i\/(w.heap.size<=b/\A' b i),λb i=>A' b i/\(A1 b i\/w.heap.size<=b\/1<=F0 b i),λ_ _ h=>.inl h,λb i ha=>ha.imp id λ⟨h1,U⟩=>⟨h1,g6 b i (.inr U),iz b i U⟩,λb i ha=>?_,λb i ha=>?_,ah.u8 (λb i n ha hn=>⟨ha,?_⟩) t (b0.2.2.2 u2) t1,gL.free (oP g.rs out u1) g8⟩
      ·rcases ha with ha | ⟨h1,U⟩
       ·exact ⟨g1 b i (.inl ha),.inl ha⟩
       ·exact ⟨U,.inr (.inl h1)⟩
      ·obtain ⟨h1,U | U | U⟩:=ha
       ·exact .inl (.inl U)
       ·exact .inl (.inr ⟨U,h1⟩)
       ·exact .inr ⟨U,iz b i h1⟩
      ·rcases g2 b i ha with (JA | ⟨_,j,hj,dI,hp⟩) | h0 | MC
       ·exact .inl JA
       ·exfalso
        have hb:=u3 j b i hp
        have Uv:=Nat.le_trans hp (wo j b i)
        have hz:F0 b i=0:=by
         have:=HH b i
         grind [l9]
        cases hc:ce w b i with
        | none=>rw[hc] at hb;cases hb
        | some u=>
         have:=cr.cell b i (oy hc) hz u hc
         rw[this] at hn
         injection hn with hn
         rw[hc,hn] at hb
         cases hb
       all_goals grind
    | false=>
     have iz:∀ b i,A' b i->G b i=0:=λb i ha=>by
      rcases Nat.eq_zero_or_pos (G b i) with h0 | h0
      ·exact h0
      grind
     refine ⟨λb i=>A1 b i\/(w.heap.size<=b/\A' b i),A',λ_ _ h=>.inl h,λb i ha=>ha.imp id λ⟨h1,U⟩=>⟨h1,g6 b i (.inr U),iz b i U⟩,λb i ha=>?_,λb i ha=>?_,t1,g8⟩
     ·grind
     ·rcases g2 b i ha with (JA | ⟨e,_⟩) | h0 | hn
      ·grind
      ·cases e
      ·grind
      grind
   have K3:=qK cr.size
   have yu:=k3.grow x1 (A1:=oQ) (X1:=λb i=>if w.heap.size<=b then G b i else 0) J (λb i ha=>?_) (λb i=>?_)
   rotate_left
   ·rcases a2 b i ha with ha | ⟨h1,U,h3⟩
    ·exact .inl ha
    grind
   ·by_cases hb:w.heap.size<=b
    ·rw[if_pos hb]
     rcases Nat.eq_zero_or_pos (G b i) with h0 | h0
     ·left;omega
     grind
    grind
   obtain ⟨_,m4,H4,v4,Mf,W1,F4,u1,u2,u3,u4,u5,u6⟩:=uC yu Uu
   obtain ⟨_,e3,e4,e5⟩:=b1.inj u1
   subst e3;subst e4
   have e5:=eq_of_heq e5
   subst e5
   have Jy:∀ b i,1<=F1 r b i->b < w.heap.size:=λb i hp=>k3.eI b i (.inl (by grind))
   have dh:=n9 (σ':=iq) (a':=a) (w2:=World.news w w') (k3.cY r hr) rfl rfl (λb i ha u hu=>x1.cell b i (k3.eI b i (.inr ha)) rfl u hu) (λb i hp u hu=>x1.cell b i (Jy b i hp) rfl u hu) b2
   rw[dh] at u2
   simp only[Option.some.injEq,Pl.mk.injEq,true_and] at u2
   obtain ⟨rfl,rfl⟩:=u2
   have ez:eK (World.news w w') t m [] cs=eK w t m [] cs:=HE t s3 (λb i hp u hu=>x1.cell b i (Jy b i (by grind)) rfl u hu)
   have Uw:∀ b i,eK w t m [] cs b i<=F4 b i:=λb i=>by have:=(ah.fp t u3).2 b i;rw[ez] at this;exact this
   have I5:=ah.length _ t1
   have hl:=ah.length _ s3
   have mX:jZ=false->O3=cs:=λhP=>NP I5 (ah.one _ t1) hl (ah.one _ s3) (t4 hP)
   have z8:∀ b i,1<=eV ad t.sz b i->F4 b i=0:=λb i hp=>by
    grind
   have Ws:∀ b i,b < w.heap.size->1<=G b i->1<=eV ad t.sz b i\/1<=F4 b i:=λb i hb hp=>by
    grind
   have QG:∀ b i,GR b i+F3 b i<=(if w.heap.size<=b then G b i else 0)+F4 b i:=λb i=>by
    have h7:=g7 b i;have U:=t2 b i
    by_cases hb:w.heap.size<=b
    ·grind
    ·rw[if_neg hb]
     rcases Nat.eq_zero_or_pos (GR b i+F3 b i) with h0 | h0
     ·omega
     ·have h4:=g4 b i
      rcases g3 b i (by omega) with h1 | h1
      ·rw[yo] at h1
       cases hP:jZ with
       | true=>
        obtain ⟨b',o',ey⟩:=b3 hP
        grind [eV]
       | false=>
        grind [rG]
      ·omega
   obtain ⟨A3,tt,Fr,n1,n2,n3,n4,n5⟩:=u6 w' A2 O3 F3 GR (x2.mono λb i hz=>by
     grind) a3 (λb i ha=>by
     rcases a4 b i ha with ha | ⟨h1,U⟩
     ·exact .inl ha
     ·refine .inr ⟨?_,by grind⟩
      have hb:b < w.heap.size:=Jy b i (by grind)
      rw[if_neg (by omega)]
      rw[yo] at h1
      cases hP:jZ with
      | true=>
       obtain ⟨b',o',ey⟩:=b3 hP
       grind [eV]
      | false=>
       grind [rG]) QG (λb o e=>by
     cases hP:jZ with
     | true=>grind
     | false=>
      rw[mX hP]
      intro j u hu
      have hj:=(List.getElem?_eq_some_iff.1 hu).1
      have h9:eV ad t.sz b (o+j)=1:=by grind [eV,bP]
      have h8:=z8 b (o+j) (by omega)
      refine x2.cell b (o+j) ?_ ?_ u ((u5 b o e).1 j u hu)
      ·rw[K3];exact Nat.lt_of_lt_of_le (Jy b (o+j) (by grind)) cr.size
      ·rw[yo,hP]
       have:=Uw b (o+j)
       simp only[rG,Nat.zero_add];omega) (λe=>by
     cases hP:jZ with
     | true=>obtain ⟨b',o',ey⟩:=b3 hP;rw[e] at ey;cases ey
     | false=>exact mX hP) a5
   have mR:=uE (σ:=tt) (a:=a) (gL.mono n2 a6)
   cases hP:jZ with
   | true=>
    subst hP
    exact ⟨jd n3 n1 mR.1 (λ_ _=>Nat.le_refl _) mR.2,λhm=>(nI g.ps hm q2).elim⟩
   | false=>
    subst hP
    have hc:=mX rfl
    subst hc
    have h5:=n5 (mC (bD p+1)) (nj _ (k3.fG r)) (vh _ (k3.fG r)) rfl (λp' snap hb ao hlen=>by
     have:=wM (bD p+1) (k3.fG r) hb ao
     exact ⟨1,False,by omega,λ_=>.inl (by omega),λ_=>by omega,Jx ad a5⟩)
    have MI:=uE (σ:={ tt with vr:=(iq.gc r (mC (bD p+1))).vr,aF:=iq.aF }) (a:=a) (gL.mono n2 a6)
    exact ⟨jd h5 n1 MI.1 (λ_ _=>Nat.le_refl _) MI.2,λhm=>(nI g.ps hm q2).elim⟩
 | _::_::_,hl=>simp at hl
theorem DZ (h:bE P C A σ a w F) {f:FuncId} {g:nc} (hs:Sound P f g) {xs:List Operand} {ex:List Slot} {wY:List Value} (ao:xs.all (bv P)=true)
  (hex:∀ (A':Cells) (σ':St),(∀ b i,A b i->A' b i)->oD P A' σ' a w ex wY) {d:Option Tmp} {K:St->Option R} (hk:u0 g σ xs ex d K=some x) :
  Calls P f (xs.map a.eval++wY).toArray w λe w'=>∃ rv,e=.returned rv/\Nx P C K x (a.put d rv) w'/\(pu g.ps=true->Ext w w' (λ_ _=>0)):=by
 unfold u0 at hk
 split at hk
 all_goals grind [JB,OZ]
theorem wZ {f:FuncId} {cap:Bool} (he:oO P f cap) (args:Array Value):(callFunc f args).run P w=.ok (.enter f args) w:=by
 obtain ⟨fn,h1,U,h3,_⟩:=he
 have O4:fn.name ≠ "runtime.NumGoroutine" := by simpa using U
 have RV:fn.body≠none:=by grind
 simp_all [callFunc]
theorem FA (h:bE P C A σ a w F) {f:FuncId} {args:Array Operand} {ts:Array TypeId} (ho:o.op=.call { callee:=.value (.func f),args:=args,argTypes:=ts }) (ao:args.toList.all (bv P)=true) {g:nc} (hs:Sound P f g) (he:oO P f false)
  {K:St->Option R} (hk:u0 g σ args.toList [] o.dst K=some x):o.wp P a w (λa' w'=>Nx P C K x a' w'/\(pu g.ps=true->Ext w w' (λ_ _=>0))) Q:=by
 have eJ:(execOp a.eval o).run P w=.ok (.enter f (args.map a.eval)) w:=by
  have e:a.eval (.func f)=.func (.func f) #[] #[]:=rfl
  grind [execOp,resolve,Deferred.ofValue,invoke,wZ]
 unfold Oper.wp
 rw[eJ,Oper.upon_enter]
 have hc:=DZ h hs (ex:=[]) (wY:=[]) ao (λ_ _ _=>trivial) hk
 have:(args.toList.map a.eval++[]).toArray=args.map a.eval:=by grind
 rw[this] at hc
 exact hc.mono λe w' ⟨rv,he,hn⟩=>by grind
theorem FB (h:bE P C A σ a w F) {i:Tmp} {args:Array Operand} {ts:Array TypeId} (ho:o.op=.call { callee:=.value (.tmp i),args:=args,argTypes:=ts }) (ao:args.toList.all (bv P)=true) {f:FuncId} {n:Int} (fJ:Do (σ.get i)=some (f,n)) {g:nc} (hs:Sound P f g) (he:oO P f g.cap)
  {K:St->Option R} (hk:u0 g σ args.toList (match g.cap with | true=>[.cp (.int .i64) n] | false=>[]) o.dst K=some x):o.wp P a w (λa' w'=>Nx P C K x a' w'/\(pu g.ps=true->Ext w w' (λ_ _=>0))) Q:=by
 have hi:i < σ.n:=by
  rcases Nat.lt_or_ge i σ.n with hi | hi
  ·exact hi
  ·rw[fL (Nat.not_lt.2 hi)] at fJ;cases fJ
 have RY:=h.cY i hi
 unfold Do at fJ
 split at fJ
 rotate_left
 ·cases fJ
 rename_i v hg
 injection fJ with hv
 subst hv
 rw[hg] at RY
 obtain ⟨cs,h1,qY,rfl,fn,h3,h4⟩:=RY
 have e:a.eval (.tmp i)=.func (.func f) #[] qY:=h1
 have eJ:(execOp a.eval o).run P w=.ok (.enter f (args.map a.eval++qY)) w:=by
  grind [execOp,resolve,Deferred.ofValue,invoke,wZ]
 unfold Oper.wp
 rw[eJ,Oper.upon_enter]
 obtain ⟨Ux,f1,f2,f3,f4⟩:=he
 rw[h3] at f1
 injection f1 with f1
 subst f1
 have hex:∃ wY:List Value,(args.toList.map a.eval++wY).toArray=args.map a.eval++qY/\∀ (A':Cells) (σ':St),(∀ b i,A b i->A' b i)->oD P A' σ' a w (match g.cap with | true=>[.cp (.int .i64) n] | false=>[]) wY:=by
  rcases h4 with ⟨h4,rfl⟩ | ⟨h4,ad,rfl,h5,h6,h7⟩
  ·have:g.cap=false:=by grind
   rw[this]
   exact ⟨[],by grind,λ_ _ _=>trivial⟩
  ·have:g.cap=true:=by grind
   rw[this]
   refine ⟨[.pointer (some ad)],by grind,λA' σ' hA=>⟨.inl ⟨ad,rfl,h5,[.int .i64 n],rfl,(λj u hu=>?_),rfl⟩,trivial⟩⟩
   grind
 obtain ⟨wY,SW,hex⟩:=hex
 have hc:=DZ h hs ao hex hk
 rw[SW] at hc
 exact hc.mono λe w' ⟨rv,he,hn⟩=>by grind
end
end OT
set_option linter.unusedVariables false
set_option linter.unusedSimpArgs false
namespace OT
open Go
section
variable {P:Program} {w:World} {A:Cells}
def Bt:Value->Bool
 | .int _ _ | .bool _ | .string _=>true
 | _=>false
theorem Ro.simple:∀ (t:Ty) {v:t.den} {cs:List Value},t.gW=true->Ro P w A t v cs->∀ x ∈ cs,Bt x=true:=by
 intro t
 induction t with
 | int k=>intro v cs _ h x hx;simp only[Ro] at h;subst h;simp at hx;subst hx;rfl
 | bool=>intro v cs _ h x hx;simp only[Ro] at h;subst h;simp at hx;subst hx;rfl
 | str=>intro v cs _ h x hx;simp only[Ro] at h;subst h;simp at hx;subst hx;rfl
 | unit=>grind [Ro]
 | pair a b fQ fI=>
  intro v cs he h x hx
  simp only[Ty.gW,Bool.and_eq_true] at he
  rw[<-List.take_append_drop a.sz cs] at hx
  rcases List.mem_append.1 hx with hx | hx
  ·exact fQ he.1 h.1 x hx
  ·exact fI he.2 h.2 x hx
 | arr n e ih=>
  intro v cs he h x hx
  obtain ⟨_,hv,hl,hr⟩:=h
  obtain ⟨j,hj,rfl⟩:=List.mem_iff_getElem.1 hx
  have hs:0 < e.sz:=by
   grind
  have hi:j / e.sz < n:=by
   rw[Nat.div_lt_iff_lt_mul hs];omega
  have h1:=hr (j / e.sz) _ (List.getElem?_eq_getElem (by omega))
  refine ih he h1 _ (List.mem_iff_getElem?.2 ⟨j % e.sz,?_⟩)
  grind [Nat.mod_lt,Nat.div_add_mod]
 | _=>grind [Ty.gW]
theorem FC {x:Value} (h:Bt x=true) (n:Nat):Instr.sameBits n x x=true:=by
 cases x <;> simp[Bt] at h <;> cases n <;> simp[Instr.sameBits,MapKept.bytes_beq]
theorem JC {t:Ty} {v:t.den} {cs:List Value} (ha:isAgg t=true) (he:t.gW=true) (h:Ro P w A t v cs):Instr.sameBits 10000 (bq t cs) (bq t cs)=true:=by
 have hs:=Ro.simple t he h
 simp only[bq,ha,if_true,Instr.sameBits,beq_self_eq_true,Bool.true_and,List.all_eq_true]
 rintro ⟨x,y⟩ mI
 have hz:(x,y) ∈ cs.zip cs:=by simpa using mI
 have Gy:x=y/\x ∈ cs:=by
  clear h hs mI
  induction cs with
  | nil=>simp at hz
  | cons c cs ih=>
   grind [List.zip_cons_cons]
 grind [FC]
theorem D0:∀ (t:Ty),(∀ (i:TypeId) (d:Nat) (e:Bool) (v:t.den) (cs:List Value),aC P t (.inl i)=true->kN P t (.inl i)=true->dep t<=d->Ro P w A t v cs->(Instr.checkKey e d i (bq t cs)).run P w=.ok () w) /\
  (∀ (fs:List Field) (off d:Nat) (e:Bool) (v:t.den) (xs:Array Value),aC P t (.inr (fs,off))=true->kN P t (.inr fs)=true->dep t<=d+1->Ro P w A t v (xs.toList.drop off) ->
   (forIn fs PUnit.unit λf _=>(if f.name ≠ "_" then do
     let x <- part f.type xs f.offset
     Instr.checkKey e d f.type x
     pure (ForInStep.yield PUnit.unit)
    else pure (ForInStep.yield PUnit.unit):Sem (ForInStep PUnit))).run P w=.ok () w):=by
 intro t
 induction t with
 | int k=>
  refine ⟨λi d e v cs hl he hd h=>?_,λfs off d e v xs hl=>by simp[aC] at hl⟩
  simp only[Ro] at h
  subst h
  cases d with
  | zero=>simp[dep] at hd
  | succ d=>rw[bL _ _ rfl];simp[Instr.checkKey,run_underlying (jy hl)]
 | bool=>
  refine ⟨λi d e v cs hl he hd h=>?_,λfs off d e v xs hl=>by simp[aC] at hl⟩
  simp only[Ro] at h
  subst h
  have hu:P.underlying i=some .bool:=by
   grind [aC]
  cases d <;> simp_all [dep,Instr.checkKey,run_underlying]
 | str=>
  refine ⟨λi d e v cs hl he hd h=>?_,λfs off d e v xs hl=>by simp[aC] at hl⟩
  simp only[Ro] at h
  subst h
  cases d <;> simp_all [dep,Instr.checkKey,run_underlying,gi]
 | unit=>
  refine ⟨λi d e v cs hl he hd h=>?_,λfs off d e v xs hl he hd h=>?_⟩
  ·simp only[Ro] at h
   subst h
   simp only[aC,Bool.and_eq_true] at hl
   have h3:=hl.2
   split at h3
   ·rename_i fs hu
    have Bq:fs.toList=[]:=List.isEmpty_iff.1 h3
    cases d with
    | zero=>simp[dep] at hd
    | succ d=>
     show (Instr.checkKey e (d+1) i (.agg #[])).run P w=_
     simp_all [Instr.checkKey,run_underlying]
   ·cases h3
  simp_all [aC]
 | pair a b fQ fI=>
  have second:∀ (fs:List Field) (off d:Nat) (e:Bool) (v:(Ty.pair a b).den) (xs:Array Value),aC P (.pair a b) (.inr (fs,off))=true->kN P (.pair a b) (.inr fs)=true->dep (.pair a b)<=d+1->Ro P w A (.pair a b) v (xs.toList.drop off) ->
    (forIn fs PUnit.unit λf _=>(if f.name ≠ "_" then do
      let x <- part f.type xs f.offset
      Instr.checkKey e d f.type x
      pure (ForInStep.yield PUnit.unit)
     else pure (ForInStep.yield PUnit.unit):Sem (ForInStep PUnit))).run P w=.ok () w:=by
   intro fs off d e v xs hl he hd h1
   cases fs with
   | nil=>simp_all
   | cons f r=>
    simp only[aC,Bool.and_eq_true,Nat.beq_eq,Nat.ble_eq] at hl
    simp only[kN,Bool.and_eq_true,bne_iff_ne,ne_eq] at he
    simp only[dep] at hd
    obtain ⟨Jl,Jm⟩:=h1
    have p1:=nm (P:=P) (w:=w) hl.1.2 (cs:=xs) (off:=off) (Ro.length _ Jl)
    have e1:=fQ.1 f.type d e v.1 _ hl.1.2 he.1.2 (by omega) Jl
    rw[List.drop_drop] at Jm
    have e2:=fI.2 r (off+a.sz) d e v.2 xs hl.2 he.2 (by omega) Jm
    simp_all
  refine ⟨λi d e v cs hl he hd h=>?_,second⟩
  simp only[aC,Bool.and_eq_true] at hl
  simp only[kN,Bool.and_eq_true,Bool.not_eq_true'] at he
  have h3:=hl.2
  have h4:=he.2
  split at h3
  ·rename_i fs hu
   rw[hu] at h4
   simp only at h4
   split at h3
   ·rename_i f r zN
    rw[zN] at h4
    simp only at h4
    cases d with
    | zero=>grind [dep]
    | succ d=>
     show (Instr.checkKey e (d+1) i (.agg cs.toArray)).run P w=_
     rw[Instr.checkKey]
     simp only[Sem.run_bind,run_underlying hu,Result.andThen_ok]
     rw[<-Array.forIn_toList,zN]
     have:=second (f::r) 0 d e v cs.toArray (by grind [aC]) (by grind [kN]) hd (by simpa using h)
     rw[this]
     rfl
   ·cases h3
  ·cases h3
 | arr n e ih=>
  refine ⟨λi d em v cs hl he hd h=>?_,λfs off d em v xs hl=>by simp[aC] at hl⟩
  simp only[aC,Bool.and_eq_true] at hl
  have h3:=hl.2
  simp only[kN] at he
  split at h3
  ·rename_i n' el hu
   simp only[Bool.and_eq_true,Nat.beq_eq,Nat.ble_eq] at h3
   obtain ⟨⟨rfl,_⟩,hle⟩:=h3
   rw[hu] at he
   simp only at he
   obtain ⟨inf,i1,i2,_⟩:=eW (gq hle)
   have gn:P.cellsOf el=e.sz:=by grind [Program.cellsOf]
   obtain ⟨_,l1,_,r1⟩:=h
   cases d with
   | zero=>simp[dep] at hd
   | succ d=>
    simp only[dep] at hd
    show (Instr.checkKey em (d+1) i (.agg cs.toArray)).run P w=_
    rw[Instr.checkKey]
    simp only[Sem.run_bind,run_underlying hu,Result.andThen_ok,Std.Legacy.Range.forIn_eq_forIn_range',Std.Legacy.Range.size,Nat.sub_zero,Nat.add_one_sub_one,Nat.div_one]
    have key:∀ (m j:Nat),j+m=n->(forIn (List.range' j m) PUnit.unit λi _=>(do
       let x <- part el cs.toArray (i*(<- Go.sizeOf el))
       Instr.checkKey em d el x
       pure (ForInStep.yield PUnit.unit):Sem (ForInStep PUnit))).run P w=.ok () w:=by
     intro m
     induction m with
     | zero=>simp_all
     | succ m OU=>
      intro j hj
      have J:=r1 j _ (List.getElem?_eq_getElem (l:=v) (i:=j) (by omega))
      have p1:=nm (P:=P) (w:=w) hle (cs:=cs.toArray) (off:=j*e.sz) (Ro.length _ J)
      have e1:=ih.1 el d em _ _ hle he (by omega) J
      rw[List.range'_succ]
      simp only[List.forIn_cons,Sem.run_bind,run_sizeOf hle,p1,e1,Result.andThen_ok,Sem.run_pure]
      grind
    simp_all
  ·cases h3
 | _=>grind [kN]
def vp (P:Program) (w:World) (A:Cells) (k v:Ty) (es:List (Value×Value)) (m:List (k.den×v.den)):Prop:=
 es.length=m.length/\∀ (i:Nat) (y:k.den×v.den),m[i]?=some y->∃ (kc vc:List Value),es[i]?=some (bq k kc,bq v vc)/\Ro P w A k y.1 kc/\Ro P w A v y.2 vc
structure C0 (P:Program) (k:Ty) (i:TypeId):Prop where
 lay:aC P k (.inl i)=true
 agg:isAgg k=true
 gW:k.gW=true
 flat:k.flat=true
 kN:kN P k (.inl i)=true
 dep:dep k<=9000
theorem Bu {k v:Ty} {i:TypeId} (h:aC P (.map k v) (.inl i)=true):∃ ki vi,P.underlying i=some (.map ki vi)/\C0 P k ki/\aC P v (.inl vi)=true/\Mp P v vi=true:=by
 simp only[aC,Bool.and_eq_true] at h
 have U:=h.2
 split at U
 ·rename_i ki vi hu
  simp only[Bool.and_eq_true,OM,Nat.ble_eq] at U
  obtain ⟨⟨⟨h3,h4⟩,⟨⟨⟨⟨h5,h6⟩,h7⟩,h8⟩,h9⟩⟩,yw⟩:=U
  exact ⟨ki,vi,hu,⟨h3,h5,h6,h7,h8,h9⟩,h4,yw⟩
 ·cases U
theorem JD {k v:Ty} {ki:TypeId} (K:C0 P k ki) {x:k.den} {xc:List Value} (hx:Ro P w A k x xc):∀ (es:List MapEntry) (m:List (k.den×v.den)) (i:Nat),vp P w A k v (es.map λe=>(e.key,e.val)) m ->
  (Instr.findAsking ki (bq k xc) es i).run P w=.ok ((m.findIdx? λy=>k.eq x y.1).bind λj=>(es[j]?).map λe=>(i+j,e.val)) w:=by
 intro es
 induction es with
 | nil=>
  simp_all [Instr.findAsking]
 | cons e es ih=>
  intro m i h
  cases m with
  | nil=>have:=h.1;simp at this
  | cons y m=>
   obtain ⟨kc,vc,h1,U,h3⟩:=h.2 0 y rfl
   simp only[List.map_cons,List.getElem?_cons_zero,Option.some.injEq,Prod.mk.injEq] at h1
   have heq:(Op.equal ki (bq k xc) (bq k kc)).run P w=.ok (k.eq x y.1) w:=(Mu (P:=P) (w:=w) (A:=A) k).1 ki Op.maxDepth x y.1 xc kc K.lay K.kN (by have:=K.dep;grind [Op.maxDepth]) hx U
   have im:vp P w A k v (es.map λe=>(e.key,e.val)) m:=⟨by have:=h.1;simpa using this,λj z hz=>by
    have:=h.2 (j+1) z (by simpa using hz)
    simpa using this⟩
   simp only[Instr.findAsking,Sem.run_bind,h1.1,heq,Result.andThen_ok,List.findIdx?_cons]
   cases hq:k.eq x y.1 with
   | true=>simp
   | false=>
    simp only[Bool.false_eq_true,if_false,ih m (i+1) im,Option.bind_map]
    congr 2
    grind
theorem JE {k:Ty} {ki:TypeId} (K:C0 P k ki):∃ d,P.underlying ki=some d/\∀ x y,Instr.sameNow d x y=none:=by
 have hl:=K.lay
 have ha:=K.agg
 have he:=K.gW
 cases k with
 | pair a b=>
  simp only[aC,Bool.and_eq_true] at hl
  have h3:=hl.2
  split at h3
  ·rename_i fs hu;exact ⟨_,hu,λ_ _=>rfl⟩
  ·cases h3
 | unit=>
  simp only[aC,Bool.and_eq_true] at hl
  have h3:=hl.2
  split at h3
  ·rename_i fs hu;exact ⟨_,hu,λ_ _=>rfl⟩
  ·cases h3
 | arr n e=>
  simp only[aC,Bool.and_eq_true] at hl
  have h3:=hl.2
  split at h3
  ·rename_i n' el hu;exact ⟨_,hu,λ_ _=>rfl⟩
  ·cases h3
 | _=>simp[isAgg] at ha
theorem Gz {k v:Ty} {ki:TypeId} (K:C0 P k ki) {x:k.den} {xc:List Value} (hx:Ro P w A k x xc) {es:List MapEntry} {m:List (k.den×v.den)} (h:vp P w A k v (es.map λe=>(e.key,e.val)) m) :
  (Instr.findKey ki (bq k xc) es).run P w=.ok ((m.findIdx? λy=>k.eq x y.1).bind λj=>(es[j]?).map λe=>(j,e.val)) w:=by
 obtain ⟨d,hu,hd⟩:=JE K
 have ha:=JD (v:=v) K hx es m 0 h
 simp only[Nat.zero_add] at ha
 unfold Instr.findKey
 simp only[Sem.run_bind,run_underlying hu,Result.andThen_ok]
 cases es <;> simp_all [Instr.findNow]
theorem w9 {k v:Ty} {m:Md} {y:List (k.den×v.den)} {cs:List Value} {F:FP} (h:ah P w A (.map k v) m [] y cs F) :
  k.flat=true/\v.flat=true/\∃ (r:Nat) (es:Array MapEntry) (clock:Nat),cs=[.map (some r)]/\w.heap[r]?=some (.map es clock)/\vp P w A k v (es.toList.map λe=>(e.key,e.val)) y/\(m.own=true->1<=F r 0):=by
 simp only[ah,hole,List.any_nil,Bool.false_eq_true,if_false] at h
 split at h
 ·rename_i hm
  obtain ⟨h1,U,r,mD,h3,h4,h5,h6,h7⟩:=h
  obtain ⟨es,clock,q1,q2⟩:=IW h4
  refine ⟨h1,U,r,es,clock,h3,q1,?_,λ_=>h5⟩
  have q2:(es.toList.map λe=>(e.key,e.val))=mD:=q2
  rw[q2]
  exact ⟨h6,h7⟩
 ·rename_i hm
  obtain ⟨_,_,h1,U,r,mD,h3,h4,h5,h6,h7⟩:=h
  obtain ⟨es,clock,q1,q2⟩:=IW h4
  refine ⟨h1,U,r,es,clock,h3,q1,?_,λe=>absurd e hm⟩
  have q2:(es.toList.map λe=>(e.key,e.val))=mD:=q2
  rw[q2]
  exact ⟨h6,h7⟩
theorem JF {α:Type} {k:Ty} (m:List (k.den×α)) (x:k.den):gm k m x=(m.findIdx? λe=>k.eq x e.1).bind λj=>(m[j]?).map (·.2):=by
 unfold gm
 induction m with
 | nil=>rfl
 | cons y m ih=>
  simp only[List.find?_cons,List.findIdx?_cons]
  cases hq:k.eq x y.1 with
  | true=>simp
  | false=>
   simp only[Bool.false_eq_true,if_false]
   rw[ih]
   cases m.findIdx? (λe=>k.eq x e.1) <;> simp
theorem K4 {v:Ty} {i:TypeId} (hz:Mp P v i=true) (hv:aC P v (.inl i)=true) {z:Value} {L:List Value} (h1:(zeroValue i).run P w=.ok z w) (U:z.cells.toList=L) (hl:L.length=v.sz):z=bq v L:=by
 obtain ⟨inf,i1,i2,i3,i4⟩:=eW (gq hv)
 unfold Mp at hz
 rw[i1] at hz
 simp only at hz
 cases Uy:inf.zero with
 | none=>grind
 | some z0=>
  have:z=z0:=by
   simp_all [zeroValue,typeInfo]
  subst this
  rw[Uy] at hz
  unfold bq
  cases ha:isAgg v with
  | true=>
   rw[ha] at hz
   cases z <;> simp at hz
   simp only[Value.cells] at U
   subst U
   simp
  | false=>
   grind [Value.cells]
theorem K5:∀ (t:Ty),t.gW=true->∀ {v1 v2:t.den} {jz bA:List Value},Ro P w A t v1 jz->Ro P w A t v2 bA->t.eq v1 v2=true->bA=jz:=by
 intro t
 induction t with
 | int k=>
  intro _ v1 v2 jz bA h1 U he
  simp only[Ro] at h1 U
  subst h1;subst U
  have:v1=v2:=by cases k <;> simpa [Ty.eq] using he
  rw[this]
 | bool=>
  grind [Ro,Ty.eq]
 | str=>
  grind [Ro,Ty.eq]
 | unit=>
  grind [Ro]
 | pair a b fQ fI=>
  intro hq v1 v2 jz bA h1 U he
  simp only[Ty.gW,Bool.and_eq_true] at hq
  simp only[Ty.eq,Bool.and_eq_true] at he
  have e1:=fQ hq.1 h1.1 U.1 he.1
  have e2:=fI hq.2 h1.2 U.2 he.2
  grind [List.take_append_drop]
 | arr n e ih=>
  intro hq v1 v2 jz bA h1 U he
  obtain ⟨_,l1,c1,r1⟩:=h1
  obtain ⟨_,l2,c2,r2⟩:=U
  refine List.ext_getElem (by omega) λj W2 W3=>?_
  have hs:0 < e.sz:=by
   grind
  have hi:j / e.sz < n:=by
   rw[Nat.div_lt_iff_lt_mul hs];omega
  have J:=r1 (j / e.sz) _ (List.getElem?_eq_getElem (by omega))
  have a2:=r2 (j / e.sz) _ (List.getElem?_eq_getElem (by omega))
  have z_:e.eq (v1[j / e.sz]'(by omega)) (v2[j / e.sz]'(by omega))=true:=by
   simp only[Ty.eq,List.all_eq_true] at he
   exact he (_,_) (List.mem_iff_getElem?.2 ⟨j / e.sz,by grind⟩)
  have h3:=ih hq J a2 z_
  have hm:=Nat.mod_lt j hs
  have hd:=Nat.div_add_mod j e.sz
  have h4:=congrArg (·[j % e.sz]?) h3
  grind
 | _=>grind [Ty.gW]
theorem HI {k v:Ty} {t:TypeId} (hl:aC P (.map k v) (.inl t)=true) (hz:v.oI=true) {x:k.den} {xc:List Value} (hx:Ro P w A k x xc) {r:Nat} {es:Array MapEntry} {clock:Nat} (hb:w.heap[r]?=some (.map es clock)) {y:List (k.den×v.den)}
  (he:vp P w A k v (es.toList.map λe=>(e.key,e.val)) y) (ok:Bool) :
  ∃ vc,Ro P w A v (yj (gm k y x) v.zero) vc/\(Instr.lookup t (.map (some r)) (bq k xc) ok).run P w=.ok (if ok then .tuple #[bq v vc,.bool (gm k y x).isSome] else bq v vc) w:=by
 obtain ⟨ki,vi,hu,K,hv,SX⟩:=Bu hl
 have hc:=(D0 (P:=P) (w:=w) (A:=A) k).1 ki 10000 es.isEmpty x xc K.lay K.kN (by have:=K.dep;omega) hx
 have hf:=Gz (v:=v) K hx he
 obtain ⟨L,hL⟩:=np v hz
 obtain ⟨z,Mx,DK⟩:=rf (P:=P) (w:=w) hv hL
 obtain ⟨r1,r2,r3⟩:=tr (P:=P) (w:=w) (A:=A) v hL hv
 rw[JF]
 cases D1:y.findIdx? (λe=>k.eq x e.1) with
 | none=>
  rw[D1] at hf
  simp only[Option.bind_none] at hf ⊢
  refine ⟨L,r2,?_⟩
  have Gu:z=bq v L:=K4 SX hv Mx DK r3
  cases ok <;> simp[Instr.lookup,run_underlying hu,MapKept.run_getObj_map hb,hc,hf,Mx,Gu]
 | some j=>
  rw[D1] at hf
  have hj:j < y.length:=(List.findIdx?_eq_some_iff_findIdx_eq.1 D1).1
  obtain ⟨kc,vc,g1,g2,g3⟩:=he.2 j y[j] (List.getElem?_eq_getElem hj)
  rw[List.getElem?_map] at g1
  cases RZ:es.toList[j]? with
  | none=>grind
  | some e=>
   rw[RZ] at g1
   simp only[Option.map_some,Option.some.injEq,Prod.mk.injEq] at g1
   simp only[RZ,Option.bind_some,Option.map_some,List.getElem?_eq_getElem hj] at hf ⊢
   refine ⟨vc,g3,?_⟩
   cases ok <;> simp[Instr.lookup,run_underlying hu,MapKept.run_getObj_map hb,hc,hf,g1.2]
end
section
variable {P:Program} {C:Ctx} {A:Cells} {X:FP} {σ:St} {a:Act} {w:World} {F:Nat->FP} {R:Type} {x:R} {Q:Exit->Act->World->Prop} {o:Oper} {E:Env}
theorem FE (h:bE P C A σ a w F) (fq:∀ i T,E.TI i=some T->aC P T (.inl i)=true) {t:Nat} (ho:o.op=.makeMap t none) {K:St->Option R}
  (hk:(jp E t λt=>match t with
  | .map k v=>if k.flat&&v.flat then K (σ.aQ o.dst (.own (.map k v) (ak (.map k v)) [] [])) else none
  | _=>none)=some x):o.wp P a w (λa' w'=>Nx P C K x a' w'/\Ext w w' (λ_ _=>0)) Q:=by
 obtain ⟨T,hT,hk⟩:=cG hk
 split at hk
 ·rename_i k v
  split at hk
  ·rename_i hc
   simp only[Bool.and_eq_true] at hc
   have eJ:(execOp a.eval o).run P w=.ok (.value (.map (some w.heap.size))) (w.alloc (.map #[] 0)):=by
    simp[execOp,ho,run_makeMap_plain]
   have cr:=ic w (.map #[] 0)
   have h1:Rel P C A (λb i=>0+bP w.heap.size 0 1 b i) σ a (w.alloc (.map #[] 0)) F:=by
    refine h.grow cr (λ_ _ h=>h) (λ_ _ h=>.inl h) (λb i=>?_)
    by_cases hb:b=w.heap.size
    ·subst hb
     right
     exact ⟨Nat.le_refl _,by simp,by grind [bP]⟩
    grind [bP]
   have rg:(w.alloc (.map #[] 0)).heap[w.heap.size]?=some (.map #[] 0):=heap_alloc_new w _
   refine h_ eJ ⟨jd h1 hk (Fd:=bP w.heap.size 0 1) ⟨_,(bL (.map k v) _ rfl).symm,?_⟩ (λb i=>by simp) (λ_ _ _ _ e=>by cases e),cr⟩
   simp only[ah,hole,List.any_nil,Bool.false_eq_true,if_false,ak,m_,Md.own,if_true]
   refine ⟨hc.1,hc.2,w.heap.size,[],rfl,?_,by simp[bP],rfl,λi y hy=>by cases hy⟩
   exact IX rg
  ·cases hk
 ·cases hk
theorem FF (h:bE P C A σ a w F) (fq:∀ i T,E.TI i=some T->aC P T (.inl i)=true) {t:Nat} {y z:Operand} {ok:Bool} (ho:o.op=.lookup t y z ok) (ao:bv P y=true/\bv P z=true) {K:St->Option R}
  (hk:Ba E σ t (bz σ y) (bz σ z) ok o.dst K=some x):o.wp P a w (λa' w'=>Nx P C K x a' w'/\Ext w w' (λ_ _=>0)) Q:=by
 unfold Ba at hk
 obtain ⟨T,hT,hk⟩:=cG hk
 have dx:=fq _ _ hT
 split at hk
 ·rename_i k v
  split at hk
  ·rename_i hz
   rcases cc h ao.1 with hs | ⟨xs,e⟩
   rotate_left
   ·grind
   rcases cc h ao.2 with ry | ⟨xs,e2⟩
   rotate_left
   ·exfalso
    rw[e2] at hk
    split at hk
    ·split at hk
     ·obtain ⟨_,_,_,_,_,_,_,_,h1,_⟩:=fk h hk
      grind [bh]
     ·cases hk
    ·cases hk
   split at hk
   ·rename_i r p snap hv
    rw[hv] at hs
    split at hk
    ·rename_i iA
     obtain ⟨hr,t',m',H',v',aS,bl,F',h1,gr,h3,h4,h5,h6⟩:=fk h hk
     split at h1
     ·rename_i hH
      have hH:=List.isEmpty_iff.1 hH
      subst hH
      obtain ⟨e1,h1⟩:=bh h1
      subst e1
      obtain ⟨pl,g1,g2,g3⟩:=hs.2 iA
      rw[h3] at g1
      injection g1 with g1
      subst g1
      obtain ⟨f1,f2,b,es,clock,q1,q2,q3,q4⟩:=w9 h4
      simp only at g2
      subst q1
      rw[bL (.map k v) _ rfl] at g2
      split at h1
      ·rename_i t2 ix R4
       rw[R4] at ry
       obtain ⟨e2,h1⟩:=bh h1
       subst e2
       obtain ⟨kc,zQ,f8⟩:=ry
       obtain ⟨vc,r1,r2⟩:=HI (P:=P) dx hz f8 q2 q3 ok
       have eJ:(execOp a.eval o).run P w=.ok (.value (if ok then .tuple #[bq v vc,.bool (gm t2 v' ix).isSome] else bq v vc)) w:=by
        simp_all [execOp]
       cases ok with
       | true=>
        simp only at h1
        refine h_ eJ ⟨aY h h1 ⟨#[bq v vc,.bool (gm t2 v' ix).isSome],λ_ _ _=>0,rfl,λb i=>by grind [f7],λj y hy=>?_⟩ (λ_ _ _ _ e=>by cases e),Ext.refl _ _⟩
        match j with
        | 0=>simp at hy;subst hy;exact ⟨_,rfl,.inr ⟨vc,rfl,Ro.rep v _ (cN v) r1⟩⟩
        | 1=>simp at hy;subst hy;exact ⟨_,rfl,.inr ⟨[.bool _],rfl,rfl⟩⟩
        | n+2=>simp at hy
       | false=>
        simp only at h1
        exact h_ eJ ⟨aY h h1 ⟨vc,rfl,r1⟩ (λ_ _ _ _ e=>by cases e),Ext.refl _ _⟩
      ·cases h1
     ·cases h1
    ·cases hk
   ·cases hk
  ·cases hk
 ·cases hk
theorem HJ {r:Nat} {es Aa:Array MapEntry} {clock uF:Nat} (hb:w.heap[r]?=some (.map es clock)):Ext w { w with heap:=w.heap.setIfInBounds r (.map Aa uF) } (bP r 0 1):=by
 have Uz:∀ b,b≠r->(w.heap.setIfInBounds r (.map Aa uF))[b]?=w.heap[b]?:=λb dI=>by grind
 refine ⟨by simp,λb i R5 hz u hu=>?_,λb n hn=>?_,λb i R5=>?_,rfl,rfl,rfl,λb R5 hz=>?_,Nat.le_refl _⟩
 ·grind [bP,ce,se]
 ·obtain ⟨c,e,fr,h1,U,h3⟩:=hn
  have UA:b≠r:=λe=>by grind
  exact ⟨c,e,fr,by grind,U,h3⟩
 ·grind [World.frozen?]
 ·have UA:b≠r:=λe=>by simp_all [bP]
  grind
theorem HK {k v:Ty} {t:TypeId} (hl:aC P (.map k v) (.inl t)=true) {x:k.den} {xc:List Value} (hx:Ro P w A k x xc) {z:v.den} {MJ:List Value} (W4:Ro P w A v z MJ) {r:Nat} {es:Array MapEntry} {clock:Nat} (hb:w.heap[r]?=some (.map es clock)) {y:List (k.den×v.den)}
  (he:vp P w A k v (es.toList.map λe=>(e.key,e.val)) y) :
  ∃ (Aa:Array MapEntry) (uF:Nat),(Instr.mapUpdate t (.map (some r)) (bq k xc) (bq v MJ)).run P w=.ok () { w with heap:=w.heap.setIfInBounds r (.map Aa uF) }/\vp P w A k v (Aa.toList.map λe=>(e.key,e.val)) (oY k y x z):=by
 obtain ⟨ki,vi,hu,K,hv,_⟩:=Bu hl
 have hc:=(D0 (P:=P) (w:=w) (A:=A) k).1 ki 10000 false x xc K.lay K.kN (by have:=K.dep;omega) hx
 have hf:=Gz (v:=v) K hx he
 unfold oY
 cases D1:y.findIdx? (λe=>k.eq x e.1) with
 | none=>
  rw[D1] at hf
  simp only[Option.bind_none] at hf ⊢
  refine ⟨es.push { key:=bq k xc,val:=bq v MJ,born:=clock },clock+1,?_,?_,λi q hq=>?_⟩
  ·simp[Instr.mapUpdate,run_underlying hu,MapKept.run_getObj_map hb,hc,hf,MapKept.run_setObj_map _ hb,Result.andThen]
  ·have:=he.1;grind
  ·have hlen:(es.toList.map λe=>(e.key,e.val)).length=y.length:=he.1
   rw[Array.toList_push,List.map_append]
   by_cases hi:i < y.length
   ·rw[List.getElem?_append_left hi] at hq
    rw[List.getElem?_append_left (by grind)]
    exact he.2 i q hq
   grind
 | some j=>
  rw[D1] at hf
  have UB:=List.findIdx?_eq_some_iff_findIdx_eq.1 D1
  have hj:j < y.length:=UB.1
  obtain ⟨kc,vc,g1,g2,g3⟩:=he.2 j y[j] (List.getElem?_eq_getElem hj)
  rw[List.getElem?_map] at g1
  have hlen:es.size=y.length:=by have:=he.1;simpa using this
  have oR:es.toList[j]?=some es[j]:=by simp[hlen,hj]
  rw[oR] at g1
  simp only[Option.map_some,Option.some.injEq,Prod.mk.injEq] at g1
  simp only[Option.bind_some] at hf ⊢
  rw[oR] at hf
  simp only[Option.map_some] at hf
  have SY:k.eq x (y[j]).1=true:=by
   grind
  have Wc:bq k kc=bq k xc:=by
   have:=K5 k K.gW hx g2 SY
   rw[this]
  have xY:(Instr.keyThatStays (bq k xc) (bq k xc)).run P w=.ok (bq k xc) w:=by
   simp[Instr.keyThatStays,JC K.agg K.gW hx]
  have pg:(es[j]?).map (·.key)=some (bq k xc):=by
   grind
  refine ⟨es.modify j λe=>{ e with key:=bq k xc,val:=bq v MJ },clock,?_,?_,λi q hq=>?_⟩
  ·simp[Instr.mapUpdate,run_underlying hu,MapKept.run_getObj_map hb,hc,hf,pg,xY,MapKept.run_setObj_map _ hb,Result.andThen]
  ·simp[hlen]
  ·rw[List.getElem?_set] at hq
   rw[List.getElem?_map,Array.getElem?_toList,Array.getElem?_modify]
   by_cases ng:j=i
   ·grind
   ·rw[if_neg ng] at hq ⊢
    have:=he.2 i q hq
    grind
theorem Bv (h:bE P C A σ a w F) (fq:∀ i T,E.TI i=some T->aC P T (.inl i)=true) {t:Nat} {y z u:Operand} (ho:o.op=.mapUpdate t y z u) (hd:o.dst=none) (ao:bv P y=true/\bv P z=true/\bv P u=true) {K:St->Option R}
  (hk:Bb E σ t (bz σ y) (bz σ z) (bz σ u) K=some x):o.wp P a w (Nx P C K x) Q:=by
 unfold Bb at hk
 obtain ⟨T,hT,hk⟩:=cG hk
 have dx:=fq _ _ hT
 split at hk
 ·rename_i k v
  rcases cc h ao.1 with hs | ⟨xs,e⟩
  rotate_left
  ·grind
  split at hk
  ·rename_i r p snap hv
   rw[hv] at hs
   split at hk
   ·rename_i iA
    obtain ⟨hr,t',m',H',v',aS,bl,F',h1,gr,h3,h4,h5,h6⟩:=fk h hk
    split at h1
    ·rename_i hH
     simp only[Bool.and_eq_true,List.isEmpty_iff] at hH
     obtain ⟨dj,hH⟩:=hH
     subst hH
     obtain ⟨e1,h1⟩:=bh h1
     subst e1
     obtain ⟨pl,g1,g2,g3⟩:=hs.2 iA
     rw[h3] at g1
     injection g1 with g1
     subst g1
     split at h1
     ·rename_i t2 ix t3 uv R4 W5
      have ry:bj P A σ a w (a.eval z) (.val t2 ix) (λ_ _=>0):=by
       grind [cc]
      have UC:bj P A σ a w (a.eval u) (.val t3 uv) (λ_ _=>0):=by
       grind [cc]
      obtain ⟨e2,h1⟩:=bh h1
      subst e2
      obtain ⟨e3,h1⟩:=bh h1
      subst e3
      obtain ⟨kc,zQ,f8⟩:=ry
      obtain ⟨uc,UD,GA⟩:=UC
      obtain ⟨hr,m2,H2,v2,bA,uD,F2,q1,q2,q3,q4,q5,q6⟩:=uC h h1
      obtain ⟨_,e2,e3,e4⟩:=At.inj ⟨gr⟩ q1
      subst e2;subst e3
      have e4:=eq_of_heq e4
      subst e4
      rw[h3] at q2
      injection q2 with q2
      injection q2 with W6 W7 UE UF
      subst UE;subst UF
      have dw:=q3
      obtain ⟨f1,f2,b,es,clock,b1,b2,b3,b4⟩:=w9 q3
      have b4:=b4 dj
      simp only at g2
      subst b1
      rw[bL (.map t2 t3) _ rfl] at g2
      obtain ⟨Aa,uF,r1,r2⟩:=HK (P:=P) dx f8 GA b2 b3
      generalize tA:({ w with heap:=w.heap.setIfInBounds b (.map Aa uF) }:World)=w2 at r1
      have cr:Ext w w2 (bP b 0 1):=by grind [HJ]
      have yq:∀ b i,F r b i<=1:=λb i=>by have:=h.iQ b i;grind [bu]
      have eJ:(execOp a.eval o).run P w=.ok .skip w2:=by
       simp[execOp,ho,g2,zQ,UD,r1]
      refine DE eJ hd ?_
      have hA:∀ b' i,A b' i->∀ u,ce w b' i=some u->ce w2 b' i=some u:=λb' i ha u hu=>by
       refine cr.cell b' i (h.eI b' i (.inr ha)) ?_ u hu
       rcases Nat.eq_zero_or_pos (bP b 0 1 b' i) with h0 | h0
       ·exact h0
       ·have:b'=b/\i=0:=by
         grind [bP]
        obtain ⟨rfl,rfl⟩:=this
        exact absurd ha (h.jr b' 0 (by grind [bu]))
      have rg:ce w2 b 0=some (u7 (entriesOf Aa)):=by
       grind [IX]
      have xV:ah P w2 A (.map t2 t3) m' [] (oY t2 v' ix uv) [.map (some b)] F2:=by
       simp only[ah,hole,List.any_nil,Bool.false_eq_true,if_false,dj,if_true]
       refine ⟨f1,f2,b,entriesOf Aa,rfl,rg,b4,r2.1,λi q hq=>?_⟩
       obtain ⟨UG,UH,j1,j2,j3⟩:=r2.2 i q hq
       exact ⟨UG,UH,j1,Ro.mono hA (λ_ _ h=>h) t2 j2,Ro.mono hA (λ_ _ h=>h) t3 j3⟩
      have wo:∀ b' i,bP b 0 1 b' i<=F2 b' i:=λb' i=>by
       grind [bP]
      have pk:∀ b' o',bl=some (b',o')->Has w2 b' o' [.map (some b)]:=λb' o' ea j u hu=>by
       have UI:=(q5 b' o' ea).1 j u hu
       have hj:=(List.getElem?_eq_some_iff.1 hu).1
       have UJ:j=0:=by simpa using hj
       subst UJ
       have U:=q4 b' (o'+0);have h4:=wo b' (o'+0);have h5:=yq b' (o'+0);have h7:=bu F hr b' (o'+0)
       have h6:eV bl (Ty.map t2 t3).sz b' (o'+0)=1:=by
        grind [eV,bP,Ty.sz]
       exact cr.cell _ _ (h.eI b' (o'+0) (.inl (by grind))) (by omega) u UI
      obtain ⟨A3,tt,Fr,n1,n2,n3,n4,n5⟩:=q6 w2 A [.map (some b)] F2 (λ_ _=>0) (cr.mono λb' i hz=>by
        grind) (λ_ _ h=>h) (λ_ _ h=>.inl h) (λb i=>by omega) pk (λ_=>rfl) xV
      refine ⟨_,n1,A3,_,n5 oV (qt (h.fG r)) (wL (h.fG r)) rfl λp' snap hb ao hlen=>?_⟩
      have h5:=yQ (h.fG r) hb ao
      refine ⟨bD p'+1,False,by omega,λ_=>.inl (by omega),λ_=>by omega,?_⟩
      intro q pl hq hp
      grind [aJ]
     ·cases h1
    ·cases h1
   ·cases hk
  ·cases hk
 ·cases hk
theorem FG (h:bE P C A σ a w F) (fq:∀ i T,E.TI i=some T->aC P T (.inl i)=true) {t:Nat} {y:Operand} (ho:o.op=.call { callee:=.builtin .len,args:=#[y],argTypes:=#[t] }) (ao:bv P y=true) {K:St->Option R}
  (hk:Bc E σ t (bz σ y) (λn=>K (σ.aQ o.dst (.val (.int .i64) (n:Int))))=some x):o.wp P a w (Nx P C K x) Q:=by
 unfold Bc at hk
 obtain ⟨T,hT,hk⟩:=cG hk
 have dx:=fq _ _ hT
 split at hk
 ·rename_i k v
  rcases cc h ao with hs | ⟨xs,e⟩
  rotate_left
  ·grind
  split at hk
  ·rename_i r p snap hv
   rw[hv] at hs
   split at hk
   ·rename_i iA
    obtain ⟨hr,t',m',H',v',aS,bl,F',h1,gr,h3,h4,h5,h6⟩:=fk h hk
    split at h1
    ·rename_i hH
     have hH:=List.isEmpty_iff.1 hH
     subst hH
     obtain ⟨e1,h1⟩:=bh h1
     subst e1
     obtain ⟨pl,g1,g2,g3⟩:=hs.2 iA
     rw[h3] at g1
     injection g1 with g1
     subst g1
     obtain ⟨f1,f2,b,es,clock,q1,q2,q3,q4⟩:=w9 h4
     simp only at g2
     subst q1
     rw[bL (.map k v) _ rfl] at g2
     obtain ⟨ki,vi,hu,_,_,_⟩:=Bu dx
     have hlen:es.size=List.length v':=by have:=q3.1;simpa using this
     have eJ:(execOp a.eval o).run P w=.ok (.value (.int .i64 ((List.length v':Nat):Int))) w:=by
      rw[sx ho]
      simp[Builtin.len_,g2,run_underlying hu,MapKept.run_getObj_map q2,goInt,hlen]
     exact h_ eJ (aY h h1 ⟨[.int .i64 _],rfl,rfl⟩ (λ_ _ _ _ e=>by cases e))
    ·cases h1
   ·cases hk
  ·cases hk
 ·cases hk
end
end OT
set_option linter.unusedVariables false
set_option linter.unusedSimpArgs false
namespace OT
open Go
structure lI (P:Program) (E:Env):Prop where
 ti:∀ i T,E.TI i=some T->aC P T (.inl i)=true
 eq:Mv P E
 fn:∀ f g,E.G f=some g->Sound P f g/\oO P f g.cap
def HL (P:Program) (t:TypeId):Bool:=match P.underlying t with
 | some (.slice _)=>true
 | some .string=>true
 | _=>false
theorem Ab {P:Program} {t:TypeId} (h:HL P t=true):(∃ e',P.underlying t=some (.slice e'))\/P.underlying t=some .string:=by
 grind [HL]
def D2 (P:Program) (c:Call):Bool:=match c.callee with
 | .builtin .append | .builtin .copy=>match c.argTypes.toList with
  | [_,tx]=>HL P tx
  | _=>false
 | _=>true
def kA (P:Program):Op->Bool
 | .move x | .assign x | .nilCheck x | .box _ x | .load _ x | .unOp _ _ x | .convert _ _ x | .fieldAddr _ x _ | .field _ x _=>bv P x
 | .pick c a b=>bv P c&&bv P a&&bv P b
 | .mapUpdate _ m k v=>bv P m&&bv P k&&bv P v
 | .lookup _ a x _ | .store _ a x | .binOp _ _ a x _ | .indexAddr _ a x | .index _ a x | .makeSlice _ a x=>bv P a&&bv P x
 | .build _ ps | .buildSlice _ _ ps=>ps.toList.all λp=>bv P p.2
 | .slice _ x lo hi _=>bv P x&&lo.all (bv P)&&hi.all (bv P)
 | .makeFunc (.func f) _ cs=>(P.funcs[f]?).any λfn=>fn.nfree == cs.size
 | .call c=>c.args.toList.all (bv P)&&D2 P c
 | _=>true
section
variable {P:Program} {C:Ctx} {A:Cells} {X:FP} {σ:St} {a:Act} {w:World} {F:Nat->FP} {R:Type} {x:R} {Q:Exit->Act->World->Prop} {o:Oper} {E:Env}
theorem qO {α:Type} {l:Array α} {m:List α} (h:l.toList=m):l=m.toArray:=by grind
def nY (E:Env):Op->Bool
 | .move _ | .assign _ | .pick .. | .build .. | .load .. | .nilCheck _ | .binOp .. | .unOp .. | .fieldAddr .. | .field .. | .indexAddr .. | .index .. | .slice .. | .extract .. | .makeFunc ..=>true
 | .convert _ t _=>match E.TI t with
  | some T=>T.flat
  | none=>false
 | .call c=>match c.callee with
  | .builtin .len=>match c.argTypes.toList with
   | [t]=>!IT (E.TI t)
   | _=>false
  | _=>false
 | _=>false
theorem C3 (hE:lI P E) (h:bE P C A σ a w F) {cQ i:Nat} (bk:kA P o.op=true) (jx:nY E o.op=true) {K:St->Option R} (hk:kI E cQ i o σ K=some x):Tk P o a w (Nx P C K x):=by
 unfold kI at hk
 cases ho:o.op with
 | move y=>rw[ho] at hk bk;exact Jd h ho bk hk
 | assign y=>rw[ho] at hk bk;exact Fy h ho bk hk
 | pick c y z=>
  grind [kA,Je]
 | build t ps=>rw[ho] at hk bk;exact HB h hE.ti ho bk hk
 | load t y=>rw[ho] at hk bk;exact Hq h hE.ti ho bk hk
 | nilCheck y=>rw[ho] at hk bk;exact CI h ho bk hk
 | binOp op t y z t2=>
  rw[ho] at hk bk
  simp only[kA,Bool.and_eq_true] at bk
  exact Hy h hE.ti hE.eq ho bk hk
 | unOp op t y=>
  rw[ho] at hk bk
  refine Jk h ho bk (K:=K) ?_
  grind
 | convert s t y=>
  rw[ho] at hk bk jx
  refine DL h hE.ti ho bk (λT hT=>?_) hk
  grind [nY]
 | fieldAddr t y j=>rw[ho] at hk bk;exact Bl h hE.ti ho bk hk
 | field t y j=>rw[ho] at hk bk;exact Hv h hE.ti ho bk hk
 | indexAddr t y z=>
  rw[ho] at hk bk
  simp only[kA,Bool.and_eq_true] at bk
  exact Bm h hE.ti ho bk hk
 | index t y z=>
  rw[ho] at hk bk
  simp only[kA,Bool.and_eq_true] at bk
  exact Hw h hE.ti ho bk hk
 | slice t y lo hi mx=>
  rw[ho] at hk bk
  cases mx with
  | none=>
   simp only[kA,Bool.and_eq_true] at bk
   refine Hx h hE.ti ho ⟨bk.1.1,λz hz=>?_,λz hz=>?_⟩ hk
   all_goals grind
  | some m=>cases hk
 | extract y j=>
  grind [DM]
 | makeFunc fn first cs=>
  rw[ho] at hk bk
  cases fn with
  | func f=>exact CM h ho bk hk
  | _=>cases hk
 | call c=>
  rw[ho] at hk bk jx
  simp only[kA,Bool.and_eq_true] at bk
  obtain ⟨fX,hc⟩:=bk
  obtain ⟨callee,args,ts⟩:=c
  cases callee with
  | builtin b=>
   cases b with
   | len=>
    simp only at hk
    split at hk
    ·rename_i y t h1 U
     have e1:=qO h1;have e2:=qO U
     subst e1;subst e2
     simp only[List.all_cons,Bool.and_eq_true] at fX
     simp only[nY,Bool.not_eq_true'] at jx
     rw[jx] at hk
     exact KV h hE.ti ho fX.1 hk
    ·cases hk
   | _=>grind [nY]
  | _=>grind [nY]
 | _=>grind [nY]
def quiet (E:Env):Op->Bool
 | .alloc _ | .box .. | .buildSlice .. | .makeSlice .. | .convert .. | .makeMap .. | .lookup ..=>true
 | .call c=>match c.callee with
  | .value (.func f)=>match E.G f with
   | some g=>pu g.ps
   | none=>false
  | _=>false
 | _=>false
theorem JG (hE:lI P E) (h:bE P C A σ a w F) {cQ i:Nat} (bk:kA P o.op=true) (jx:nY E o.op=false) {K:St->Option R} (hk:kI E cQ i o σ K=some x) :
  o.wp P a w (λa' w'=>Nx P C K x a' w'/\(quiet E o.op=true->Ext w w' (λ_ _=>0))) Q:=by
 have wq:∀ {N:Act->World->Prop},o.wp P a w (λa' w'=>N a' w'/\Ext w w' (λ_ _=>0)) Q->o.wp P a w (λa' w'=>N a' w'/\(quiet E o.op=true->Ext w w' (λ_ _=>0))) Q:=λh=>Oper.wp_mono (λa' w' h=>⟨h.1,λ_=>h.2⟩) h
 have wn:∀ {N:Act->World->Prop},quiet E o.op=false->o.wp P a w N Q->o.wp P a w (λa' w'=>N a' w'/\(quiet E o.op=true->Ext w w' (λ_ _=>0))) Q:=λhq h=>Oper.wp_mono (λa' w' h=>⟨h,λe=>by grind⟩) h
 unfold kI at hk
 cases ho:o.op with
 | alloc t=>rw[ho] at hk;rw[<-ho];exact wq (Jn h hE.ti ho hk)
 | box t y=>rw[ho] at hk bk;rw[<-ho];exact wq (NI h ho bk hk)
 | buildSlice t n ps=>rw[ho] at hk bk;rw[<-ho];exact wq (Br h hE.ti ho bk hk)
 | store t y z=>
  rw[ho] at hk bk
  simp only[kA,Bool.and_eq_true] at bk
  rw[<-ho]
  refine wn (by rw[ho];rfl) ?_
  cases hd:o.dst with
  | none=>rw[hd] at hk;exact Hs h hE.ti ho hd bk hk
  | some d=>grind
 | convert s t y=>rw[ho] at hk bk;rw[<-ho];exact wq (Fx h hE.ti ho bk hk)
 | makeMap t rv=>
  rw[ho] at hk
  rw[<-ho]
  cases rv with
  | none=>exact wq (FE h hE.ti ho hk)
  | some _=>cases hk
 | lookup t y z ok=>
  rw[ho] at hk bk
  simp only[kA,Bool.and_eq_true] at bk
  rw[<-ho]
  exact wq (FF h hE.ti ho bk hk)
 | mapUpdate t y z u=>
  rw[ho] at hk bk
  simp only[kA,Bool.and_eq_true] at bk
  rw[<-ho]
  refine wn (by rw[ho];rfl) ?_
  cases hd:o.dst with
  | none=>rw[hd] at hk;exact Bv h hE.ti ho hd ⟨bk.1.1,bk.1.2,bk.2⟩ hk
  | some d=>grind
 | makeSlice t y z=>
  rw[ho] at hk bk
  simp only[kA,Bool.and_eq_true] at bk
  rw[<-ho]
  exact wq (CK h hE.ti ho bk hk)
 | call c=>
  rw[ho] at hk bk jx
  simp only[kA,Bool.and_eq_true] at bk
  obtain ⟨fX,hc⟩:=bk
  obtain ⟨callee,args,ts⟩:=c
  rw[<-ho]
  cases callee with
  | builtin b=>
   cases b with
   | len=>
    simp only at hk
    split at hk
    ·rename_i y t h1 U
     have e1:=qO h1;have e2:=qO U
     subst e1;subst e2
     simp only[List.all_cons,Bool.and_eq_true] at fX
     simp only[nY,Bool.not_eq_false'] at jx
     rw[jx] at hk
     exact wn (by rw[ho];rfl) (FG h hE.ti ho fX.1 hk)
    ·cases hk
   | append=>
    simp only at hk
    split at hk
    ·rename_i y z t UK h1 U
     have e1:=qO h1
     subst e1
     simp only[D2] at hc
     split at hc
     ·rename_i t0 tx h3
      rw[h3] at U
      injection U with U h4
      subst U
      have e2:=qO h3
      subst e2
      simp only[List.all_cons,Bool.and_eq_true] at fX
      exact wn (by rw[ho];rfl) (step_append h hE.ti ho ⟨fX.1,fX.2.1⟩ (Ab hc) hk)
     ·cases hc
    ·cases hk
   | copy=>
    simp only at hk
    split at hk
    ·rename_i y z t UK h1 U
     have e1:=qO h1
     subst e1
     simp only[D2] at hc
     split at hc
     ·rename_i t0 tx h3
      rw[h3] at U
      injection U with U h4
      subst U
      have e2:=qO h3
      subst e2
      simp only[List.all_cons,Bool.and_eq_true] at fX
      exact wn (by rw[ho];rfl) (Ju h hE.ti ho ⟨fX.1,fX.2.1⟩ (Ab hc) hk)
     ·cases hc
    ·cases hk
   | _=>cases hk
  | value y=>
   cases y with
   | func f=>
    simp only at hk
    split at hk
    ·rename_i g hg
     split at hk
     ·rename_i jF
      obtain ⟨h1,U⟩:=hE.fn f g hg
      rw[jF] at U
      refine Oper.wp_mono (λa' w' h=>⟨h.1,λe=>h.2 ?_⟩) (FA h ho fX h1 U hk)
      grind [quiet]
     ·cases hk
    ·cases hk
   | tmp i=>
    refine wn (by rw[ho];rfl) ?_
    simp only at hk
    split at hk
    ·rename_i f n fJ
     split at hk
     ·rename_i g hg
      obtain ⟨h1,U⟩:=hE.fn f g hg
      refine Oper.wp_mono (λa' w' h=>h.1) (FB h ho fX fJ h1 U (K:=K) (x:=x) ?_)
      grind
     ·cases hk
    ·cases hk
   | _=>cases hk
  | _=>cases hk
 | _=>grind [nY]
theorem NR (hE:lI P E) (h:bE P C A σ a w F) {cQ i:Nat} (bk:kA P o.op=true) {K:St->Option R} (hk:kI E cQ i o σ K=some x):o.wp P a w (Nx P C K x) Q:=by
 cases jx:nY E o.op with
 | true=>exact (C3 hE h bk jx hk).wp
 | false=>grind [Oper.wp_mono,JG]
end
end OT
set_option linter.unusedVariables false
set_option linter.unusedSimpArgs false
namespace OT
open Go
noncomputable def HM (e:Ty):Operand->Option e.den
 | .const v=>match l5 v with
  | .val t y=>if h:t=e then some (h ▸ y) else none
  | _=>none
 | _=>none
noncomputable def vq (e:Ty):List (Nat×Operand)->Nat->Option (List e.den)
 | [],_=>some []
 | (j,x)::ps,n=>if Nat.beq j n then (match HM e x,vq e ps (n+1) with
  | some y,some ys=>some (y::ys)
  | _,_=>none) else none
noncomputable def qP (E:Env):Op->Option Slot
 | .alloc t=>match E.TI t with
  | some T=>if T.oI then some (.box T (ak T) [] T.zero) else none
  | none=>none
 | .buildSlice t n ps=>match E.TI t with
  | some (.ae e)=>if Nat.beq n ps.size&&e.oI&&Nat.ble (n*e.sz) 16777216&&(Nat.beq n 0||decide (aw e=ak e)) then (vq e ps.toList 0).map λvs=>.own (.ae e) (.ae true (ak e)) [] vs else none
  | _=>none
 | _=>none
section
variable {P:Program} {C:Ctx} {A:Cells} {X:FP} {σ:St} {a:Act} {w:World} {F:Nat->FP} {R:Type} {x:R} {Q:Exit->Act->World->Prop} {o:Oper} {E:Env}
theorem B9 {e:Ty} {y:Operand} {v:e.den} (h:HM e y=some v):∃ c,y=.const c/\l5 c=.val e v:=by
 unfold HM at h
 split at h
 ·rename_i c
  split at h
  ·rename_i t y he
   split at h
   ·rename_i UL
    subst UL
    injection h with h
    exact ⟨c,rfl,by rw[he,<- h]⟩
   ·cases h
  ·cases h
 ·cases h
theorem B_ {e:Ty} {j n:Nat} {y:Operand} {ps:List (Nat×Operand)} {vs:List e.den} (h:vq e ((j,y)::ps) n=some vs):j=n/\∃ v ys,HM e y=some v/\vq e ps (n+1)=some ys/\vs=v::ys:=by
 simp only[vq] at h
 split at h
 ·rename_i hj
  split at h
  ·rename_i v ys h1 U
   injection h with h
   exact ⟨Nat.eq_of_beq_eq_true hj,v,ys,h1,U,h.symm⟩
  ·cases h
 ·cases h
theorem D3 {e:Ty} {fz:Nat->Bool} {m:Md} {K:Md->List e.den->St->Option R}:∀ (ps:List (Nat×Operand)) {n:Nat} {vs acc:List e.den},(ps=[]\/aw e=m)->vq e ps n=some vs->wB σ e fz ps n m acc K=K m (acc++vs) σ
 | [],n,vs,acc,_,h=>by
  injection h with h
  rw[<-h,List.append_nil]
  rfl
 | (j,y)::ps,n,vs,acc,hm,h=>by
  obtain ⟨hj,v,ys,h1,U,rfl⟩:=B_ h
  obtain ⟨c,rfl,hc⟩:=B9 h1
  have hm:aw e=m:=hm.resolve_left (by simp)
  have:=D3 (fz:=fz) (m:=m) (K:=K) (acc:=acc++[v]) ps (.inr hm) U
  simp only[wB]
  rw[hj,Nat.beq_refl,if_pos rfl]
  show fR σ (l5 c) _ e _=_
  rw[hc]
  simp only[fR,dJ,dite_true]
  rw[if_pos hm,this,List.append_assoc]
  rfl
theorem GB (h:Rel P C A X σ a w F) {e:Ty}:∀ (ps:List (Nat×Operand)) {n:Nat} {L Z:List Value} {vs:List e.den},L.length=n*e.sz->Z.length=ps.length*e.sz->vq e ps n=some vs ->
  ∃ L':List Value,vs.length=ps.length/\L'.length=ps.length*e.sz/\(∀ (i:Nat) (y:e.den),vs[i]?=some y->Ro P w A e y ((L'.drop (i*e.sz)).take e.sz))/\Instr.fill (λi=>some (i*e.sz,e.sz)) (L++Z).toArray (ps.map λp=>(p.1,a.eval p.2))=some (L++L').toArray
 | [],n,L,Z,vs,hL,hZ,hc=>by
  injection hc with hc
  subst hc
  have:Z=[]:=by simpa using hZ
  subst this
  exact ⟨[],rfl,by simp,λi y hy=>(by cases hy),by simp[Instr.fill]⟩
 | (j,y)::ps,n,L,Z,vs,hL,hZ,hc=>by
  obtain ⟨hj,v,ys,h1,U,rfl⟩:=B_ hc
  subst hj
  obtain ⟨c,rfl,mX⟩:=B9 h1
  have hs:=cc (P:=P) h (o:=.const c) rfl
  have ho:bz σ (.const c)=.val e v:=mX
  rw[ho] at hs
  rcases hs with ⟨cs,k1,k2⟩ | ⟨xs,e'⟩
  rotate_left
  ·cases e'
  have rx:=Ro.length _ k2
  have Js:Z.length=e.sz+ps.length*e.sz:=by rw[hZ,List.length_cons,Nat.succ_mul,Nat.add_comm]
  obtain ⟨L',g1,g2,g3,g4⟩:=GB h ps (n:=j+1) (L:=L++cs) (Z:=Z.drop e.sz) (by rw[List.length_append,hL,rx,Nat.succ_mul]) (by rw[List.length_drop,Js];omega) U
  refine ⟨cs++L',by simp[g1],by rw[List.length_append,rx,g2,List.length_cons,Nat.succ_mul,Nat.add_comm],λi z hz=>?_,?_⟩
  ·cases i with
   | zero=>
    injection hz with hz
    subst hz
    rw[Nat.zero_mul,List.drop_zero,List.take_append_of_le_length (Nat.le_of_eq rx.symm),List.take_of_length_le (Nat.le_of_eq rx)]
    exact k2
   | succ i=>
    have hz:ys[i]?=some z:=by simpa using hz
    rw[Nat.succ_mul,Nat.add_comm,<- rx,List.drop_length_add_append,rx]
    exact g3 i z hz
  ·rw[List.map_cons,k1,tw (pl:=λi=>some (i*e.sz,e.sz)) rfl rx (eH rx (Ro.one _ k2)) (by simp[hL,Js])]
   have e1:(L++Z).take (j*e.sz)=L:=by rw[<-hL,List.take_left]
   have e2:(L++Z).drop (j*e.sz+e.sz)=Z.drop e.sz:=by rw[<-hL,List.drop_length_add_append]
   rw[e1,e2,g4,List.append_assoc]
theorem K6 {s:Slot} (hs:qP E o.op=some s) {cQ i:Nat} {K:St->Option R}:kI E cQ i o σ K=K (σ.aQ o.dst s):=by
 unfold qP at hs
 split at hs
 ·grind [kI,jp]
 ·rename_i t n ps ho
  unfold kI
  simp only[ho]
  split at hs
  ·rename_i e hT
   simp only[jp,hT]
   split at hs
   ·rename_i hc
    simp only[Bool.and_eq_true,Bool.or_eq_true,decide_eq_true_eq] at hc
    obtain ⟨⟨⟨h1,U⟩,h3⟩,h4⟩:=hc
    rw[h1,U,h3]
    obtain ⟨vs,hv,hs⟩:=Option.map_eq_some_iff.1 hs
    have:=D3 (σ:=σ) (fz:=G5 E.fz cQ i) (m:=ak e) (K:=λm v σ=>K (σ.aQ o.dst (.own (.ae e) (.ae true m) [] v))) (acc:=[]) ps.toList (h4.imp (λh=>by
     have h0:=Nat.eq_of_beq_eq_true h
     have h5:=Nat.eq_of_beq_eq_true h1
     exact List.eq_nil_of_length_eq_zero (by rw[Array.length_toList];omega)) id) hv
    simp only[Bool.and_self,if_true]
    rw[this,<- hs]
    rfl
   ·cases hs
  ·cases hs
 ·cases hs
theorem JH {N:Act->World->Prop} (hh:o.wp P a w N Q):o.wp P a w (λa' w'=>(∀ d,o.dst≠some d->tmp a' d=tmp a d)/\N a' w') Q:=by
 have key:∀ (a0:Act) v,a0.tmps=a.tmps->∀ d,o.dst≠some d->tmp (a0.put o.dst v) d=tmp a d:=λa0 v h0 d hd=>by
  unfold tmp Act.put
  cases ho:o.dst <;> simp_all
 unfold Oper.wp at *
 generalize (execOp a.eval o).run P w=r at *
 simp_all [Oper.upon]
theorem Ca {d:Nat} (h:Be σ d=true):d < σ.n/\σ.get d=.dead/\(∀ k,(d,k,false) ∉ σ.aF)/\∀ r p snap,(d,r,p,snap) ∉ σ.gh:=by
 unfold Be at h
 simp only[Bool.and_eq_true,Bool.not_eq_true',Nat.blt_eq] at h
 obtain ⟨⟨⟨h1,U⟩,h3⟩,h4⟩:=h
 refine ⟨h1,?_,λk hm=>?_,λr p snap hm=>?_⟩
 ·grind
 ·revert h3 hm
  generalize σ.aF=l
  induction l with
  | nil=>grind
  | cons e l ih=>
   obtain ⟨k1,n1,b1⟩:=e
   simp_all [uV]
 ·rw[List.any_eq_false] at h4
  exact h4 _ hm (by simp)
theorem Rel.tmp (h:Rel P C A X σ a w F) {d:Nat} (hp:Be σ d=true) (v:Value):Rel P C A X σ (a.put (some d) v) w F:=by
 obtain ⟨hd,hg,hl,Mk⟩:=Ca hp
 have gn:=h.size
 have ht:∀ i,i≠d->OT.tmp (a.put (some d) v) i=OT.tmp a i:=λi hi=>by
  grind [hK]
 have dh:∀ r p,place σ (a.put (some d) v) w r p=place σ a w r p:=λr p=>by
  unfold place
  by_cases hr:r=d
  ·subst hr;rw[hg];rfl
  ·rw[ht r hr]
 have gJ:qb σ a w σ (a.put (some d) v) w:=λr p snap hb=>⟨hb,λao=>⟨ao,λ_ pl hp=>⟨pl.H,pl.cs,by simp_all,λ_=>rfl⟩⟩⟩
 refine { h with size:=by simp[Act.put,gn],defers:=by simpa [Act.put] using h.defers,cY:=λi hi=>?_,gh:=λd' r p snap hm=>?_,il:=λj k hm=>?_,whole:=λr t m H v' hr hk=>?_,gC:=λj k hm R hR=>?_ }
 ·by_cases Cb:i=d
  ·subst Cb;rw[hg];trivial
  ·rw[ht i Cb]
   exact bj.ge gJ (λ_ _ h=>h) (λ_ _ _ _ h=>h) (λ_ _ h=>h) (λ_ _ _=>⟨λ_ h=>h,rfl⟩) (h.cY i hi)
 ·rw[ht d' (λe=>by grind)]
  exact kw.ge gJ (h.gh d' r p snap hm)
 ·rw[ht j (λe=>by grind)]
  exact h.il j k hm
 ·rw[ht r (λe=>by grind)]
  exact h.whole r t m H v' hr hk
 ·have:j≠d:=λe=>by subst e;rw[hg] at hR;cases hR
  rw[ht j this] at hR
  exact h.gC j k hm R hR
def PS (P:Program) (A:Cells) (w:World) (tv:Value):Slot->FP->Prop
 | .own t m H v,F=>∃ cs,tv=bq t cs/\ah P w A t m H v cs F
 | .box t m H v,F=>∃ b L F1,tv=.pointer (some ⟨b,0,none⟩)/\L.length=t.sz/\Has w b 0 L/\(∀ j,j < t.sz->w.frozen? ⟨b,j,none⟩=false) /\
   (∀ x i,bP b 0 t.sz x i+F1 x i<=F x i)/\ah P w A t m H v L F1/\dg w b (t.sz,false)
 | _,_=>False
theorem PS.slot {tv:Value} {s:Slot} {G:FP} (h:PS P A w tv s G):bj P A σ a w tv s G:=by
 cases s with
 | own t m H v=>exact h
 | box t m H v=>
  obtain ⟨b,L,F1,h1,U,h3,h4,h5,h6,h7⟩:=h
  exact ⟨b,0,L,F1,h1,U,h3,λj hj=>by grind,h5,h6⟩
 | _=>exact h.elim
theorem PS.whole {tv:Value} {s:Slot} {G:FP} (h:PS P A w tv s G):∀ t m H v',s=.box t m H v'->∃ b,tv=.pointer (some ⟨b,0,none⟩)/\dg w b (t.sz,false):=by
 rintro t m H v rfl
 obtain ⟨b,L,F1,h1,U,h3,h4,h5,h6,h7⟩:=h
 grind
theorem PS.ge {A':Cells} {w':World} {tv:Value} {s:Slot} {G:FP} (hA:∀ b i,A b i->A' b i) (hc:∀ b i,A b i->∀ u,ce w b i=some u->ce w' b i=some u) (hb:∀ b n,dg w b n->dg w' b n)
  (hF:∀ b i,1<=G b i->(∀ u,ce w b i=some u->ce w' b i=some u)/\w'.frozen? ⟨b,i,none⟩=w.frozen? ⟨b,i,none⟩) (h:PS P A w tv s G):PS P A' w' tv s G:=by
 cases s with
 | own t m H v=>obtain ⟨cs,h1,U⟩:=h;exact ⟨cs,h1,ah.mono hA hc hb t U (λ_ _=>Nat.le_refl _) (λb i hp=>(hF b i hp).1)⟩
 | box t m H v=>
  obtain ⟨b,L,F1,h1,U,h3,h4,h5,h6,h7⟩:=h
  have hr:∀ j,j < t.sz->1<=G b j:=λj hj=>by
   grind [bP]
  exact ⟨b,L,F1,h1,U,λj u hu=>(hF _ _ (by grind)).1 u (h3 j u hu),λj hj=>by grind,h5,
   ah.mono hA hc hb t h6 (λ_ _=>Nat.le_refl _) (λb i hp=>(hF b i (by grind)).1),hb _ _ h7⟩
 | _=>exact h.elim
def PF (P:Program) (E:Env) (ops:Array Oper) (A:Cells) (a:Act) (w:World):List Nat->FP->Prop
 | [],_=>True
 | j::D,X=>∃ (o:Oper) (d:Nat) (s:Slot) (Fj X':FP),ops[j]?=some o/\o.dst=some d/\qP E o.op=some s/\PS P A w (tmp a d) s Fj/\(∀ b i,X' b i+Fj b i<=X b i)/\PF P E ops A a w D X'
theorem PF.ge {ops:Array Oper} {A':Cells} {a':Act} {w':World} (hA:∀ b i,A b i->A' b i) (hc:∀ b i,A b i->∀ u,ce w b i=some u->ce w' b i=some u) (hb:∀ b n,dg w b n->dg w' b n) :
  ∀ (D:List Nat) {X:FP},(∀ j ∈ D,∀ o d,ops[j]?=some o->o.dst=some d->tmp a' d=tmp a d)->(∀ b i,1<=X b i->(∀ u,ce w b i=some u->ce w' b i=some u)/\w'.frozen? ⟨b,i,none⟩=w.frozen? ⟨b,i,none⟩) ->
   PF P E ops A a w D X->PF P E ops A' a' w' D X
 | [],_,_,_,_=>trivial
 | j::D,X,ht,hF,h=>by
  obtain ⟨o,d,s,Fj,X',h1,U,h3,h4,h5,h6⟩:=h
  exact ⟨o,d,s,Fj,X',h1,U,h3,by
   rw[ht j (by simp) o d h1 U]
   exact PS.ge hA hc hb (λb i hp=>hF b i (by have:=h5 b i;omega)) h4,h5,PF.ge hA hc hb D (λk hk=>ht k (by simp[hk])) (λb i hp=>hF b i (by have:=h5 b i;omega)) h6⟩
theorem PF.grow {ops:Array Oper}:∀ (D:List Nat) {X X1:FP},(∀ b i,X b i<=X1 b i)->PF P E ops A a w D X->PF P E ops A a w D X1
 | [],_,_,_,_=>trivial
 | j::D,X,X1,hx,h=>by
  obtain ⟨o,d,s,Fj,X',h1,U,h3,h4,h5,h6⟩:=h
  exact ⟨o,d,s,Fj,X',h1,U,h3,h4,λb i=>Nat.le_trans (h5 b i) (hx b i),h6⟩
theorem PF.take {ops:Array Oper} {j:Nat}:∀ (D:List Nat) {X:FP},j ∈ D->PF P E ops A a w D X ->
  ∃ (o:Oper) (d:Nat) (s:Slot) (Fj X':FP),ops[j]?=some o/\o.dst=some d/\qP E o.op=some s/\PS P A w (tmp a d) s Fj/\(∀ b i,X' b i+Fj b i<=X b i)/\PF P E ops A a w (D.erase j) X'
 | [],_,hj,_=>by cases hj
 | k::D,X,hj,h=>by
  by_cases tC:k=j
  ·subst tC
   rw[List.erase_cons_head]
   exact h
  ·have rt:j ∈ D:=by
    rcases List.mem_cons.1 hj with e | e
    ·exact absurd e.symm tC
    ·exact e
   obtain ⟨o,d,s,Fk,X1,h1,U,h3,h4,h5,h6⟩:=h
   obtain ⟨o',d',s',Fj,X2,g1,g2,g3,g4,g5,g6⟩:=PF.take D rt h6
   rw[List.erase_cons_tail (by simpa using tC)]
   exact ⟨o',d',s',Fj,λb i=>X2 b i+Fk b i,g1,g2,g3,g4,λb i=>by have:=g5 b i;have:=h5 b i;show X2 b i+Fk b i+Fj b i<=X b i;omega,o,d,s,Fk,X2,h1,U,h3,h4,λb i=>Nat.le_refl _,g6⟩
theorem K7 (h:Rel P C A X σ a w F) (fq:∀ i T,E.TI i=some T->aC P T (.inl i)=true) {s:Slot} (hs:qP E o.op=some s) {d:Nat} (hp:Be σ d=true) :
  ∃ (v:Value) (w':World) (Fj:FP),(execOp a.eval o).run P w=.ok (.value v) w'/\Ext w w' (λ_ _=>0)/\Rel P C A (λb i=>X b i+Fj b i) σ (a.put (some d) v) w' F/\PS P A w' v s Fj:=by
 unfold qP at hs
 split at hs
 ·rename_i t ho
  split at hs
  ·rename_i T hT
   split at hs
   ·rename_i Jo
    injection hs with hs
    subst hs
    have dx:=fq _ _ hT
    obtain ⟨L,hL⟩:=np T Jo
    obtain ⟨z,Mx,DK⟩:=rf (P:=P) (w:=w) dx hL
    obtain ⟨r1,r2,r3⟩:=tr (P:=P) (w:=w) (A:=A) T hL dx
    have hc:z.cells=L.toArray:=by grind
    have h1:=h.alloc L.toArray t (0,0)
    have dj:=tu w L.toArray t (0,0) false (.inr (Nat.le_refl _))
    have R6:L.length=T.sz:=ah.length T r1
    simp only[List.size_toArray,R6] at dj h1
    have p5:=ah.alloc h r1 (λb i hp=>by simp at hp) (ic w (.cells L.toArray t))
    refine ⟨.pointer (some ⟨w.heap.size,0,none⟩),w.alloc (.cells L.toArray t),bP w.heap.size 0 T.sz,?_,ic w _,h1.tmp hp _,w.heap.size,L,(λ_ _=>0),rfl,R6,qJ w L.toArray t (0,0) (λj u hu=>by simpa using hu) (ah.one _ r1),λj hj=>dj.frozen hj,λ_ _=>Nat.le_refl _,p5,dj⟩
    simp_all [execOp,Instr.alloc,newVar,newRow]
   ·cases hs
  ·cases hs
 ·rename_i t n ps ho
  split at hs
  ·rename_i e hT
   split at hs
   ·rename_i hc
    obtain ⟨vs,hv,hs⟩:=Option.map_eq_some_iff.1 hs
    subst hs
    simp only[Bool.and_eq_true,Bool.or_eq_true,decide_eq_true_eq,Nat.beq_eq,Nat.ble_eq] at hc
    obtain ⟨⟨⟨hn,hz⟩,jF⟩,h4⟩:=hc
    have hl:=fq _ _ hT
    simp only[aC,Bool.and_eq_true] at hl
    have U:=hl.2
    split at U
    ·rename_i el hu
     simp only[Bool.and_eq_true,Nat.ble_eq] at U
     obtain ⟨gn,kX⟩:=U
     obtain ⟨Lz,Jt⟩:=np e hz
     obtain ⟨r1,r2,r3⟩:=tr (P:=P) (w:=w) (A:=A) _ Jt kX
     obtain ⟨inf,i1,i2,i3,i4⟩:=eW (gq kX)
     obtain ⟨z,z1,z2⟩:=i4 Lz Jt
     have Uk:z.cells.size=e.sz:=by grind
     have zV:ps.toList.length=n:=by simpa using hn.symm
     obtain ⟨L',g1,g2,g3,g4⟩:=GB h ps.toList (n:=0) (L:=[]) (Z:=((Array.range (n*e.sz)).map (z.cells[· % z.cells.size]!)).toList) (by simp) (by simp[hn]) hv
     simp only[List.nil_append,Array.toArray_toList] at g4
     rw[zV] at g1 g2
     have eJ:(execOp a.eval o).run P w=.ok (.value (.slice (some ⟨w.heap.size,0,none⟩) n n)) (w.alloc (.cells L'.toArray el)):=by
      by_cases zW:n*e.sz=0
      ·have:n=0:=by rcases Nat.mul_eq_zero.1 zW with h | h <;> omega
       subst this
       have po:ps=#[]:=by grind
       subst po
       have Gg:L'=[]:=by simpa using g2
       subst Gg
       simp[execOp,ho,Instr.buildSlice,run_underlying hu,Go.sizeOf,typeInfo,i1,Instr.fill,newRow,show Array.range 0=#[] from rfl]
      simp_all [run_buildSlice,execOp]
     have wP:=h.alloc L'.toArray el (0,0)
     have dj:=tu w L'.toArray el (0,0) (Bf e) (.inr (Nat.le_refl _))
     have UM:L'.toArray.size=n*e.sz:=by simpa using g2
     rw[UM] at dj wP
     have K8:n<=maxLen:=by simp only[maxLen];have:=Nat.le_mul_of_pos_right n gn;omega
     refine ⟨_,_,λb i=>bP w.heap.size 0 (n*e.sz) b i+aA n (λ_ _ _=>0) b i,eJ,ic w _,?_,?_⟩
     ·refine (wP.less (λb i=>?_)).tmp hp _
      simp[f7]
     ·refine ⟨_,(bL (.ae e) _ rfl).symm,?_⟩
      simp only[ah,hole,List.any_nil,Bool.false_eq_true,if_false,Md.own,if_true,Md.e]
      refine ⟨_,n,by rw[g1],by rw[g1];exact Nat.le_refl _,K8,(λe=>by cases e),λad ey=>?_⟩
      injection ey with ey;subst ey
      refine ⟨rfl,rfl,dj,λ_ _ _=>0,λb i=>by rw[g1];exact Nat.le_refl _,λi y hy=>?_⟩
      have hi:=(List.getElem?_eq_some_iff.1 hy).1
      have nl:=g3 i y hy
      have hm:aw e=ak e:=h4.resolve_left (by omega)
      refine ⟨_,Ro.length _ nl,qJ w L'.toArray el (0,0) (λj u hu=>?_) (Ro.one _ nl),?_⟩
      ·grind
      ·simp only[List.filterMap_nil]
       exact ah.alloc h (Ro.rep e (λ_ _=>0) (by rw[<-hm];exact cN _) nl) (λb k hp=>by simp at hp) (ic w _)
    ·cases U
   ·cases hs
  ·cases hs
 ·cases hs
theorem Rel.NS (h:Rel P C A X σ a w F):∃ C':Ctx,C'.w0=w/\C'.A0=A/\(∀ b i,A b i->C'.F0 b i=0)/\Rel P C' A X σ a w F/\(∀ {A2:Cells} {X2:FP} {fS:St} {a2:Act} {w2:World} {F2:Nat->FP},Rel P C' A2 X2 fS a2 w2 F2->Rel P C A2 X2 fS a2 w2 F2):=by
 refine ⟨⟨w,A,λb i=>X b i+aA σ.n F b i,C.args⟩,rfl,rfl,λb i ha=>?_,?_,λ{A2 X2 fS a2 w2 F2} U=>?_⟩
 ·show X b i+aA σ.n F b i=0
  rcases Nat.eq_zero_or_pos (X b i+aA σ.n F b i) with h0 | h0
  ·exact h0
  ·exact absurd ha (h.jr b i h0)
 ·exact { h with ext:=Ext.refl _ _,own:=λb i hp=>.inl hp,a0:=λ_ _ h=>h,J:=λ_ _ h=>.inl h,il:=h.il,gC:=h.gC,o_:=h.vg λb i hp=>hp }
 ·have gn:C.w0.heap.size<=w.heap.size:=h.ext.size
  refine { U with ext:=h.ext.trans U.ext (λb i hb hz=>?_),own:=λb i hp=>?_,a0:=λb i ha=>U.a0 b i (h.a0 b i ha),J:=λb i ha=>?_,il:=U.il,gC:=U.gC,o_:=h.o_ }
  ·show X b i+aA σ.n F b i=0
   rcases Nat.eq_zero_or_pos (X b i+aA σ.n F b i) with h0 | h0
   ·exact h0
   ·rcases h.own b i h0 with h1 | h1 <;> omega
  ·rcases U.own b i hp with h1 | h1
   ·exact h.own b i h1
   grind
  ·rcases U.J b i ha with h1 | h1 | h1
   ·exact h.J b i h1
   ·exact .inr (h.own b i h1)
   grind
theorem Rel.frame (h:Rel P C A X σ a w F):∃ C1:Ctx,bE P C1 A σ a w F/\∀ {A2:Cells} {fS:St} {a2:Act} {w2:World} {F2:Nat->FP},bE P C1 A2 fS a2 w2 F2->Rel P C A2 X fS a2 w2 F2 /\
  (∀ b i,A b i->A2 b i)/\(∀ b i,A b i->∀ u,ce w b i=some u->ce w2 b i=some u)/\(∀ b n,dg w b n->dg w2 b n)/\(∀ b i,1<=X b i->(∀ u,ce w b i=some u->ce w2 b i=some u)/\w2.frozen? ⟨b,i,none⟩=w.frozen? ⟨b,i,none⟩):=by
 have UN:∀ b i,1<=X b i->aA σ.n F b i=0:=λb i hp=>by have:=h.iQ b i;omega
 have O5:∀ b i,1<=X b i->b < w.heap.size:=λb i hp=>h.eI b i (.inl (by omega))
 refine ⟨⟨w,A,aA σ.n F,C.args⟩,?_,λ{A2 fS a2 w2 F2} U=>⟨?_,U.a0,λb i ha u hu=>?_,U.ext.pZ,λb i hp=>⟨λu hu=>U.ext.cell b i (O5 b i hp) (UN b i hp) u hu,U.ext.qZ b i (O5 b i hp)⟩⟩⟩
 ·exact { h with
   iQ:=λb i=>by have:=h.iQ b i;grind
   jr:=λb i hp=>h.jr b i (by grind)
   eI:=λb i hp=>h.eI b i (hp.imp (λhp=>by grind) id)
   ext:=Ext.refl _ _
   own:=λb i hp=>.inl (by grind)
   a0:=λ_ _ h=>h,J:=λ_ _ h=>.inl h,il:=h.il,gC:=h.gC,o_:=h.vg λb i hp=>by grind }
 ·have gn:C.w0.heap.size<=w.heap.size:=h.ext.size
  have D4:∀ b i,1<=X b i->aA fS.n F2 b i=0:=λb i hp=>by
   rcases Nat.eq_zero_or_pos (aA fS.n F2 b i) with h0 | h0
   ·exact h0
   ·rcases U.own b i (by grind) with h1 | h1
    all_goals grind
  have dj:∀ b i,1<=aA σ.n F b i->1<=C.F0 b i\/C.w0.heap.size<=b:=λb i hp=>h.own b i (by omega)
  refine { U with iQ:=λb i=>?_,jr:=λb i hp=>?_,eI:=λb i hp=>?_,ext:=h.ext.trans U.ext (λb i hb hz=>?_),own:=λb i hp=>?_,a0:=λb i ha=>U.a0 b i (h.a0 b i ha),J:=λb i ha=>?_,il:=U.il,gC:=U.gC,o_:=h.o_ }
  ·have h1:0+aA fS.n F2 b i<=1:=U.iQ b i
   have:=D4 b i
   have:=h.iQ b i
   omega
  ·by_cases hx:1<=X b i
   ·intro ha
    rcases U.J b i ha with h1 | h1 | h1
    ·exact h.jr b i (by omega) h1
    all_goals grind
   ·exact U.jr b i (by grind)
  ·by_cases hx:1<=X b i
   ·exact Nat.lt_of_lt_of_le (O5 b i hx) U.ext.size
   ·exact U.eI b i (hp.imp (λhp=>by grind) id)
  ·grind
  ·by_cases hx:1<=X b i
   ·exact h.own b i (by omega)
   ·rcases U.own b i (by grind) with h1 | h1
    all_goals grind
  ·rcases U.J b i ha with h1 | h1 | h1
   ·exact h.J b i h1
   all_goals grind
 ·refine U.ext.cell b i (oy hu) ?_ u hu
  show aA σ.n F b i=0
  rcases Nat.eq_zero_or_pos (aA σ.n F b i) with h0 | h0
  ·exact h0
  ·exact absurd ha (h.jr b i (by omega))
end
end OT
set_option linter.unusedVariables false
set_option linter.unusedSimpArgs false
namespace OT
open Go
section
variable {P:Program} {C:Ctx} {A:Cells} {X:FP} {σ:St} {a:Act} {w:World} {F:Nat->FP} {R:Type} {x:R} {Q:Exit->Act->World->Prop} {o:Oper} {E:Env}
theorem Rel.congr (h:Rel P C A X σ a w F) {σ':St} (hn:σ'.n=σ.n) (hg:∀ i,σ'.get i=σ.get i) (hv:∀ i,σ'.eR i=σ.eR i) (hl:∀ e,e ∈ σ'.aF↔e ∈ σ.aF) (Mk:∀ e,e ∈ σ'.gh->e ∈ σ.gh):Rel P C A X σ' a w F:=by
 have gJ:qb σ a w σ' a w:=λr p snap hb=>⟨by rw[hv];exact hb,λao=>by
  unfold St.ok at ao ⊢
  rw[hv] at ao
  exact ⟨ao,λ_ pl dh=>⟨pl.H,pl.cs,by unfold place at dh ⊢;rw[hg];exact dh,λ_=>rfl⟩⟩⟩
 refine ⟨by rw[hn];exact h.size,h.defers,λi hi=>?_,λd r p snap hm=>kw.ge gJ (h.gh d r p snap (Mk _ hm)),λb i=>by rw[hn];exact h.iQ b i,λb i hp=>by rw[hn] at hp;exact h.jr b i hp,λb i hp=>by rw[hn] at hp;exact h.eI b i hp,
  λi=>by rw[hv];exact h.fG i,h.ext,λb i hp=>by rw[hn] at hp;exact h.own b i hp,h.a0,h.J,λj k hm=>h.il j k ((hl _).1 hm),λr t m H v hr hk=>?_,λj k hm R hR=>?_,h.o_⟩
 ·rw[hg]
  exact bj.ge gJ (λ_ _ h=>h) (λ_ _ _ _ h=>h) (λ_ _ h=>h) (λ_ _ _=>⟨λ_ h=>h,rfl⟩) (h.cY i (by rw[<-hn];exact hi))
 ·rw[hg] at hr
  exact h.whole r t m H v hr λk hm=>hk k ((hl _).2 hm)
 ·rw[hg] at hR
  exact h.gC j k ((hl _).1 hm) R hR
theorem Rel.same (h:Rel P C A X σ a w F) {t:Nat} {s:Slot} (hs:σ.get t=s):Rel P C A X (σ.eF t s) a w F:=
 h.congr rfl (λi=>by
  rw[xU]
  split
  ·rename_i hc;rw[<-hs,hc.1]
  ·rfl) (λi=>rfl) (λe=>Iff.rfl) (λe he=>he)
theorem D5 (h:Rel P C A X σ a w F) {ops:Array Oper} {o:Oper} {K:Bool->St->Option R} (hk:wC ops.toList σ o.guard K=some x):∃ (b:Bool) (σ':St),K b σ'=some x/\Rel P C A X σ' a w F/\Region.wanted o (yielded ops a.tmps)=b:=by
 unfold wC at hk
 split at hk
 ·rename_i hg;exact ⟨true,σ,hk,h,by simp[Region.wanted,hg]⟩
 ·rename_i j want hg
  split at hk
  ·cases hk
  ·rename_i t ht
   rw[Array.getElem?_toList] at ht
   have hy:∀ v,tmp a t=v->t < σ.n->yielded ops a.tmps j=match v with | .bool b=>some b | _=>none:=λv hv wl=>by
    have av:t < a.tmps.size:=by rw[h.size];exact wl
    unfold yielded
    rw[ht]
    have:a.tmps[t]?=some v:=by rw[Array.getElem?_eq_getElem av,<- hv];simp[tmp,av]
    simp only[Option.bind_some,this]
    cases v <;> rfl
   have av:∀ s,σ.get t=s->s≠.dead->t < σ.n:=λs hs dI=>by
    rcases Nat.lt_or_ge t σ.n with hi | hi
    ·exact hi
    ·rw[fL (Nat.not_lt.2 hi)] at hs;exact absurd hs.symm dI
   split at hk
   ·rename_i b D6
    have wl:=av _ D6 (by intro e;cases e)
    have hs:=h.cY t wl
    rw[D6] at hs
    have hv:=DH hs
    have GC:=hy _ hv wl
    simp only at GC
    cases b with
    | true=>exact ⟨_,_,hk,Rel.same h D6,by simp only[Region.wanted,hg,GC];cases want <;> rfl⟩
    | false=>exact ⟨_,_,hk,Rel.same h D6,by simp only[Region.wanted,hg,GC];cases want <;> rfl⟩
   ·rename_i D6
    have wl:=av _ D6 (by intro e;cases e)
    have hs:=h.cY t wl
    rw[D6] at hs
    obtain ⟨vs,Fi,h1,_⟩:=hs
    have GC:=hy _ h1 wl
    simp only at GC
    exact ⟨false,σ,hk,h,by simp only[Region.wanted,hg,GC];cases want <;> rfl⟩
   ·cases hk
theorem Bw (h:Rel P C A X σ a w F) (o:Oper):∃ F',Rel P C A X (σ.aQ o.dst (.kM [])) (a.put o.dst undef) w F':=
 h.aQ o.dst (s:=.kM []) (v:=undef) (Fd:=λ_ _=>0) (X':=X) ⟨#[],λ_ _ _=>0,rfl,λb i=>by simp[aA],λj y hy=>by cases hy⟩ (λb i=>Nat.le_refl _) (λ_ _ _ _ e=>by cases e)
theorem O6 (hE:lI P E) {cQ:Nat} {ops:Array Oper} (bk:∀ o ∈ ops.toList,kA P o.op=true) {K:St->Option R} (hQ:∀ a w,Nx P C K x a w->Q .normal a w) :
  ∀ (rest:List Oper) (i:Nat) {σ:St} {A:Cells} {a:Act} {w:World} {F:Nat->FP},ops.toList.drop i=rest->bE P C A σ a w F->Bd E cQ ops.toList rest i σ K=some x->wpOps P ops Q (List.range' i rest.length) a w:=by
 intro rest
 induction rest with
 | nil=>intro i σ A a w F hd h hk;exact hQ a w ⟨σ,hk,A,F,h⟩
 | cons o rest ih=>
  intro i σ A a w F hd h hk
  have hi:ops[i]?=some o:=by
   have:(ops.toList.drop i)[0]?=some o:=by rw[hd];rfl
   rw[List.getElem?_drop] at this
   simpa using this
  have lN:ops.toList.drop (i+1)=rest:=by rw[<-List.drop_drop,hd];rfl
  have rh:o ∈ ops.toList:=List.mem_of_getElem? (i:=i) (by simpa using hi)
  simp only[Bd] at hk
  obtain ⟨b,iq,hk,h1,hw⟩:=D5 h hk
  show wpOps P ops Q (i::List.range' (i+1) rest.length) a w
  simp only[wpOps,hi,hw]
  cases b with
  | true=>
   simp only[if_true]
   refine .inl (Oper.wp_mono (λa' w' hn=>?_) (NR hE h1 (bk o rh) hk))
   obtain ⟨fS,f8,A2,F2,U⟩:=hn
   exact ih (i+1) lN U f8
  | false=>
   simp only[Bool.false_eq_true,if_false]
   obtain ⟨F2,U⟩:=Bw h1 o
   exact ih (i+1) lN U hk
theorem JI (hE:lI P E) {cQ id:Nat} {ops:Array Oper} (bk:∀ o ∈ ops.toList,kA P o.op=true) (h:bE P C A σ a w F) {K:St->Option R} (hk:Bd E cQ ops.toList ops.toList 0 σ K=some x) (hQ:∀ a w,Nx P C K x a w->Q .normal a w) :
  (Code.region id ops false).wp P Q a w:=by
 refine wp_region ?_
 have:=O6 hE bk hQ ops.toList 0 (by simp) h hk
 simpa [List.range_eq_range'] using this
def ns (P:Program) (md:Region.Mode) (ops:Array Oper) (Q:Exit->Act->World->Prop) (S:Array Bool->World->Prop):Nat->Array Bool->Act->World->Prop
 | 0,fb,a,w=>Region.ready md ops fb=[]/\Q .normal a w
 | fuel+1,fb,a,w=>
  (Region.ready md ops fb=[]->Q .normal a w) /\
  ∀ i ∈ Region.ready md ops fb,wpOp P ops Q i (λa' w'=>S (fb.setIfInBounds i true) w'/\ns P md ops Q S fuel (fb.setIfInBounds i true) a' w') a w
theorem Ac {md:Region.Mode} {ops:Array Oper} {S:Array Bool->World->Prop}:∀ (fuel:Nat) (fb:Array Bool) (a:Act) (w:World),ns P md ops Q S fuel fb a w->wpAny P md ops Q fuel fb a w
 | 0,_,_,_,h=>h
 | fuel+1,_,_,_,h=>⟨h.1,λi hi=>wpOp_mono (λa' w' h'=>Ac fuel _ a' w' h'.2) (h.2 i hi)⟩
def uG (md:Region.Mode) (ops:Array Oper) (l:Array Bool):Prop:=∀ j o,ops[j]?=some o->l.getD j false=true->∀ e ∈ o.after,Region.binds md e=true->l.getD e.on false=true
theorem vt {md:Region.Mode} {ops:Array Oper} {l:Array Bool} (h:uG md ops l) {j:Nat} (hj:j ∈ Region.ready md ops l):uG md ops (l.setIfInBounds j true):=by
 obtain ⟨_,oj,Ad,mf⟩:=mem_ready.1 hj
 intro k o hk hl e he hb
 by_cases tC:j=k
 ·subst tC
  rw[Ad] at hk
  injection hk with hk
  subst hk
  exact getD_set_true (mf e he hb)
 ·rw[getD_set_ne false tC] at hl
  exact getD_set_true (h k o hk hl e he hb)
def SU (md:Region.Mode) (ops:Array Oper) (S:Array Bool->World->Prop) (i:Nat):World->Prop:=λw'=>∃ l,uG md ops l/\l.getD i true=false/\S l w'
theorem pv {md:Region.Mode} {ops:Array Oper} {S:Array Bool->World->Prop} {i:Nat} {oi:Oper} {v:Value} (hi:ops[i]?=some oi) (vu:∀ (j:Nat) (o:Oper) cs b,ops[j]?=some o->o.op≠.select cs b)
  (hQ:∀ c a w,Q (.panic c) (a.put oi.dst v) w->Q (.panic c) a w) (hS:∀ l w,S (l.setIfInBounds i true) w↔S l w) :
  ∀ (fuel:Nat) (fb:Array Bool) (a:Act) (w:World),
   (∀ j oj,ops[j]?=some oj->j≠i->fb.getD j true=false->(∀ e ∈ oj.after,Region.binds md e=true->e.on≠i)->oi.apart ops oj=true) ->
   i ∈ Region.ready md ops fb->uG md ops fb->YieldsIf P ops (SU md ops S i) oi v a->S fb w ->
   ns P md ops Q S fuel (fb.setIfInBounds i true) (a.put oi.dst v) w->ns P md ops Q S (fuel+1) fb a w:=by
 intro fuel
 induction fuel with
 | zero=>
  intro fb a w _ hr hc hy hs H
  have lQ:fb.getD i true=false:=(mem_ready.1 hr).1
  refine ⟨λh=>(by rw[h] at hr;cases hr),λj hj=>?_⟩
  by_cases hJ:j=i
  ·subst hJ;exact hy.wpOp hi ⟨fb,hc,lQ,hs⟩ ⟨(hS _ _).2 hs,H⟩
  ·have:=ready_mono hj hJ
   rw[H.1] at this
   cases this
 | succ fuel ih=>
  intro fb a w C4 hr hc hy hs H
  have lQ:fb.getD i true=false:=(mem_ready.1 hr).1
  refine ⟨λh=>(by rw[h] at hr;cases hr),λj hj=>?_⟩
  by_cases hJ:j=i
  ·subst hJ;exact hy.wpOp hi ⟨fb,hc,lQ,hs⟩ ⟨(hS _ _).2 hs,H⟩
  ·have h1:=H.2 j (ready_mono hj hJ)
   obtain ⟨O7,oj,Ad,mf⟩:=mem_ready.1 hj
   have O8:∀ e ∈ oj.after,Region.binds md e=true->e.on≠i:=λe he hb heq=>by
    have h1:=mf e he hb
    have h0:=(mem_ready.1 hr).1
    rw[heq] at h1
    rcases Nat.lt_or_ge i fb.size with h' | h'
    ·simp[h'] at h0 h1;rw[h0] at h1;cases h1
    ·simp[Array.getElem?_eq_none h'] at h1
   have U:=wpOp_putIf Ad (C4 j oj Ad hJ O7 O8) (λcs b=>vu i oi cs b hi) (λcs b=>vu j oj cs b Ad) hQ hy h1
   have O9:∀ k ok,ops[k]?=some ok->k≠i->(fb.setIfInBounds j true).getD k true=false ->
     (∀ e ∈ ok.after,Region.binds md e=true->e.on≠i)->oi.apart ops ok=true:=λk ok hk UO lQ iz=>by
    refine C4 k ok hk UO ?_ iz
    by_cases R7:j=k
    ·subst R7;exact O7
    ·rw[getD_set_ne true R7] at lQ;exact lQ
   refine wpOp_mono (λa' w' h3=>?_) U
   have h4:=h3.2.1
   have h5:=h3.2.2
   rw[Array.setIfInBounds_comm _ _ (Ne.symm hJ)] at h4 h5
   have h6:=(hS _ _).1 h4
   exact ⟨h6,ih (fb.setIfInBounds j true) a' w' O9 (ready_mono hr (Ne.symm hJ)) (vt hc hj) h3.1 h6 h5⟩
def Cc (ops:Array Oper):Nat->Nat->Nat->Bool
 | 0,_,_=>false
 | n+1,d,i=>match ops[d]? with
  | some o=>o.after.toList.any λe=>Region.binds .any e&&(Nat.beq e.on i||Cc ops n e.on i)
  | none=>false
theorem nJ {ops:Array Oper} {l:Array Bool} (h:uG .any ops l):∀ (n d i:Nat),Cc ops n d i=true->l.getD d false=true->l.getD i false=true
 | 0,_,_,ha,_=>by cases ha
 | n+1,d,i,ha,hd=>by
  simp only[Cc] at ha
  split at ha
  ·rename_i o ho
   obtain ⟨e,he,hb⟩:=List.any_eq_true.1 ha
   simp only[Bool.and_eq_true,Bool.or_eq_true,Nat.beq_eq] at hb
   have hl:=h d o ho hd e (by simpa using he) hb.1
   rcases hb.2 with hb | hb
   ·rw[<-hb];exact hl
   ·exact nJ h n e.on i hb hl
  ·cases ha
def jA (E:Env) (ops:Array Oper) (d:Nat):Bool:=match ops[d]? with
 | some o=>!nY E o.op&&!quiet E o.op
 | none=>false
def tD (l:Array Bool):List Nat->Array Bool
 | []=>l
 | j::js=>tD (l.setIfInBounds j true) js
def sC (E:Env) (cQ:Nat) (ops:Array Oper) (pd:List Nat):List Nat->Array Bool->Bool->Bool
 | [],l,_=>(Region.ready .any ops l).isEmpty
 | i::is,l,f=>match ops[i]? with
  | none=>false
  | some o=>
   match pd.any (Nat.beq i) with
   | true=>!is.any (Nat.beq i)&&(Region.ready .any ops l).contains i&&(Region.ready .any ops (tD l (pd.filter λj=>!Nat.beq i j))).all (λj=>pd.any (Nat.beq j))&&sC E cQ ops pd is (l.setIfInBounds i true) f
   | false=>
   match nY E o.op&&(Region.free .any ops l i&&(Region.ready .any ops l).contains i&&(!reads o.op||Dq E cQ i||Ha E cQ i||(f&&(List.range ops.size).all λd=>!jA E ops d||Cc ops ops.size d i))) with
   | true=>sC E cQ ops pd is (l.setIfInBounds i true) f
   | false=>(Region.ready .any ops l).contains i&&(Region.ready .any ops (tD l pd)).all (Nat.beq i)&&sC E cQ ops pd is (l.setIfInBounds i true) false
noncomputable def w_ (E:Env) (ops:Array Oper) (pd:List Nat):Bool:=pd.all λj=>match ops[j]? with
 | some o=>(match o.guard with
  | none=>true
  | some _=>false)&&(qP E o.op).isSome&&(match o.dst with
   | some d=>(List.range ops.size).all λk=>Nat.beq k j||(match ops[k]? with
    | some o'=>(match o'.dst with
     | some d'=>!Nat.beq d' d
     | none=>true)
    | none=>true)
   | none=>false)
 | none=>false
def Ae:List Nat->Bool
 | []=>true
 | i::is=>!is.any (Nat.beq i)&&Ae is
noncomputable def sD (E:Env) (ops:Array Oper) (pd:List Nat) (er:List (Nat×Nat)):Bool:=er.all λe=>!pd.any (Nat.beq e.1)&&(Nat.ble ops.size e.2||(jA E ops e.2&&!pd.any (Nat.beq e.2)&&Cc ops ops.size e.2 e.1))&&(match ops[e.1]? with
 | some o=>(match o.guard with
  | none=>true
  | some _=>false)&&(match o.op,o.dst with
   | .load _ (.tmp x),some d=>!Nat.beq x d&&(List.range ops.size).all λk=>Nat.beq k e.1||(match ops[k]? with
    | some o'=>(match o'.dst with
     | some d'=>!Nat.beq d' d&&(!Nat.beq d' x||Cc ops ops.size e.1 k)
     | none=>true)
    | none=>true)
   | _,_=>false)
 | none=>false)
noncomputable def D7 (E:Env) (cQ:Nat) (ops:Array Oper) (is:List Nat):Bool:=
 Region.noSelect ops&&Nat.ble is.length ops.size&&(w_ E ops (g_ E.pd cQ)&&(g_ E.pd cQ).all λj=>is.any (Nat.beq j))&&(Ae is&&(List.range ops.size).all (λk=>is.any (Nat.beq k))&&sD E ops (g_ E.pd cQ) (zA E.er cQ))&&sC E cQ ops (g_ E.pd cQ) is (Array.replicate ops.size false) (match g_ E.pd cQ with
  | []=>true
  | _::_=>false)
theorem MK {K:St->Option R}:∀ (is:List Nat) {σ:St} {A:Cells} {F:Nat->FP},bE P C A σ a w F->Gb σ is K=some x->∃ (A':Cells) (σ':St) (F':Nat->FP),K σ'=some x/\bE P C A' σ' a w F':=by
 intro is
 induction is with
 | nil=>intro σ A F h hk;exact ⟨A,σ,F,hk,h⟩
 | cons i is ih=>
  intro σ A F h hk
  simp only[Gb] at hk
  split at hk
  ·rename_i t m H v hg
   split at hk
   ·rename_i hc
    simp only[Bool.and_eq_true,List.isEmpty_iff] at hc
    obtain ⟨hH,sA⟩:=hc
    subst hH
    obtain ⟨A1,F1,_,h1,_,_⟩:=Jw h hg
    exact ih h1 hk
   ·cases hk
  ·cases hk
theorem Rel.O_ (h:bE P C A σ a w F):∃ C':Ctx,C'.w0=w/\C'.A0=A/\(∀ b i,A b i->C'.F0 b i=0)/\bE P C' A σ a w F/\(∀ {A2:Cells} {fS:St} {a2:Act} {w2:World} {F2:Nat->FP},bE P C' A2 fS a2 w2 F2->bE P C A2 fS a2 w2 F2):=by
 have dj:∀ b i,1<=aA σ.n F b i->1<=C.F0 b i\/C.w0.heap.size<=b:=λb i hp=>h.own b i (by show 1<=0+_;omega)
 refine ⟨⟨w,A,aA σ.n F,C.args⟩,rfl,rfl,λb i ha=>?_,?_,λ{A2 fS a2 w2 F2} U=>?_⟩
 ·rcases Nat.eq_zero_or_pos (aA σ.n F b i) with h0 | h0
  ·exact h0
  ·exact absurd ha (h.jr b i (by show 1<=0+_;omega))
 ·exact { h with ext:=Ext.refl _ _,own:=λb i hp=>.inl (by have hp:1<=0+aA σ.n F b i:=hp;show 1<=aA σ.n F b i;omega),a0:=λ_ _ h=>h,J:=λ_ _ h=>.inl h,il:=h.il,gC:=h.gC,o_:=h.vg λb i hp=>by have hp:1<=aA σ.n F b i:=hp;show 1<=0+_;omega }
 ·have gn:C.w0.heap.size<=w.heap.size:=h.ext.size
  refine { U with ext:=h.ext.trans U.ext (λb i hb hz=>?_),own:=λb i hp=>?_,a0:=λb i ha=>U.a0 b i (h.a0 b i ha),J:=λb i ha=>?_,il:=U.il,gC:=U.gC,o_:=h.o_ }
  ·show aA σ.n F b i=0
   rcases Nat.eq_zero_or_pos (aA σ.n F b i) with h0 | h0
   ·exact h0
   ·rcases dj b i h0 with h1 | h1 <;> omega
  ·rcases U.own b i hp with h1 | h1
   ·exact dj b i h1
   ·exact .inr (Nat.le_trans gn h1)
  ·rcases U.J b i ha with h1 | h1 | h1
   ·exact h.J b i h1
   ·exact .inr (dj b i h1)
   ·exact .inr (.inr (Nat.le_trans gn h1))
theorem NT (h:bE P C A σ a w F) (hE:lI P E) {cQ i:Nat} (bk:kA P o.op=true) (jx:nY E o.op=true) (zT:Dp σ o=true) {K:St->Option R} (hk:kI E cQ i o σ K=some x) :
  ∃ v,(∀ w',(∀ b i,A b i->∀ u,ce w b i=some u->ce w' b i=some u)->(execOp a.eval o).run P w'=.ok (.value v) w')/\Nx P C K x (a.put o.dst v) w:=by
 unfold Dp at zT
 split at zT
 ·rename_i t y ho
  split at zT
  ·rename_i t' v hv
   unfold kI at hk
   simp only[ho,zw] at hk
   cases hf:G5 E.fz cQ i 8 with
   | true=>rw[hf] at hk;simp only[hv] at hk;cases hk
   | false=>
   rw[hf] at hk
   simp only[hv,uW] at hk
   obtain ⟨T,hT,hk⟩:=cG hk
   have dx:=hE.ti _ _ hT
   split at hk
   ·rename_i e;subst e
    rw[ho] at bk
    rcases cc h bk with hs | ⟨xs,e⟩
    rotate_left
    ·rw[e] at hv;cases hv
    rw[hv] at hs
    obtain ⟨⟨b,off,sp⟩,h1,U,L,h3,h4,h5⟩:=hs
    simp only[List.cons.injEq,and_true] at h1
    simp only at U;subst U
    refine ⟨bq t' L,λw' lF=>?_,aY h hk ⟨L,rfl,h5⟩ (λ_ _ _ _ e=>by cases e)⟩
    simp[execOp,ho,h1,Instr.loadAt,Instr.sureAddr,qv dx (λj u hu=>lF _ _ (h4 j u hu).2 u (h4 j u hu).1) h3 (Ro.one _ h5)]
   ·cases hk
  ·cases zT
 ·rename_i s t y ho
  unfold kI at hk
  simp only[ho] at hk
  rw[ho] at bk
  refine zS h hE.ti ho bk (λT hT=>?_) zT hk
  rw[ho] at jx
  simp only[nY,hT] at jx
  exact jx
 ·cases zT
def ub (ops:Array Oper) (l:Array Bool) (u:Nat):Prop:=ops.size<=u\/l.getD u false=false
def SD (E:Env) (ops:Array Oper) (w0:World) (C:Ctx) (RC:List (Nat×Nat×Nat×Nat×List Value)):Array Bool->World->Prop:=λl w'=>((∀ d,jA E ops d=true->l.getD d false=false)->Ext w0 w' (λ_ _=>0))/\(∀ b i,C.A0 b i->∀ u,ce C.w0 b i=some u->ce w' b i=some u)/\∀ e ∈ RC,ub ops l e.2.1->Has w' e.2.2.1 e.2.2.2.1 e.2.2.2.2
theorem NU {next:Act->World->Prop} (h:Tk P o a w next):o.wp P a w (λa' w'=>w=w'/\next a' w') Q:=by
 obtain ⟨v,h1,U⟩:=h
 exact h_ (h1 w λ_=>Ext.refl _ _) ⟨rfl,U⟩
theorem ud {md:Region.Mode} {ops:Array Oper} {S S':Array Bool->World->Prop} (hS:∀ l w,S l w->S' l w):∀ (fuel:Nat) (fb:Array Bool) (a:Act) (w:World),ns P md ops Q S fuel fb a w->ns P md ops Q S' fuel fb a w
 | 0,_,_,_,h=>h
 | fuel+1,_,_,_,h=>⟨h.1,λi hi=>wpOp_mono (λa' w' h'=>⟨hS _ _ h'.1,ud hS fuel _ a' w' h'.2⟩) (h.2 i hi)⟩
theorem D8 (a:Act) (d:Nat):a.put (some d) (tmp a d)=a:=by
 have:a.tmps.setIfInBounds d (tmp a d)=a.tmps:=by
  unfold tmp
  apply Array.ext
  ·simp
  ·intro i h1 U
   rw[Array.getElem_setIfInBounds]
   split
   ·rename_i e;subst e;simp[U]
   ·rfl
 show { a with tmps:=a.tmps.setIfInBounds d (tmp a d) }=a
 rw[this]
theorem QH {ops:Array Oper} {K:St->Option R}:∀ (js:List Nat) {σ:St} {F:Nat->FP},bE P C A σ a w F->IU ops.toList σ js K=some x->∃ (σ':St) (F':Nat->FP),K σ'=some x/\bE P C A σ' a w F':=by
 intro js
 induction js with
 | nil=>intro σ F h hk;exact ⟨σ,F,hk,h⟩
 | cons j js ih=>
  intro σ F h hk
  simp only[IU] at hk
  split at hk
  ·rename_i d hd
   obtain ⟨F1,h1⟩:=h.aQ (some d) (s:=.dead) (v:=tmp a d) (Fd:=λ_ _=>0) (X':=λ_ _=>0) trivial (λb i=>Nat.le_refl _) (λ_ _ _ _ e=>by cases e)
   rw[D8] at h1
   exact ih h1 hk
  ·cases hk
theorem vv:∀ (js:List Nat) (l:Array Bool) (k:Nat) (b:Bool),(tD l js).getD k b=if k ∈ js/\k < l.size then true else l.getD k b
 | [],l,k,b=>by simp[tD]
 | j::js,l,k,b=>by
  rw[tD,vv js]
  simp only[Array.size_setIfInBounds]
  by_cases h1:k ∈ js/\k < l.size
  ·rw[if_pos h1,if_pos ⟨by simp[h1.1],h1.2⟩]
  ·rw[if_neg h1]
   by_cases tC:j=k
   ·subst tC
    by_cases av:j < l.size
    ·rw[if_pos ⟨by simp,av⟩];simp[av]
    ·rw[if_neg (λh=>av h.2)];simp[av]
   ·rw[getD_set_ne b tC,if_neg]
    rintro ⟨U,h3⟩
    rcases List.mem_cons.1 U with e | e
    ·exact tC e.symm
    ·exact h1 ⟨e,h3⟩
theorem jB {l:List Nat} {i:Nat}:l.any (Nat.beq i)=true↔i ∈ l:=by
 rw[List.any_eq_true]
 constructor
 ·rintro ⟨y,h1,U⟩;rw[Nat.eq_of_beq_eq_true U];exact h1
 ·intro h;exact ⟨i,h,Nat.beq_refl i⟩
theorem ue {ops:Array Oper} {pd:List Nat} (h:w_ E ops pd=true) {j:Nat} (hj:j ∈ pd):∃ o d s,ops[j]?=some o/\o.guard=none/\o.dst=some d/\qP E o.op=some s/\∀ k o',ops[k]?=some o'->k≠j->o'.dst≠some d:=by
 unfold w_ at h
 have h:=List.all_eq_true.1 h j hj
 split at h
 ·rename_i o ho
  simp only[Bool.and_eq_true] at h
  obtain ⟨⟨h1,U⟩,h3⟩:=h
  split at h3
  ·rename_i d hd
   obtain ⟨s,hs⟩:=Option.isSome_iff_exists.1 U
   refine ⟨o,d,s,ho,?_,hd,hs,λk o' hk tC e=>?_⟩
   ·split at h1
    ·assumption
    ·cases h1
   ·have:=List.all_eq_true.1 h3 k (List.mem_range.2 (Array.getElem?_eq_some_iff.1 hk).1)
    rw[hk] at this
    simp only[e,Bool.or_eq_true] at this
    rcases this with h4 | h4
    ·exact tC (Nat.eq_of_beq_eq_true h4)
    ·simp at h4
  ·cases h3
 ·cases h
def RE (ops:Array Oper) (er:List (Nat×Nat)) (L:Array Bool) (a:Act) (w:World) (e:Nat×Nat×Nat×Nat×List Value):Prop:=(e.1,e.2.1) ∈ er/\L.getD e.1 false=true /\
 ∃ o t x d,ops[e.1]?=some o/\o.op=.load t (.tmp x)/\o.dst=some d/\tmp a x=.pointer (some ⟨e.2.2.1,e.2.2.2.1,none⟩)/\(tmp a d).cells.toList=e.2.2.2.2/\(ub ops L e.2.1->Has w e.2.2.1 e.2.2.2.1 e.2.2.2.2)
theorem yx:∀ {is:List Nat},Ae is=true->is.Nodup
 | [],_=>List.nodup_nil
 | i::is,h=>by
  simp only[Ae,Bool.and_eq_true,Bool.not_eq_true'] at h
  refine List.nodup_cons.2 ⟨λhm=>?_,yx h.2⟩
  have:=h.1
  rw[jB.2 hm] at this
  cases this
theorem of {E:Env} {ops:Array Oper} {pd:List Nat} {er:List (Nat×Nat)} (h:sD E ops pd er=true) {j u:Nat} (hj:(j,u) ∈ er):j ∉ pd/\(ops.size<=u\/(jA E ops u=true/\u ∉ pd/\Cc ops ops.size u j=true))/\∃ o t x d,ops[j]?=some o/\o.guard=none/\o.op=.load t (.tmp x)/\o.dst=some d/\x≠d /\
  ∀ k o',ops[k]?=some o'->k≠j->o'.dst≠some d/\(o'.dst=some x->Cc ops ops.size j k=true):=by
 unfold sD at h
 have h1:=List.all_eq_true.1 h _ hj
 simp only[Bool.and_eq_true,Bool.or_eq_true,Bool.not_eq_true',Nat.ble_eq] at h1
 obtain ⟨⟨h0,hu⟩,h1⟩:=h1
 refine ⟨λhm=>?_,hu.imp id λq=>⟨q.1.1,λhm=>?_,q.2⟩,?_⟩
 ·rw[jB.2 hm] at h0
  cases h0
 ·have q2:=q.1.2
  rw[jB.2 hm] at q2
  cases q2
 split at h1
 ·rename_i o ho
  simp only[Bool.and_eq_true] at h1
  obtain ⟨U,h3⟩:=h1
  split at h3
  ·rename_i t x d Mz hd
   simp only[Bool.and_eq_true,Bool.not_eq_true',List.all_eq_true,List.mem_range] at h3
   obtain ⟨h4,h5⟩:=h3
   refine ⟨o,t,x,d,ho,?_,Mz,hd,(λe=>by subst e;rw[Nat.beq_refl] at h4;cases h4),λk o' hk tC=>?_⟩
   ·cases hg:o.guard with
    | none=>rfl
    | some g=>rw[hg] at U;cases U
   ·have h6:=h5 k (Array.getElem?_eq_some_iff.1 hk).1
    rw[hk] at h6
    simp only[Bool.or_eq_true] at h6
    rcases h6 with h6 | h6
    ·exact absurd (Nat.eq_of_beq_eq_true h6) tC
    ·cases lN:o'.dst with
     | none=>exact ⟨(λe=>by cases e),λe=>by cases e⟩
     | some d'=>
      rw[lN] at h6
      simp only[Bool.and_eq_true,Bool.or_eq_true,Bool.not_eq_true'] at h6
      refine ⟨λe=>?_,λe=>?_⟩
      ·injection e with e;subst e;rw[Nat.beq_refl] at h6;cases h6.1
      ·injection e with e;subst e
       rcases h6.2 with h7 | h7
       ·rw[Nat.beq_refl] at h7;cases h7
       ·exact h7
  ·cases h3
 ·cases h1
theorem qe:∀ {p q:Path},oZ p q=true->p=q
 | [],[],_=>rfl
 | .fst::p,.fst::q,h=>by simp only[oZ] at h;rw[qe h]
 | .snd::p,.snd::q,h=>by simp only[oZ] at h;rw[qe h]
 | .idx i::p,.idx j::q,h=>by simp only[oZ,Bool.and_eq_true] at h;rw[Nat.eq_of_beq_eq_true h.1,qe h.2]
 | .jI i::p,.jI j::q,h=>by simp only[oZ,Bool.and_eq_true] at h;rw[Nat.eq_of_beq_eq_true h.1,qe h.2]
theorem JJ (h:Rel P C A X σ a w F) {o:Oper} (ao:KO σ o=true) {t x d:Nat} (ho:o.op=.load t (.tmp x)) (hd:o.dst=some d) {b off:Nat} (hx:tmp a x=.pointer (some ⟨b,off,none⟩)):Has w b off (tmp a d).cells.toList/\d < a.tmps.size:=by
 unfold KO at ao
 rw[ho,hd] at ao
 simp only at ao
 have lt:∀ {i:Nat},σ.get i≠.dead->i < σ.n:=λ{i} hi=>by
  rcases Nat.lt_or_ge i σ.n with h1 | h1
  ·exact h1
  ·exact absurd (fL (Nat.not_lt.2 h1)) hi
 split at ao
 ·rename_i r p s Af
  split at ao
  ·rename_i r' p' s' tE
   simp only[Bool.and_eq_true] at ao
   obtain ⟨⟨h1,U,h3⟩,h4⟩:=ao
   have e1:=Nat.eq_of_beq_eq_true h1
   have e2:=qe h4
   subst e1;subst e2
   have sE:=h.cY x (lt (by rw[Af];intro e;cases e))
   rw[Af] at sE
   obtain ⟨pl,b',o',g1,g2,g3,_⟩:=sE.2 U
   rw[hx] at g3
   simp only[Value.pointer.injEq,Option.some.injEq,Addr.mk.injEq,and_true] at g3
   obtain ⟨rfl,rfl⟩:=g3
   have Cd:=h.cY d (lt (by rw[tE];intro e;cases e))
   rw[tE] at Cd
   obtain ⟨BQ,k1,k2,_⟩:=Cd.2 h3
   rw[g1] at k1
   injection k1 with k1
   subst k1
   have hr:=l_ g1
   have dh:=g1
   unfold place at dh
   cases hR:bC w (tmp a r) (σ.get r) with
   | none=>rw[hR] at dh;cases dh
   | some R=>
    rw[hR] at dh
    simp only[Option.bind_some] at dh
    obtain ⟨m,v,F1,q1,_,q2,_⟩:=pa (h.cY r hr) hR
    obtain ⟨z1,m',v',F',z2⟩:=Ge p R.t q1 (λb o e=>(q2 b o e).1) dh
    rw[k2,eH (ah.length _ z2) (ah.one _ z2)]
    exact ⟨z1 _ _ g2,by rw[h.size];exact lt (by rw[tE];intro e;cases e)⟩
  ·rename_i v tE
   simp only[Bool.and_eq_true] at ao
   obtain ⟨U,hi⟩:=ao
   unfold Mc at hi
   split at hi
   rotate_left
   ·cases hi
   rename_i bb gr
   subst hi
   have sE:=h.cY x (lt (by rw[Af];intro e;cases e))
   rw[Af] at sE
   obtain ⟨pl,b',o',g1,g2,g3,_⟩:=sE.2 U
   rw[hx] at g3
   simp only[Value.pointer.injEq,Option.some.injEq,Addr.mk.injEq,and_true] at g3
   obtain ⟨rfl,rfl⟩:=g3
   have Cd:=h.cY d (lt (by rw[tE];intro e;cases e))
   rw[tE] at Cd
   obtain ⟨bA,k1,k2⟩:=Cd
   obtain ⟨hr,t',m',H',v',aS,bl,F',i1,i2,i3,i4,i5,i6⟩:=fk h gr
   rw[i3] at g1
   injection g1 with g1
   subst g1
   simp only at g2
   subst g2
   obtain ⟨e,i1⟩:=bh i1
   subst e
   simp only[Option.some.injEq,decide_eq_true_eq] at i1
   have hh:Has w b off aS:=by first | exact (i6 b off rfl).1 | exact i6 b off rfl | exact (i5 b off rfl).1 | exact i5 b off rfl
   have c1:aS=[.int .i64 v]:=by
    have i4:_:=i4
    simp only[ah] at i4
    rw[<-i1]
    first | exact i4.1 | exact i4 | exact i4.2 | simp_all
   have c2:bA=[.int .i64 v]:=k2
   rw[k1,c2,eH rfl (λu hu=>by rw[List.mem_singleton] at hu;subst hu;rfl)]
   rw[c1] at hh
   exact ⟨hh,by rw[h.size];exact lt (by rw[tE];intro e;cases e)⟩
  ·cases ao
 ·rename_i tb mb Hb vb Af
  split at ao
  ·rename_i r' p' s' tE
   simp only[Bool.and_eq_true] at ao
   obtain ⟨⟨h1,h3⟩,h4⟩:=ao
   have e1:=Nat.eq_of_beq_eq_true h1
   have e2:=qe h4
   subst e1;subst e2
   have Cd:=h.cY d (lt (by rw[tE];intro e;cases e))
   rw[tE] at Cd
   obtain ⟨BQ,k1,k2,_⟩:=Cd.2 h3
   have hr:=l_ k1
   have dh:=k1
   unfold place at dh
   cases hR:bC w (tmp a x) (σ.get x) with
   | none=>rw[hR] at dh;cases dh
   | some R=>
    rw[hR] at dh
    simp only[Option.bind_some] at dh
    obtain ⟨m,v,F1,q1,_,q2,_⟩:=pa (h.cY x hr) hR
    obtain ⟨z1,m',v',F',z2⟩:=Ge [] R.t q1 (λb o e=>(q2 b o e).1) dh
    rw[k2,eH (ah.length _ z2) (ah.one _ z2)]
    have ey:BQ.ad=some (b,off):=by
     rw[Af,hx] at hR
     simp only[bC,Option.some.injEq] at hR
     subst hR
     simp only[aJ,Option.some.injEq] at dh
     subst dh
     rfl
    exact ⟨z1 _ _ ey,by rw[h.size];exact lt (by rw[tE];intro e;cases e)⟩
  ·cases ao
 ·cases ao
theorem quiet_of {cQ i:Nat} {o:Oper} {K:St->Option R} (hk:kI E cQ i o σ K=some x) (hm:xQ o.op=false) (ht:nY E o.op=false):quiet E o.op=true:=by
 unfold kI at hk
 cases ho:o.op <;> rw[ho] at hk hm ht <;> first | rfl | (cases hm;done) | (cases ht;done) | (simp only[reduceCtorEq] at hk;done) | skip
theorem D9 (h:bE P C A σ a w F) (hE:lI P E) {t x0:Nat} {mv:Bool} (bk:kA P o.op=true) (ho:o.op=.load t (.tmp x0)) {K:St->Option R} (hk:uW E σ t (bz σ (.tmp x0)) mv o.dst K=some x) :
  ∃ b off v cs,tmp a x0=.pointer (some ⟨b,off,none⟩)/\Has w b off cs/\v.cells.toList=cs/\∀ w',Has w' b off cs->(execOp a.eval o).run P w'=.ok (.value v) w':=by
 unfold uW at hk
 obtain ⟨T,hT,hk⟩:=cG hk
 have dx:=hE.ti _ _ hT
 have run:∀ b off L,a.eval (.tmp x0)=.pointer (some ⟨b,off,none⟩)->L.length=T.sz->(∀ u ∈ L,u.oneCell'=true)->∀ w',Has w' b off L->(execOp a.eval o).run P w'=.ok (.value (bq T L)) w':=λb off L hy hl jN w' hL=>by
  simp[execOp,ho,hy,Instr.loadAt,Instr.sureAddr,qv dx hL hl jN]
 rw[ho] at bk
 rcases cc h (show bv P (.tmp x0)=true from bk) with hs | ⟨xs,e⟩
 rotate_left
 ·rw[e] at hk;cases hk
 split at hk
 ·rename_i t' v hv
  rw[hv] at hs
  split at hk
  ·rename_i e;subst e
   obtain ⟨⟨b,off,sp⟩,h1,U,L,h3,h4,h5⟩:=hs
   simp only[List.cons.injEq,and_true] at h1
   simp only at U;subst U
   exact ⟨b,off,bq t' L,L,h1,λj u hu=>(h4 j u hu).1,eH h3 (Ro.one _ h5),run b off L h1 h3 (Ro.one _ h5)⟩
  ·cases hk
 ·rename_i r p snap hv
  rw[hv] at hs
  split at hk
  ·rename_i iA
   obtain ⟨hr,t',m',H',v',aS,bl,F',h1,U,h3,h4,h5,h6⟩:=fk h hk
   obtain ⟨pl,b,off,g1,g2,g3,g4⟩:=hs.2 iA
   rw[h3] at g1
   injection g1 with g1
   subst g1
   simp only at g2
   subst g2
   split at h1
   ·rename_i e;subst e
    have hh:Has w b off aS:=by first | exact (h6 b off rfl).1 | exact h6 b off rfl | exact (h5 b off rfl).1 | exact h5 b off rfl
    exact ⟨b,off,bq t' aS,aS,g3,hh,eH (ah.length _ h4) (ah.one _ h4),run b off aS g3 (ah.length _ h4) (ah.one _ h4)⟩
   ·cases h1
  ·cases hk
 ·cases hk
theorem NV (h:bE P C A σ a w F) (hE:lI P E) {cQ i t x0:Nat} (bk:kA P o.op=true) (ho:o.op=.load t (.tmp x0)) {K:St->Option R} (hk:kI E cQ i o σ K=some x) :
  ∃ b off v cs,tmp a x0=.pointer (some ⟨b,off,none⟩)/\Has w b off cs/\v.cells.toList=cs/\∀ w',Has w' b off cs->(execOp a.eval o).run P w'=.ok (.value v) w':=by
 unfold kI at hk
 simp only[ho,zw] at hk
 split at hk
 ·exact D9 h hE bk ho hk
 ·split at hk
  ·split at hk
   ·obtain ⟨A1,iq,F1,_,_,_,_,_,k1,_,k3,_⟩:=qH h hk
    exact D9 k3 hE bk ho k1
   ·cases hk
  ·cases hk
structure Inv (P:Program) (E:Env) (ops:Array Oper) (pd:List Nat) (w0:World) (C:Ctx) (is:List Nat) (l:Array Bool) (f:Bool) (σ:St) (fuel:Nat) (A:Cells) (a:Act) (w:World) (X:FP) (F:Nat->FP) (D:List Nat) (L:Array Bool) (er:List (Nat×Nat)) (RC:List (Nat×Nat×Nat×Nat×List Value)):Prop where
 h:Rel P C A X σ a w F
 pf:PF P E ops A a w D X
 nd:D.Nodup
 Ce:∀ j ∈ D,j ∈ pd
 dl:∀ j ∈ D,l.getD j false=false
 jr:∀ j ∈ D,j ∈ is
 ML:∀ j ∈ pd,l.getD j false=true\/j ∈ is
 JK:(is.filter λk=>decide (k ∉ D)).length<=fuel
 cl:uG .any ops L
 hS:(∀ d,jA E ops d=true->L.getD d false=false)->Ext w0 w (λ_ _=>0)
 hf:f=true->w=w0/\pd=[]
 Ag:l.size=ops.size
 sF:L.size=ops.size
 hL:∀ k,L.getD k false=true↔(l.getD k false=true\/k ∈ D)
 JL:is.Nodup
 JM:∀ k,k < ops.size->l.getD k false=true\/k ∈ is
 io:∀ k ∈ is,l.getD k false=false
 rc:∀ e ∈ RC,RE ops er L a w e
theorem nK {l:Array Bool} {k:Nat} (h:k < l.size):l.getD k true=l.getD k false:=by simp[h]
theorem cU {l:Array Bool} {i k:Nat} (hi:i < l.size):(l.setIfInBounds i true).getD k false=true↔(k=i\/l.getD k false=true):=by
 by_cases hk:i=k
 ·subst hk;simp[hi]
 ·rw[getD_set_ne false hk]
  constructor
  ·exact .inr
  ·rintro (h | h)
   ·exact absurd h.symm hk
   ·exact h
theorem FH {D:List Nat} {j:Nat} (hD:j ∉ D):∀ (is:List Nat),j ∈ is->(is.filter λk=>decide (k ∉ j::D)).length+1<=(is.filter λk=>decide (k ∉ D)).length:=by
 have hle:∀ (is:List Nat),(is.filter λk=>decide (k ∉ j::D)).length<=(is.filter λk=>decide (k ∉ D)).length:=by
  intro is
  induction is with
  | nil=>exact Nat.le_refl _
  | cons i is ih=>
   simp only[List.filter_cons]
   by_cases h1:i ∈ D
   ·have U:i ∈ j::D:=by simp[h1]
    simp only[h1,U,not_true_eq_false,decide_false,Bool.false_eq_true,if_false]
    exact ih
   ·by_cases U:i ∈ j::D
    ·simp only[h1,U,not_true_eq_false,not_false_eq_true,decide_false,decide_true,Bool.false_eq_true,if_false,if_true,List.length_cons]
     omega
    ·simp only[h1,U,not_false_eq_true,decide_true,if_true,List.length_cons]
     omega
 intro is
 induction is with
 | nil=>intro h;cases h
 | cons i is ih=>
  intro h
  simp only[List.filter_cons]
  by_cases ng:i=j
  ·subst ng
   have U:i ∈ i::D:=by simp
   simp only[hD,U,not_true_eq_false,not_false_eq_true,decide_false,decide_true,Bool.false_eq_true,if_false,if_true,List.length_cons]
   have:=hle is
   omega
  ·have h3:j ∈ is:=by
    rcases List.mem_cons.1 h with e | e
    ·exact absurd e.symm ng
    ·exact e
   have:=ih h3
   by_cases h1:i ∈ D
   ·have U:i ∈ j::D:=by simp[h1]
    simp only[h1,U,not_true_eq_false,decide_false,Bool.false_eq_true,if_false]
    exact this
   ·have U:i ∉ j::D:=by simp[h1,ng]
    simp only[h1,U,not_false_eq_true,decide_true,if_true,List.length_cons]
    omega
section
variable {ops:Array Oper} {pd:List Nat} {w0:World} {is:List Nat} {l L:Array Bool} {f:Bool} {fuel:Nat} {D:List Nat} {i:Nat} {er:List (Nat×Nat)} {RC:List (Nat×Nat×Nat×Nat×List Value)}
theorem Inv.yV (v:Inv P E ops pd w0 C is l f σ fuel A a w X F D L er RC) (hi:i ∈ Region.ready .any ops l) (hD:i ∉ D):i ∈ Region.ready .any ops L:=by
 obtain ⟨h0,o,ho,mf⟩:=mem_ready.1 hi
 have av:i < ops.size:=(Array.getElem?_eq_some_iff.1 ho).1
 refine mem_ready.2 ⟨?_,o,ho,λe he hb=>(v.hL _).2 (.inl (mf e he hb))⟩
 rw[nK (by rw[v.sF];exact av)]
 rw[nK (by rw[v.Ag];exact av)] at h0
 cases hh:L.getD i false with
 | false=>rfl
 | true=>
  rcases (v.hL i).1 hh with h1 | h1
  ·rw[h0] at h1;cases h1
  ·exact absurd h1 hD
theorem Inv.xd (v:Inv P E ops pd w0 C is l f σ fuel A a w X F D L er RC) {j:Nat} {S:List Nat} (hS:∀ k ∈ D,k ∈ S) (hj:j ∈ Region.ready .any ops L) (MM:j ∉ S):j ∈ Region.ready .any ops (tD l S):=by
 obtain ⟨h0,o,ho,mf⟩:=mem_ready.1 hj
 have av:j < ops.size:=(Array.getElem?_eq_some_iff.1 ho).1
 refine mem_ready.2 ⟨?_,o,ho,λe he hb=>?_⟩
 ·rw[vv,if_neg (λh=>MM h.1),nK (by rw[v.Ag];exact av)]
  rw[nK (by rw[v.sF];exact av)] at h0
  cases hh:l.getD j false with
  | false=>rfl
  | true=>rw[(v.hL j).2 (.inl hh)] at h0;cases h0
 ·rw[vv]
  have h1:=mf e he hb
  rcases (v.hL _).1 h1 with U | U
  ·split
   ·rfl
   ·exact U
  ·have av:e.on < L.size:=by
    rcases Nat.lt_or_ge e.on L.size with h' | h'
    ·exact h'
    ·simp[Array.getElem?_eq_none h'] at h1
   rw[if_pos ⟨hS _ U,by rw[v.Ag,<- v.sF];exact av⟩]
theorem Inv.Ah (v:Inv P E ops pd w0 C is l f σ fuel A a w X F D L er RC) {j:Nat} (h:L.getD j true=false):j ∉ D/\l.getD j false=false/\l.getD j true=false:=by
 have av:j < L.size:=by
  rcases Nat.lt_or_ge j L.size with h' | h'
  ·exact h'
  ·simp[Array.getElem?_eq_none h'] at h
 rw[nK av] at h
 have h1:l.getD j false=false:=by
  cases hh:l.getD j false with
  | false=>rfl
  | true=>rw[(v.hL j).2 (.inl hh)] at h;cases h
 have U:j ∉ D:=λhD=>by
  rw[(v.hL j).2 (.inr hD)] at h
  cases h
 exact ⟨U,h1,by rw[nK (by rw[v.Ag,<- v.sF];exact av)];exact h1⟩
theorem Inv.next (v:Inv P E ops pd w0 C (i::is) l f σ (fuel+1) A a w X F D L er RC) (hD:i ∉ D) (hr:i ∈ Region.ready .any ops L) {C2:Ctx} {f2:Bool} {fS:St} {A2:Cells} {a2:Act} {w2:World} {F2:Nat->FP}
  (U:Rel P C2 A2 X fS a2 w2 F2) (hp:PF P E ops A2 a2 w2 D X) (UP:(∀ d,jA E ops d=true->(L.setIfInBounds i true).getD d false=false)->Ext w0 w2 (λ_ _=>0)) (MF:f2=true->w2=w0/\pd=[]) {R8:List (Nat×Nat×Nat×Nat×List Value)} (UQ:∀ e ∈ R8,RE ops er (L.setIfInBounds i true) a2 w2 e) :
  Inv P E ops pd w0 C2 is (l.setIfInBounds i true) f2 fS fuel A2 a2 w2 X F2 D (L.setIfInBounds i true) er R8:=by
 obtain ⟨_,o,ho,_⟩:=mem_ready.1 hr
 have av:i < ops.size:=(Array.getElem?_eq_some_iff.1 ho).1
 have sG:i < l.size:=by rw[v.Ag];exact av
 have sH:i < L.size:=by rw[v.sF];exact av
 refine ⟨U,hp,v.nd,v.Ce,λj hj=>?_,λj hj=>?_,λj hj=>?_,?_,vt v.cl hr,UP,MF,by simpa using v.Ag,by simpa using v.sF,λk=>?_,(List.nodup_cons.1 v.JL).2,λk hk=>?_,λk hk=>?_,UQ⟩
 ·rw[getD_set_ne false (λe=>by subst e;exact hD hj)];exact v.dl j hj
 ·rcases List.mem_cons.1 (v.jr j hj) with e | e
  ·subst e;exact absurd hj hD
  ·exact e
 ·rcases v.ML j hj with h | h
  ·exact .inl ((cU sG).2 (.inr h))
  ·rcases List.mem_cons.1 h with e | e
   ·exact .inl ((cU sG).2 (.inl e))
   ·exact .inr e
 ·have:=v.JK
  simp only[List.filter_cons,hD,not_false_eq_true,decide_true,if_true,List.length_cons] at this
  omega
 ·rw[cU sH,cU sG,v.hL]
  exact or_assoc.symm
 ·rcases v.JM k hk with h | h
  ·exact .inl ((cU sG).2 (.inr h))
  ·rcases List.mem_cons.1 h with e | e
   ·exact .inl ((cU sG).2 (.inl e))
   ·exact .inr e
 ·rw[getD_set_ne false (λe=>by subst e;exact (List.nodup_cons.1 v.JL).1 hk)]
  exact v.io k (List.mem_cons_of_mem _ hk)
theorem Inv.HN (v:Inv P E ops pd w0 C (i::is) l f σ fuel A a w X F D L er RC) (hD:i ∈ D) (lG:i ∉ is) {fS:St} {X2:FP} {F2:Nat->FP} (U:Rel P C A X2 fS a w F2) (hp:PF P E ops A a w (D.erase i) X2) :
  Inv P E ops pd w0 C is (l.setIfInBounds i true) f fS fuel A a w X2 F2 (D.erase i) L er RC:=by
 have sH:i < L.size:=by
  have h1:=(v.hL i).2 (.inr hD)
  rcases Nat.lt_or_ge i L.size with h' | h'
  ·exact h'
  ·simp[Array.getElem?_eq_none h'] at h1
 have sG:i < l.size:=by rw[v.Ag,<- v.sF];exact sH
 have wk:∀ k,k ∈ D.erase i↔k≠i/\k ∈ D:=λk=>v.nd.mem_erase_iff
 refine ⟨U,hp,v.nd.erase _,λj hj=>v.Ce j ((wk j).1 hj).2,λj hj=>?_,λj hj=>?_,λj hj=>?_,?_,v.cl,v.hS,v.hf,by simpa using v.Ag,v.sF,λk=>?_,(List.nodup_cons.1 v.JL).2,λk hk=>?_,λk hk=>?_,v.rc⟩
 ·obtain ⟨h3,h4⟩:=(wk j).1 hj
  rw[getD_set_ne false (λe=>h3 e.symm)];exact v.dl j h4
 ·obtain ⟨h3,h4⟩:=(wk j).1 hj
  rcases List.mem_cons.1 (v.jr j h4) with e | e
  ·exact absurd e h3
  ·exact e
 ·rcases v.ML j hj with h | h
  ·exact .inl ((cU sG).2 (.inr h))
  ·rcases List.mem_cons.1 h with e | e
   ·exact .inl ((cU sG).2 (.inl e))
   ·exact .inr e
 ·have:=v.JK
  simp only[List.filter_cons,hD,not_true_eq_false,decide_false,Bool.false_eq_true,if_false] at this
  refine Nat.le_trans (Nat.le_of_eq (congrArg List.length (List.filter_congr λk hk=>?_))) this
  have:k≠i:=λe=>by subst e;exact lG hk
  simp only[wk,this,ne_eq,not_false_eq_true,true_and]
 ·rw[v.hL,cU sG,wk]
  constructor
  ·rintro (h | h)
   ·exact .inl (.inr h)
   ·by_cases hk:k=i
    ·exact .inl (.inl hk)
    ·exact .inr ⟨hk,h⟩
  ·rintro ((h | h) | h)
   ·subst h;exact .inr hD
   ·exact .inl h
   ·exact .inr h.2
 ·rcases v.JM k hk with h | h
  ·exact .inl ((cU sG).2 (.inr h))
  ·rcases List.mem_cons.1 h with e | e
   ·exact .inl ((cU sG).2 (.inl e))
   ·exact .inr e
 ·rw[getD_set_ne false (λe=>by subst e;exact lG hk)]
  exact v.io k (List.mem_cons_of_mem _ hk)
theorem R9 {j:Nat} (av:j < L.size) {k:Nat} (hu:(L.setIfInBounds j true).getD k false=false):L.getD k false=false:=by
 cases hl:L.getD k false with
 | false=>rfl
 | true=>rw[(cU av).2 (.inr hl)] at hu;cases hu
theorem Inv.qX (v:Inv P E ops pd w0 C is l f σ fuel A a w X F D L er RC) (oR:sD E ops pd er=true) {j:Nat} {o':Oper} (hj:ops[j]?=some o') (lQ:L.getD j false=false) {a2:Act} {w2:World}
  (ht:∀ d,o'.dst≠some d->tmp a2 d=tmp a d) (hh:∀ e ∈ RC,ub ops (L.setIfInBounds j true) e.2.1->Has w2 e.2.2.1 e.2.2.2.1 e.2.2.2.2):∀ e ∈ RC,RE ops er (L.setIfInBounds j true) a2 w2 e:=by
 intro e he
 obtain ⟨h1,U,o,t,x,d,h3,h4,h5,h6,h7,h8⟩:=v.rc e he
 obtain ⟨_,_,o1,t1,x1,d1,g1,_,g2,g3,_,g4⟩:=of oR h1
 rw[h3] at g1
 injection g1 with g1
 subst g1
 rw[h4] at g2
 injection g2 with _ g2
 injection g2 with g2
 subst g2
 rw[h5] at g3
 injection g3 with g3
 subst g3
 have dI:j≠e.1:=λe'=>by rw[e'] at lQ;rw[U] at lQ;cases lQ
 obtain ⟨k1,k2⟩:=g4 j o' hj dI
 have k3:o'.dst≠some x:=λe'=>by
  have:=nJ v.cl _ _ _ (k2 e') U
  rw[this] at lQ;cases lQ
 exact ⟨h1,by rw[getD_set_ne false dI];exact U,o,t,x,d,h3,h4,h5,by rw[ht x k3];exact h6,by rw[ht d k1];exact h7,hh e he⟩
theorem Inv.still (v:Inv P E ops pd w0 C (i::is) l f σ fuel A a w X F D L er RC) (oR:sD E ops pd er=true) {cQ:Nat} (Cf:zA E.er cQ=er) {o':Oper} (hj:ops[i]?=some o') (lQ:L.getD i false=false) {C2:Ctx} {A2:Cells} {X2:FP} {fS:St} {a2:Act} {w2:World} {F2:Nat->FP} (U:Rel P C2 A2 X2 fS a2 w2 F2)
  (ht:∀ d,o'.dst≠some d->tmp a2 d=tmp a d) (cr:xQ o'.op=false->Ext w w2 (λ_ _=>0)) (Bx:zB E cQ ops.toList i o' is fS=true):∀ e ∈ RC,ub ops (L.setIfInBounds i true) e.2.1->Has w2 e.2.2.1 e.2.2.2.1 e.2.2.2.2:=by
 intro e he hu
 obtain ⟨g1,g2,o,t,x,d,g3,g4,g5,g6,g7,g8⟩:=v.rc e he
 have sH:i < L.size:=by rw[v.sF];exact (Array.getElem?_eq_some_iff.1 hj).1
 have R_:ub ops L e.2.1:=hu.imp id λhu=>by
  cases hl:L.getD e.2.1 false with
  | false=>rfl
  | true=>rw[(cU sH).2 (.inr hl)] at hu;cases hu
 cases hm:xQ o'.op with
 | false=>exact (g8 R_).ext (cr hm)
 | true=>
  simp only[zB,hm,Bool.true_or,Bool.not_true,Bool.false_or,Hc,Cf,List.all_eq_true] at Bx
  have:=Bx _ g1
  obtain ⟨JN,GA,o1,t1,x1,d1,k1,_,k2,k3,_,k4⟩:=of oR g1
  rw[g3] at k1
  injection k1 with k1
  subst k1
  rw[g4] at k2
  injection k2 with _ k2
  injection k2 with k2
  subst k2
  rw[g5] at k3
  injection k3 with k3
  subst k3
  have dI:i≠e.1:=λe'=>by rw[e'] at lQ;rw[g2] at lQ;cases lQ
  have hl:l.getD e.1 false=true:=((v.hL e.1).1 g2).resolve_right λhD=>JN (v.Ce _ hD)
  have K9:is.any (Nat.beq e.1)=false:=by
   cases hb:is.any (Nat.beq e.1) with
   | false=>rfl
   | true=>
    have:=v.io e.1 (List.mem_cons_of_mem _ (jB.1 hb))
    rw[hl] at this;cases this
  have K_:(is.any (Nat.beq e.2.1)||Nat.ble ops.toList.length e.2.1)=true:=by
   rcases Nat.lt_or_ge e.2.1 ops.size with h9 | h9
   ·have Pa:=R_.resolve_left (by omega)
    have UR:e.2.1≠i:=λe'=>by
     have:=hu.resolve_left (by omega)
     rw[(cU sH).2 (.inl e')] at this;cases this
    rcases v.JM _ h9 with yw | yw
    ·rw[(v.hL _).2 (.inl yw)] at Pa;cases Pa
    ·rcases List.mem_cons.1 yw with JO | JO
     ·exact absurd JO UR
     ·rw[jB.2 JO,Bool.true_or]
   ·have:Nat.ble ops.toList.length e.2.1=true:=by simpa using h9
    rw[this,Bool.or_true]
  rw[K9,K_,Bool.not_true,Bool.false_or,Bool.false_or,Array.getElem?_toList,g3] at this
  simp only at this
  obtain ⟨q1,q2⟩:=k4 i o' hj dI
  have q3:o'.dst≠some x:=λe'=>by
   have:=nJ v.cl _ _ _ (q2 e') g2
   rw[this] at lQ;cases lQ
  have hx:tmp a2 x=.pointer (some ⟨e.2.2.1,e.2.2.2.1,none⟩):=by rw[ht x q3];exact g6
  obtain ⟨z1,z2⟩:=JJ U this g4 g5 hx
  rw[ht d q1,g7] at z1
  exact z1
theorem Inv.early (hE:lI P E) (po:w_ E ops pd=true) {cQ:Nat} (JN:g_ E.pd cQ=pd) (oR:sD E ops pd er=true) (mf:Hd E cQ ops.toList is σ=true) (hC:∀ b i,C.A0 b i->C.F0 b i=0)
  (v:Inv P E ops pd w0 C is l f σ (fuel+1) A a w X F D L er RC) {j:Nat} (hj:j ∈ pd) (hr:j ∈ Region.ready .any ops L) {S:Array Bool->World->Prop}
  (hS:∀ w',Ext w w' (λ_ _=>0)->((∀ d,jA E ops d=true->(L.setIfInBounds j true).getD d false=false)->Ext w0 w' (λ_ _=>0))->S (L.setIfInBounds j true) w')
  (next:∀ (a':Act) (w':World) (X':FP),Inv P E ops pd w0 C is l f σ fuel A a' w' X' F (j::D) (L.setIfInBounds j true) er RC->ns P .any ops Q S fuel (L.setIfInBounds j true) a' w') :
  wpOp P ops Q j (λa' w'=>S (L.setIfInBounds j true) w'/\ns P .any ops Q S fuel (L.setIfInBounds j true) a' w') a w:=by
 obtain ⟨o,d,s,ho,hg,hd,hs,dI⟩:=ue po hj
 have sH:j < L.size:=by rw[v.sF];exact (Array.getElem?_eq_some_iff.1 ho).1
 obtain ⟨Pb,Sa,_⟩:=v.Ah (mem_ready.1 hr).1
 have La:j ∈ is:=(v.ML j hj).resolve_left (by rw[Sa];simp)
 have ao:Be σ d=true:=by
  unfold Hd at mf
  rw[JN] at mf
  have:=List.all_eq_true.1 mf j hj
  rw[Array.getElem?_toList,ho,jB.2 La] at this
  simpa [hd] using this
 obtain ⟨val,w',Fj,eJ,cr,U,US⟩:=K7 (o:=o) v.h hE.ti hs ao
 have nt:(∀ d,jA E ops d=true->(L.setIfInBounds j true).getD d false=false)->Ext w0 w' (λ_ _=>0):=λyy=>(v.hS λd' lN=>by
  cases hh:L.getD d' false with
  | false=>rfl
  | true=>rw[<-yy d' lN,(cU sH).2 (.inr hh)]).trans cr (λ_ _ _ _=>rfl)
 have hw:Region.wanted o (yielded ops a.tmps)=true:=by simp[Region.wanted,hg]
 unfold wpOp
 simp only[ho,hw,if_true]
 refine .inl (h_ eJ ⟨hS w' cr nt,?_⟩)
 rw[hd]
 have UT:d < σ.n:=(Ca ao).1
 refine next _ _ (λb i=>X b i+Fj b i) ⟨U,⟨o,d,s,Fj,X,ho,hd,hs,?_,λb i=>Nat.le_refl _,?_⟩,List.nodup_cons.2 ⟨Pb,v.nd⟩,?_,?_,?_,v.ML,?_,vt v.cl hr,nt,λhf=>?_,v.Ag,by simpa using v.sF,λk=>?_,v.JL,v.JM,v.io,v.qX oR ho (by have:=(mem_ready.1 hr).1;rw[nK sH] at this;exact this) (λd' lN=>by rw[hK,if_neg (λe=>lN (by rw[hd,e.1]))]) (λe he hu=>by
  obtain ⟨_,_,_,_,_,_,_,_,_,_,_,q⟩:=v.rc e he
  exact (q (hu.imp id λhu=>R9 sH hu)).ext cr)⟩
 ·have:tmp (a.put (some d) val) d=val:=by rw[hK,v.h.size,if_pos ⟨rfl,UT⟩]
  rw[this];exact US
 ·refine PF.ge (λ_ _ h=>h) (λb i ha u hu=>cr.cell b i (oy hu) rfl u hu) cr.pZ D (λk hk o' d' tF lN=>?_) (λb i hp=>⟨λu hu=>cr.cell b i (oy hu) rfl u hu,cr.qZ b i (v.h.eI b i (.inl (by omega)))⟩) v.pf
  have:d'≠d:=λe=>dI k o' tF (λe'=>by subst e';exact Pb hk) (by rw[lN,e])
  rw[hK,if_neg (λh=>this h.1.symm)]
 ·intro k hk
  rcases List.mem_cons.1 hk with e | e
  ·subst e;exact hj
  ·exact v.Ce k e
 ·intro k hk
  rcases List.mem_cons.1 hk with e | e
  ·subst e;exact Sa
  ·exact v.dl k e
 ·intro k hk
  rcases List.mem_cons.1 hk with e | e
  ·subst e;exact La
  ·exact v.jr k e
 ·have:=FH Pb is La
  have:=v.JK
  omega
 ·have:=(v.hf hf).2
  rw[this] at hj;cases hj
 ·rw[cU sH,v.hL,List.mem_cons]
  constructor
  ·rintro (h | h | h)
   ·exact .inr (.inl h)
   ·exact .inl h
   ·exact .inr (.inr h)
  ·rintro (h | h | h)
   ·exact .inr (.inl h)
   ·exact .inl h
   ·exact .inr (.inr h)
theorem JP (hE:lI P E) {cQ:Nat} (bk:∀ o ∈ ops.toList,kA P o.op=true) {K:St->Option R} (hP:∀ c a w,¬ Q (.panic c) a w) (vu:Region.noSelect ops=true) (po:w_ E ops pd=true) (JN:g_ E.pd cQ=pd) {er:List (Nat×Nat)} (Cf:zA E.er cQ=er) (oR:sD E ops pd er=true) :
  ∀ (is:List Nat) (l:Array Bool) (f:Bool) {C:Ctx} {σ:St},(∀ a w,Nx P C K x a w->Q .normal a w)->(∀ b i,C.A0 b i->C.F0 b i=0)->sC E cQ ops pd is l f=true->wD E cQ ops.toList is σ K=some x ->
   ∀ (fuel:Nat) {A:Cells} {a:Act} {w:World} {X:FP} {F:Nat->FP} {D:List Nat} {L:Array Bool} {RC:List (Nat×Nat×Nat×Nat×List Value)},Inv P E ops pd w0 C is l f σ fuel A a w X F D L er RC->ns P .any ops Q (SD E ops w0 C RC) fuel L a w:=by
 intro is
 induction is with
 | nil=>
  intro l f C σ hQ hC hg hk fuel A a w X F D L RC v
  simp only[sC,List.isEmpty_iff] at hg
  have hD:D=[]:=by
   cases D with
   | nil=>rfl
   | cons j D=>have:=v.jr j (by simp);cases this
  subst hD
  have hr:Region.ready .any ops L=[]:=by
   rw[List.eq_nil_iff_forall_not_mem]
   intro j hj
   have:=v.xd (S:=[]) (λ_ h=>h) hj (by simp)
   rw[tD,hg] at this
   cases this
  have hq:=hQ a w ⟨σ,hk,A,F,v.h.less λ_ _=>Nat.zero_le _⟩
  cases fuel with
  | zero=>exact ⟨hr,hq⟩
  | succ fuel=>exact ⟨λ_=>hq,by rw[hr];simp⟩
 | cons i is ih=>
  intro l f C σ hQ hC hg hk
  simp only[wD] at hk
  split at hk
  ·cases hk
  rename_i mf
  simp only[sC] at hg
  cases hi:ops[i]? with
  | none=>rw[hi] at hg;cases hg
  | some o=>
  rw[Array.getElem?_toList,hi] at hk
  rw[hi] at hg
  simp only at hk hg
  have DR:i < ops.size:=(Array.getElem?_eq_some_iff.1 hi).1
  have rh:o ∈ ops.toList:=List.mem_of_getElem? (i:=i) (by simpa using hi)
  have HN:∀ (fuel:Nat) {A:Cells} {a:Act} {w:World} {X:FP} {F:Nat->FP} {D:List Nat} {L:Array Bool} {RC:List (Nat×Nat×Nat×Nat×List Value)},Inv P E ops pd w0 C (i::is) l f σ fuel A a w X F D L er RC->i ∈ D->ns P .any ops Q (SD E ops w0 C RC) fuel L a w:=by
   intro fuel A a w X F D L RC v hD
   have uH:=v.Ce i hD
   rw[jB.2 uH] at hg
   simp only[Bool.and_eq_true,Bool.not_eq_true'] at hg
   obtain ⟨⟨⟨lG,_⟩,_⟩,hg⟩:=hg
   have lG:i ∉ is:=λhm=>by rw[jB.2 hm] at lG;cases lG
   obtain ⟨o',d',s',tF,UU,lN,W8,_⟩:=ue po uH
   rw[hi] at tF
   injection tF with tF
   subst tF
   obtain ⟨o2,d,s,Fi,X',g1,g2,g3,g4,g5,g6⟩:=PF.take D hD v.pf
   rw[hi] at g1
   injection g1 with g1
   subst g1
   simp only[wC,UU] at hk
   split at hk
   ·cases hk
   rw[K6 g3,g2] at hk
   split at hk
   rotate_left
   ·cases hk
   obtain ⟨F2,U⟩:=v.h.aQ (some d) g4.slot g5 g4.whole
   rw[D8] at U
   exact ih _ f hQ hC hg hk fuel (v.HN hD lG U g6)
  intro fuel
  induction fuel with
  | zero=>
   intro A a w X F D L RC v
   by_cases hD:i ∈ D
   ·exact HN 0 v hD
   ·have:=v.JK
    simp[List.filter_cons,hD] at this
  | succ fuel UV=>
  intro A a w X F D L RC v
  by_cases hD:i ∈ D
  ·exact HN _ v hD
  have Ai:∀ e ∈ RC,ub ops L e.2.1->Has w e.2.2.1 e.2.2.2.1 e.2.2.2.2:=λe he=>by obtain ⟨_,_,_,_,_,_,_,_,_,_,_,q⟩:=v.rc e he;exact q
  have SZ:∀ w',Ext w w' (λ_ _=>0)->∀ (l':Array Bool),(∀ k,l'.getD k false=false->L.getD k false=false)->((∀ d,jA E ops d=true->l'.getD d false=false)->Ext w0 w' (λ_ _=>0))->SD E ops w0 C RC l' w':=λw' lF l' Aj hh=>⟨hh,(λb i ha u hu=>by
   have:=v.h.ext.cell b i (oy hu) (hC b i ha) u hu
   exact lF.cell b i (oy this) rfl u this),λe he hu=>(Ai e he (hu.imp id (Aj _))).ext lF⟩
  have JQ:∀ j,j ∈ pd->j ∈ Region.ready .any ops L->wpOp P ops Q j (λa' w'=>SD E ops w0 C RC (L.setIfInBounds j true) w'/\ns P .any ops Q (SD E ops w0 C RC) fuel (L.setIfInBounds j true) a' w') a w:=λj hj hr=>
   v.early hE po JN oR mf hC hj hr (λw' lF hh=>SZ w' lF _ (λk hk=>R9 (by rw[v.sF];obtain ⟨_,oj,Ad,_⟩:=mem_ready.1 hr;exact (Array.getElem?_eq_some_iff.1 Ad).1) hk) hh) (λa' w' X' v'=>UV v')
  have D_:SD E ops w0 C RC L w:=⟨v.hS,(λb i ha u hu=>v.h.ext.cell b i (oy hu) (hC b i ha) u hu),Ai⟩
  cases Ea:pd.any (Nat.beq i) with
  | true=>
   rw[Ea] at hg
   simp only[Bool.and_eq_true,Bool.not_eq_true',List.all_eq_true] at hg
   obtain ⟨⟨⟨lG,tG⟩,Bx⟩,hg⟩:=hg
   have mg:i ∈ Region.ready .any ops L:=v.yV (by simpa using tG) hD
   refine ⟨λh0=>(by rw[h0] at mg;cases mg),λj hj=>JQ j ?_ hj⟩
   by_cases MM:j ∈ pd.filter (λj=>!Nat.beq i j)
   ·exact (List.mem_filter.1 MM).1
   ·refine jB.1 (Bx j (v.xd (λk hk=>List.mem_filter.2 ⟨v.Ce k hk,?_⟩) hj MM))
    cases hb:Nat.beq i k with
    | false=>rfl
    | true=>rw[Nat.eq_of_beq_eq_true hb] at hD;exact absurd hk hD
  | false=>
  rw[Ea] at hg
  simp only at hg
  have Wt:i ∉ pd:=λhm=>by rw[jB.2 hm] at Ea;cases Ea
  have Lb:∀ j ∈ D,∀ o' d,ops[j]?=some o'->o'.dst=some d->o.dst≠some d:=λj hj o' d tF lN=>by
   obtain ⟨o2,d2,s2,g1,_,g2,_,g3⟩:=ue po (v.Ce j hj)
   rw[tF] at g1;injection g1 with g1;subst g1
   rw[lN] at g2;injection g2 with g2;subst g2
   exact g3 i o hi (λe=>by subst e;exact hD hj)
  obtain ⟨b,iq,hk,h1,hw⟩:=D5 v.h hk
  have kY:(match (generalizing:=false) b with
    | true=>kI E cQ i o iq λσ=>match zB E cQ ops.toList i o is σ with
     | true=>wD E cQ ops.toList is σ K
     | false=>none
    | false=>wD E cQ ops.toList is (iq.aQ o.dst (.kM [])) K)=some x/\(b=true->Dq E cQ i=true->Dp iq o=true):=by
   cases b with
   | true=>
    simp only at hk
    cases hn:(Dq E cQ i&&!Dp iq o) with
    | true=>rw[hn] at hk;cases hk
    | false=>
     rw[hn] at hk
     exact ⟨hk,λ_ zT=>by rw[zT] at hn;simpa using hn⟩
   | false=>exact ⟨hk,λe=>by cases e⟩
  obtain ⟨hk,S4⟩:=kY
  have sr:∀ (val:Value),∀ j ∈ D,∀ o' d,ops[j]?=some o'->o'.dst=some d->tmp (a.put o.dst val) d=tmp a d:=λval j hj o' d tF lN=>by
   have:=Lb j hj o' d tF lN
   cases Pc:o.dst with
   | none=>rfl
   | some e=>rw[hK,if_neg (λh=>this (by rw[Pc,h.1]))]
  split at hg
  ·rename_i MN
   simp only[Bool.and_eq_true,Bool.or_eq_true,Bool.not_eq_true',List.all_eq_true,List.mem_range] at MN
   obtain ⟨jx,⟨C4,Eb⟩,tG⟩:=MN
   have mg:i ∈ Region.ready .any ops L:=v.yV (by simpa using Eb) hD
   have Ak:∀ j oj,ops[j]?=some oj->j≠i->L.getD j true=false->(∀ e ∈ oj.after,Region.binds .any e=true->e.on≠i)->o.apart ops oj=true:=λj oj Ad hJ lQ iz=>Region.free_spec hi C4 j oj Ad hJ (v.Ah lQ).2.2 iz
   have og:jA E ops i=false:=by simp[jA,hi,jx]
   have yy:∀ (l':Array Bool),(∀ d,jA E ops d=true->(l'.setIfInBounds i true).getD d false=false)↔∀ d,jA E ops d=true->l'.getD d false=false:=λl'=>by
    constructor
    ·intro hh d hd
     have:=hh d hd
     rw[getD_set_ne false (λe=>by subst e;rw[og] at hd;cases hd)] at this
     exact this
    ·intro hh d hd
     rw[getD_set_ne false (λe=>by subst e;rw[og] at hd;cases hd)]
     exact hh d hd
   have MO:∀ (C:Ctx) (RC:List (Nat×Nat×Nat×Nat×List Value)),(∀ e ∈ RC,(e.1,e.2.1) ∈ er)->∀ l w,SD E ops w0 C RC (l.setIfInBounds i true) w↔SD E ops w0 C RC l w:=λC RC gB l' w'=>by
    unfold SD
    rw[yy]
    refine and_congr Iff.rfl (and_congr Iff.rfl (forall_congr' λe=>forall_congr' λhe=>?_))
    have dI:i≠e.2.1:=λe'=>by
     rcases (of oR (gB e he)).2.1 with h | ⟨h,_⟩
     ·omega
     ·rw[<-e',og] at h;cases h
    unfold ub
    rw[getD_set_ne false dI]
   have gB:∀ e ∈ RC,(e.1,e.2.1) ∈ er:=λe he=>(v.rc e he).1
   have QI:∀ {l':Array Bool} {u:Nat},(∃ j,(j,u) ∈ er)->(ub ops (l'.setIfInBounds i true) u->ub ops l' u):=λ{l' u} ⟨j,hj⟩ hu=>by
    have dI:i≠u:=λe'=>by
     rcases (of oR hj).2.1 with h | ⟨h,_⟩
     ·omega
     ·rw[<-e',og] at h;cases h
    unfold ub at hu ⊢
    rwa [getD_set_ne false dI] at hu
   have MP:(∀ d,jA E ops d=true->(L.setIfInBounds i true).getD d false=false)->Ext w0 w (λ_ _=>0):=λhd=>v.hS ((yy L).1 hd)
   have yW:L.getD i false=false:=by
    have h0:=(mem_ready.1 mg).1
    rw[nK (by rw[v.sF];exact DR)] at h0
    exact h0
   have xY:∀ (val:Value),∀ e ∈ RC,RE ops er (L.setIfInBounds i true) (a.put o.dst val) w e:=λval=>v.qX oR hi yW (λd hd=>by
    cases ho:o.dst with
    | none=>rfl
    | some d'=>rw[hK,if_neg (λe=>hd (by rw[ho,e.1]))]) (λe he hu=>Ai e he (QI ⟨_,gB e he⟩ hu))
   cases b with
   | true=>
    simp only at hk
    cases Pd:Dq E cQ i with
    | true=>
     obtain ⟨C',c1,c2,c3,c4,c5⟩:=h1.NS
     obtain ⟨C1,f1,f2⟩:=c4.frame
     obtain ⟨val,eJ,fS,f8,A2,F2,U⟩:=NT f1 hE (bk o rh) jx (S4 rfl Pd) hk
     simp only at f8
     split at f8
     rotate_left
     ·cases f8
     have Pe:∀ b i,C'.A0 b i->C'.F0 b i=0:=λb i ha=>c3 b i (by rw[<-c2];exact ha)
     obtain ⟨e1,e2,e3,e4,e5⟩:=f2 U
     refine ud (S:=SD E ops w0 C' RC) (λl' w' hs=>⟨hs.1,(λb i ha u hu=>hs.2.1 b i (by rw[c2];exact h1.a0 b i ha) u (by rw[c1];exact h1.ext.cell b i (oy hu) (hC b i ha) u hu)),hs.2.2⟩) _ _ _ _
      (pv hi (Region.noSelect_spec vu) (λc a w hq=>(hP c _ _ hq).elim) (MO C' RC gB) fuel L a w Ak mg v.cl (.inl ⟨hw,λw' nt=>eJ w' λb i ha u hu=>?_⟩) ⟨v.hS,(λb i ha u hu=>by rw[c1] at hu;exact hu),Ai⟩
      (ih _ f (λa w ⟨tt,q1,A3,F3,q2⟩=>hQ a w ⟨tt,q1,A3,F3,c5 q2⟩) Pe hg f8 fuel (v.next hD mg e1 (PF.ge e2 e3 e4 D (sr val) e5 v.pf) MP v.hf (xY val))))
     obtain ⟨l',sf,lQ,nt⟩:=nt
     exact nt.2.1 b i (by rw[c2];exact ha) u (by rw[c1];exact hu)
    | false=>
    cases Ec:Ha E cQ i with
    | true=>
     obtain ⟨u,C5⟩:∃ u,(i,u) ∈ er:=by
      unfold Ha at Ec
      rw[Cf] at Ec
      obtain ⟨e,UW,UX⟩:=List.any_eq_true.1 Ec
      rw[Nat.eq_of_beq_eq_true UX]
      exact ⟨e.2,UW⟩
     obtain ⟨_,Sb,o1,t1,x1,d1,g1,_,g2,g3,g4,_⟩:=of oR C5
     rw[hi] at g1
     injection g1 with g1
     subst g1
     obtain ⟨C1,f1,f2⟩:=h1.frame
     obtain ⟨b0,off,S5,cs,q1,q2,q3,q4⟩:=NV f1 hE (bk o rh) g2 hk
     obtain ⟨val,eJ,fS,f8,A2,F2,U⟩:=C3 hE f1 (bk o rh) jx hk
     have DG:val=S5:=by
      have r1:=eJ w λ_=>Ext.refl _ _
      have r2:=q4 w q2
      rw[r1] at r2
      injection r2 with r2 _
      injection r2
     subst DG
     simp only at f8
     split at f8
     rotate_left
     ·cases f8
     rename_i C6
     obtain ⟨e1,e2,e3,e4,e5⟩:=f2 U
     have rg:RE ops er (L.setIfInBounds i true) (a.put o.dst val) w (i,u,b0,off,cs):=by
      refine ⟨C5,(cU (by rw[v.sF];exact DR)).2 (.inl rfl),o,t1,x1,d1,hi,g2,g3,?_,?_,λ_=>q2⟩
      ·rw[g3,hK,if_neg (λe=>g4 e.1.symm)];exact q1
      ·simp only[zB,Ec,Bool.or_true,Bool.not_true,Bool.false_or,Hc,Cf,List.all_eq_true] at C6
       have h9:=C6 _ C5
       have K9:is.any (Nat.beq i)=false:=by
        cases hb:is.any (Nat.beq i) with
        | false=>rfl
        | true=>exact absurd (jB.1 hb) (List.nodup_cons.1 v.JL).1
       have K_:(is.any (Nat.beq u)||Nat.ble ops.toList.length u)=true:=by
        rcases Nat.lt_or_ge u ops.size with k1 | k1
        ·obtain ⟨k2,_,k3⟩:=Sb.resolve_left (by omega)
         rcases v.JM u k1 with k4 | k4
         ·have k5:=(v.hL u).2 (.inl k4)
          have:=nJ v.cl _ _ _ k3 k5
          rw[yW] at this;cases this
         ·rcases List.mem_cons.1 k4 with k5 | k5
          ·rw[k5,og] at k2;cases k2
          ·rw[jB.2 k5,Bool.true_or]
        ·have:Nat.ble ops.toList.length u=true:=by simpa using k1
         rw[this,Bool.or_true]
       rw[K9,K_,Bool.not_true,Bool.false_or,Bool.false_or,Array.getElem?_toList,hi] at h9
       simp only at h9
       have yw:=(JJ U h9 g2 g3 (b:=b0) (off:=off) (by rw[g3,hK,if_neg (λe=>g4 e.1.symm)];exact q1)).2
       rw[g3] at yw ⊢
       rw[hK,if_pos ⟨rfl,by simpa [Act.put] using yw⟩];exact q3
     refine ud (S:=SD E ops w0 C ((i,u,b0,off,cs)::RC)) (λl' w' hs=>⟨hs.1,hs.2.1,λe he=>hs.2.2 e (List.mem_cons_of_mem _ he)⟩) _ _ _ _
      (pv hi (Region.noSelect_spec vu) (λc a w hq=>(hP c _ _ hq).elim) (MO C _ (λe he=>by rcases List.mem_cons.1 he with rfl | he;exact C5;exact gB e he)) fuel L a w Ak mg v.cl (.inl ⟨hw,λw' nt=>?_⟩) ⟨D_.1,D_.2.1,λe he hu=>?_⟩
      (ih _ f hQ hC hg f8 fuel (v.next hD mg e1 (PF.ge e2 e3 e4 D (sr val) e5 v.pf) MP v.hf (λe he=>?_))))
     ·obtain ⟨l',sf,lQ,nt⟩:=nt
      refine q4 w' (nt.2.2 _ List.mem_cons_self ?_)
      rcases Sb with k1 | ⟨_,_,k3⟩
      ·exact .inl k1
      ·right
       show l'.getD u false=false
       cases Pf:l'.getD u false with
       | false=>rfl
       | true=>
        have:=nJ sf _ _ _ k3 Pf
        rcases Nat.lt_or_ge i l'.size with h' | h'
        ·simp[h'] at this lQ;rw[lQ] at this;cases this
        ·simp[Array.getElem?_eq_none h'] at this
     ·rcases List.mem_cons.1 he with rfl | he
      ·exact q2
      ·exact Ai e he hu
     ·rcases List.mem_cons.1 he with rfl | he
      ·exact rg
      ·exact xY val e he
    | false=>
    obtain ⟨C1,f1,f2⟩:=h1.frame
    obtain ⟨val,eJ,fS,f8,A2,F2,U⟩:=C3 hE f1 (bk o rh) jx hk
    simp only at f8
    split at f8
    rotate_left
    ·cases f8
    obtain ⟨e1,e2,e3,e4,e5⟩:=f2 U
    refine pv hi (Region.noSelect_spec vu) (λc a w hq=>(hP c _ _ hq).elim) (MO C RC gB) fuel L a w Ak mg v.cl (.inl ⟨hw,λw' nt=>eJ w' λhr=>?_⟩) D_ (ih _ f hQ hC hg f8 fuel (v.next hD mg e1 (PF.ge e2 e3 e4 D (sr val) e5 v.pf) MP v.hf (xY val)))
    rcases tG with ((tG | tG) | tG) | ⟨ez,S6⟩
    ·rw[hr] at tG;cases tG
    ·rw[Pd] at tG;cases tG
    ·rw[Ec] at tG;cases tG
    ·rw[(v.hf ez).1]
     obtain ⟨l',sf,lQ,nt⟩:=nt
     refine nt.1 λd hd=>?_
     have UY:d < ops.size:=by
      unfold jA at hd
      split at hd
      ·rename_i od Pc;exact (Array.getElem?_eq_some_iff.1 Pc).1
      ·cases hd
     rcases S6 d UY with hh | hh
     ·rw[hd] at hh;cases hh
     ·cases Pf:l'.getD d false with
      | false=>rfl
      | true=>
       have:=nJ sf _ _ _ hh Pf
       rcases Nat.lt_or_ge i l'.size with h' | h'
       ·simp[h'] at this lQ;rw[lQ] at this;cases this
       ·simp[Array.getElem?_eq_none h'] at this
   | false=>
    obtain ⟨F2,U⟩:=Bw h1 o
    exact pv hi (Region.noSelect_spec vu) (λc a w hq=>(hP c _ _ hq).elim) (MO C RC gB) fuel L a w Ak mg v.cl (v:=undef) (.inr ⟨hw,rfl⟩) D_ (ih _ f hQ hC hg hk fuel (v.next hD mg U (PF.ge (λ_ _ h=>h) (λ_ _ _ _ h=>h) (λ_ _ h=>h) D (sr undef) (λ_ _ _=>⟨λ_ h=>h,rfl⟩) v.pf) MP v.hf (xY undef)))
  ·simp only[Bool.and_eq_true,List.all_eq_true] at hg
   obtain ⟨⟨Eb,Bx⟩,hg⟩:=hg
   have mg:i ∈ Region.ready .any ops L:=v.yV (by simpa using Eb) hD
   have HO:i < L.size:=by rw[v.sF];exact DR
   have yW:L.getD i false=false:=by
    have h0:=(mem_ready.1 mg).1
    rw[nK HO] at h0
    exact h0
   refine ⟨λh0=>(by rw[h0] at mg;cases mg),λj hj=>?_⟩
   by_cases Sc:j ∈ pd
   ·exact JQ j Sc hj
   have ng:i=j:=Nat.eq_of_beq_eq_true (Bx j (v.xd v.Ce hj Sc))
   subst ng
   unfold wpOp
   simp only[hi,hw]
   have hold:∀ {d},(L.setIfInBounds i true).getD d false=false->L.getD d false=false:=λ{d} hh=>by
    cases hl:L.getD d false with
    | false=>rfl
    | true=>rw[(cU HO).2 (.inr hl)] at hh;cases hh
   have t_:(L.setIfInBounds i true).getD i false=true:=(cU HO).2 (.inl rfl)
   cases b with
   | true=>
    simp only[if_true]
    obtain ⟨C1,f1,f2⟩:=h1.frame
    have tE:∀ w',(∀ b i,A b i->∀ u,ce w b i=some u->ce w' b i=some u)->∀ b i,C.A0 b i->∀ u,ce C.w0 b i=some u->ce w' b i=some u:=λw' he b i ha u hu=>he b i (v.h.a0 b i ha) u (v.h.ext.cell b i (oy hu) (hC b i ha) u hu)
    cases jx:nY E o.op with
    | true=>
     refine .inl (Oper.wp_mono (λa' w' hn=>?_) (JH (NU (C3 hE f1 (bk o rh) jx hk))))
     obtain ⟨ht,UZ,fS,f8,A2,F2,U⟩:=hn
     subst UZ
     simp only at f8
     split at f8
     rotate_left
     ·cases f8
     obtain ⟨e1,e2,e3,e4,e5⟩:=f2 U
     have nt:(∀ d,jA E ops d=true->(L.setIfInBounds i true).getD d false=false)->Ext w0 w (λ_ _=>0):=λhd=>v.hS λd yy=>hold (hd d yy)
     exact ⟨⟨nt,tE _ e3,λe he hu=>Ai e he (hu.imp id hold)⟩,ih _ false hQ hC hg f8 fuel (v.next hD mg e1 (PF.ge e2 e3 e4 D (λj hj o' d tF lN=>ht d (Lb j hj o' d tF lN)) e5 v.pf) nt (λe=>by cases e) (v.qX oR hi yW ht λe he hu=>Ai e he (hu.imp id hold)))⟩
    | false=>
    refine .inl (Oper.wp_mono (λa' w' hn=>?_) (JH (JG hE f1 (bk o rh) jx hk)))
    obtain ⟨ht,⟨fS,f8,A2,F2,U⟩,hq⟩:=hn
    simp only at f8
    split at f8
    rotate_left
    ·cases f8
    rename_i C6
    obtain ⟨e1,e2,e3,e4,e5⟩:=f2 U
    have nt:(∀ d,jA E ops d=true->(L.setIfInBounds i true).getD d false=false)->Ext w0 w' (λ_ _=>0):=λhd=>by
     have Pg:quiet E o.op=true:=by
      cases Pg:quiet E o.op with
      | true=>rfl
      | false=>
       have U0:jA E ops i=true:=by simp[jA,hi,jx,Pg]
       have:=hd i U0
       rw[t_] at this;cases this
     exact (v.hS λd yy=>hold (hd d yy)).trans (hq Pg) (λ_ _ _ _=>rfl)
    have Ph:=v.still oR Cf hi yW U ht (λhm=>hq (quiet_of hk hm jx)) C6
    exact ⟨⟨nt,tE _ e3,Ph⟩,ih _ false hQ hC hg f8 fuel (v.next hD mg e1 (PF.ge e2 e3 e4 D (λj hj o' d tF lN=>ht d (Lb j hj o' d tF lN)) e5 v.pf) nt (λe=>by cases e) (v.qX oR hi yW ht Ph))⟩
   | false=>
    simp only[Bool.false_eq_true,if_false]
    obtain ⟨F2,U⟩:=Bw h1 o
    have nt:(∀ d,jA E ops d=true->(L.setIfInBounds i true).getD d false=false)->Ext w0 w (λ_ _=>0):=λhd=>v.hS λd yy=>hold (hd d yy)
    exact ⟨⟨nt,D_.2.1,λe he hu=>Ai e he (hu.imp id hold)⟩,ih _ false hQ hC hg hk fuel (v.next hD mg U (PF.ge (λ_ _ h=>h) (λ_ _ _ _ h=>h) (λ_ _ h=>h) D (sr undef) (λ_ _ _=>⟨λ_ h=>h,rfl⟩) v.pf) nt (λe=>by cases e) (v.qX oR hi yW (λd hd=>by
     cases ho:o.dst with
     | none=>rfl
     | some d'=>rw[hK,if_neg (λe=>hd (by rw[ho,e.1]))]) λe he hu=>Ai e he (hu.imp id hold)))⟩
end
theorem NW (hE:lI P E) (hm:P.follows .mixedOrders=true) {cQ id:Nat} {ops:Array Oper} (bk:∀ o ∈ ops.toList,kA P o.op=true) {is bx:List Nat} (hd:D7 E cQ ops is=true) (h:bE P C A σ a w F) {K:St->Option R} (hk:Gb σ bx (λσ=>IU ops.toList σ (g_ E.pd cQ) λσ=>wD E cQ ops.toList is σ K)=some x)
  (hQ:∀ a w,Nx P C K x a w->Q .normal a w) (hP:∀ c a w,¬ Q (.panic c) a w):(Code.region id ops true).wp P Q a w:=by
 simp only[D7,Bool.and_eq_true,Nat.ble_eq] at hd
 obtain ⟨⟨⟨⟨vu,hlen⟩,po,S7⟩,⟨og,S8⟩,oR⟩,hg⟩:=hd
 have h0:=h.drew
 obtain ⟨A1,iq,F1,hk,h1⟩:=MK bx h0 hk
 obtain ⟨fS,F2,hk,h1⟩:=QH (g_ E.pd cQ) h1 hk
 obtain ⟨C',c1,c2,c3,c4,c5⟩:=h1.O_
 have Pe:∀ b i,C'.A0 b i->C'.F0 b i=0:=λb i ha=>c3 b i (by rw[<-c2];exact ha)
 have Gx:∀ k,(Array.replicate ops.size false).getD k false=false:=λk=>by
  by_cases hk:k < ops.size <;> simp[hk]
 refine wp_region_any hm (Ac _ _ _ _ (JP hE bk hP vu po rfl rfl oR is _ _ (λa w ⟨tt,q1,A3,F3,q2⟩=>hQ a w ⟨tt,q1,A3,F3,c5 q2⟩) Pe hg hk ops.size (w0:=w.drew) (D:=[]) (RC:=[]) ⟨c4,trivial,List.nodup_nil,(λ_ h=>by cases h),(λ_ h=>by cases h),(λ_ h=>by cases h),λj hj=>.inr (jB.1 (List.all_eq_true.1 S7 j hj)),
  Nat.le_trans (List.length_filter_le _ _) hlen,λj o hj hl=>?_,λ_=>Ext.refl _ _,λhf=>⟨rfl,?_⟩,by simp,by simp,(λk=>by simp),yx og,λk hk=>.inr (jB.1 (List.all_eq_true.1 S8 k (List.mem_range.2 hk))),λk _=>Gx k,λe he=>by cases he⟩))
 ·rw[Gx] at hl;cases hl
 ·split at hf
  ·assumption
  ·cases hf
end
end OT
set_option linter.unusedVariables false
set_option linter.unusedSimpArgs false
namespace OT
open Go
section
variable {P:Program} {C:Ctx} {A:Cells} {X:FP} {σ:St} {a:Act} {w:World} {F:Nat->FP} {R:Type} {x:R} {E:Env}
theorem Ed (f:Nat->Slot):∀ (live:List Nat) (i:Nat),gI (live.map λj=>(j,f j)) i=if live.any (Nat.beq i) then some (f i) else none
 | [],i=>rfl
 | j::live,i=>by
  simp only[List.map_cons,gI,List.any_cons]
  by_cases ng:i=j
  ·simp_all
  ·have h1:Nat.beq j i=false:=by
    grind [Nat.eq_of_beq_eq_true]
   have U:Nat.beq i j=false:=by
    grind [Nat.eq_of_beq_eq_true]
   simp only[h1,U,Bool.false_eq_true,if_false,Bool.false_or,Ed f live i]
theorem sI (live:List Nat) (fr:List (Nat×Md)) (σ:St) (i:Nat):(eG live fr σ).get i=if i < σ.n/\live.any (Nat.beq i)=true then to fr i (eU live fr σ i) else .dead:=by
 unfold St.get eG
 simp only[Ed]
 grind [Nat.blt_eq]
theorem vw (live:List Nat) (fr:List (Nat×Md)) (σ:St) (i:Nat):(eG live fr σ).eR i=[0,0,0,0,0]:=rfl
theorem vx {s:List Nat} (h:s.length<=5):Below (s.map λ_=>0) [0,0,0,0,0]:=by
 intro j y hj
 grind
theorem vy {live:List Nat} {fr:List (Nat×Md)} {r:Nat} (hr:wE live fr r=true) {p:Path} {pl:Pl} (hp:place σ a w r p=some pl):place (eG live fr σ) a w r p=some pl:=by
 grind [l_,wE,place,sI,to,eU,bC]
theorem JR {live:List Nat} {fr:List (Nat×Md)} {i:Nat} {G:FP} (hs:bj P A σ a w (tmp a i) (σ.get i) G) (hG:∀ b k,G b k<=1) :
  ∃ G':FP,(∀ b k,G' b k<=G b k)/\∀ A':Cells,(∀ b k,A b k->A' b k)->(∀ b k,1<=G b k->G' b k=0->A' b k)->bj P A' (eG live fr σ) a w (tmp a i) (to fr i (eU live fr σ i)) G':=by
 have same:∀ b k,A b k->∀ u,ce w b k=some u->ce w b k=some u:=λ_ _ _ _ h=>h
 have dead:to fr i .dead=.dead:=by grind [to]
 have vz:∀ {s:Slot},(∀ t m H v,s≠.own t m H v)->(∀ t m H v,s≠.box t m H v)->to fr i s=s:=λ{s} h1 U=>by
  grind [to]
 cases hg:σ.get i with
 | dead=>exact ⟨λ_ _=>0,λ_ _=>Nat.zero_le _,λA' _ _=>by simp only[eU,hg,dead];trivial⟩
 | oU=>
  rw[hg] at hs
  exact ⟨λ_ _=>0,λ_ _=>Nat.zero_le _,λA' _ _=>by simp only[eU,hg];rw[vz (by intros;simp) (by intros;simp)];exact hs⟩
 | val t v=>
  rw[hg] at hs
  obtain ⟨cs,h1,U⟩:=hs
  exact ⟨λ_ _=>0,λ_ _=>Nat.zero_le _,λA' hA _=>by simp only[eU,hg];rw[vz (by intros;simp) (by intros;simp)];exact ⟨cs,h1,Ro.mono same hA t U⟩⟩
 | cp t v=>
  rw[hg] at hs
  exact ⟨λ_ _=>0,λ_ _=>Nat.zero_le _,λA' hA _=>by simp only[eU,hg];rw[vz (by intros;simp) (by intros;simp)];exact Ro.mono same hA (.ptr t) hs⟩
 | own t m H v=>
  rw[hg] at hs
  obtain ⟨cs,h1,U⟩:=hs
  have hk:eU live fr σ i=.own t m H v:=by grind [eU]
  rw[hk]
  unfold to
  split
  ·exact ⟨G,λ_ _=>Nat.le_refl _,λA' hA _=>⟨cs,h1,ah.mono hA same (λ_ _ h=>h) t U (λ_ _=>Nat.le_refl _) (λ_ _ _ _ h=>h)⟩⟩
  ·rename_i m1 hm
   simp only
   split
   ·rename_i hc
    simp only[Bool.and_eq_true,List.isEmpty_iff] at hc
    obtain ⟨hH,hf⟩:=hc
    subst hH
    obtain ⟨G1,g1,g2⟩:=ah.fits t hf U hG
    refine ⟨G1,g1,λA' hA tH=>?_⟩
    have hr:=g2 A' hA tH
    split
    ·rename_i e;subst e;exact ⟨cs,h1,ah.ro t (cN t) hr⟩
    ·exact ⟨cs,h1,hr⟩
   ·exact ⟨λ_ _=>0,λ_ _=>Nat.zero_le _,λA' _ _=>trivial⟩
 | box t m H v=>
  rw[hg] at hs
  obtain ⟨b,o,L,F1,s1,s2,s3,s4,s5,s6⟩:=hs
  have hk:eU live fr σ i=.box t m H v:=by grind [eU]
  rw[hk]
  unfold to
  split
  ·exact ⟨G,λ_ _=>Nat.le_refl _,λA' hA _=>⟨b,o,L,F1,s1,s2,s3,s4,s5,ah.mono hA same (λ_ _ h=>h) t s6 (λ_ _=>Nat.le_refl _) (λ_ _ _ _ h=>h)⟩⟩
  ·rename_i m1 hm
   simp only
   split
   ·rename_i hc
    simp only[Bool.and_eq_true,List.isEmpty_iff] at hc
    obtain ⟨hH,hf⟩:=hc
    subst hH
    obtain ⟨G1,g1,g2⟩:=ah.fits t hf s6 (λb' k=>by grind)
    refine ⟨λb' k=>bP b o t.sz b' k+G1 b' k,λb' k=>by grind,λA' hA tH=>⟨b,o,L,G1,s1,s2,s3,s4,λ_ _=>Nat.le_refl _,g2 A' hA λb' k hp hz=>?_⟩⟩
    grind
   ·exact ⟨λ_ _=>0,λ_ _=>Nat.zero_le _,λA' _ _=>trivial⟩
 | ref r p snap=>
  rw[hg] at hs
  refine ⟨λ_ _=>0,λ_ _=>Nat.zero_le _,λA' _ _=>?_⟩
  simp only[eU,hg]
  split
  ·rename_i hc
   simp only[Bool.and_eq_true] at hc
   rw[vz (by intros;simp) (by intros;simp)]
   obtain ⟨pl,h1,U,h3⟩:=hs.2 hc.1
   have hl:snap.length<=5:=by grind
   exact ⟨by grind [vw,vx],λ_=>⟨pl,vy hc.2 h1,U,by simpa using h3⟩⟩
  ·rw[dead];trivial
 | ptr r p snap=>
  rw[hg] at hs
  refine ⟨λ_ _=>0,λ_ _=>Nat.zero_le _,λA' _ _=>?_⟩
  simp only[eU,hg]
  split
  ·rename_i hc
   simp only[Bool.and_eq_true] at hc
   rw[vz (by intros;simp) (by intros;simp)]
   obtain ⟨pl,b,o,h1,U,h3,h4⟩:=hs.2 hc.1
   have hl:snap.length<=5:=by omega
   exact ⟨by grind [vw,vx],λ_=>⟨pl,b,o,vy hc.2 h1,U,h3,by simpa using h4⟩⟩
  ·rw[dead];trivial
 | sub r p snap lo hi=>
  rw[hg] at hs
  refine ⟨λ_ _=>0,λ_ _=>Nat.zero_le _,λA' _ _=>?_⟩
  simp only[eU,hg]
  split
  ·rename_i hc
   simp only[Bool.and_eq_true] at hc
   rw[vz (by intros;simp) (by intros;simp)]
   obtain ⟨pl,e,xa,n,cap,n_,cap',h1,U,h3,h4,h5,h6,h7,h8,h9,yw,JO⟩:=hs.2 hc.1
   have hl:snap.length<=5:=by grind
   exact ⟨by grind [vw,vx],λ_=>⟨pl,e,xa,n,cap,n_,cap',vy hc.2 h1,U,h3,h4,h5,h6,h7,h8,h9,yw,by simpa using JO⟩⟩
  ·rw[dead];trivial
 | kM xs=>
  rw[hg] at hs
  obtain ⟨vs,Fi,h1,U,h3⟩:=hs
  refine ⟨G,λ_ _=>Nat.le_refl _,λA' hA _=>?_⟩
  simp only[eU,hg]
  rw[vz (by intros;simp) (by intros;simp)]
  exact ⟨vs,Fi,h1,U,λj y hy=>by
   obtain ⟨v,g1,g2⟩:=h3 j y hy
   exact ⟨v,g1,g2.imp id λ⟨cs,g3,g4⟩=>⟨cs,g3,ah.mono hA same (λ_ _ h=>h) _ g4 (λ_ _=>Nat.le_refl _) (λ_ _ _ _ h=>h)⟩⟩⟩
theorem yX (h:bE P C A σ a w F) (live:List Nat) (fr:List (Nat×Md)):wR P C (eG live fr σ) a w:=by
 have hle:∀ i,i < σ.n->∀ b k,F i b k<=1:=λi hi b k=>by have:=h.iQ b k;grind [bu]
 have each:∀ i,∃ G':FP,(∀ b k,i < σ.n->G' b k<=F i b k)/\(¬ i < σ.n->∀ b k,G' b k=0)/\∀ A':Cells,(∀ b k,A b k->A' b k)->(∀ b k,1<=F i b k->G' b k=0->A' b k)->i < σ.n->bj P A' (eG live fr σ) a w (tmp a i) ((eG live fr σ).get i) G':=by
  intro i
  by_cases hi:i < σ.n
  ·by_cases hl:live.any (Nat.beq i)=true
   ·obtain ⟨G',g1,g2⟩:=JR (live:=live) (fr:=fr) (h.cY i hi) (hle i hi)
    exact ⟨G',λb k _=>g1 b k,λhn=>absurd hi hn,λA' hA tH _=>by grind [sI]⟩
   ·exact ⟨λ_ _=>0,λ_ _ _=>Nat.zero_le _,λ_ _ _=>rfl,λA' _ _ _=>by rw[sI,if_neg (λhc=>hl hc.2)];trivial⟩
  ·exact ⟨λ_ _=>0,λ_ _ _=>Nat.zero_le _,λ_ _ _=>rfl,λA' _ _ mH=>absurd mH hi⟩
 obtain ⟨F',Pi⟩:=Classical.axiomOfChoice each
 have jq:∀ b k,aA σ.n F' b k<=aA σ.n F b k:=λb k=>Bg b k λj hj=>(Pi j).1 b k hj
 refine ⟨λb k=>A b k\/∃ j,j < σ.n/\1<=F j b k/\F' j b k=0,F',?_⟩
 have hold:∀ {b k j},j < σ.n->1<=F j b k->1<=0+aA σ.n F b k:=λ{b k j} hj hp=>by grind [bu]
 refine ⟨h.size,h.defers,λi hi=>(Pi i).2.2 _ (λ_ _ h=>.inl h) (λb k hp hz=>.inr ⟨i,hi,hp,hz⟩) hi,(λd r p snap hm=>by cases hm),λb k=>by have:=h.iQ b k;have:=jq b k;show 0+aA σ.n F' b k<=1;omega,λb k hp ha=>?_,λb k hp=>?_,
  λi=>by rw[vw];rfl,h.ext,λb k hp=>h.own b k (by have:=jq b k;have hp:1<=0+aA σ.n F' b k:=hp;grind),λb k ha=>.inl (h.a0 b k ha),λb k ha=>?_,h.il,λr t m H v hg hl=>?_,λj k hm R' iR=>?_,h.o_⟩
 ·have hp:1<=0+aA σ.n F' b k:=hp
  rcases ha with ha | ⟨j,hj,h1,U⟩
  ·exact h.jr b k (by grind) ha
  ·obtain ⟨i,hi,Ea⟩:=Dt (show 1<=aA σ.n F' b k by omega)
   have dI:i≠j:=λe=>by grind
   have:=l9 F hi hj dI b k
   have:=(Pi i).1 b k hi
   have:=h.iQ b k
   omega
 ·rcases hp with hp | (ha | ⟨j,hj,h1,_⟩)
  ·exact h.eI b k (.inl (by have:=jq b k;have hp:1<=0+aA σ.n F' b k:=hp;grind))
  ·exact h.eI b k (.inr ha)
  ·exact h.eI b k (.inl (hold hj h1))
 ·rcases ha with ha | ⟨j,hj,h1,_⟩
  ·exact h.J b k ha
  ·exact .inr (h.own b k (hold hj h1))
 ·rw[sI] at hg
  split at hg
  ·have:∃ m0 H0 v0,σ.get r=.box t m0 H0 v0:=by
    grind [to,eU]
   obtain ⟨m0,H0,v0,OG⟩:=this
   exact h.whole r t m0 H0 v0 OG hl
  ·cases hg
 ·have Hn:bC w (tmp a j) (σ.get j)=some R'\/∃ H0,bC w (tmp a j) (σ.get j)=some { R' with H:=H0 }:=by
   rw[sI] at iR
   split at iR
   ·unfold to at iR
    split at iR
    ·grind [eU,bC]
    ·split at iR
     ·grind [eU,bC]
     ·rename_i t0 m0 H0 v0 hk
      have yu:σ.get j=.box t0 m0 H0 v0:=by
       grind [eU]
      split at iR
      all_goals simp_all [bC]
     grind [bC]
   grind [bC]
  rcases Hn with hr | ⟨H0,hr⟩
  ·exact h.gC j k hm R' hr
  ·have:=h.gC j k hm _ hr
   exact this
theorem NX (live:List Nat) (σ:St):qX live σ=eG live [] σ:=rfl
theorem NY (h:bE P C A σ a w F) (live:List Nat):wR P C (qX live σ) a w:=by grind [NX,yX]
end
end OT
set_option linter.unusedVariables false
set_option linter.unusedSimpArgs false
namespace OT
open Go
def QK (P:Program) (C:Ctx) {R:Type} (K:Ex->St->Option R) (fin:St->Option R) (x:R):Exit->Act->World->Prop
 | .normal,a,w=>∃ σ,K .normal σ=some x/\wR P C σ a w
 | .exit id,a,w=>∃ σ,K (.exit id) σ=some x/\wR P C σ a w
 | .ret,a,w=>∃ σ,fin σ=some x/\wR P C σ a w
 | _,_,_=>False
noncomputable def codeOk (P:Program) (E:Env):Code->Bool
 | .skip=>true
 | .region id ops d=>ops.toList.all (λo=>kA P o.op)&&(match d with
  | false=>true
  | true=>P.follows .mixedOrders&&D7 E id ops (g_ E.od id))
 | .seq a b=>codeOk P E a&&codeOk P E b
 | .cond c a b=>bv P c&&codeOk P E a&&codeOk P E b
 | .block _ b=>codeOk P E b
 | .loop b=>codeOk P E b
 | .scope b=>codeOk P E b
 | .exit _=>true
 | .ret=>true
 | _=>true
section
variable {P:Program} {C:Ctx} {R:Type} {x:R} {E:Env} {fin:St->Option R} {n:Nat}
theorem NZ (hE:lI P E):∀ (c:Code),codeOk P E c=true->∀ {σ:St} {A:Cells} {a:Act} {w:World} {F:Nat->FP} {K:Ex->St->Option R},bE P C A σ a w F->mW E n fin c σ K=some x->c.wp P (QK P C K fin x) a w:=by
 intro c
 induction c with
 | skip=>intro _ σ A a w F K h hk;exact wp_skip ⟨σ,hk,A,F,h⟩
 | region id ops d=>
  intro hc σ A a w F K h hk
  simp only[codeOk,Bool.and_eq_true] at hc
  have bk:∀ o ∈ ops.toList,kA P o.op=true:=λo ho=>List.all_eq_true.1 hc.1 o ho
  cases d with
  | false=>exact JI hE bk h hk (λa w ⟨σ',h1,A',F',U⟩=>by
    obtain ⟨A2,fS,F2,h3,h4⟩:=MK _ U h1
    exact ⟨fS,h3,A2,F2,h4⟩)
  | true=>
   have U:=hc.2
   simp only[Bool.and_eq_true] at U
   exact NW hE U.1 bk U.2 h hk (λa w ⟨σ',h1,U⟩=>⟨σ',h1,U⟩) (λc a w hq=>hq)
 | seq a b fQ fI=>
  intro hc σ A ac w F K h hk
  simp only[codeOk,Bool.and_eq_true] at hc
  refine wp_seq (wp_mono (fQ hc.1 h hk) λe a' w' hq=>?_)
  cases e with
  | normal=>obtain ⟨σ',h1,A',F',U⟩:=hq;exact fI hc.2 U h1
  | exit j=>obtain ⟨σ',h1,U⟩:=hq;exact ⟨σ',h1,U⟩
  | ret=>exact hq
  | _=>exact hq.elim
 | cond c a b fQ fI=>
  intro hc σ A ac w F K h hk
  simp only[codeOk,Bool.and_eq_true] at hc
  simp only[mW] at hk
  rcases cc h hc.1.1 with hs | ⟨xs,e⟩
  rotate_left
  ·rw[e] at hk;cases hk
  grind [zL,wp_cond_true,wp_cond_false]
 | block id b ih=>
  intro hc σ A ac w F K h hk
  refine wp_block (wp_mono (ih hc h hk) λe a' w' hq=>?_)
  cases e with
  | normal=>exact hq
  | exit j=>
   obtain ⟨σ',h1,U⟩:=hq
   simp only[ap] at h1
   simp only[Exit.inBlock]
   by_cases hj:j=id
   ·subst hj
    rw[if_pos (by simp)] at h1
    rw[if_pos rfl]
    exact ⟨σ',h1,U⟩
   ·have:Nat.beq j id=false:=by
     grind [Nat.eq_of_beq_eq_true]
    rw[this,if_neg (by simp)] at h1
    rw[if_neg hj]
    exact ⟨σ',h1,U⟩
  | ret=>exact hq
  | _=>exact hq.elim
 | loop b ih=>
  intro hc σ A ac w F K h hk
  simp only[mW] at hk
  have key:∀ (m:Nat) (σ:St) (ac:Act) (w:World),wR P C σ ac w->xR (mW E n fin b) (eG (g_ E.lv (ln b)) (He E.lf (ln b))) K m σ=some x->Code.rounds P b (QK P C K fin x) m ac w:=by
   intro m
   induction m with
   | zero=>intro σ ac w h hk;cases hk
   | succ m OU=>
    intro σ ac w h hk
    obtain ⟨A',F',h⟩:=h
    rw[rounds_succ]
    refine wp_mono (ih hc h hk) λe a' w' hq=>?_
    cases e with
    | normal=>
     obtain ⟨σ',h1,A2,F2,U⟩:=hq
     exact OU _ a' w' (yX U _ _) h1
    | exit j=>exact hq
    | ret=>exact hq
    | _=>exact hq.elim
  exact wp_loop_rounds n (key n _ ac w (yX h _ _) hk)
 | scope b ih=>
  intro hc σ A ac w F K h hk
  refine wp_scope_straight (wp_mono (ih hc h hk) λe a' w' hq=>?_)
  cases e with
  | normal=>exact hq
  | exit j=>exact hq
  | ret=>exact hq
  | _=>exact hq.elim
 | exit id=>
  intro hc σ A ac w F K h hk
  exact wp_exit ⟨_,hk,NY h _⟩
 | ret=>
  intro hc σ A ac w F K h hk
  exact wp_ret ⟨σ,hk,A,F,h⟩
 | _=>grind [mW]
end
end OT
set_option linter.unusedVariables false
set_option linter.unusedSimpArgs false
namespace OT
open Go
section
variable {P:Program} {C:Ctx} {A:Cells} {X:FP} {σ:St} {a:Act} {w:World} {F:Nat->FP} {R:Type} {x:R} {E:Env}
def vA (tmps:Array Value):ResultVar->Sem Value
 | .tmp t=>pure (tmps.getD t undef)
 | .cell a t=>do loadVar t (<- asAddr (tmps.getD a undef))
theorem Ee {α:Type} (f:α->Sem Value):∀ (l:List α) (vs:List Value),l.length=vs.length->(∀ (j:Nat) (y:α) (v:Value),l[j]?=some y->vs[j]?=some v->(f y).run P w=.ok v w)->(l.mapM f).run P w=.ok vs w
 | [],[],_,_=>rfl
 | y::l,v::vs,hl,h=>by
  have h0:=h 0 y v rfl rfl
  have ih:=Ee f l vs (by simpa using hl) (λj y v hy hv=>h (j+1) y v hy hv)
  simp_all
 | [],_::_,h,_=>by simp at h
 | _::_,[],h,_=>by simp at h
theorem FI {fn:Func} {tmps:Array Value} {vs:List Value} (hl:fn.results.toList.length=vs.length) (h:∀ (j:Nat) (y:ResultVar) (v:Value),fn.results.toList[j]?=some y->vs[j]?=some v->(vA tmps y).run P w=.ok v w) :
  (results fn tmps).run P w=.ok (if h:vs.toArray.size=1 then vs.toArray[0] else .tuple vs.toArray) w:=by
 have h1:=Ee (P:=P) (w:=w) (vA tmps) fn.results.toList vs hl h
 have U:(fn.results.mapM (vA tmps)).run P w=.ok vs.toArray w:=by
  have e:fn.results=fn.results.toList.toArray:=by simp
  rw[e,List.mapM_toArray,map_eq_pure_bind,Sem.run_bind,h1,Result.andThen_ok,Sem.run_pure]
 have e:results fn tmps=(do
  let vs <- fn.results.mapM (vA tmps)
  pure (if h:vs.size=1 then vs[0] else .tuple vs)):=by
  unfold results
  congr 1
 simp_all
def yY (E:Env):List (Ty×Md)->List ResultVar->Bool
 | [],[]=>true
 | _::rs,.tmp _::xs=>yY E rs xs
 | (t,_)::rs,.cell _ ty::xs=>(match E.TI ty with
  | some T=>decide (T=t)
  | none=>false)&&yY E rs xs
 | _,_=>false
theorem QJ (hE:lI P E) (h:Rel P C A X σ a w F) {rv:ResultVar} {t:Ty} (sv:∀ b ty,rv=.cell b ty->E.TI ty=some t) {mv:Bool} {K:Md->t.den->St->Option R} (hk:fR σ (zC σ rv) mv t K=some x) :
  ∃ (tv:Value),(vA a.tmps rv).run P w=.ok tv w/\∃ (A':Cells) (σ':St) (F':Nat->FP) (m:Md) (v:t.den) (cs:List Value) (Fv:FP),K m v σ'=some x/\(∀ b i,A b i->A' b i)/\Rel P C A' (λb i=>X b i+Fv b i) σ' a w F'/\tv=bq t cs/\ah P w A' t m [] v cs Fv:=by
 cases rv with
 | tmp i=>
  rcases cc h (o:=.tmp i) rfl with hs | ⟨xs,e⟩
  rotate_left
  ·grind [zC,fR]
  obtain ⟨A',σ',F',m,v,cs,Fv,k1,k2,k3,k4,kr,k5,k6⟩:=mJ h hs hk
  exact ⟨_,rfl,A',σ',F',m,v,cs,Fv,k1,k2,k3,k5,k6⟩
 | cell i ty=>
  have hT:=sv i ty rfl
  have dx:=hE.ti _ _ hT
  simp only[zC] at hk
  split at hk
  ·rename_i t0 m0 H0 v0 hg
   have hi:i < σ.n:=by
    grind [fL]
   have hs:=h.cY i hi
   rw[hg] at hs
   obtain ⟨b,o,L,F1,s1,s2,s3,s4,s5,s6⟩:=hs
   have dh:place σ a w i []=some ⟨t0,H0,L,some (b,o)⟩:=by
    grind [place,bC,b9,aJ]
   have CZ:bj P A σ a w (bq t0 L) (.ref i [] (σ.eR i)) (λ_ _=>0):=⟨Below.refl _,λ_=>⟨_,dh,rfl,.inr (h.fG i)⟩⟩
   have ht:t0=t:=by
    grind [fR,fk,bh]
   subst ht
   obtain ⟨A',σ',F',m,v,cs,Fv,k1,k2,k3,k4,kr,k5,k6⟩:=mJ h CZ hk
   refine ⟨bq t0 L,?_,A',σ',F',m,v,cs,Fv,k1,k2,k3,k5,k6⟩
   have e:a.tmps.getD i undef=.pointer (some ⟨b,o,none⟩):=s1
   grind [qv,ah.one,vA,asAddr]
  grind [fR]
theorem Pj (hE:lI P E) {ts:List Ty} {mv:Nat->Bool} {fin:St->((bK ts).den->Option R)->Option R}:∀ (rs:List (Ty×Md)) (uz:List ResultVar) (j:Nat) {σ:St} {A:Cells} {X:FP} {F:Nat->FP} {K:(bK (rs.map (·.1)++ts)).den->Option R},
  yY E rs uz=true->Rel P C A X σ a w F->Hf σ ts mv fin rs uz j K=some x ->
  ∃ (A':Cells) (σ':St) (X':FP) (F':Nat->FP) (vB:List Value) (L:List zs) (Fi:Nat->FP) (pre:(bK ts).den->(bK (rs.map (·.1)++ts)).den),(∀ b i,A b i->A' b i)/\Rel P C A' X' σ' a w F'/\fin σ' (λy=>K (pre y))=some x/\(∀ y,fa rs (pre y)=(L,y)) /\
   vB.length=L.length/\vB.length=uz.length/\(∀ (k:Nat) (y:ResultVar) (v:Value),uz[k]?=some y->vB[k]?=some v->(vA a.tmps y).run P w=.ok v w)/\(∀ b i,X b i+aA L.length Fi b i<=X' b i) /\
   ∀ A2:Cells,(∀ b i,A' b i->A2 b i)->(∀ b i,1<=X' b i->X b i=0->aA L.length Fi b i=0->A2 b i)->∀ k y,L[k]?=some y->∃ v cs,vB[k]?=some v/\v=bq y.t cs/\ah P w A2 y.t y.m [] y.v cs (Fi k):=by
 intro rs
 induction rs with
 | nil=>
  intro uz j σ A X F K MQ h hk
  cases uz with
  | nil=>exact ⟨A,σ,X,F,[],[],λ_ _ _=>0,id,λ_ _ h=>h,h,hk,λy=>rfl,rfl,rfl,(λk y v hy=>by cases hy),(λb i=>by simp[aA]),λA2 _ _ k y hy=>by cases hy⟩
  | cons _ _=>cases MQ
 | cons p rs ih=>
  intro uz j σ A X F K MQ h hk
  obtain ⟨t,m⟩:=p
  cases uz with
  | nil=>cases hk
  | cons rv uz=>
   simp only[Hf] at hk
   have sv:∀ b ty,rv=.cell b ty->E.TI ty=some t:=λb ty e=>by
    grind [yY]
   have S9:yY E rs uz=true:=by
    cases rv <;> grind [yY]
   obtain ⟨tv,eJ,A1,iq,F1,m1,v1,cs,Fv,k1,k2,k3,k4,k5⟩:=QJ hE h sv hk
   split at k1
   ·rename_i hm
    obtain ⟨A',σ',X',F',vB,L,Fi,pre,g1,g2,g3,g4,g5,g6,g7,g8,g9⟩:=ih uz (j+1) S9 k3 k1
    have pe:∀ b i,X' b i<=1:=λb i=>by have:=g2.iQ b i;omega
    have sA:∃ G:FP,(∀ b i,G b i<=Fv b i)/\∀ A2:Cells,(∀ b i,A1 b i->A2 b i)->(∀ b i,1<=Fv b i->G b i=0->A2 b i)->ah P w A2 t m [] v1 cs G:=by
     by_cases Ef:m1=m
     ·subst Ef
      exact ⟨Fv,λ_ _=>Nat.le_refl _,λA2 hA _=>ah.mono hA (λ_ _ _ _ h=>h) (λ_ _ h=>h) t k5 (λ_ _=>Nat.le_refl _) (λ_ _ _ _ h=>h)⟩
     ·rcases hm with hm | hm
      ·grind
      ·exact ah.fits t hm k5 (λb i=>by grind)
    obtain ⟨G,G1,G2⟩:=sA
    have jq:∀ b i,aA (L.length+1) (λk=>match k with | 0=>G | k+1=>Fi k) b i=G b i+aA L.length Fi b i:=λb i=>by
     rw[Nat.add_comm,qa]
     congr 1
     ·simp[aA]
     grind
    refine ⟨A',σ',X',F',tv::vB,⟨t,m,v1⟩::L,λk=>match k with | 0=>G | k+1=>Fi k,λy=>(v1,pre y),λb i ha=>g1 b i (k2 b i ha),g2,g3,λy=>by grind [fa],by simp[g5],by simp[g6],λk y v hy hv=>?_,λb i=>?_,λA2 hA tH k y hy=>?_⟩
    ·grind
    ·grind
    ·have S_:∀ b i,1<=X' b i->X b i=0->G b i+aA L.length Fi b i=0->A2 b i:=λb i h1 U h3=>tH b i h1 U (by grind)
     cases k with
     | zero=>
      grind
     | succ k=>
      refine g9 A2 hA (λb i h1 U h3=>S_ b i h1 (by omega) (by grind)) k y hy
   ·cases k1
theorem Eg {l:List (Nat×Nat×Bool)} {i j:Nat} {c:Bool} (h:ux l i j c=true):(i,j,c) ∈ l:=by
 induction l <;> grind [ux,Nat.beq_eq]
def iX (F:Nat->FP):List Nat->FP
 | []=>λ_ _=>0
 | i::l=>λb k=>F i b k+iX F l b k
theorem vC (F:Nat->FP) (i:Nat) (G:FP) (b k:Nat):∀ (l:List Nat),i ∉ l->iX (cx F i G) l b k=iX F l b k
 | [],_=>rfl
 | j::l,hj=>by
  simp only[List.mem_cons,not_or] at hj
  simp only[iX,vC F i G b k l hj.2]
  rw[show cx F i G j=F j by grind [cx]]
theorem GD:∀ (l:List Nat) {n:Nat} (F:Nat->FP),l.Nodup->(∀ i ∈ l,i < n)->∀ b k,iX F l b k<=aA n F b k
 | [],n,F,_,_,b,k=>Nat.zero_le _
 | i::l,n,F,hn,hl,b,k=>by
  have MC:=List.nodup_cons.1 hn
  have h1:=GD l (cx F i λ_ _=>0) MC.2 (λj hj=>hl j (List.mem_cons_of_mem _ hj)) b k
  grind [vC,l8,iX]
theorem Eh {F:Nat->FP} {b k:Nat}:∀ {l:List Nat},1<=iX F l b k->∃ i ∈ l,1<=F i b k
 | [],h=>by simp[iX] at h
 | i::l,h=>by
  simp only[iX] at h
  rcases Nat.eq_zero_or_pos (F i b k) with h0 | h0
  ·obtain ⟨j,hj,hp⟩:=Eh (F:=F) (b:=b) (k:=k) (l:=l) (by omega)
   grind
  grind
def yZ:List (PM×Ty)->Bool
 | []=>true
 | _::ps=>yZ ps
theorem N0 (h:Rel P C A X σ a w F):∀ (j:Nat) (ps:List (PM×Ty)) (es:List Nat) {K:(bK (e_ ps)).den->Option R},yZ ps=true->es.Nodup->j+ps.length<=C.args.size->o5 σ j ps es K=some x ->
  ∃ (vs:(bK (e_ ps)).den) (us:List Nat) (Gi:Nat->FP),K vs=some x/\(∀ i ∈ us,i ∈ es)/\us.Nodup/\(∀ i ∈ us,i < σ.n)/\(∀ i b k,i ∈ us->Gi i b k<=F i b k) /\
   ∀ A2:Cells,(∀ b k,A b k->A2 b k)->(∀ i b k,i ∈ us->1<=F i b k->Gi i b k=0->A2 b k)->iP P w A2 ps vs (C.args.toList.drop j) (iX Gi us):=by
 intro j ps
 induction ps generalizing j with
 | nil=>intro es K _ _ _ hk;exact ⟨(),[],λ_ _ _=>0,by cases es <;> exact hk,(λi hi=>by cases hi),List.nodup_nil,(λi hi=>by cases hi),(λi b k hi=>by cases hi),λ_ _ _=>trivial⟩
 | cons p ps ih=>
  intro es K hp og hj hk
  obtain ⟨pm,t⟩:=p
  have rt:j+1+ps.length<=C.args.size:=by grind
  have HP:(C.args.toList.drop j).tail=C.args.toList.drop (j+1):=by rw[List.tail_drop]
  have QL:(C.args.toList.drop j).head?=some (C.args.getD j undef):=by
   simp only[List.length_cons] at hj
   rw[List.head?_drop,Array.getElem?_toList,Array.getElem?_eq_getElem (by omega)]
   simp[show j < C.args.size by omega]
  have RI:∀ i,i < σ.n->∀ b k,F i b k<=1:=λi hi b k=>by have:=h.iQ b k;grind [bu]
  cases pm with
  | ro=>
   obtain ⟨vs,us,Gi,g1,g2,g3,g4,g5,g6⟩:=ih (j+1) es hp og rt hk
   exact ⟨vs,us,Gi,g1,g2,g3,g4,g5,λA2 hA tH=>by grind [iP]⟩
  | fix f=>
   obtain ⟨vs,us,Gi,g1,g2,g3,g4,g5,g6⟩:=ih (j+1) es hp og rt hk
   exact ⟨vs,us,Gi,g1,g2,g3,g4,g5,λA2 hA tH=>by grind [iP]⟩
  | jX f=>
   obtain ⟨vs,us,Gi,g1,g2,g3,g4,g5,g6⟩:=ih (j+1) es hp og rt hk
   exact ⟨vs,us,Gi,g1,g2,g3,g4,g5,λA2 hA tH=>by grind [iP]⟩
  | iy f=>
   obtain ⟨vs,us,Gi,g1,g2,g3,g4,g5,g6⟩:=ih (j+1) es hp og rt hk
   exact ⟨vs,us,Gi,g1,g2,g3,g4,g5,λA2 hA tH=>by grind [iP]⟩
  | cZ m0 m=>
   cases es with
   | nil=>cases hk
   | cons i es=>
    have Ei:=List.nodup_cons.1 og
    simp only[o5] at hk
    split at hk
    ·rename_i t' m' H v hg
     split at hk
     ·rename_i hc
      simp only[Bool.and_eq_true,List.isEmpty_iff,Bool.or_eq_true,decide_eq_true_eq] at hc
      obtain ⟨⟨hH,hm⟩,vj⟩:=hc
      subst hH
      obtain ⟨e,hk⟩:=bh hk
      subst e
      obtain ⟨vs,us,Gi,g1,g2,g3,g4,g5,g6⟩:=ih (j+1) es hp Ei.2 rt hk
      have hi:i < σ.n:=by
       grind [fL]
      have hs:=h.cY i hi
      rw[hg] at hs
      obtain ⟨b,o,L,F1,s1,s2,s3,s4,s5,s6⟩:=hs
      have Wu:=h.il i j (Eg vj)
      have MR:i ∉ us:=λhu=>Ei.1 (g2 i hu)
      have sA:∃ G:FP,(∀ b k,G b k<=F1 b k)/\∀ A2:Cells,(∀ b i,A b i->A2 b i)->(∀ b i,1<=F1 b i->G b i=0->A2 b i)->ah P w A2 t' m [] v L G:=by
       rcases hm with hm | hm
       ·subst hm
        exact ⟨F1,λ_ _=>Nat.le_refl _,λA2 hA _=>ah.mono hA (λ_ _ _ _ h=>h) (λ_ _ h=>h) t' s6 (λ_ _=>Nat.le_refl _) (λ_ _ _ _ h=>h)⟩
       ·exact ah.fits t' hm s6 (λb' k=>by grind)
      obtain ⟨G,G1,G2⟩:=sA
      refine ⟨(v,vs),i::us,cx Gi i λb' k=>bP b o t'.sz b' k+G b' k,g1,λi' mH=>?_,List.nodup_cons.2 ⟨MR,g3⟩,λi' mH=>?_,λi' b' k mH=>?_,λA2 hA tH=>?_⟩
      ·grind
      ·grind
      ·by_cases MS:i'=i
       ·grind [cx]
       ·simp only[cx,if_neg MS]
        grind
      ·refine ⟨λb' k=>bP b o t'.sz b' k+G b' k,iX Gi us,λb' k=>?_,⟨b,o,L,G,by grind,s2,s3,λ_ _=>Nat.le_refl _,G2 A2 hA λb' k hp hz=>?_⟩,?_⟩
       ·grind [iX,vC,cx]
       ·grind [cx]
       ·rw[HP]
        refine g6 A2 hA λi' b' k mH hp hz=>tH i' b' k (List.mem_cons_of_mem _ mH) hp ?_
        have dI:i'≠i:=λe=>by grind
        simp only[cx,if_neg dI];exact hz
     ·cases hk
    ·cases hk
  | gj m=>
   cases es with
   | nil=>cases hk
   | cons i es=>
    have Ei:=List.nodup_cons.1 og
    simp only[o5] at hk
    have main:∀ (t':Ty) (m':Md) (H:List Path) (v:t'.den),(σ.get i=.own t' m' H v\/σ.get i=.box t' m' H v)->(if H.isEmpty&&(decide (m'=m)||fits m' m)&&ux σ.aF i j true then dJ t' t v λv=>o5 σ (j+1) ps es λvs=>K (v,vs) else none)=some x ->
      ∃ (vs:(bK (e_ ((PM.gj m,t)::ps))).den) (us:List Nat) (Gi:Nat->FP),K vs=some x/\(∀ i' ∈ us,i' ∈ i::es)/\us.Nodup/\(∀ i ∈ us,i < σ.n)/\(∀ i b k,i ∈ us->Gi i b k<=F i b k) /\
       ∀ A2:Cells,(∀ b k,A b k->A2 b k)->(∀ i b k,i ∈ us->1<=F i b k->Gi i b k=0->A2 b k)->iP P w A2 ((PM.gj m,t)::ps) vs (C.args.toList.drop j) (iX Gi us):=by
     intro t' m' H v hg hk
     split at hk
     ·rename_i hc
      simp only[Bool.and_eq_true,List.isEmpty_iff,Bool.or_eq_true,decide_eq_true_eq] at hc
      obtain ⟨⟨hH,hm⟩,vj⟩:=hc
      subst hH
      obtain ⟨e,hk⟩:=bh hk
      subst e
      obtain ⟨vs,us,Gi,g1,g2,g3,g4,g5,g6⟩:=ih (j+1) es hp Ei.2 rt hk
      have hi:i < σ.n:=by
       grind [fL]
      have hs:=h.cY i hi
      have dw:∃ (cs:List Value) (F1:FP),bq t' cs=C.args.getD j undef/\(∀ b k,F1 b k<=F i b k)/\ah P w A t' m' [] v cs F1:=by
       have hl:=h.gC i j (Eg vj)
       rcases hg with hg | hg
       ·rw[hg] at hs hl
        obtain ⟨cs,h1,U⟩:=hs
        have:=hl _ rfl
        grind [eH,ah.length,ah.one]
       ·rw[hg] at hs hl
        obtain ⟨b,o,L,F1,s1,s2,s3,s4,s5,s6⟩:=hs
        rw[s1] at hl
        have:=hl _ rfl
        grind [b9]
      obtain ⟨jz,F1,Ta,hF,s6⟩:=dw
      have MR:i ∉ us:=λhu=>Ei.1 (g2 i hu)
      have sA:∃ G:FP,(∀ b k,G b k<=F1 b k)/\∀ A2:Cells,(∀ b i,A b i->A2 b i)->(∀ b i,1<=F1 b i->G b i=0->A2 b i)->ah P w A2 t' m [] v jz G:=by
       rcases hm with hm | hm
       ·subst hm
        exact ⟨F1,λ_ _=>Nat.le_refl _,λA2 hA _=>ah.mono hA (λ_ _ _ _ h=>h) (λ_ _ h=>h) t' s6 (λ_ _=>Nat.le_refl _) (λ_ _ _ _ h=>h)⟩
       ·exact ah.fits t' hm s6 (λb' k=>by grind)
      obtain ⟨G,G1,G2⟩:=sA
      refine ⟨(v,vs),i::us,cx Gi i G,g1,λi' mH=>?_,List.nodup_cons.2 ⟨MR,g3⟩,λi' mH=>?_,λi' b' k mH=>?_,λA2 hA tH=>?_⟩
      ·grind
      ·grind
      ·by_cases MS:i'=i
       ·subst MS
        simp only[cx,if_true]
        grind
       ·simp only[cx,if_neg MS]
        grind
      ·refine ⟨G,iX Gi us,λb' k=>?_,⟨jz,by rw[QL,Ta],G2 A2 hA λb' k hp hz=>?_⟩,?_⟩
       ·simp only[iX,vC Gi i _ b' k us MR]
        simp only[cx,if_true];exact Nat.le_refl _
       ·refine tH i b' k List.mem_cons_self (by grind) ?_
        simp only[cx,if_true];exact hz
       ·rw[HP]
        refine g6 A2 hA λi' b' k mH hp hz=>tH i' b' k (List.mem_cons_of_mem _ mH) hp ?_
        have dI:i'≠i:=λe=>by grind
        simp only[cx,if_neg dI];exact hz
     ·cases hk
    split at hk
    ·rename_i t' m' H v hg;exact main t' m' H v (.inl hg) hk
    ·rename_i t' m' H v hg;exact main t' m' H v (.inr hg) hk
    ·cases hk
end
end OT
set_option linter.unusedVariables false
set_option linter.unusedSimpArgs false
namespace OT
open Go
section
variable {P:Program} {w:World} {A:Cells} {R:Type} {x:R} {E:Env}
theorem oE:∀ (ps:List (PM×Ty)) (v:(bK (ps.map (·.2))).den),(db ps v).length=ps.length
 | [],_=>rfl
 | (.ro,t)::ps,v=>by cases t <;> simp[db,oE ps v.2]
 | (.fix f,t)::ps,v=>by cases t <;> simp[db,oE ps v.2]
 | (.cZ m m',t)::ps,v=>by simp[db,oE ps v.2]
 | (.gj m,t)::ps,v=>by simp[db,oE ps v.2]
 | (.jX m,t)::ps,v=>by simp[db,oE ps v.2]
 | (.iy m,t)::ps,v=>by simp[db,oE ps v.2]
theorem y0:∀ (ps:List (PM×Ty)) {v:(bK (ps.map (·.2))).den} {xs:List Value} {G:FP},iN P w A DV ps v xs G->xs.length=ps.length
 | [],_,_,_,h=>by have h:_=[]:=h;rw[h];rfl
 | (pm,t)::ps,_,_,_,h=>by
  obtain ⟨y,ys,F1,F2,rfl,_,_,U⟩:=h
  simp[y0 ps U]
theorem N3:∀ (ps:List (PM×Ty)) {v:(bK (ps.map (·.2))).den} {xs:List Value} {G:FP},iN P w A DV ps v xs G->yZ ps=true ->
  ∃ Fi:Nat->FP,(∀ b k,aA ps.length Fi b k<=G b k)/\∀ i s,(db ps v)[i]?=some s->∃ y,xs[i]?=some y/\(∀ σ a,bj P A σ a w y s (Fi i))/\(∀ t m H v,s=.box t m H v->(i,i,false) ∈ nf 0 ps) /\
   ((i,i,true) ∈ nf 0 ps->∃ t m H v,s=.own t m H v):=by
 have main:∀ (ps:List (PM×Ty)) (n:Nat) {v:(bK (ps.map (·.2))).den} {xs:List Value} {G:FP},iN P w A DV ps v xs G->yZ ps=true ->
   ∃ Fi:Nat->FP,(∀ b k,aA ps.length Fi b k<=G b k)/\∀ i s,(db ps v)[i]?=some s->∃ y,xs[i]?=some y/\(∀ σ a,bj P A σ a w y s (Fi i))/\(∀ t m H v,s=.box t m H v->(n+i,n+i,false) ∈ nf n ps) /\
    ((n+i,n+i,true) ∈ nf n ps->∃ t m H v,s=.own t m H v):=by
  have av:∀ (ps:List (PM×Ty)) (n j k:Nat) (c:Bool),(j,k,c) ∈ nf n ps->n<=j/\j=k:=by
   intro ps
   induction ps with
   | nil=>intro n j k c h;cases h
   | cons p ps ih=>
    intro n j k c h
    obtain ⟨pm,t⟩:=p
    cases pm with
    | ro=>have:=ih (n+1) j k c h;omega
    | fix f=>have:=ih (n+1) j k c h;omega
    | iy m=>have:=ih (n+1) j k c h;omega
    | cZ m m'=>
     rcases List.mem_cons.1 h with e | h
     all_goals grind
    | jX m=>
     rcases List.mem_cons.1 h with e | h
     all_goals grind
    | gj m=>
     rcases List.mem_cons.1 h with e | h
     all_goals grind
  intro ps
  induction ps with
  | nil=>intro n v xs G h _;exact ⟨λ_ _ _=>0,λb k=>Nat.zero_le _,λi s hs=>by cases hs⟩
  | cons p ps ih=>
   intro n v xs G h hp
   obtain ⟨pm,t⟩:=p
   obtain ⟨y,ys,F1,F2,rfl,hs,ha,hr⟩:=h
   have RB:yZ ps=true:=hp
   obtain ⟨Fi,g1,g2⟩:=ih (n+1) hr RB
   obtain ⟨s0,Sd,Lc,OF,dj⟩:∃ s0,db ((pm,t)::ps) v=s0::db ps v.2/\(∀ σ a,bj P A σ a w y s0 F1)/\(∀ t' m' H' v',s0=.box t' m' H' v'->∃ m,(∃ m',pm=.cZ m m')\/pm=.jX m)/\((∃ m,pm=.gj m)->∃ t' m H v,s0=.own t' m H v):=by
    cases pm with
    | ro=>
     obtain ⟨cs,h1,U⟩:=ha
     cases t with
     | ptr e=>
      refine ⟨.cp e v.1,rfl,λσ a=>?_,(λ_ _ _ _ e=>by cases e),λ⟨m,e⟩=>by cases e⟩
      have hl:=Ro.length _ U
      match cs,hl with
      | [u],_=>
       rw[bL _ _ rfl] at h1
       subst h1
       exact U
     | _=>exact ⟨.val _ v.1,rfl,λσ a=>⟨cs,h1,U⟩,(λ_ _ _ _ e=>by cases e),λ⟨m,e⟩=>by cases e⟩
    | fix f=>
     obtain ⟨⟨cs,h1,U⟩,h3⟩:=ha
     cases t with
     | fn=>
      refine ⟨.val .fn (f,v.1.2),rfl,λσ a=>⟨cs,h1,?_⟩,(λ_ _ _ _ e=>by cases e),λ⟨m,e⟩=>by cases e⟩
      grind
     | _=>exact ⟨.dead,rfl,λσ a=>trivial,(λ_ _ _ _ e=>by cases e),λ⟨m,e⟩=>by cases e⟩
    | cZ m m'=>
     obtain ⟨b,o,L,F3,h1,U,h3,h4,h5,h6⟩:=ha
     exact ⟨.box t m [] v.1,rfl,λσ a=>⟨b,o,L,F3,h1,U,h3,h4,h5,h6⟩,λ_ _ _ _ _=>⟨m,.inl ⟨m',rfl⟩⟩,λ⟨m,e⟩=>by cases e⟩
    | jX m=>
     obtain ⟨b,o,L,F3,h1,U,h3,h4,h5,h6⟩:=ha
     exact ⟨.box t m [] v.1,rfl,λσ a=>⟨b,o,L,F3,h1,U,h3,h4,h5,h6⟩,λ_ _ _ _ _=>⟨m,.inr rfl⟩,λ⟨m,e⟩=>by cases e⟩
    | gj m=>
     obtain ⟨cs,h1,U⟩:=ha
     exact ⟨.own t m [] v.1,rfl,λσ a=>⟨cs,h1,U⟩,(λ_ _ _ _ e=>by cases e),λ_=>⟨_,_,_,_,rfl⟩⟩
    | iy m=>
     obtain ⟨H,cs,hH,h1,U⟩:=ha
     obtain rfl:=List.isEmpty_iff.1 hH
     exact ⟨.own t m [] v.1,rfl,λσ a=>⟨cs,h1,U⟩,(λ_ _ _ _ e=>by cases e),λ_=>⟨_,_,_,_,rfl⟩⟩
   refine ⟨λk=>match k with | 0=>F1 | k+1=>Fi k,λb k=>?_,λi s hi=>?_⟩
   ·have:aA (ps.length+1) (λk=>match k with | 0=>F1 | k+1=>Fi k) b k=F1 b k+aA ps.length Fi b k:=by
     rw[Nat.add_comm,qa]
     grind [aA]
    grind
   ·rw[Sd] at hi
    cases i with
    | zero=>
     injection hi with hi
     subst hi
     refine ⟨y,rfl,Lc,λt' m' H' v' e=>?_,λhm=>?_⟩
     ·obtain ⟨m,⟨_,rfl⟩ | rfl⟩:=OF t' m' H' v' e
      ·exact List.mem_cons_self
      ·exact List.mem_cons_self
     ·refine dj ?_
      cases pm with
      | gj m=>exact ⟨m,rfl⟩
      | ro=>have:=av ps (n+1) _ _ _ hm;omega
      | fix f=>have:=av ps (n+1) _ _ _ hm;omega
      | iy m=>have:=av ps (n+1) _ _ _ hm;omega
      | cZ m m'=>
       rcases List.mem_cons.1 hm with e | hm
       all_goals grind
      | jX m=>
       rcases List.mem_cons.1 hm with e | hm
       all_goals grind
    | succ i=>
     obtain ⟨y',q1,q2,q3,q4⟩:=g2 i s hi
     have Tb:n+1+i=n+(i+1):=by omega
     rw[Tb] at q3 q4
     refine ⟨y',q1,q2,λt' m' H' v' e=>?_,λhm=>q4 ?_⟩
     ·have:=q3 t' m' H' v' e
      cases pm with
      | ro=>exact this
      | fix f=>exact this
      | iy m=>exact this
      | cZ m m'=>exact List.mem_cons_of_mem _ this
      | jX m=>exact List.mem_cons_of_mem _ this
      | gj m=>exact List.mem_cons_of_mem _ this
     ·cases pm with
      | ro=>exact hm
      | fix f=>exact hm
      | iy m=>exact hm
      | cZ m m'=>
       rcases List.mem_cons.1 hm with e | hm
       all_goals grind
      | jX m=>
       rcases List.mem_cons.1 hm with e | hm
       all_goals grind
      | gj m=>
       rcases List.mem_cons.1 hm with e | hm
       all_goals grind
 intro ps v xs G h hp
 obtain ⟨Fi,g1,g2⟩:=main ps 0 h hp
 exact ⟨Fi,g1,λi s hi=>by grind⟩
theorem Ej:∀ (ps:List (PM×Ty)) (n j k:Nat) (c:Bool),(j,k,c) ∈ nf n ps->n<=j/\j=k/\j < n+ps.length:=by
 intro ps
 induction ps with
 | nil=>intro n j k c h;cases h
 | cons p ps ih=>
  intro n j k c h
  obtain ⟨pm,t⟩:=p
  simp only[List.length_cons]
  cases pm with
  | ro=>have:=ih (n+1) j k c h;omega
  | fix f=>have:=ih (n+1) j k c h;omega
  | iy m=>have:=ih (n+1) j k c h;omega
  | cZ m m'=>
   rcases List.mem_cons.1 h with e | h
   all_goals grind
  | jX m=>
   rcases List.mem_cons.1 h with e | h
   all_goals grind
  | gj m=>
   rcases List.mem_cons.1 h with e | h
   all_goals grind
theorem Ek:∀ (ss:List Slot) (n i:Nat),gI (sd n ss) i=if n<=i then ss[i - n]? else none
 | [],n,i=>by simp[sd,gI]
 | s::ss,n,i=>by
  simp only[sd,gI,Ek ss (n+1) i]
  by_cases hi:n=i
  ·simp_all
  grind [Nat.eq_of_beq_eq_true]
theorem Ld {g:nc} {v:(bK (g.ps.map (·.2))).den} {xs:List Value} {F0:FP} {n:Nat} (h:iN P w A DV g.ps v xs F0) (hp:yZ g.ps=true) (hn:g.ps.length<=n) (h1:∀ b i,F0 b i<=1) (U:∀ b i,1<=F0 b i->¬ A b i) (h3:∀ b i,1<=F0 b i\/A b i->b < w.heap.size) (El:ox P w F0) :
  ∃ F,bE P { w0:=w,A0:=A,F0:=F0,args:=xs.toArray } A (uy g.ps v n) { tmps:=xs.toArray++Array.replicate (n - xs.toArray.size) undef,defers:=[] } w F:=by
 obtain ⟨Fi,g1,g2⟩:=N3 g.ps h hp
 have hlen:=y0 g.ps h
 have RS:=oE g.ps v
 have pg:∀ i,(uy g.ps v n).get i=if i < n then (match (db g.ps v)[i]? with | some s=>s | none=>.dead) else .dead:=λi=>by
  grind [St.get,uy,Ek,Nat.blt_eq]
 have Tc:∀ i (y:Value),xs[i]?=some y->tmp { tmps:=xs.toArray++Array.replicate (n - xs.toArray.size) undef,defers:=[] } i=y:=λi y hy=>by
  have hi:=(List.getElem?_eq_some_iff.1 hy).1
  simp_all [tmp,Array.getElem?_append_left]
 have jq:∀ b k,aA n (λi=>if i < g.ps.length then Fi i else λ_ _=>0) b k<=F0 b k:=λb k=>by
  have e:n=g.ps.length+(n - g.ps.length):=by omega
  rw[e,qa]
  have e1:=congrFun (congrFun (o6 (n:=g.ps.length) (f:=λi=>if i < g.ps.length then Fi i else λ_ _=>0) (g:=Fi) (λj hj=>by grind)) b) k
  grind [f7]
 refine ⟨λi=>if i < g.ps.length then Fi i else λ_ _=>0,?_,rfl,λi hi=>?_,(λd r p snap hm=>by cases hm),λb k=>?_,λb k hp=>?_,λb k hp=>?_,λi=>rfl,Ext.refl _ _,λb k hp=>?_,λ_ _ h=>h,λ_ _ h=>.inl h,λj k hm=>?_,λr t m H v' hg hl=>?_,λj k hm R hR=>?_,El⟩
 ·grind [uy]
 ·rw[pg]
  have hi:i < n:=hi
  rw[if_pos hi]
  cases hs:(db g.ps v)[i]? with
  | none=>trivial
  | some s=>
   grind
 ·have:=jq b k;have:=h1 b k;show 0+aA n _ b k<=1;omega
 ·have hp:1<=0+aA n (λi=>if i < g.ps.length then Fi i else λ_ _=>0) b k:=hp
  grind
 ·refine h3 b k (hp.imp (λhp=>?_) id)
  have hp:1<=0+aA n (λi=>if i < g.ps.length then Fi i else λ_ _=>0) b k:=hp
  grind
 ·have hp:1<=0+aA n (λi=>if i < g.ps.length then Fi i else λ_ _=>0) b k:=hp
  grind
 ·obtain ⟨_,rfl,hj⟩:=Ej g.ps 0 j k false hm
  simp_all
 ·exfalso
  rw[pg] at hg
  split at hg
  ·cases hs:(db g.ps v)[r]? with
   | none=>grind
   | some s=>
    rw[hs] at hg
    obtain ⟨y,_,_,q3,_⟩:=g2 r s hs
    exact hl r (q3 t m H v' hg)
  ·cases hg
 ·obtain ⟨_,rfl,hj⟩:=Ej g.ps 0 j k true hm
  have rt:j < (db g.ps v).length:=by omega
  have hs:=List.getElem?_eq_getElem rt
  obtain ⟨y,q1,q2,_,q4⟩:=g2 j _ hs
  obtain ⟨t,m,H,v',e⟩:=q4 hm
  have U1:j < n:=by omega
  rw[pg,if_pos U1,hs] at hR
  simp only[e,bC,Option.some.injEq] at hR
  subst hR
  rw[Tc j y q1]
  have U:=q2 (uy g.ps v n) { tmps:=#[],defers:=[] }
  rw[e] at U
  obtain ⟨cs,c1,c2⟩:=U
  have:=eH (ah.length _ c2) (ah.one _ c2)
  simp_all
noncomputable def C7 (P:Program) (E:Env) (fn:Func) (ps:List (PM×Ty)) (rs:List (Ty×Md)) (es:List Nat):Bool:=
 codeOk P E (wF fn)&&yY E rs fn.results.toList&&yZ ps&&Nat.ble ps.length fn.ntmps&&decide es.Nodup
theorem CN (hE:lI P E) {f:FuncId} {fn:Func} (hf:P.funcs[f]?=some fn) (hb:fn.body.isSome=true) {g:nc} (hh:∀ v H,g.yh v H=true->H=[]) {es fr:List Nat} (ao:C7 P E fn g.ps g.rs es=true) (hF:∀ v out,g.F v=some out->∃ k,CY E k fn g.ps g.rs es fr v=some out):Sound P f g:=by
 intro w A F0 v xs fX h1 U h3 El out mh
 replace fX:=fX.none (hh v)
 obtain ⟨k,hk⟩:=hF v out mh
 simp only[C7,Bool.and_eq_true,Nat.ble_eq,decide_eq_true_eq] at ao
 obtain ⟨⟨⟨⟨MT,MQ⟩,po⟩,Mr⟩,og⟩:=ao
 obtain ⟨c,hc⟩:=Option.isSome_iff_exists.1 hb
 have Se:wF fn=c:=by simp[wF,hc]
 rw[Se] at MT
 obtain ⟨F,Lc⟩:=Ld fX po Mr h1 U h3 El
 unfold CY at hk
 rw[Se] at hk
 have xe:=y0 g.ps fX
 have Pk:∀ (a':Act) (w':World) (σ':St),Dr g.ps g.rs es fn.results.toList (Me fr) σ'=some out->wR P { w0:=w,A0:=A,F0:=F0,args:=xs.toArray } σ' a' w' ->
   a'.defers=[]/\∃ rv,(results fn a'.tmps).run P w'=.ok rv w'/\(∃ Sf,Ending.returned rv=.returned Sf/\Ext w w' F0/\∃ (A':Cells) (G GR GM:FP),(∀ b i,A b i->A' b i)/\(∀ b i,A' b i->A b i\/1<=F0 b i\/w.heap.size<=b) /\
    (∀ b i,1<=G b i->1<=F0 b i\/w.heap.size<=b)/\(∀ b i,G b i<=1)/\(∀ b i,1<=G b i->¬ A' b i)/\(∀ b i,1<=G b i\/A' b i->b < w'.heap.size)/\(∀ b i,GR b i+GM b i<=G b i) /\
    gL P w' A' (fa g.rs out).1 Sf GR/\iP P w' A' g.ps (fa g.rs out).2 xs GM):=by
  intro a' w' σ' ho hr
  obtain ⟨A1,F1,hr⟩:=hr
  unfold Dr at ho
  obtain ⟨A2,fS,X2,F2,vB,L,Fi,pre,r1,r2,r3,r4,r5,r6,r7,r8,r9⟩:=Pj hE g.rs fn.results.toList 0 MQ hr ho
  obtain ⟨vs,us,Gi,m1,m2,m3,m4,m5,m6⟩:=N0 r2 0 g.ps es po og (by simp[xe]) r3
  have Td:pre vs=out:=Option.some.inj m1
  have i_:fa g.rs out=(L,vs):=by rw[<-Td,r4]
  have W9:∀ b i,aA L.length Fi b i<=X2 b i:=λb i=>by grind
  have Te:∀ b i,iX Gi us b i<=iX F2 us b i:=λb i=>by
   have:∀ l:List Nat,(∀ j ∈ l,j ∈ us)->iX Gi l b i<=iX F2 l b i:=by
    intro l
    induction l <;> grind [iX]
   grind
  have W_:∀ b i,iX Gi us b i<=aA fS.n F2 b i:=λb i=>Nat.le_trans (Te b i) (GD us F2 m3 m4 b i)
  refine ⟨r2.defers,_,FI (by rw[r6]) r7,_,rfl,r2.ext,?_⟩
  obtain ⟨A3,ku⟩:∃ A3:Cells,∀ b i,A3 b i↔(A2 b i\/(1<=X2 b i+aA fS.n F2 b i/\aA L.length Fi b i+iX Gi us b i=0)):=⟨λb i=>A2 b i\/(1<=X2 b i+aA fS.n F2 b i/\aA L.length Fi b i+iX Gi us b i=0),λ_ _=>Iff.rfl⟩
  have Pm:∀ b i,A2 b i->A3 b i:=λb i h=>(ku b i).2 (.inl h)
  have pe:∀ b i,X2 b i+aA fS.n F2 b i<=1:=λb i=>r2.iQ b i
  refine ⟨A3,λb i=>aA L.length Fi b i+iX Gi us b i,aA L.length Fi,iX Gi us,λb i ha=>Pm b i (r2.a0 b i ha),λb i ha=>?_,λb i hp=>?_,λb i=>?_,λb i hp ha=>?_,λb i hp=>?_,λ_ _=>Nat.le_refl _,?_,?_⟩
  ·rcases (ku b i).1 ha with ha | ⟨hp,_⟩
   ·exact r2.J b i ha
   ·exact .inr (r2.own b i hp)
  ·have hp:1<=aA L.length Fi b i+iX Gi us b i:=hp
   exact r2.own b i (by grind)
  ·grind
  ·have hp:1<=aA L.length Fi b i+iX Gi us b i:=hp
   rcases (ku b i).1 ha with ha | ⟨_,hz⟩
   ·exact r2.jr b i (by grind) ha
   ·omega
  ·rcases hp with hp | ha
   ·have hp:1<=aA L.length Fi b i+iX Gi us b i:=hp
    exact r2.eI b i (.inl (by grind))
   ·rcases (ku b i).1 ha with ha | ⟨hp,_⟩
    ·exact r2.eI b i (.inr ha)
    ·exact r2.eI b i (.inl hp)
  ·rw[i_]
   have HQ:=r9 A3 Pm (λb i hx _ hz=>(ku b i).2 (.inr ⟨by omega,by
    grind⟩))
   show gL P w' A3 L _ _
   match L,r5,HQ with
   | [],_,_=>trivial
   | [y],hl,HQ=>
    match vB,hl with
    | [u],_=>
     obtain ⟨u',cs,e1,e2,e3⟩:=HQ 0 y rfl
     injection e1 with e1
     subst e1
     refine ⟨cs,by simpa using e2,e3.le λb i=>by simp[aA]⟩
   | y::z::L,hl,HQ=>
    refine ⟨vB.toArray,Fi,?_,λ_ _=>Nat.le_refl _,λj q hq=>?_⟩
    all_goals grind
  grind [bu,Eh,l9]
 refine calls_of_wp hf hc (wp_mono (NZ hE c MT Lc hk) λe a' w' hq=>?_)
 cases e with
 | normal=>obtain ⟨σ',h4,h5⟩:=hq;exact Pk a' w' σ' h4 h5
 | ret=>obtain ⟨σ',h4,h5⟩:=hq;exact Pk a' w' σ' h4 h5
 | exit j=>obtain ⟨σ',h4,h5⟩:=hq;cases h4
 | _=>exact hq.elim
end
end OT
set_option linter.unusedVariables false
set_option linter.unusedSimpArgs false
namespace OT
open Go
def Em (w:World):Cells:=λb _=>b < w.heap.size
def uf:Ty->Bool
 | .int _ | .bool | .str | .unit=>true
 | .pair a b=>uf a&&uf b
 | .ae e=>uf e
 | _=>false
def Cg:(T:Ty)->T.den->Prop
 | .int k,n=>k.min<=iw k n/\iw k n<=k.max
 | .str,s=>List.length s<=maxLen
 | .pair a b,v=>Cg a v.1/\Cg b v.2
 | .ae e,v=>List.length v<=maxLen/\∀ x ∈ (v:List e.den),Cg e x
 | _,_=>True
def JS:(ps:List (PM×Ty))->(bK (ps.map (·.2))).den->Prop
 | [],_=>True
 | (_,T)::ps,v=>Cg T v.1/\JS ps v.2
section
variable {P:Program} {w:World} {H:Type} {enc:TypeId×Value->H}
theorem y9 {T:Ty} {i:TypeId} (h:aC P T (.inl i)=true):P.cellsOf i=T.sz:=by
 obtain ⟨inf,h1,U,_⟩:=eW (gq h)
 grind [Program.cellsOf]
theorem Le {a:Addr} {k:Nat} {u:Value} (h:w.cell? (a.add k)=some u) (hk:k=0\/a.spot=none):a.spot=none:=by
 rcases hk with rfl | hk
 ·unfold Addr.add at h
  rw[if_pos rfl] at h
  unfold World.cell? at h
  split at h
  all_goals simp_all
 ·exact hk
theorem N4:∀ (T:Ty),uf T=true ->
  (∀ i,aC P T (.inl i)=true->∀ fuel cs x,DataW.trod enc P w 0 (λ_=>true) true fuel i cs=some x->∃ v:T.den,Cg T v/\Ro P w (Em w) T v cs) /\
  (∀ fs off,aC P T (.inr (fs,off))=true->∀ n (cs:List Value),cs.length=off+T.sz->(∀ f ∈ fs,∃ x,DataW.trod enc P w 0 (λ_=>true) true n f.type ((cs.drop f.offset).take (P.cellsOf f.type))=some x)->∃ v:T.den,Cg T v/\Ro P w (Em w) T v (cs.drop off)):=by
 intro T
 induction T with
 | int k=>
  intro _
  refine ⟨λi hl fuel cs x h=>?_,λfs off hl=>by simp[aC] at hl⟩
  obtain ⟨n,rfl,_,MU⟩:=DataW.trod_int (jy hl) h
  simp only[Lit.wf,Bool.and_eq_true,decide_eq_true_eq] at MU
  cases k with
  | u8=>
   have h1:iw .u8 (UInt8.ofInt n)=n:=by
    have:=Bp .u8 n (λ_=>by
     have h1:(0:Int)<=n:=MU.1
     have U:n<=(255:Int):=MU.2
     omega)
    exact this
   refine ⟨(UInt8.ofInt n:UInt8),?_,?_⟩
   ·show IntKind.u8.min<=iw .u8 (UInt8.ofInt n)/\iw .u8 (UInt8.ofInt n)<=IntKind.u8.max
    grind
   ·show [Value.int .u8 n]=[Value.int .u8 (iw .u8 (UInt8.ofInt n))]
    rw[h1]
  | _=>exact ⟨n,MU,rfl⟩
 | bool=>
  intro _
  refine ⟨λi hl fuel cs x h=>?_,λfs off hl=>by simp[aC] at hl⟩
  have hu:P.underlying i=some .bool:=by
   grind [aC]
  obtain ⟨b,rfl,_⟩:=DataW.trod_bool hu h
  exact ⟨b,trivial,rfl⟩
 | str=>
  intro _
  refine ⟨λi hl fuel cs x h=>?_,λfs off hl=>by simp[aC] at hl⟩
  obtain ⟨s,rfl,_,MV⟩:=DataW.trod_string (gi hl) h
  exact ⟨s.data.toList,(by show s.data.toList.length<=maxLen;simp_all),by simp only[Ro]⟩
 | unit=>
  intro _
  refine ⟨λi hl fuel cs x h=>?_,λfs off hl n cs hlen _=>⟨(),trivial,?_⟩⟩
  ·simp only[aC,Bool.and_eq_true] at hl
   have U:=hl.2
   split at U
   ·rename_i fs hu
    obtain ⟨xs,n,_,_,hlen,_⟩:=DataW.trod_struct hu h
    have gn:P.cellsOf i=0:=by
     grind [eW,Program.cellsOf,Ty.sz]
    rw[gn] at hlen
    exact ⟨(),trivial,by grind [Ro]⟩
   ·cases U
  grind [Ro,List.drop_of_length_le,Ty.sz]
 | pair a b fQ fI=>
  intro ha
  simp only[uf,Bool.and_eq_true] at ha
  have Pn:∀ fs off,aC P (.pair a b) (.inr (fs,off))=true->∀ n (cs:List Value),cs.length=off+(Ty.pair a b).sz->(∀ f ∈ fs,∃ x,DataW.trod enc P w 0 (λ_=>true) true n f.type ((cs.drop f.offset).take (P.cellsOf f.type))=some x)->∃ v:(Ty.pair a b).den,Cg (.pair a b) v/\Ro P w (Em w) (.pair a b) v (cs.drop off):=by
   intro fs off hl n cs hlen hf
   cases fs with
   | nil=>simp[aC] at hl
   | cons f r=>
    simp only[aC,Bool.and_eq_true,Nat.beq_eq,Nat.ble_eq] at hl
    obtain ⟨⟨⟨ho,_⟩,h1⟩,U⟩:=hl
    simp only[Ty.sz] at hlen
    obtain ⟨x,hx⟩:=hf f List.mem_cons_self
    rw[ho,y9 h1] at hx
    obtain ⟨v1,o1,r1⟩:=(fQ ha.1).1 _ h1 _ _ _ hx
    obtain ⟨v2,o2,r2⟩:=(fI ha.2).2 r (off+a.sz) U n cs (by omega) (λf' MW=>hf f' (List.mem_cons_of_mem _ MW))
    exact ⟨(v1,v2),⟨o1,o2⟩,r1,by simp_all⟩
  refine ⟨λi hl fuel cs x h=>?_,Pn⟩
  have OW:=hl
  simp only[aC,Bool.and_eq_true] at hl
  have U:=hl.2
  split at U
  ·rename_i fs hu
   split at U
   ·rename_i f r zN
    have h3:aC P (.pair a b) (.inr (f::r,0))=true:=by
     grind [aC]
    obtain ⟨xs,n,_,_,hlen,xe,N5⟩:=DataW.trod_struct hu h
    rw[y9 OW] at hlen
    have:=Pn (f::r) 0 h3 n cs (by omega) (λf' MW=>by
     rw[<-zN] at MW
     obtain ⟨j,hj,e⟩:=List.mem_iff_getElem.1 MW
     have rt:j < fs.size:=by simpa using hj
     have:=N5 j f' (by grind)
     grind)
    simpa using this
   ·cases U
  ·cases U
 | ae e ih=>
  intro ha
  simp only[uf] at ha
  refine ⟨λi hl fuel cs x h=>?_,λfs off hl=>by simp[aC] at hl⟩
  obtain ⟨el,hu,gn,hle⟩:=mM hl
  rcases DataW.trod_slice hu h with ⟨rfl,_⟩ | ⟨a,len,cap,elems,rest,n,_,rfl,_,_,RL,Xa,kX,Lf,im,_⟩
  ·exact ⟨[],⟨Nat.zero_le _,λx hx=>by cases hx⟩,none,0,rfl,Nat.le_refl _,λ_=>rfl,λad e=>by cases e⟩
  ·rw[y9 hle] at Lf im
   have kZ:∀ k y,(w.cells? 0 (a.add (k*e.sz)) e.sz).bind (DataW.trod enc P w 0 (λ_=>true) true n el)=some y->∃ aS,w.cells? 0 (a.add (k*e.sz)) e.sz=some aS/\DataW.trod enc P w 0 (λ_=>true) true n el aS=some y:=λk y hk=>by
    cases hc:w.cells? 0 (a.add (k*e.sz)) e.sz <;> grind
   have MX:0 < cap->a.spot=none:=λBo=>by
    have DT:∃ aS,w.cells? 0 (a.add (0*e.sz)) e.sz=some aS:=by
     by_cases hlen:0 < len
     ·have h0:=Lf 0 hlen
      rw[List.getElem?_eq_getElem (by omega)] at h0
      obtain ⟨aS,h1,_⟩:=kZ 0 _ h0
      grind
     ·obtain rfl:len=0:=by omega
      obtain ⟨p5,nV⟩:=im rfl
      have h0:=nV 0 (by omega)
      rw[List.getElem?_eq_getElem (by omega)] at h0
      obtain ⟨aS,h1,_⟩:=kZ (0+0) _ h0
      grind
    obtain ⟨aS,h1⟩:=DT
    obtain ⟨_,rx,U⟩:=World.cells?_some h1
    grind [Addr.add,Le]
   have each:∀ k:Fin len,∃ v:e.den,Cg e v/\∃ L:List Value,L.length=e.sz/\(∀ j u,L[j]?=some u->ce w a.block (a.off+k.val*e.sz+j)=some u/\Em w a.block (a.off+k.val*e.sz+j))/\Ro P w (Em w) e v L:=λk=>by
    have h0:=Lf k.val k.isLt
    rw[List.getElem?_eq_getElem (by grind)] at h0
    obtain ⟨aS,h1,U⟩:=kZ k.val _ h0
    obtain ⟨v,ho,hv⟩:=(ih ha).1 _ hle _ _ _ U
    obtain ⟨_,rx,h3⟩:=World.cells?_some h1
    refine ⟨v,ho,aS,rx,λj u hu=>?_,hv⟩
    have hj:=(List.getElem?_eq_some_iff.1 hu).1
    have h4:=h3 j (by omega)
    rw[hu] at h4
    have i_:=MX (by grind)
    obtain ⟨b,off,sp⟩:=a
    simp only at i_
    subst i_
    rw[jE,jE] at h4
    have h5:ce w b (off+k.val*e.sz+j)=some u:=xS h4 (Ro.one e hv u (List.mem_of_getElem? hu))
    exact ⟨h5,oy h5⟩
   obtain ⟨f,hf⟩:=Classical.axiomOfChoice each
   refine ⟨List.ofFn f,⟨by simp;omega,λx hx=>?_⟩,some a,cap,by simp,by simpa using RL,(λe=>by cases e),λad e=>?_⟩
   ·grind
   injection e with e
   subst e
   refine ⟨MX,λk y hk=>?_⟩
   rw[List.getElem?_ofFn] at hk
   split at hk
   ·rename_i av
    injection hk with hk
    subst hk
    exact (hf ⟨k,av⟩).2
   ·cases hk
 | _=>grind [uf]
theorem arg_val {T:Ty} (ha:uf T=true) {i:TypeId} (hl:aC P T (.inl i)=true) {r:Reach} {b0:Nat} {v:Value} (h:Value.okWide P w r b0 i v):v=bq T v.cells.toList:=by
 cases T with
 | int k=>
  have hu:=jy hl
  cases v <;> simp[Value.okWide,Cell.okWide,Cell.ok,hu] at h <;> simp[bq,isAgg,Value.cells]
 | bool=>
  have hu:P.underlying i=some .bool:=by
   grind [aC]
  cases v <;> simp[Value.okWide,Cell.okWide,Cell.ok,hu] at h <;> simp[bq,isAgg,Value.cells]
 | str=>
  have hu:=gi hl
  cases v <;> simp[Value.okWide,Cell.okWide,Cell.ok,hu] at h <;> simp[bq,isAgg,Value.cells]
 | ae e=>
  obtain ⟨el,hu,_⟩:=mM hl
  cases v <;> simp[Value.okWide,Cell.okWide,Cell.ok,hu] at h <;> simp[bq,isAgg,Value.cells]
 | unit=>
  simp only[aC,Bool.and_eq_true] at hl
  have U:=hl.2
  split at U
  ·rename_i fs hu
   simp only[Value.okWide,hu] at h
   obtain ⟨cs,rfl,_⟩:=h
   simp[bq,isAgg,Value.cells]
  ·cases U
 | pair a b=>
  simp only[aC,Bool.and_eq_true] at hl
  have U:=hl.2
  split at U
  ·rename_i fs hu
   simp only[Value.okWide,hu] at h
   obtain ⟨cs,rfl,_⟩:=h
   simp[bq,isAgg,Value.cells]
  ·cases U
 | _=>simp[uf] at ha
def tI (P:Program):List (PM×Ty)->List TypeId->Bool
 | [],[]=>true
 | (.ro,T)::ps,t::ts=>uf T&&aC P T (.inl t)&&P.readableRec t&&Nat.blt t P.types.size&&tI P ps ts
 | _,_=>false
theorem GE:∀ (ps:List (PM×Ty)) (ts:List TypeId) (args:List Value) (ds:List (DataW H)) (p:List MemPlace) {b0:Nat},tI P ps ts=true->DataW.TrodAll enc P w 0 (λ_=>true) true ts args ds p ->
  (∀ (j:Nat) t v,ts[j]?=some t->args[j]?=some v->Value.okWide P w .any b0 t v)->∃ v,JS ps v/\iN P w (Em w) DV ps v args (λ_ _=>0)
 | [],[],args,ds,p,b0,_,h,_=>by
  cases args with
  | nil=>exact ⟨(),trivial,rfl⟩
  | cons _ _=>simp[DataW.TrodAll] at h
 | (.ro,T)::ps,t::ts,args,ds,p,b0,hl,h,ao=>by
  simp only[tI,Bool.and_eq_true] at hl
  cases args with
  | nil=>simp[DataW.TrodAll] at h
  | cons v args=>
   cases ds with
   | nil=>simp[DataW.TrodAll] at h
   | cons d ds=>
    obtain ⟨p1,q1,⟨fuel,h1⟩,U,_⟩:=h
    obtain ⟨x,U2,hx⟩:=(N4 T hl.1.1.1.1).1 t hl.1.1.1.2 _ _ _ h1
    obtain ⟨xs,Tf,U3⟩:=GE ps ts args ds q1 (b0:=b0) hl.2 U (λj t' v' ht hv=>ao (j+1) t' v' ht hv)
    exact ⟨(x,xs),⟨U2,Tf⟩,v,args,λ_ _=>0,λ_ _=>0,rfl,λ_ _=>Nat.le_refl _,⟨_,arg_val hl.1.1.1.1 hl.1.1.1.2 (ao 0 t v rfl rfl),hx⟩,U3⟩
theorem Ch (oc:laidOutB P=true) {W W':World} (hb:RowKit.Below W.heap.size W W') {sp:Nat->Bool}:∀ (ps:List (PM×Ty)) (ts:List TypeId) (args:List Value) (ds:List (DataW H)) (p:List MemPlace),tI P ps ts=true->DataW.TrodAll enc P W 0 (λ_=>true) true ts args ds p ->
  (∀ x ∈ p,x.block < W.heap.size)->(∀ x ∈ p,sp x.block=true)->DataW.TrodAll enc P W' 0 sp true ts args ds p
 | [],[],args,ds,p,_,h,_,_=>by
  grind [DataW.TrodAll]
 | (.ro,T)::ps,t::ts,args,ds,p,hl,h,av,i_=>by
  simp only[tI,Bool.and_eq_true] at hl
  cases args with
  | nil=>simp[DataW.TrodAll] at h
  | cons v args=>
   cases ds with
   | nil=>simp[DataW.TrodAll] at h
   | cons d ds=>
    obtain ⟨p1,q1,h1,U,rfl⟩:=h
    have ht:t < P.types.size:=by simp_all
    exact ⟨p1,q1,WideElems.Trod_stays oc hl.1.1.2 ht h1 (λx hx=>hb.same (av x (List.mem_append_left _ hx))) (λx hx=>i_ x (List.mem_append_left _ hx)),
     Ch oc hb ps ts args ds q1 hl.2 U (λx hx=>av x (List.mem_append_right _ hx)) (λx hx=>i_ x (List.mem_append_right _ hx)),rfl⟩
theorem JT {f:FuncId} {cap:Bool} {ps:List (PM×Ty)} {Fn:(bK (ps.map (·.2))).den->Option (bK ([((Ty.bool,aw .bool):Ty×Md)].map (·.1)++e_ ps)).den} (hs:Sound P f { cap:=cap,ps:=ps,rs:=[(.bool,aw .bool)],F:=Fn }) (HR:∀ v,JS ps v->∃ u,Fn v=some (true,u))
  {ts:List TypeId} (hl:tI P ps ts=true) {args:List Value} {ds:List (DataW H)} {p:List MemPlace} (hA:DataW.TrodAll enc P w 0 (λ_=>true) true ts args ds p) {b0:Nat} (ao:∀ (j:Nat) t v,ts[j]?=some t->args[j]?=some v->Value.okWide P w .any b0 t v) (ht:ox P w λ_ _=>0) :
  Calls P f args.toArray w λe W'=>e=.returned (.bool true)/\RowKit.Below w.heap.size w W':=by
 obtain ⟨v,U4,hv⟩:=GE ps ts args ds p hl hA ao
 obtain ⟨u,hu⟩:=HR v U4
 refine (hs w (Em w) (λ_ _=>0) v args hv (λ_ _=>Nat.zero_le _) (λb i h=>by omega) (λb i h=>?_) ht _ hu).mono λe W' h=>?_
 ·rcases h with h | h
  ·omega
  ·exact h
 ·obtain ⟨rv,rfl,cr,A',G,GR,GM,_,_,_,_,_,_,_,mR,_⟩:=h
  obtain ⟨cs,h1,U⟩:=mR
  simp only[fa] at h1 U
  have U:cs=[.bool true]:=U
  subst U
  exact ⟨by rw[h1];rfl,cr.os,cr.tape,cr.output,cr.size,λb hb=>cr.obj b hb λ_=>rfl⟩
theorem Lg {C:Checked} {f:Func} {s:ChangeSpec} {W W':World} {args:Array Value} {ds:List (DataW H)} {p:List MemPlace} {apart fresh handsOn:Bool} (oc:laidOutB P=true) {ps:List (PM×Ty)} {ts:List TypeId} (Xb:f.params.toList=ts) (hl:tI P ps ts=true) {tb:TypeId} (hr:f.resultTypes=#[tb]) (hu:P.underlying tb=some .bool)
  (QM:s.vars=[]) (hW:DataW.Whole enc P f.params.toList s.vars apart W args.toList ds [] p) (hA:DataW.TrodAll enc P W 0 (λ_=>true) true ts args.toList ds p) (MY:s.fn H (ds++[])={ results:=[.lit (.bool true)],args:=ds }) (hb:RowKit.Below W.heap.size W W') :
  s.post enc P f apart fresh handsOn false W args (.bool true) W':=by
 have av:∀ x ∈ p,x.block < W.heap.size:=λx hx=>by simpa using hW.lt x hx
 refine ⟨ds,[],p,[],p,[],hW,?_,?_,?_,World.keptBut_mono (λx hx=>⟨hx,.inr (.inl hx)⟩) (hb.frame (· ∈ p)),λe=>by cases e⟩
 ·rw[MY,hr]
  exact ⟨[],[],RowKit.shut_bool hu true,rfl,rfl⟩
 ·grind [Ch]
 ·rw[MY,QM]
  rfl
end
end OT
namespace OT
open Go
def HS (P:Program) (l:List (Nat×Ty)):Bool:=l.all λp=>aC P p.2 (.inl p.1)
def C8 (P:Program) (l:List (Nat×Ty)):Bool:=l.all λp=>!(p.2.gW&&isAgg p.2)||(kN P p.2 (.inl p.1)&&(P.eqGuardType P.depth p.1 == false)&&Nat.ble (dep p.2) 10000)
theorem y_ {α:Type}:∀ {l:List (Nat×α)} {i:Nat} {x:α},gI l i=some x->(i,x) ∈ l
 | (k,y)::l,i,x,h=>by
  simp only[gI] at h
  split at h
  ·simp_all
  ·exact List.mem_cons_of_mem _ (y_ h)
def xf (P:Program) (l:List (Nat×nc)):Prop:=∀ f g,gI l f=some g->Sound P f g/\oO P f g.cap
theorem an (P:Program):xf P []:=λf g h=>by cases h
theorem N6 {P:Program} {f:Nat} {g:nc} {l:List (Nat×nc)} (h1:Sound P f g) (U:oO P f g.cap) (h3:xf P l):xf P ((f,g)::l):=λf' g' h=>by
 simp only[gI] at h
 split at h
 ·simp_all
 ·exact h3 f' g' h
theorem Po {P:Program} {E:Env} {tl:List (Nat×Ty)} {gl:List (Nat×nc)} (h1:E.TI=gI tl) (U:E.G=gI gl) (h3:HS P tl=true) (h4:C8 P tl=true) (h5:xf P gl):lI P E where
 ti i T h:=by rw[h1] at h;exact List.all_eq_true.1 h3 _ (y_ h)
 eq i T h hq ha:=by
  rw[h1] at h
  have:=List.all_eq_true.1 h4 _ (y_ h)
  simp_all
 fn f g h:=by rw[U] at h;exact h5 f g h
def Ok (P:Program) (f:FuncId) (g:nc):Prop:=Sound P f g/\oO P f g.cap
theorem fc {P:Program} {f:Nat} {g:nc} {l:List (Nat×nc)} (h:Ok P f g) (h3:xf P l):xf P ((f,g)::l):=N6 h.1 h.2 h3
def En (fn:Func) (cap:Bool):Bool:=!(fn.name == "runtime.NumGoroutine")&&!fn.body.isNone&&Nat.beq fn.nfree (match cap with | true=>1 | false=>0)
noncomputable def okB (P:Program) (E:Env) (fn:Func) (ps:PQ) (rs:RQ) (es:List Nat) (cap:Bool) (tl:TL):Bool:=(HS P tl&&C8 P tl)&&(En fn cap&&C7 P E fn ps rs es)
theorem QN {P:Program} {E:Env} {f:FuncId} {fn:Func} (hf:P.funcs[f]?=some fn) {g:nc} (hh:∀ v H,g.yh v H=true->H=[]) {es fr:List Nat} {tl:TL} {gl:GL} (h1:E.TI=gI tl) (U:E.G=gI gl) (ao:okB P E fn g.ps g.rs es g.cap tl=true) (hg:xf P gl) (hF:∀ v,g.F v=lift λk=>CY E k fn g.ps g.rs es fr v):Ok P f g:=by
 simp only[okB,En,Bool.and_eq_true,Bool.not_eq_true',Nat.beq_eq] at ao
 obtain ⟨⟨J,a2⟩,⟨⟨b1,b2⟩,b3⟩,c⟩:=ao
 have hb:fn.body.isSome=true:=by
  simp_all
 exact ⟨CN (Po h1 U J a2 hg) hf hb hh c λv out h=>IV (by rw[<-hF];exact h),fn,hf,b1,b2,b3⟩
structure FD where
 fn:Func
 tl:TL
 ps:PQ
 rs:RQ
 gl:GL:=[]
 es:List Nat:=[]
 fr:List Nat:=[]
 cap:Bool:=false
 fz:List (Nat×Nat×Nat):=[]
 lv:List (Nat×List Nat):=[]
 lx:List (Nat×List Nat):=[]
 lf:List (Nat×List (Nat×Md)):=[]
 od:List (Nat×List Nat):=[]
 ar:List (Nat×List Nat):=[]
 bx:List (Nat×List Nat):=[]
 pd:List (Nat×List Nat):=[]
 er:List (Nat×List (Nat×Nat)):=[]
noncomputable def FD.E (D:FD):Env:={ TI:=gI D.tl,G:=gI D.gl,fz:=D.fz,lv:=D.lv,lx:=D.lx,lf:=D.lf,od:=D.od,ar:=D.ar,bx:=D.bx,pd:=D.pd,er:=D.er }
noncomputable def FD.W (D:FD) (k:Nat) (a:(bK (D.ps.map (·.2))).den):Option (bK (D.rs.map (·.1)++e_ D.ps)).den:=CY D.E k D.fn D.ps D.rs D.es D.fr a
noncomputable def FD.F (D:FD) (a:(bK (D.ps.map (·.2))).den):Option (bK (D.rs.map (·.1)++e_ D.ps)).den:=lift λk=>D.W k a
noncomputable def FD.sig (D:FD):nc:={ cap:=D.cap,ps:=D.ps,rs:=D.rs,F:=D.F }
noncomputable def FD.fin (D:FD):St->Option (bK (D.rs.map (·.1)++e_ D.ps)).den:=Dr D.ps D.rs D.es D.fn.results.toList (Me D.fr)
noncomputable def FD.K0 (D:FD):KT (bK (D.rs.map (·.1)++e_ D.ps)).den:=Oj D.fin
noncomputable def FD.N (D:FD) (k:Nat) (p:List Nat):St->KT (bK (D.rs.map (·.1)++e_ D.ps)).den->Option (bK (D.rs.map (·.1)++e_ D.ps)).den:=mW D.E k D.fin (sub p (wF D.fn))
noncomputable def FD.L (D:FD) (k:Nat) (p live:List Nat) (to:List (Nat×Md)) (K:KT (bK (D.rs.map (·.1)++e_ D.ps)).den) (σ:St):Option (bK (D.rs.map (·.1)++e_ D.ps)).den:=xR (D.N k p) (eG live to) K k σ
theorem ay {P:Program} {D:FD} {f:FuncId} (hf:P.funcs[f]?=some D.fn) (ht:(HS P D.tl&&C8 P D.tl)=true) (ao:(En D.fn D.cap&&C7 P D.E D.fn D.ps D.rs D.es)=true) (hg:xf P D.gl):Ok P f D.sig:=
 QN (hh:=λ_ _ h=>List.isEmpty_iff.1 h) (es:=D.es) (fr:=D.fr) (tl:=D.tl) (gl:=D.gl) (E:=D.E) hf rfl rfl (by rw[okB,ht,Bool.true_and];exact ao) hg λ_=>rfl
end OT
namespace OT
open Go
theorem ba {n:Int} (h:-9223372036854775808<=n/\n<=9223372036854775807):ag n=n:=by
 grind [ag,IntKind.wrap_i64]
theorem aL:maxLen=9223372036854775807:=by simp[maxLen]
theorem pw {V R:Type} {B:(V->Option R)->V->Option R} (f:V->R) (I:V->Prop) (μ:V->Nat)
  (h:∀ v,I v->∀ self,B self v=some (f v)\/∃ v',B self v=self v'/\f v'=f v/\I v'/\μ v' < μ v):∀ (k:Nat) (v:V),I v->μ v < k->aD B k v=some (f v)
 | 0,v,_,hk=>by omega
 | k+1,v,hI,hk=>by
  show B (aD B k) v=some (f v)
  rcases h v hI (aD B k) with h1 | ⟨v',h1,U,h3,h4⟩
  ·exact h1
  ·rw[h1,pw f I μ h k v' h3 (by omega),U]
end OT
set_option linter.unusedVariables false
set_option linter.unusedSimpArgs false
namespace OT
open Go
theorem lR {V R:Type} (B:(V->Option R)->V->Option R) (k:Nat) (v:V):aD B (k+1) v=B (aD B k) v:=rfl
def Pp {α:Type} (f:α->Nat):List α->Nat
 | []=>0
 | x::xs=>f x+Pp f xs
def zz:(t:Ty)->t.den->Nat
 | .str,v=>List.length v
 | .pair a b,v=>zz a v.1+zz b v.2
 | .ae e,v=>List.length v+Pp (zz e) v
 | _,_=>0
end OT
set_option linter.unusedVariables false
set_option linter.unusedSimpArgs false
namespace OT
open Go
end OT
set_option linter.unusedVariables false
set_option linter.unusedSimpArgs false
namespace OT
open Go
def cS {S O α:Type} (f:Nat->S->α->Sum O S) (fin:S->O):Nat->List α->S->O
 | _,[],s=>fin s
 | i,x::xs,s=>match f i s x with
  | .inl o=>o
  | .inr s'=>cS f fin (i+1) xs s'
theorem d9 {V S O α:Type} {B:(V->Option O)->V->Option O} (xs:List α) (enc:S->Int->V) (f:Nat->S->α->Sum O S) (fin:S->O) (I:Nat->S->Prop) (K8:xs.length<=maxLen)
  (gB:∀ (i:Nat) (hi:i < xs.length) (s:S) self,I i s->B self (enc s (i:Int))=match f i s xs[i] with | .inl o=>some o | .inr s'=>self (enc s' (ag ((i:Int)+1))))
  (hI:∀ (i:Nat) (hi:i < xs.length) (s s':S),I i s->f i s xs[i]=.inr s'->I (i+1) s')
  (mh:∀ (s:S) self,I xs.length s->B self (enc s (xs.length:Int))=some (fin s)) (s:S) (h0:I 0 s):∀ k,xs.length < k->aD B k (enc s 0)=some (cS f fin 0 xs s):=by
 have main:∀ (m i:Nat) (s:S),xs.length - i=m->i<=xs.length->I i s->∀ k,m < k->aD B k (enc s (i:Int))=some (cS f fin i (xs.drop i) s):=by
  intro m
  induction m with
  | zero=>
   intro i s hm hi hs k hk
   have mH:i=xs.length:=by omega
   subst mH
   cases k <;> grind [aD,cS]
  | succ m ih=>
   intro i s hm hi hs k hk
   have av:i < xs.length:=by omega
   cases k <;> grind [aD,List.drop_eq_getElem_cons,cS,ba,aL]
 intro k hk
 simpa using main xs.length 0 s (by omega) (by omega) h0 k hk
theorem nL {O α:Type} (p:α->Bool) (bad:O) (fin:Unit->O):∀ (xs:List α) (i:Nat),cS (λ_ _ x=>if p x then .inr () else .inl bad) fin i xs ()=if xs.all p then fin () else bad
 | [],_=>rfl
 | x::xs,i=>by
  simp only[cS,List.all_cons]
  by_cases h:p x=true
  ·simp[h,nL p bad fin xs (i+1)]
  ·simp[h]
def iC {α:Type} (c:α->Int):List α->Int
 | []=>0
 | x::xs=>if c x=0 then iC c xs else c x
theorem vD {O α:Type} (c:α->Int) (bad:Int->O) (fin:Unit->O):∀ (xs:List α) (i:Nat),cS (λ_ _ x=>if c x=0 then .inr () else .inl (bad (c x))) fin i xs ()=if iC c xs=0 then fin () else bad (iC c xs)
 | [],_=>rfl
 | x::xs,i=>by
  simp only[cS,iC]
  by_cases h:c x=0
  ·simp[h,vD c bad fin xs (i+1)]
  ·simp[h]
theorem dR {n:Nat} (h:n<=200000000000):n<=cJ:=by grind [cJ]
end OT
set_option linter.unusedVariables false
set_option linter.unusedSimpArgs false
namespace OT
open Go
def px:Ty->Bool
 | .int _ | .bool | .str | .unit=>true
 | .pair a b=>px a&&px b
 | _=>false
def jO:(t:Ty)->t.den->List Value
 | .int k,v=>[.int k (iw k v)]
 | .bool,v=>[.bool v]
 | .str,v=>[.string ⟨List.toArray v⟩]
 | .unit,_=>[]
 | .pair a b,v=>jO a v.1++jO b v.2
 | _,_=>[]
section
variable {P:Program} {w:World} {A:Cells}
theorem oh:∀ (t:Ty),px t=true->∀ (v:t.den),Ro P w A t v (jO t v):=by
 intro t
 induction t <;> grind [px,Ro.length,Ro,jO]
theorem Pq:∀ (t:Ty),px t=true->∀ {v:t.den} {cs:List Value},Ro P w A t v cs->cs=jO t v:=by
 intro t
 induction t with
 | pair a b fQ fI=>
  intro h v cs hr
  simp only[px,Bool.and_eq_true] at h
  have h1:=fQ h.1 hr.1
  have U:=fI h.2 hr.2
  rw[<-List.take_append_drop a.sz cs,h1,U]
  rfl
 | int k=>intro _ v cs h;exact h
 | bool=>intro _ v cs h;exact h
 | str=>intro _ v cs h;exact h
 | unit=>intro _ v cs h;exact h
 | _=>grind [px]
theorem Ci:∀ (t:Ty),px t=true->t.flat=true:=by
 intro t
 induction t <;> grind [px,Ty.flat]
end
theorem Lh {w:World} {b i:Nat} {u:Value} {c:Array Value} {e:TypeId} {fr:Nat×Nat} (h:w.heap[b]?=some (.cells c e fr)) (hu:ce w b i=some u):c[i]?=some u:=by
 unfold ce at hu
 simp only[h,World.cell?] at hu
 cases hc:c[i]? with
 | none=>grind
 | some v=>
  simp only[hc,Option.isSome_none,Bool.false_eq_true,if_false,Option.bind_some] at hu
  rw[(wG hu).1]
theorem FJ {w:World} {b i:Nat} {u:Value} {c:Array Value} {e:TypeId} {fr:Nat×Nat} (h:w.heap[b]?=some (.cells c e fr)) (hg:c[i]?=some u) (hu:u.oneCell'=true):ce w b i=some u:=by
 grind [xS,World.cell?]
end OT
