/- The proof's parts, merged: Calls, third part.. No conditions but those that each states. -/
import Derived.Test.YtaebhfnbgkbdhaaQb
import Derived.MapKept
import Derived.WideMake
import Derived.OrdersHeld
import Derived.LoopN
import Derived.Scope
import Derived.ProofKit
import Derived.Deep.Slices
import Derived.Laws.BitsLemmas
import Derived.Shelf.SlSortCmp.NoneTotal
set_option linter.unusedVariables false
set_option linter.unusedSimpArgs false
namespace OT
open Go
section
variable {P:Program} {C:Ctx} {A:Cells} {X:FP} {σ:St} {a:Act} {w:World} {F:Nat->FP} {R:Type} {x:R} {Q:Exit->Act->World->Prop} {o:Oper} {E:Env}
def nz (b:Bool) (n:Nat):Nat:=match b with
 | true=>n
 | false=>0
theorem E6 {w2:World} {A2:Cells}:∀ (q:Path) (t:Ty) {m':Md} {v':t.den} {cs:List Value} {G':FP} {ad:Option (Nat×Nat)} {pl:Pl},ae P w2 A2 t m' [] v' cs G'->bc q<=1->ay w q t [] cs ad=some pl ->
  ∃ H' aC,ay w2 q t [] cs ad=some ⟨pl.t,H',aC,pl.ad⟩/\(bc q < 1->lr pl.t=true->aC=pl.cs):=by
 intro q
 induction q with
 | nil=>
  intro t m' v' cs G' ad pl Y hq hp
  simp only[ay,Option.some.injEq] at hp
  subst hp
  exact ⟨_,_,rfl,λ_ _=>rfl⟩
 | cons s q ih=>
  intro t m' v' cs G' ad pl Y hq hp
  cases t with
  | pair a b=>
   obtain ⟨h0,F1,F2,hs,r1,r2⟩:=Y
   cases s with
   | fst=>
    simp only[ay,h0,if_false] at hp ⊢
    exact ih a r1 (by simpa [bc] using hq) (by simpa using hp)
   | snd=>
    simp only[ay,h0,if_false] at hp ⊢
    exact ih b r2 (by simpa [bc] using hq) (by simpa using hp)
   | idx i=>simp[ay] at hp
   | gm i=>simp[ay] at hp
  | af e=>
   cases s with
   | idx i=>
    obtain ⟨xa,cap,news,Fi,r1,r2,r3,r4,r5,r6,r7,r8⟩:=rW Y
    subst r1
    cases xa with
    | none=>grind [ay]
    | some aS=>
     simp only[ay,hole,List.any_nil,Bool.false_eq_true,if_false,List.filterMap_nil] at hp ⊢
     split at hp
     ·rename_i hi
      rw[if_pos hi]
      have cC:=r6 i _ (List.getElem?_eq_getElem hi)
      obtain ⟨g1,g2⟩:=r3 aS rfl
      have hl:=ae.length _ cC
      have hh:Has w2 aS.block (aS.off+i*e.sz) ((news.drop (i*e.sz)).take e.sz):=λj u hu=>by
       rw[List.getElem?_take] at hu
       split at hu
       ·rw[List.getElem?_drop] at hu
        rw[Nat.add_assoc];exact g2 _ u hu
       ·cases hu
      rw[bq hh hl]
      obtain ⟨H',aC,h1,Y⟩:=o7 (A:=λ_ _=>True) (m:=.leaf) (v:=v'[i]) (F:=λ_ _=>0) q e cC (.inl (by grind [bc])) hp
      grind [bc]
     ·cases hp
   | _=>simp[ay] at hp
  | arr n e=>
   cases s with
   | fst=>simp[ay] at hp
   | snd=>simp[ay] at hp
   | idx i=>simp[ay] at hp
   | gm i=>
    obtain ⟨_,hf,hl,hlen,hr⟩:=Y
    simp only[ay,List.isEmpty_nil,if_true] at hp ⊢
    split at hp
    ·rename_i hi
     rw[if_pos hi]
     exact ih e (Ro.flat e (m:=.leaf) (λ_ _=>0) hf (hr i _ (List.getElem?_eq_getElem (by grind)))) (by simpa [bc] using hq) hp
    ·cases hp
  | _=>grind [ay]
theorem DT {t:Ty} {m':Md} {v':t.den} {cs:List Value} {G':FP} {w2:World} {A2:Cells} (ad:Option (Nat×Nat)) (Y:ae P w2 A2 t m' [] v' cs G'):gS 1 False w t [] cs ad w2 [] cs:=by
 intro q pl hq hp
 grind [E6]
theorem zf (h:bd P C A σ a w F) {r:Nat} {ow:Bool} {b i:Nat} (ha:AX A F σ.n r ow b i):b < w.heap.size:=by
 rcases ha with ha | ⟨_,j,hj,_,hp⟩
 ·exact h.cW b i (.inr ha)
 ·exact h.cW b i (.inl (by grind [aW]))
def lH:List (PM×Ty)->Bool
 | []=>true
 | (.dm _ _,_)::_=>false
 | (.eV _,_)::_=>false
 | (.gV _,_)::_=>false
 | (.fk _,_)::_=>false
 | _::ps=>lH ps
theorem jV {ow:Bool} {y:Nat×Path} {ws:List (Nat×Path)}:∀ (ps:List (PM×Ty)) {v:(bB (ps.map (·.2))).den} {ss:List Slot} {fq:List Value},lH ps=true->mR P A σ a w F ow ps v ss fq (y::ws)->False
 | [],_,_,_,_,h=>by cases h.2.2
 | (pm,t)::ps,_,_,_,hm,h=>by
  obtain ⟨s,u9,tv,jG,wp,lF,_,_,hw,dq,ff⟩:=h
  cases pm with
  | ro=>obtain ⟨mS,_⟩:=dq;subst mS;have hw:_=lF:=hw;subst hw;exact jV ps hm ff
  | fix f=>obtain ⟨mS,_⟩:=dq;subst mS;have hw:_=lF:=hw;subst hw;exact jV ps hm ff
  | dm m m'=>cases hm
  | eV m=>cases hm
  | gV m=>cases hm
  | fk m=>cases hm
theorem Cp (h:bd P C A σ a w F) {f:FuncId} {g:kf} (hs:Sound P f g) {ow:Bool} (lG:ow=true->(lk g.rs&&ee g.ps)=true) {r:Nat} {p:Path} {t:Ty} {m:Md} {v1:t.den} {cs:List Value} {ad:Option (Nat×Nat)} {gy:Bool} {v:(bB (g.ps.map (·.2))).den} {fq:List Value} {out:(bB (g.rs.map (·.1)++dh g.ps)).den} (hF:g.F v=some out)
  (b1:At σ r p t m [] v1) (b2:place σ a w r p=some ⟨t,[],cs,ad⟩) (b3:gy=true->∃ b o,ad=some (b,o))
  (b5 : ∀ (A0:Cells) (F0 Fp:FP),(∀ b i,A b i->A0 b i)->(ow=true->∀ b i j,j < σ.n->j≠r->1<=F j b i->A0 b i)->ae P w A0 t m [] v1 cs Fp ->
      (gy=true->∀ b o,ad=some (b,o)->Has w b o cs/\(∀ j,j < t.sz->w.frozen? ⟨b,o+j,none⟩=false)/\∀ b' i,bm b o t.sz b' i+Fp b' i<=F0 b' i)->(gy=false->∀ b i,Fp b i<=F0 b i)->fK P w A0 (g.wG v) g.ps v fq F0)
  {d:Option Tmp} {K:St->Option R} (q1:(match kh σ r p t m t.zero (λ_=>some ()) with | some _=>K ((σ.put r .dead).aB d (jS (di g.rs out).1)) | none=>none)=some x) (E7:lH g.ps=true->False) :
  Calls P f fq.toArray w λe w'=>∃ rv,e=.returned rv/\Nx P C K x (a.put d rv) w'/\(lH g.ps=true->Ext w w' (λ_ _=>0)):=by
 cases tQ:kh σ r p t m t.zero (λ_=>some ()) with
 | none=>grind
 | some u=>
 rw[tQ] at q1
 simp only at q1
 obtain ⟨hr,m2,H2,v2,a_,pW,F2,s1,s2,s3,s4,s5,_⟩:=pV h tQ
 obtain ⟨_,e3,e4,e5⟩:=b1.inj s1
 subst e3;subst e4
 have e5:=eq_of_heq e5
 subst e5
 rw[b2] at s2
 simp only[Option.some.injEq,Pl.mk.injEq,true_and] at s2
 obtain ⟨rfl,rfl⟩:=s2
 obtain ⟨I1,M0⟩:=ae.fp t s3
 obtain ⟨F0,tg⟩:∃ F0:FP,∀ b i,F0 b i=nz gy (dc ad t.sz b i)+cY w t m [] cs b i:=⟨λb i=>nz gy (dc ad t.sz b i)+cY w t m [] cs b i,λ_ _=>rfl⟩
 have LY:∀ b i,F0 b i<=dc ad t.sz b i+cY w t m [] cs b i:=λb i=>by
  rw[tg];cases gy <;> simp[nz]
 have Cq:∀ b i,F0 b i<=F r b i:=λb i=>by grind
 have fV:∀ b i,F r b i<=al σ.n F b i:=λb i=>aW F hr b i
 have lz:∀ b i,al σ.n F b i<=1:=λb i=>by have:=h.fA b i;omega
 have wY:∀ b i,A b i->AX A F σ.n r ow b i:=λb i h=>.inl h
 have DU:∀ b i,1<=F r b i->b < w.heap.size:=λb i hp=>h.cW b i (.inl (by grind))
 have eI:=b5 (AX A F σ.n r ow) F0 (cY w t m [] cs) wY (λlG b i j hj bG hp=>.inr ⟨lG,j,hj,bG,hp⟩)
  (ae.mono wY (λ_ _ _ _ h=>h) (λ_ _ h=>h) t I1 (λ_ _=>Nat.le_refl _) (λ_ _ _ _ h=>h))
  (λhP b o e=>⟨(s5 b o e).1,(s5 b o e).2,λb' i=>by rw[tg,hP,e];exact Nat.le_refl _⟩) (λhP b i=>by grind)
 refine (hs w _ F0 v _ eI (λb i=>by grind) (λb i hp ha=>?_) (λb i hp=>?_) (h.qv λb i hp=>by grind) out hF).mono λe w' qD=>?_
 ·have h1:=Cq b i;have Y:=fV b i
  rcases ha with ha | ⟨_,j,hj,bG,DV⟩
  ·exact h.fW b i (by grind) ha
  grind [iS]
 ·rcases hp with hp | hp
  ·grind
  ·exact zf h hp
 ·obtain ⟨rv,rfl,bO,A',G,GR,GM,g1,g2,g3,g4,g5,g6,g7,g8,g9⟩:=qD
  refine ⟨rv,rfl,?_⟩
  obtain ⟨x1,x2⟩:=tX bO
  obtain ⟨kY,A2,J,a2,a3,a4,a6⟩:∃ kY A2:Cells,(∀ b i,A b i->kY b i)/\(∀ b i,kY b i->A b i\/(w.heap.size<=b/\b < w'.heap.size/\G b i=0))/\(∀ b i,kY b i->A2 b i)/\(∀ b i,A2 b i->kY b i\/(1<=F0 b i/\G b i=0)) /\
    e_ P w' A2 (di g.rs out).1 rv GR:=by
   cases ow with
   | true=>
    have ho:=lG rfl
    simp only[Bool.and_eq_true] at ho
    exact ⟨A,A,λ_ _ h=>h,λ_ _ h=>.inl h,λ_ _ h=>h,λ_ _ h=>.inl h,e_.free (kX g.rs out ho.1) g8⟩
   | false=>
    have il:∀ b i,A' b i->G b i=0:=λb i ha=>by
     grind
    refine ⟨λb i=>A b i\/(w.heap.size<=b/\A' b i),A',λ_ _ h=>.inl h,λb i ha=>ha.imp id λ⟨h1,Y⟩=>⟨h1,g6 b i (.inr Y),il b i Y⟩,λb i ha=>?_,λb i ha=>?_,g8⟩
    ·grind
    ·rcases g2 b i ha with (DW | ⟨e,_⟩) | h0 | hn
     ·grind
     all_goals grind
  have E8:=mQ bO.size
  have h1:=h.put hr (s:=.dead) (v:=tmp a r) (Fd:=λ_ _=>0) (X':=F r) trivial (λb k=>by omega) (λ_ _ _ _ e=>by cases e)
  rw[gG] at h1
  have to:=h1.grow x1 (A1:=kY) (X1:=λb i=>if w.heap.size<=b then G b i else F r b i) J (λb i ha=>?_) (λb i=>?_)
  rotate_left
  ·grind
  ·grind
  have h3:=to.world x2 (λb i hp=>by
   grind)
  have h4:=h3.giveUp (A1:=A2) (X1:=GR) a3 (λb i ha=>by
   grind) (λb i=>by
   grind)
  have km:=pZ (σ:=σ.put r .dead) (a:=a) a6
  exact ⟨fJ h4 q1 km.1 (λ_ _=>Nat.le_refl _) km.2,λhm=>(E7 hm).elim⟩
theorem Ao (h:bd P C A σ a w F) {f:FuncId} {g:kf} (hs:Sound P f g) {ow:Bool} (lG:ow=true->(lk g.rs&&ee g.ps)=true) {r:Nat} {p:Path} {t:Ty} {m:Md} {H:List Path} {v1:t.den} {cs:List Value} {ad:Option (Nat×Nat)} {gy:Bool} {v:(bB (g.ps.map (·.2))).den} {fq:List Value} {out:(bB (g.rs.map (·.1)++dh g.ps)).den} (hF:g.F v=some out)
  (b1:At σ r p t m H v1) (b2:place σ a w r p=some ⟨t,H,cs,ad⟩) (hP:gy=false)
  (b5 : ∀ (A0:Cells) (F0 Fp:FP),(∀ b i,A b i->A0 b i)->(ow=true->∀ b i j,j < σ.n->j≠r->1<=F j b i->A0 b i)->ae P w A0 t m H v1 cs Fp ->
      (gy=true->∀ b o,ad=some (b,o)->Has w b o cs/\(∀ j,j < t.sz->w.frozen? ⟨b,o+j,none⟩=false)/\∀ b' i,bm b o t.sz b' i+Fp b' i<=F0 b' i)->(gy=false->∀ b i,Fp b i<=F0 b i)->fK P w A0 (g.wG v) g.ps v fq F0)
  {d:Option Tmp} {K:St->Option R} (q1:nq σ r p (λσ=>K (σ.aB d (jS (di g.rs out).1)))=some x) (E7:lH g.ps=true->False) :
  Calls P f fq.toArray w λe w'=>∃ rv,e=.returned rv/\Nx P C K x (a.put d rv) w'/\(lH g.ps=true->Ext w w' (λ_ _=>0)):=by
 have hr:r < σ.n:=iT b2
 obtain ⟨A1,fi,F1,ge,tc,F0,k1,k2,k3,k4,_,k5,k6,k7⟩:=yP h q1 b1
 rw[b2] at k5
 simp only[Option.some.injEq,Pl.mk.injEq,true_and] at k5
 obtain ⟨rfl,rfl⟩:=k5
 have fV:∀ b i,F r b i<=al σ.n F b i:=λb i=>aW F hr b i
 have lz:∀ b i,al σ.n F b i<=1:=λb i=>by have:=h.fA b i;omega
 have OU:∀ b i,F0 b i+al fi.n F1 b i<=1:=λb i=>by have h:=k3.fA b i;simpa using h
 have OV:∀ b i,1<=F0 b i->¬ A1 b i:=λb i hp=>k3.fW b i (by grind)
 have OW:∀ b i,1<=F0 b i\/A1 b i->b < w.heap.size:=λb i hp=>k3.cW b i (hp.imp (λhp=>by grind) id)
 have wY:∀ b i,A1 b i->AX A1 F σ.n r ow b i:=λb i h=>.inl h
 have eI:=b5 (AX A1 F σ.n r ow) F0 F0 (λb i h=>.inl (k2 b i h)) (λlG b i j hj bG hp=>.inr ⟨lG,j,hj,bG,hp⟩)
  (ae.mono (λb i h=>.inl (k2 b i h)) (λ_ _ _ _ h=>h) (λ_ _ h=>h) t k6 (λ_ _=>Nat.le_refl _) (λ_ _ _ _ h=>h))
  (λe=>by grind) (λ_ b i=>Nat.le_refl _)
 refine (hs w _ F0 v _ eI (λb i=>by grind) (λb i hp ha=>?_) (λb i hp=>?_) (k3.qv λb i hp=>by grind) out hF).mono λe w' qD=>?_
 ·rcases ha with ha | ⟨_,j,hj,bG,DV⟩
  all_goals grind [iS]
 ·rcases hp with hp | hp | ⟨_,j,hj,bG,DV⟩
  ·grind
  ·grind
  ·exact h.cW b i (.inl (by grind [aW]))
 ·obtain ⟨rv,rfl,bO,A',G,GR,GM,g1,g2,g3,g4,g5,g6,g7,g8,g9⟩:=qD
  refine ⟨rv,rfl,?_⟩
  obtain ⟨x1,x2⟩:=tX bO
  obtain ⟨kY,A2,J,a2,a3,a4,a6⟩:∃ kY A2:Cells,(∀ b i,A1 b i->kY b i)/\(∀ b i,kY b i->A1 b i\/(w.heap.size<=b/\b < w'.heap.size/\G b i=0))/\(∀ b i,kY b i->A2 b i)/\(∀ b i,A2 b i->kY b i\/(1<=F0 b i/\G b i=0)) /\
    e_ P w' A2 (di g.rs out).1 rv GR:=by
   cases ow with
   | true=>
    have ho:=lG rfl
    simp only[Bool.and_eq_true] at ho
    exact ⟨A1,A1,λ_ _ h=>h,λ_ _ h=>.inl h,λ_ _ h=>h,λ_ _ h=>.inl h,e_.free (kX g.rs out ho.1) g8⟩
   | false=>
    have il:∀ b i,A' b i->G b i=0:=λb i ha=>by
     grind
    refine ⟨λb i=>A1 b i\/(w.heap.size<=b/\A' b i),A',λ_ _ h=>.inl h,λb i ha=>ha.imp id λ⟨h1,Y⟩=>⟨h1,g6 b i (.inr Y),il b i Y⟩,λb i ha=>?_,λb i ha=>?_,g8⟩
    ·grind
    ·rcases g2 b i ha with (DW | ⟨e,_⟩) | h0 | hn
     all_goals grind
  have E8:=mQ bO.size
  have to:=k3.grow x1 (A1:=kY) (X1:=λb i=>if w.heap.size<=b then G b i else F0 b i) J (λb i ha=>?_) (λb i=>?_)
  rotate_left
  ·grind
  ·grind
  have h3:=to.world x2 (λb i hp=>by
   grind)
  have h4:=h3.giveUp (A1:=A2) (X1:=GR) a3 (λb i ha=>by
   grind) (λb i=>by
   grind)
  have km:=pZ (σ:=fi) (a:=a) a6
  exact ⟨fJ h4 k1 km.1 (λ_ _=>Nat.le_refl _) km.2,λhm=>(E7 hm).elim⟩
theorem GQ {F2:Nat->FP} {n r0:Nat} {ow:Bool} (hF:∀ j b i,F2 j b i<=F j b i):∀ b i,AX A F2 n r0 ow b i->AX A F n r0 ow b i:=λb i h=>h.imp id λ⟨e,j,h1,Y,h3⟩=>⟨e,j,h1,Y,Nat.le_trans h3 (hF j b i)⟩
set_option maxHeartbeats 1000000 in
theorem DX (h:bd P C A σ a w F) {f:FuncId} {g:kf} (hs:Sound P f g) {ow:Bool} (lG:ow=true->(lk g.rs&&(ee g.ps||ik g.ps))=true) {xs:List Operand} {ex:List Slot} {r_:List Value} (am:xs.all (aZ P)=true)
  (hex:∀ (A':Cells) (σ':St),(∀ b i,A b i->A' b i)->kL P A' σ' a w ex r_) {d:Option Tmp} {K:St->Option R} (hk:uG g ow σ xs ex d K=some x) :
  Calls P f (xs.map a.eval++r_).toArray w λe w'=>∃ rv,e=.returned rv/\Nx P C K x (a.put d rv) w'/\(lH g.ps=true->Ext w w' (λ_ _=>0)):=by
 unfold uG at hk
 obtain ⟨A1,fi,F1,k1,k2,k3,k4⟩:=HN g.ps xs h hk
 have gP:=u_ k3 xs am (hex A1 fi k2)
 obtain ⟨v,ws,q1,q2⟩:=HP k3 g.ps gP k1
 obtain ⟨FX,zg,q2,hU⟩:∃ FX:Nat->FP,(∀ j b i,FX j b i<=F1 j b i)/\mR P A1 fi a w FX ow g.ps v (xs.map (a9 fi)++ex) (xs.map a.eval++r_) ws/\(ow=true->lk g.rs=true/\(ee g.ps=true\/(ik g.ps=true/\∀ j b i,1<=FX j b i->ze (ce w b i)=true))):=by
  by_cases cm:ee g.ps=true
  ·exact ⟨F1,λ_ _ _=>Nat.le_refl _,q2,λe=>by have:=lG e;simp only[Bool.and_eq_true] at this;exact ⟨this.1,.inl cm⟩⟩
  ·by_cases hu:ik g.ps=true
   ·exact ⟨tY w F1,HR w F1,ny g.ps hu q2,λe=>by have:=lG e;simp only[Bool.and_eq_true] at this;exact ⟨this.1,.inr ⟨hu,λj b i hp=>E5 hp⟩⟩⟩
   ·exact ⟨F1,λ_ _ _=>Nat.le_refl _,q2,λe=>by have:=lG e;simp only[Bool.and_eq_true,Bool.or_eq_true] at this;exact absurd this.2 (by simp[cm,hu])⟩
 split at q1
 rotate_left
 ·cases q1
 rename_i hc
 simp only[Bool.and_eq_true,Nat.ble_eq] at hc
 obtain ⟨hlen,La⟩:=hc
 match ws,hlen with
 | [],_=>
  have q1:((g.F v).bind λout=>gX fi g.ps [] (di g.rs out).2 λσ=>K (σ.aB d (jS (di g.rs out).1)))=some x:=by
   grind [EU]
  cases hF:g.F v with
  | none=>grind
  | some out=>
  rw[hF] at q1
  simp only[Option.bind_some] at q1
  obtain ⟨n1,n2⟩:=fN (R:=R) (A0:=AX A1 FX fi.n fi.n ow) (λb i h=>.inl h) (r0:=fi.n) (λlG b i j hj bG hp=>.inr ⟨lG,j,hj,bG,hp⟩) g.ps q2 (λr _ aH=>by omega)
  rw[n2] at q1
  refine (hs w _ (λ_ _=>0) v _ (n1 _) (λ_ _=>Nat.zero_le _) (λb i hp=>by omega) (λb i hp=>?_) (k3.qv λb i hp=>by omega) out hF).mono λe w' qD=>?_
  ·rcases hp with hp | hp
   ·omega
   ·exact zf k3 (GQ zg b i hp)
  ·obtain ⟨rv,rfl,bO,A',G,GR,GM,g1,g2,g3,g4,g5,g6,g7,g8,g9⟩:=qD
   have hX:∀ b i,GR b i<=0\/(w.heap.size<=b/\b < w'.heap.size/\GR b i<=1):=λb i=>by
    grind
   refine ⟨rv,rfl,?_⟩
   cases ow with
   | true=>
    have ho:=hU rfl
    have to:=k3.grow bO (A1:=A1) (X1:=GR) (λ_ _ h=>h) (λ_ _ h=>.inl h) hX
    have km:=pZ (σ:=fi) (a:=a) (e_.free (A':=A1) (kX g.rs out ho.1) g8)
    exact ⟨fJ to q1 km.1 (λ_ _=>Nat.le_refl _) km.2,λ_=>bO⟩
   | false=>
    have to:=k3.grow bO (A1:=A') (X1:=GR) (λb i ha=>g1 b i (.inl ha)) (λb i ha=>by
     rcases g2 b i ha with (DW | ⟨e,_⟩) | h0 | hn
     all_goals grind) hX
    have km:=pZ (σ:=fi) (a:=a) g8
    exact ⟨fJ to q1 km.1 (λ_ _=>Nat.le_refl _) km.2,λ_=>bO⟩
 | [(r,p)],_=>
  simp only[apart,Bool.and_eq_true,Nat.ble_eq,and_true] at La
  obtain ⟨_,rY,gy,rt,t,m,H,v1,cs,ad,b0,b1,b2,b3,b4,b5,b8,b7,b6⟩:=Co g.ps q2 La
  have q3:(rt=true->g.wG v H=true)/\((g.F v).bind λout=>gX fi g.ps [(r,p)] (di g.rs out).2 λσ=>K (σ.aB d (jS (di g.rs out).1)))=some x:=by
   cases hv:BR g.ps with
   | false=>
    rw[hv] at q1
    exact ⟨λe=>(by grind),q1⟩
   | true=>
    rw[hv] at q1
    simp only[EU] at q1
    rw[b1.eq] at q1
    grind
  obtain ⟨q0,q1⟩:=q3
  replace b5:=λA0 F0 Fp J a2 a3 a4 a5=>b5 A0 F0 Fp J a2 a3 a4 a5 (g.wG v) q0
  have Lb:=λA0 F0 Fp J (a2:ow=true->∀ b i j,j < fi.n->j≠r->1<=F1 j b i->A0 b i) a3 a4 a5=>b5 A0 F0 Fp J (λe b i j hj bG hp=>a2 e b i j hj bG (Nat.le_trans hp (zg j b i))) a3 a4 a5
  have I2:rY=true->ow=true->(lk g.rs&&ee g.ps)=true:=λe1 e2=>by
   obtain ⟨u1,u2 | u2⟩:=hU e2
   ·rw[u1,u2];rfl
   ·rw[b0.2.2.1 (ph _ u2.1)] at e1;cases e1
  cases hF:g.F v with
  | none=>grind
  | some out=>
  rw[hF] at q1
  simp only[Option.bind_some] at q1
  cases rt with
  | true=>
   obtain ⟨hE,hP,_⟩:=b8 rfl
   subst hE
   exact Ao k3 hs (I2 rfl) hF b1 b2 (b8 rfl).2.1 Lb (((b8 rfl).2.2 fi (λσ=>K (σ.aB d (jS (di g.rs out).1))) (di g.rs out).2).symm.trans q1) (λhm=>jV g.ps hm q2)
  | false=>
  obtain rfl:=b0.1 rfl
  cases rY with
  | true=>exact Cp k3 hs (I2 rfl) hF b1 b2 b3 Lb ((b7 rfl rfl fi (λσ=>K (σ.aB d (jS (di g.rs out).1))) (di g.rs out).2).symm.trans q1) (λhm=>jV g.ps hm q2)
  | false=>
  obtain ⟨mo,o1,M1,e1,e2⟩:=b6 rfl (di g.rs out).2
  rw[e1] at q1
  have M2:=q1
  obtain ⟨hr,m2,H2,v2,a_,pW,F2,s1,s2,s3,s4,s5,_⟩:=pV k3 q1
  obtain ⟨_,e3,e4,e5⟩:=b1.inj s1
  subst e3;subst e4
  have e5:=eq_of_heq e5
  subst e5
  rw[b2] at s2
  simp only[Option.some.injEq,Pl.mk.injEq,true_and] at s2
  obtain ⟨rfl,rfl⟩:=s2
  obtain ⟨I1,M0⟩:=ae.fp t s3
  obtain ⟨F0,tg⟩:∃ F0:FP,∀ b i,F0 b i=nz gy (dc ad t.sz b i)+cY w t m [] cs b i:=⟨λb i=>nz gy (dc ad t.sz b i)+cY w t m [] cs b i,λ_ _=>rfl⟩
  have LY:∀ b i,F0 b i<=dc ad t.sz b i+cY w t m [] cs b i:=λb i=>by
   rw[tg];cases gy <;> simp[nz]
  have Cq:∀ b i,F0 b i<=F1 r b i:=λb i=>by grind
  have fV:∀ b i,F1 r b i<=al fi.n F1 b i:=λb i=>aW F1 hr b i
  have lz:∀ b i,al fi.n F1 b i<=1:=λb i=>by have:=k3.fA b i;omega
  have wY:∀ b i,A1 b i->AX A1 FX fi.n r ow b i:=λb i h=>.inl h
  have eI:=b5 (AX A1 FX fi.n r ow) F0 (cY w t m [] cs) wY (λlG b i j hj bG hp=>.inr ⟨lG,j,hj,bG,hp⟩)
   (ae.mono wY (λ_ _ _ _ h=>h) (λ_ _ h=>h) t I1 (λ_ _=>Nat.le_refl _) (λ_ _ _ _ h=>h))
   (λhP b o e=>⟨(s5 b o e).1,(s5 b o e).2,λb' i=>by rw[tg,hP,e];exact Nat.le_refl _⟩) (λhP b i=>by grind)
  refine (hs w _ F0 v _ eI (λb i=>by grind) (λb i hp ha=>?_) (λb i hp=>?_) (k3.qv λb i hp=>by grind) out hF).mono λe w' qD=>?_
  ·have h1:=Cq b i;have Y:=fV b i
   rcases ha with ha | ⟨_,j,hj,bG,DV⟩
   ·exact k3.fW b i (by grind) ha
   have DV:=Nat.le_trans DV (zg j b i)
   grind [iS]
  ·rcases hp with hp | hp
   ·exact k3.cW b i (.inl (by grind))
   ·exact zf k3 (GQ zg b i hp)
  ·obtain ⟨rv,rfl,bO,A',G,GR,GM,g1,g2,g3,g4,g5,g6,g7,g8,g9⟩:=qD
   refine ⟨rv,rfl,?_⟩
   obtain ⟨I3,F3,t1,t2,t3,t4⟩:=e2 w' A' GM g9
   obtain ⟨x1,x2⟩:=tX bO
   obtain ⟨kY,A2,J,a2,a3,a4,a5,a6⟩:∃ kY A2:Cells,(∀ b i,A1 b i->kY b i)/\(∀ b i,kY b i->A1 b i\/(w.heap.size<=b/\b < w'.heap.size/\G b i=0))/\(∀ b i,kY b i->A2 b i)/\(∀ b i,A2 b i->kY b i\/(1<=F0 b i/\G b i=0)) /\
     ae P w' A2 t mo [] o1 I3 F3/\e_ P w' A2 (di g.rs out).1 rv GR:=by
    cases ow with
    | true=>
     obtain ⟨u1,u2 | ⟨u2,u3⟩⟩:=hU rfl
     ·exact ⟨A1,A1,λ_ _ h=>h,λ_ _ h=>.inl h,λ_ _ h=>h,λ_ _ h=>.inl h,ae.free (M1 u2) (b4 u2).2 t1,e_.free (kX g.rs out u1) g8⟩
     ·have il:∀ b i,A' b i->G b i=0:=λb i ha=>by
       rcases Nat.eq_zero_or_pos (G b i) with h0 | h0
       ·exact h0
       grind
      refine ⟨λb i=>A1 b i\/(w.heap.size<=b/\A' b i),λb i=>A' b i/\(A1 b i\/w.heap.size<=b\/1<=F0 b i),λ_ _ h=>.inl h,λb i ha=>ha.imp id λ⟨h1,Y⟩=>⟨h1,g6 b i (.inr Y),il b i Y⟩,λb i ha=>?_,λb i ha=>?_,ae.u8 (λb i n ha hn=>⟨ha,?_⟩) t (b0.2.2.2 u2) t1,e_.free (kX g.rs out u1) g8⟩
      ·rcases ha with ha | ⟨h1,Y⟩
       ·exact ⟨g1 b i (.inl ha),.inl ha⟩
       ·exact ⟨Y,.inr (.inl h1)⟩
      ·obtain ⟨h1,Y | Y | Y⟩:=ha
       ·exact .inl (.inl Y)
       ·exact .inl (.inr ⟨Y,h1⟩)
       ·exact .inr ⟨Y,il b i h1⟩
      ·rcases g2 b i ha with (DW | ⟨_,j,hj,bG,hp⟩) | h0 | GK
       ·exact .inl DW
       ·exfalso
        have hb:=u3 j b i hp
        have OX:=Nat.le_trans hp (zg j b i)
        have hz:F0 b i=0:=by
         have:=Cq b i
         grind [iS]
        cases hc:ce w b i with
        | none=>rw[hc] at hb;cases hb
        | some u=>
         have:=bO.cell b i (kC hc) hz u hc
         rw[this] at hn
         injection hn with hn
         rw[hc,hn] at hb
         cases hb
       all_goals grind
    | false=>
     have il:∀ b i,A' b i->G b i=0:=λb i ha=>by
      rcases Nat.eq_zero_or_pos (G b i) with h0 | h0
      ·exact h0
      grind
     refine ⟨λb i=>A1 b i\/(w.heap.size<=b/\A' b i),A',λ_ _ h=>.inl h,λb i ha=>ha.imp id λ⟨h1,Y⟩=>⟨h1,g6 b i (.inr Y),il b i Y⟩,λb i ha=>?_,λb i ha=>?_,t1,g8⟩
     ·grind
     ·rcases g2 b i ha with (DW | ⟨e,_⟩) | h0 | hn
      ·grind
      ·cases e
      ·grind
      grind
   have E8:=mQ bO.size
   have to:=k3.grow x1 (A1:=kY) (X1:=λb i=>if w.heap.size<=b then G b i else 0) J (λb i ha=>?_) (λb i=>?_)
   rotate_left
   ·rcases a2 b i ha with ha | ⟨h1,Y,h3⟩
    ·exact .inl ha
    grind
   ·by_cases hb:w.heap.size<=b
    ·rw[if_pos hb]
     rcases Nat.eq_zero_or_pos (G b i) with h0 | h0
     ·left;omega
     grind
    grind
   obtain ⟨_,m4,H4,v4,Gm,OY,F4,u1,u2,u3,u4,u5,u6⟩:=pV to M2
   obtain ⟨_,e3,e4,e5⟩:=b1.inj u1
   subst e3;subst e4
   have e5:=eq_of_heq e5
   subst e5
   have DU:∀ b i,1<=F1 r b i->b < w.heap.size:=λb i hp=>k3.cW b i (.inl (by grind))
   have cI:=ku (σ':=fi) (a':=a) (w2:=World.news w w') (k3.bX r hr) rfl rfl (λb i ha u hu=>x1.cell b i (k3.cW b i (.inr ha)) rfl u hu) (λb i hp u hu=>x1.cell b i (DU b i hp) rfl u hu) b2
   rw[cI] at u2
   simp only[Option.some.injEq,Pl.mk.injEq,true_and] at u2
   obtain ⟨rfl,rfl⟩:=u2
   have gn:cY (World.news w w') t m [] cs=cY w t m [] cs:=Cn t s3 (λb i hp u hu=>x1.cell b i (DU b i (by grind)) rfl u hu)
   have M3:∀ b i,cY w t m [] cs b i<=F4 b i:=λb i=>by have:=(ae.fp t u3).2 b i;rw[gn] at this;exact this
   have A7:=ae.length _ t1
   have hl:=ae.length _ s3
   have fl:gy=false->I3=cs:=λhP=>HQ A7 (ae.one _ t1) hl (ae.one _ s3) (t4 hP)
   have va:∀ b i,1<=dc ad t.sz b i->F4 b i=0:=λb i hp=>by
    grind
   have tZ:∀ b i,b < w.heap.size->1<=G b i->1<=dc ad t.sz b i\/1<=F4 b i:=λb i hb hp=>by
    grind
   have Kl:∀ b i,GR b i+F3 b i<=(if w.heap.size<=b then G b i else 0)+F4 b i:=λb i=>by
    have h7:=g7 b i;have Y:=t2 b i
    by_cases hb:w.heap.size<=b
    ·grind
    ·rw[if_neg hb]
     rcases Nat.eq_zero_or_pos (GR b i+F3 b i) with h0 | h0
     ·omega
     ·have h4:=g4 b i
      rcases g3 b i (by omega) with h1 | h1
      ·rw[tg] at h1
       cases hP:gy with
       | true=>
        obtain ⟨b',o',cR⟩:=b3 hP
        grind [dc]
       | false=>
        grind [nz]
      ·omega
   obtain ⟨A3,o9,Fr,n1,n2,n3,n4,n5⟩:=u6 w' A2 I3 F3 GR (x2.mono λb i hz=>by
     grind) a3 (λb i ha=>by
     rcases a4 b i ha with ha | ⟨h1,Y⟩
     ·exact .inl ha
     ·refine .inr ⟨?_,by grind⟩
      have hb:b < w.heap.size:=DU b i (by grind)
      rw[if_neg (by omega)]
      rw[tg] at h1
      cases hP:gy with
      | true=>
       obtain ⟨b',o',cR⟩:=b3 hP
       grind [dc]
      | false=>
       grind [nz]) Kl (λb o e=>by
     cases hP:gy with
     | true=>grind
     | false=>
      rw[fl hP]
      intro j u hu
      have hj:=(List.getElem?_eq_some_iff.1 hu).1
      have h9:dc ad t.sz b (o+j)=1:=by grind [dc,bm]
      have h8:=va b (o+j) (by omega)
      refine x2.cell b (o+j) ?_ ?_ u ((u5 b o e).1 j u hu)
      ·rw[E8];exact Nat.lt_of_lt_of_le (DU b (o+j) (by grind)) bO.size
      ·rw[tg,hP]
       have:=M3 b (o+j)
       simp only[nz,Nat.zero_add];omega) (λe=>by
     cases hP:gy with
     | true=>obtain ⟨b',o',cR⟩:=b3 hP;rw[e] at cR;cases cR
     | false=>exact fl hP) a5
   have km:=pZ (σ:=o9) (a:=a) (e_.mono n2 a6)
   cases hP:gy with
   | true=>
    subst hP
    exact ⟨fJ n3 n1 km.1 (λ_ _=>Nat.le_refl _) km.2,λhm=>(jV g.ps hm q2).elim⟩
   | false=>
    subst hP
    have hc:=fl rfl
    subst hc
    have h5:=n5 (je (bc p+1)) (jB _ (k3.dK r)) (qw _ (k3.dK r)) rfl (λp' snap hb am hlen=>by
     have:=rO (bc p+1) (k3.dK r) hb am
     exact ⟨1,False,by omega,λ_=>.inl (by omega),λ_=>by omega,DT ad a5⟩)
    have GS:=pZ (σ:={ o9 with vr:=(fi.eb r (je (bc p+1))).vr,ax:=fi.ax }) (a:=a) (e_.mono n2 a6)
    exact ⟨fJ h5 n1 GS.1 (λ_ _=>Nat.le_refl _) GS.2,λhm=>(jV g.ps hm q2).elim⟩
 | _::_::_,hl=>simp at hl
theorem zh (h:bd P C A σ a w F) {f:FuncId} {g:kf} (hs:Sound P f g) {xs:List Operand} {ex:List Slot} {r_:List Value} (am:xs.all (aZ P)=true)
  (hex:∀ (A':Cells) (σ':St),(∀ b i,A b i->A' b i)->kL P A' σ' a w ex r_) {d:Option Tmp} {K:St->Option R} (hk:qm g σ xs ex d K=some x) :
  Calls P f (xs.map a.eval++r_).toArray w λe w'=>∃ rv,e=.returned rv/\Nx P C K x (a.put d rv) w'/\(lH g.ps=true->Ext w w' (λ_ _=>0)):=by
 unfold qm at hk
 split at hk
 all_goals grind [DX,IZ]
theorem wZ {f:FuncId} {cap:Bool} (he:mp P f cap) (args:Array Value):(callFunc f args).run P w=.ok (.enter f args) w:=by
 obtain ⟨fn,h1,Y,h3,_⟩:=he
 have OZ:fn.name ≠ "runtime.NumGoroutine" := by simpa using Y
 have K9:fn.body≠none:=by grind
 simp_all [callFunc]
theorem Ap (h:bd P C A σ a w F) {f:FuncId} {args:Array Operand} {ts:Array TypeId} (ho:o.op=.call { callee:=.value (.func f),args:=args,argTypes:=ts }) (am:args.toList.all (aZ P)=true) {g:kf} (hs:Sound P f g) (he:mp P f false)
  {K:St->Option R} (hk:qm g σ args.toList [] o.dst K=some x):o.wp P a w (λa' w'=>Nx P C K x a' w'/\(lH g.ps=true->Ext w w' (λ_ _=>0))) Q:=by
 have cX:(execOp a.eval o).run P w=.ok (.enter f (args.map a.eval)) w:=by
  have e:a.eval (.func f)=.func (.func f) #[] #[]:=rfl
  grind [execOp,resolve,Deferred.ofValue,invoke,wZ]
 unfold Oper.wp
 rw[cX,Oper.upon_enter]
 have hc:=zh h hs (ex:=[]) (r_:=[]) am (λ_ _ _=>trivial) hk
 have:(args.toList.map a.eval++[]).toArray=args.map a.eval:=by grind
 rw[this] at hc
 exact hc.mono λe w' ⟨rv,he,hn⟩=>by grind
theorem Aq (h:bd P C A σ a w F) {i:Tmp} {args:Array Operand} {ts:Array TypeId} (ho:o.op=.call { callee:=.value (.tmp i),args:=args,argTypes:=ts }) (am:args.toList.all (aZ P)=true) {f:FuncId} {n:Int} (gP:yA (σ.get i)=some (f,n)) {g:kf} (hs:Sound P f g) (he:mp P f g.cap)
  {K:St->Option R} (hk:qm g σ args.toList (match g.cap with | true=>[.cp (.int .i64) n] | false=>[]) o.dst K=some x):o.wp P a w (λa' w'=>Nx P C K x a' w'/\(lH g.ps=true->Ext w w' (λ_ _=>0))) Q:=by
 have hi:i < σ.n:=by
  rcases Nat.lt_or_ge i σ.n with hi | hi
  ·exact hi
  ·rw[dN (Nat.not_lt.2 hi)] at gP;cases gP
 have Lc:=h.bX i hi
 unfold yA at gP
 split at gP
 rotate_left
 ·cases gP
 rename_i v hg
 injection gP with hv
 subst hv
 rw[hg] at Lc
 obtain ⟨cs,h1,pC,rfl,fn,h3,h4⟩:=Lc
 have e:a.eval (.tmp i)=.func (.func f) #[] pC:=h1
 have cX:(execOp a.eval o).run P w=.ok (.enter f (args.map a.eval++pC)) w:=by
  grind [execOp,resolve,Deferred.ofValue,invoke,wZ]
 unfold Oper.wp
 rw[cX,Oper.upon_enter]
 obtain ⟨O0,f1,f2,f3,f4⟩:=he
 rw[h3] at f1
 injection f1 with f1
 subst f1
 have hex:∃ r_:List Value,(args.toList.map a.eval++r_).toArray=args.map a.eval++pC/\∀ (A':Cells) (σ':St),(∀ b i,A b i->A' b i)->kL P A' σ' a w (match g.cap with | true=>[.cp (.int .i64) n] | false=>[]) r_:=by
  rcases h4 with ⟨h4,rfl⟩ | ⟨h4,ad,rfl,h5,h6,h7⟩
  ·have:g.cap=false:=by grind
   rw[this]
   exact ⟨[],by grind,λ_ _ _=>trivial⟩
  ·have:g.cap=true:=by grind
   rw[this]
   refine ⟨[.pointer (some ad)],by grind,λA' σ' hA=>⟨.inl ⟨ad,rfl,h5,[.int .i64 n],rfl,(λj u hu=>?_),rfl⟩,trivial⟩⟩
   grind
 obtain ⟨r_,LZ,hex⟩:=hex
 have hc:=zh h hs am hex hk
 rw[LZ] at hc
 exact hc.mono λe w' ⟨rv,he,hn⟩=>by grind
end
end OT
set_option linter.unusedVariables false
set_option linter.unusedSimpArgs false
namespace OT
open Go
section
variable {P:Program} {w:World} {A:Cells}
def wm:Value->Bool
 | .int _ _ | .bool _ | .string _=>true
 | _=>false
theorem Ro.simple:∀ (t:Ty) {v:t.den} {cs:List Value},t.eS=true->Ro P w A t v cs->∀ x ∈ cs,wm x=true:=by
 intro t
 induction t with
 | int k=>intro v cs _ h x hx;simp only[Ro] at h;subst h;simp at hx;subst hx;rfl
 | bool=>intro v cs _ h x hx;simp only[Ro] at h;subst h;simp at hx;subst hx;rfl
 | str=>intro v cs _ h x hx;simp only[Ro] at h;subst h;simp at hx;subst hx;rfl
 | unit=>grind [Ro]
 | pair a b d_ dT=>
  intro v cs he h x hx
  simp only[Ty.eS,Bool.and_eq_true] at he
  rw[<-List.take_append_drop a.sz cs] at hx
  rcases List.mem_append.1 hx with hx | hx
  ·exact d_ he.1 h.1 x hx
  ·exact dT he.2 h.2 x hx
 | arr n e ih=>
  intro v cs he h x hx
  obtain ⟨_,hv,hl,hr⟩:=h
  obtain ⟨j,hj,rfl⟩:=List.mem_iff_getElem.1 hx
  have hs:0 < e.sz:=by
   grind
  have hi:j / e.sz < n:=by
   rw[Nat.div_lt_iff_lt_mul hs];omega
  have h1:=hr (j / e.sz) _ (List.getElem?_eq_getElem (by omega))
  refine ih he h1 _ (List.mem_iff_getElem?.2 ⟨j % e.sz,?_⟩)
  grind [Nat.mod_lt,Nat.div_add_mod]
 | _=>grind [Ty.eS]
theorem Ar {x:Value} (h:wm x=true) (n:Nat):Instr.sameBits n x x=true:=by
 cases x <;> simp[wm] at h <;> cases n <;> simp[Instr.sameBits,MapKept.bytes_beq]
theorem DY {t:Ty} {v:t.den} {cs:List Value} (ha:isAgg t=true) (he:t.eS=true) (h:Ro P w A t v cs):Instr.sameBits 10000 (aY t cs) (aY t cs)=true:=by
 have hs:=Ro.simple t he h
 simp only[aY,ha,if_true,Instr.sameBits,beq_self_eq_true,Bool.true_and,List.all_eq_true]
 rintro ⟨x,y⟩ rJ
 have hz:(x,y) ∈ cs.zip cs:=by simpa using rJ
 have GT:x=y/\x ∈ cs:=by
  clear h hs rJ
  induction cs with
  | nil=>simp at hz
  | cons c cs ih=>
   grind [List.zip_cons_cons]
 grind [Ar]
theorem zi:∀ (t:Ty),(∀ (i:TypeId) (d:Nat) (e:Bool) (v:t.den) (cs:List Value),ao P t (.inl i)=true->gQ P t (.inl i)=true->dep t<=d->Ro P w A t v cs->(Instr.checkKey e d i (aY t cs)).run P w=.ok () w) /\
  (∀ (fs:List Field) (off d:Nat) (e:Bool) (v:t.den) (xs:Array Value),ao P t (.inr (fs,off))=true->gQ P t (.inr fs)=true->dep t<=d+1->Ro P w A t v (xs.toList.drop off) ->
   (forIn fs PUnit.unit λf _=>(if f.name ≠ "_" then do
     let x <- part f.type xs f.offset
     Instr.checkKey e d f.type x
     pure (ForInStep.yield PUnit.unit)
    else pure (ForInStep.yield PUnit.unit):Sem (ForInStep PUnit))).run P w=.ok () w):=by
 intro t
 induction t with
 | int k=>
  refine ⟨λi d e v cs hl he hd h=>?_,λfs off d e v xs hl=>by simp[ao] at hl⟩
  simp only[Ro] at h
  subst h
  cases d with
  | zero=>simp[dep] at hd
  | succ d=>rw[bj _ _ rfl];simp[Instr.checkKey,run_underlying (gd hl)]
 | bool=>
  refine ⟨λi d e v cs hl he hd h=>?_,λfs off d e v xs hl=>by simp[ao] at hl⟩
  simp only[Ro] at h
  subst h
  have hu:P.underlying i=some .bool:=by
   grind [ao]
  cases d <;> simp_all [dep,Instr.checkKey,run_underlying]
 | str=>
  refine ⟨λi d e v cs hl he hd h=>?_,λfs off d e v xs hl=>by simp[ao] at hl⟩
  simp only[Ro] at h
  subst h
  cases d <;> simp_all [dep,Instr.checkKey,run_underlying,ef]
 | unit=>
  refine ⟨λi d e v cs hl he hd h=>?_,λfs off d e v xs hl he hd h=>?_⟩
  ·simp only[Ro] at h
   subst h
   simp only[ao,Bool.and_eq_true] at hl
   have h3:=hl.2
   split at h3
   ·rename_i fs hu
    have IS:fs.toList=[]:=List.isEmpty_iff.1 h3
    cases d with
    | zero=>simp[dep] at hd
    | succ d=>
     show (Instr.checkKey e (d+1) i (.agg #[])).run P w=_
     simp_all [Instr.checkKey,run_underlying]
   ·cases h3
  simp_all [ao]
 | pair a b d_ dT=>
  have second:∀ (fs:List Field) (off d:Nat) (e:Bool) (v:(Ty.pair a b).den) (xs:Array Value),ao P (.pair a b) (.inr (fs,off))=true->gQ P (.pair a b) (.inr fs)=true->dep (.pair a b)<=d+1->Ro P w A (.pair a b) v (xs.toList.drop off) ->
    (forIn fs PUnit.unit λf _=>(if f.name ≠ "_" then do
      let x <- part f.type xs f.offset
      Instr.checkKey e d f.type x
      pure (ForInStep.yield PUnit.unit)
     else pure (ForInStep.yield PUnit.unit):Sem (ForInStep PUnit))).run P w=.ok () w:=by
   intro fs off d e v xs hl he hd h1
   cases fs with
   | nil=>simp_all
   | cons f r=>
    simp only[ao,Bool.and_eq_true,Nat.beq_eq,Nat.ble_eq] at hl
    simp only[gQ,Bool.and_eq_true,bne_iff_ne,ne_eq] at he
    simp only[dep] at hd
    obtain ⟨DI,DJ⟩:=h1
    have p1:=jD (P:=P) (w:=w) hl.1.2 (cs:=xs) (off:=off) (Ro.length _ DI)
    have e1:=d_.1 f.type d e v.1 _ hl.1.2 he.1.2 (by omega) DI
    rw[List.drop_drop] at DJ
    have e2:=dT.2 r (off+a.sz) d e v.2 xs hl.2 he.2 (by omega) DJ
    simp_all
  refine ⟨λi d e v cs hl he hd h=>?_,second⟩
  simp only[ao,Bool.and_eq_true] at hl
  simp only[gQ,Bool.and_eq_true,Bool.not_eq_true'] at he
  have h3:=hl.2
  have h4:=he.2
  split at h3
  ·rename_i fs hu
   rw[hu] at h4
   simp only at h4
   split at h3
   ·rename_i f r uU
    rw[uU] at h4
    simp only at h4
    cases d with
    | zero=>grind [dep]
    | succ d=>
     show (Instr.checkKey e (d+1) i (.agg cs.toArray)).run P w=_
     rw[Instr.checkKey]
     simp only[Sem.run_bind,run_underlying hu,Result.andThen_ok]
     rw[<-Array.forIn_toList,uU]
     have:=second (f::r) 0 d e v cs.toArray (by grind [ao]) (by grind [gQ]) hd (by simpa using h)
     rw[this]
     rfl
   ·cases h3
  ·cases h3
 | arr n e ih=>
  refine ⟨λi d em v cs hl he hd h=>?_,λfs off d em v xs hl=>by simp[ao] at hl⟩
  simp only[ao,Bool.and_eq_true] at hl
  have h3:=hl.2
  simp only[gQ] at he
  split at h3
  ·rename_i n' el hu
   simp only[Bool.and_eq_true,Nat.beq_eq,Nat.ble_eq] at h3
   obtain ⟨⟨rfl,_⟩,hle⟩:=h3
   rw[hu] at he
   simp only at he
   obtain ⟨inf,i1,i2,_⟩:=de (ei hle)
   have eN:P.cellsOf el=e.sz:=by grind [Program.cellsOf]
   obtain ⟨_,l1,_,r1⟩:=h
   cases d with
   | zero=>simp[dep] at hd
   | succ d=>
    simp only[dep] at hd
    show (Instr.checkKey em (d+1) i (.agg cs.toArray)).run P w=_
    rw[Instr.checkKey]
    simp only[Sem.run_bind,run_underlying hu,Result.andThen_ok,Std.Legacy.Range.forIn_eq_forIn_range',Std.Legacy.Range.size,Nat.sub_zero,Nat.add_one_sub_one,Nat.div_one]
    have key:∀ (m j:Nat),j+m=n->(forIn (List.range' j m) PUnit.unit λi _=>(do
       let x <- part el cs.toArray (i*(<- Go.sizeOf el))
       Instr.checkKey em d el x
       pure (ForInStep.yield PUnit.unit):Sem (ForInStep PUnit))).run P w=.ok () w:=by
     intro m
     induction m with
     | zero=>simp_all
     | succ m IT=>
      intro j hj
      have J:=r1 j _ (List.getElem?_eq_getElem (l:=v) (i:=j) (by omega))
      have p1:=jD (P:=P) (w:=w) hle (cs:=cs.toArray) (off:=j*e.sz) (Ro.length _ J)
      have e1:=ih.1 el d em _ _ hle he (by omega) J
      rw[List.range'_succ]
      simp only[List.forIn_cons,Sem.run_bind,run_sizeOf hle,p1,e1,Result.andThen_ok,Sem.run_pure]
      grind
    simp_all
  ·cases h3
 | _=>grind [gQ]
def qE (P:Program) (w:World) (A:Cells) (k v:Ty) (es:List (Value×Value)) (m:List (k.den×v.den)):Prop:=
 es.length=m.length/\∀ (i:Nat) (y:k.den×v.den),m[i]?=some y->∃ (kc vc:List Value),es[i]?=some (aY k kc,aY v vc)/\Ro P w A k y.1 kc/\Ro P w A v y.2 vc
structure ya (P:Program) (k:Ty) (i:TypeId):Prop where
 lay:ao P k (.inl i)=true
 agg:isAgg k=true
 eS:k.eS=true
 flat:k.flat=true
 gQ:gQ P k (.inl i)=true
 dep:dep k<=9000
theorem wo {k v:Ty} {i:TypeId} (h:ao P (.map k v) (.inl i)=true):∃ ki vi,P.underlying i=some (.map ki vi)/\ya P k ki/\ao P v (.inl vi)=true/\Gx P v vi=true:=by
 simp only[ao,Bool.and_eq_true] at h
 have Y:=h.2
 split at Y
 ·rename_i ki vi hu
  simp only[Bool.and_eq_true,IL,Nat.ble_eq] at Y
  obtain ⟨⟨⟨h3,h4⟩,⟨⟨⟨⟨h5,h6⟩,h7⟩,h8⟩,h9⟩⟩,tq⟩:=Y
  exact ⟨ki,vi,hu,⟨h3,h5,h6,h7,h8,h9⟩,h4,tq⟩
 ·cases Y
theorem DZ {k v:Ty} {ki:TypeId} (K:ya P k ki) {x:k.den} {xc:List Value} (hx:Ro P w A k x xc):∀ (es:List MapEntry) (m:List (k.den×v.den)) (i:Nat),qE P w A k v (es.map λe=>(e.key,e.val)) m ->
  (Instr.findAsking ki (aY k xc) es i).run P w=.ok ((m.findIdx? λy=>k.eq x y.1).bind λj=>(es[j]?).map λe=>(i+j,e.val)) w:=by
 intro es
 induction es with
 | nil=>
  simp_all [Instr.findAsking]
 | cons e es ih=>
  intro m i h
  cases m with
  | nil=>have:=h.1;simp at this
  | cons y m=>
   obtain ⟨kc,vc,h1,Y,h3⟩:=h.2 0 y rfl
   simp only[List.map_cons,List.getElem?_cons_zero,Option.some.injEq,Prod.mk.injEq] at h1
   have heq:(Op.equal ki (aY k xc) (aY k kc)).run P w=.ok (k.eq x y.1) w:=(GD (P:=P) (w:=w) (A:=A) k).1 ki Op.maxDepth x y.1 xc kc K.lay K.gQ (by have:=K.dep;grind [Op.maxDepth]) hx Y
   have ff:qE P w A k v (es.map λe=>(e.key,e.val)) m:=⟨by have:=h.1;simpa using this,λj z hz=>by
    have:=h.2 (j+1) z (by simpa using hz)
    simpa using this⟩
   simp only[Instr.findAsking,Sem.run_bind,h1.1,heq,Result.andThen_ok,List.findIdx?_cons]
   cases hq:k.eq x y.1 with
   | true=>simp
   | false=>
    simp only[Bool.false_eq_true,if_false,ih m (i+1) ff,Option.bind_map]
    congr 2
    grind
theorem D0 {k:Ty} {ki:TypeId} (K:ya P k ki):∃ d,P.underlying ki=some d/\∀ x y,Instr.sameNow d x y=none:=by
 have hl:=K.lay
 have ha:=K.agg
 have he:=K.eS
 cases k with
 | pair a b=>
  simp only[ao,Bool.and_eq_true] at hl
  have h3:=hl.2
  split at h3
  ·rename_i fs hu;exact ⟨_,hu,λ_ _=>rfl⟩
  ·cases h3
 | unit=>
  simp only[ao,Bool.and_eq_true] at hl
  have h3:=hl.2
  split at h3
  ·rename_i fs hu;exact ⟨_,hu,λ_ _=>rfl⟩
  ·cases h3
 | arr n e=>
  simp only[ao,Bool.and_eq_true] at hl
  have h3:=hl.2
  split at h3
  ·rename_i n' el hu;exact ⟨_,hu,λ_ _=>rfl⟩
  ·cases h3
 | _=>simp[isAgg] at ha
theorem Bo {k v:Ty} {ki:TypeId} (K:ya P k ki) {x:k.den} {xc:List Value} (hx:Ro P w A k x xc) {es:List MapEntry} {m:List (k.den×v.den)} (h:qE P w A k v (es.map λe=>(e.key,e.val)) m) :
  (Instr.findKey ki (aY k xc) es).run P w=.ok ((m.findIdx? λy=>k.eq x y.1).bind λj=>(es[j]?).map λe=>(j,e.val)) w:=by
 obtain ⟨d,hu,hd⟩:=D0 K
 have ha:=DZ (v:=v) K hx es m 0 h
 simp only[Nat.zero_add] at ha
 unfold Instr.findKey
 simp only[Sem.run_bind,run_underlying hu,Result.andThen_ok]
 cases es <;> simp_all [Instr.findNow]
theorem sa {k v:Ty} {m:Md} {y:List (k.den×v.den)} {cs:List Value} {F:FP} (h:ae P w A (.map k v) m [] y cs F) :
  k.flat=true/\v.flat=true/\∃ (r:Nat) (es:Array MapEntry) (clock:Nat),cs=[.map (some r)]/\w.heap[r]?=some (.map es clock)/\qE P w A k v (es.toList.map λe=>(e.key,e.val)) y/\(m.own=true->1<=F r 0):=by
 simp only[ae,hole,List.any_nil,Bool.false_eq_true,if_false] at h
 split at h
 ·rename_i hm
  obtain ⟨h1,Y,r,jf,h3,h4,h5,h6,h7⟩:=h
  obtain ⟨es,clock,q1,q2⟩:=Dk h4
  refine ⟨h1,Y,r,es,clock,h3,q1,?_,λ_=>h5⟩
  have q2:(es.toList.map λe=>(e.key,e.val))=jf:=q2
  rw[q2]
  exact ⟨h6,h7⟩
 ·rename_i hm
  obtain ⟨_,_,h1,Y,r,jf,h3,h4,h5,h6,h7⟩:=h
  obtain ⟨es,clock,q1,q2⟩:=Dk h4
  refine ⟨h1,Y,r,es,clock,h3,q1,?_,λe=>absurd e hm⟩
  have q2:(es.toList.map λe=>(e.key,e.val))=jf:=q2
  rw[q2]
  exact ⟨h6,h7⟩
theorem D1 {α:Type} {k:Ty} (m:List (k.den×α)) (x:k.den):fH k m x=(m.findIdx? λe=>k.eq x e.1).bind λj=>(m[j]?).map (·.2):=by
 unfold fH
 induction m with
 | nil=>rfl
 | cons y m ih=>
  simp only[List.find?_cons,List.findIdx?_cons]
  cases hq:k.eq x y.1 with
  | true=>simp
  | false=>
   simp only[Bool.false_eq_true,if_false]
   rw[ih]
   cases m.findIdx? (λe=>k.eq x e.1) <;> simp
theorem E9 {v:Ty} {i:TypeId} (hz:Gx P v i=true) (hv:ao P v (.inl i)=true) {z:Value} {L:List Value} (h1:(zeroValue i).run P w=.ok z w) (Y:z.cells.toList=L) (hl:L.length=v.sz):z=aY v L:=by
 obtain ⟨inf,i1,i2,i3,i4⟩:=de (ei hv)
 unfold Gx at hz
 rw[i1] at hz
 simp only at hz
 cases M4:inf.zero with
 | none=>grind
 | some z0=>
  have:z=z0:=by
   simp_all [zeroValue,typeInfo]
  subst this
  rw[M4] at hz
  unfold aY
  cases ha:isAgg v with
  | true=>
   rw[ha] at hz
   cases z <;> simp at hz
   simp only[Value.cells] at Y
   subst Y
   simp
  | false=>
   grind [Value.cells]
theorem E_:∀ (t:Ty),t.eS=true->∀ {v1 v2:t.den} {ge a_:List Value},Ro P w A t v1 ge->Ro P w A t v2 a_->t.eq v1 v2=true->a_=ge:=by
 intro t
 induction t with
 | int k=>
  intro _ v1 v2 ge a_ h1 Y he
  simp only[Ro] at h1 Y
  subst h1;subst Y
  have:v1=v2:=by cases k <;> simpa [Ty.eq] using he
  rw[this]
 | bool=>
  grind [Ro,Ty.eq]
 | str=>
  grind [Ro,Ty.eq]
 | unit=>
  grind [Ro]
 | pair a b d_ dT=>
  intro hq v1 v2 ge a_ h1 Y he
  simp only[Ty.eS,Bool.and_eq_true] at hq
  simp only[Ty.eq,Bool.and_eq_true] at he
  have e1:=d_ hq.1 h1.1 Y.1 he.1
  have e2:=dT hq.2 h1.2 Y.2 he.2
  grind [List.take_append_drop]
 | arr n e ih=>
  intro hq v1 v2 ge a_ h1 Y he
  obtain ⟨_,l1,c1,r1⟩:=h1
  obtain ⟨_,l2,c2,r2⟩:=Y
  refine List.ext_getElem (by omega) λj O1 O2=>?_
  have hs:0 < e.sz:=by
   grind
  have hi:j / e.sz < n:=by
   rw[Nat.div_lt_iff_lt_mul hs];omega
  have J:=r1 (j / e.sz) _ (List.getElem?_eq_getElem (by omega))
  have a2:=r2 (j / e.sz) _ (List.getElem?_eq_getElem (by omega))
  have M5:e.eq (v1[j / e.sz]'(by omega)) (v2[j / e.sz]'(by omega))=true:=by
   simp only[Ty.eq,List.all_eq_true] at he
   exact he (_,_) (List.mem_iff_getElem?.2 ⟨j / e.sz,by grind⟩)
  have h3:=ih hq J a2 M5
  have hm:=Nat.mod_lt j hs
  have hd:=Nat.div_add_mod j e.sz
  have h4:=congrArg (·[j % e.sz]?) h3
  grind
 | _=>grind [Ty.eS]
theorem Cr {k v:Ty} {t:TypeId} (hl:ao P (.map k v) (.inl t)=true) (hz:v.kQ=true) {x:k.den} {xc:List Value} (hx:Ro P w A k x xc) {r:Nat} {es:Array MapEntry} {clock:Nat} (hb:w.heap[r]?=some (.map es clock)) {y:List (k.den×v.den)}
  (he:qE P w A k v (es.toList.map λe=>(e.key,e.val)) y) (ok:Bool) :
  ∃ vc,Ro P w A v (yB (fH k y x) v.zero) vc/\(Instr.lookup t (.map (some r)) (aY k xc) ok).run P w=.ok (if ok then .tuple #[aY v vc,.bool (fH k y x).isSome] else aY v vc) w:=by
 obtain ⟨ki,vi,hu,K,hv,L0⟩:=wo hl
 have hc:=(zi (P:=P) (w:=w) (A:=A) k).1 ki 10000 es.isEmpty x xc K.lay K.gQ (by have:=K.dep;omega) hx
 have hf:=Bo (v:=v) K hx he
 obtain ⟨L,hL⟩:=jE v hz
 obtain ⟨z,GF,IU⟩:=ng (P:=P) (w:=w) hv hL
 obtain ⟨r1,r2,r3⟩:=o8 (P:=P) (w:=w) (A:=A) v hL hv
 rw[D1]
 cases zj:y.findIdx? (λe=>k.eq x e.1) with
 | none=>
  rw[zj] at hf
  simp only[Option.bind_none] at hf ⊢
  refine ⟨L,r2,?_⟩
  have Bi:z=aY v L:=E9 L0 hv GF IU r3
  cases ok <;> simp[Instr.lookup,run_underlying hu,MapKept.run_getObj_map hb,hc,hf,GF,Bi]
 | some j=>
  rw[zj] at hf
  have hj:j < y.length:=(List.findIdx?_eq_some_iff_findIdx_eq.1 zj).1
  obtain ⟨kc,vc,g1,g2,g3⟩:=he.2 j y[j] (List.getElem?_eq_getElem hj)
  rw[List.getElem?_map] at g1
  cases Ld:es.toList[j]? with
  | none=>grind
  | some e=>
   rw[Ld] at g1
   simp only[Option.map_some,Option.some.injEq,Prod.mk.injEq] at g1
   simp only[Ld,Option.bind_some,Option.map_some,List.getElem?_eq_getElem hj] at hf ⊢
   refine ⟨vc,g3,?_⟩
   cases ok <;> simp[Instr.lookup,run_underlying hu,MapKept.run_getObj_map hb,hc,hf,g1.2]
end
section
variable {P:Program} {C:Ctx} {A:Cells} {X:FP} {σ:St} {a:Act} {w:World} {F:Nat->FP} {R:Type} {x:R} {Q:Exit->Act->World->Prop} {o:Oper} {E:Env}
theorem As (h:bd P C A σ a w F) (dr:∀ i T,E.TI i=some T->ao P T (.inl i)=true) {t:Nat} (ho:o.op=.makeMap t none) {K:St->Option R}
  (hk:(fU E t λt=>match t with
  | .map k v=>if k.flat&&v.flat then K (σ.aB o.dst (.own (.map k v) (aF (.map k v)) [] [])) else none
  | _=>none)=some x):o.wp P a w (λa' w'=>Nx P C K x a' w'/\Ext w w' (λ_ _=>0)) Q:=by
 obtain ⟨T,hT,hk⟩:=bE hk
 split at hk
 ·rename_i k v
  split at hk
  ·rename_i hc
   simp only[Bool.and_eq_true] at hc
   have cX:(execOp a.eval o).run P w=.ok (.value (.map (some w.heap.size))) (w.alloc (.map #[] 0)):=by
    simp[execOp,ho,run_makeMap_plain]
   have bO:=e9 w (.map #[] 0)
   have h1:Rel P C A (λb i=>0+bm w.heap.size 0 1 b i) σ a (w.alloc (.map #[] 0)) F:=by
    refine h.grow bO (λ_ _ h=>h) (λ_ _ h=>.inl h) (λb i=>?_)
    by_cases hb:b=w.heap.size
    ·subst hb
     right
     exact ⟨Nat.le_refl _,by simp,by grind [bm]⟩
    grind [bm]
   have tW:(w.alloc (.map #[] 0)).heap[w.heap.size]?=some (.map #[] 0):=heap_alloc_new w _
   refine e8 cX ⟨fJ h1 hk (Fd:=bm w.heap.size 0 1) ⟨_,(bj (.map k v) _ rfl).symm,?_⟩ (λb i=>by simp) (λ_ _ _ _ e=>by cases e),bO⟩
   simp only[ae,hole,List.any_nil,Bool.false_eq_true,if_false,aF,kI,Md.own,if_true]
   refine ⟨hc.1,hc.2,w.heap.size,[],rfl,?_,by simp[bm],rfl,λi y hy=>by cases hy⟩
   exact Dl tW
  ·cases hk
 ·cases hk
theorem Au (h:bd P C A σ a w F) (dr:∀ i T,E.TI i=some T->ao P T (.inl i)=true) {t:Nat} {y z:Operand} {ok:Bool} (ho:o.op=.lookup t y z ok) (am:aZ P y=true/\aZ P z=true) {K:St->Option R}
  (hk:vU E σ t (a9 σ y) (a9 σ z) ok o.dst K=some x):o.wp P a w (λa' w'=>Nx P C K x a' w'/\Ext w w' (λ_ _=>0)) Q:=by
 unfold vU at hk
 obtain ⟨T,hT,hk⟩:=bE hk
 have cn:=dr _ _ hT
 split at hk
 ·rename_i k v
  split at hk
  ·rename_i hz
   rcases bt h am.1 with hs | ⟨xs,e⟩
   rotate_left
   ·grind
   rcases bt h am.2 with np | ⟨xs,e2⟩
   rotate_left
   ·exfalso
    rw[e2] at hk
    split at hk
    ·split at hk
     ·obtain ⟨_,_,_,_,_,_,_,_,h1,_⟩:=du h hk
      grind [aP]
     ·cases hk
    ·cases hk
   split at hk
   ·rename_i r p snap hv
    rw[hv] at hs
    split at hk
    ·rename_i fm
     obtain ⟨hr,t',m',H',v',aC,aS,F',h1,iq,h3,h4,h5,h6⟩:=du h hk
     split at h1
     ·rename_i hH
      have hH:=List.isEmpty_iff.1 hH
      subst hH
      obtain ⟨e1,h1⟩:=aP h1
      subst e1
      obtain ⟨pl,g1,g2,g3⟩:=hs.2 fm
      rw[h3] at g1
      injection g1 with g1
      subst g1
      obtain ⟨f1,f2,b,es,clock,q1,q2,q3,q4⟩:=sa h4
      simp only at g2
      subst q1
      rw[bj (.map k v) _ rfl] at g2
      split at h1
      ·rename_i t2 ix I4
       rw[I4] at np
       obtain ⟨e2,h1⟩:=aP h1
       subst e2
       obtain ⟨kc,wT,eF⟩:=np
       obtain ⟨vc,r1,r2⟩:=Cr (P:=P) cn hz eF q2 q3 ok
       have cX:(execOp a.eval o).run P w=.ok (.value (if ok then .tuple #[aY v vc,.bool (fH t2 v' ix).isSome] else aY v vc)) w:=by
        simp_all [execOp]
       cases ok with
       | true=>
        simp only at h1
        refine e8 cX ⟨aK h h1 ⟨#[aY v vc,.bool (fH t2 v' ix).isSome],λ_ _ _=>0,rfl,λb i=>by grind [d9],λj y hy=>?_⟩ (λ_ _ _ _ e=>by cases e),Ext.refl _ _⟩
        match j with
        | 0=>simp at hy;subst hy;exact ⟨_,rfl,.inr ⟨vc,rfl,Ro.rep v _ (bI v) r1⟩⟩
        | 1=>simp at hy;subst hy;exact ⟨_,rfl,.inr ⟨[.bool _],rfl,rfl⟩⟩
        | n+2=>simp at hy
       | false=>
        simp only at h1
        exact e8 cX ⟨aK h h1 ⟨vc,rfl,r1⟩ (λ_ _ _ _ e=>by cases e),Ext.refl _ _⟩
      ·cases h1
     ·cases h1
    ·cases hk
   ·cases hk
  ·cases hk
 ·cases hk
theorem Cs {r:Nat} {es vd:Array MapEntry} {clock p5:Nat} (hb:w.heap[r]?=some (.map es clock)):Ext w { w with heap:=w.heap.setIfInBounds r (.map vd p5) } (bm r 0 1):=by
 have M6:∀ b,b≠r->(w.heap.setIfInBounds r (.map vd p5))[b]?=w.heap[b]?:=λb bG=>by grind
 refine ⟨by simp,λb i Le hz u hu=>?_,λb n hn=>?_,λb i Le=>?_,rfl,rfl,rfl,λb Le hz=>?_,Nat.le_refl _⟩
 ·grind [bm,ce,qo]
 ·obtain ⟨c,e,fr,h1,Y,h3⟩:=hn
  have M7:b≠r:=λe=>by grind
  exact ⟨c,e,fr,by grind,Y,h3⟩
 ·grind [World.frozen?]
 ·have M7:b≠r:=λe=>by simp_all [bm]
  grind
theorem Ct {k v:Ty} {t:TypeId} (hl:ao P (.map k v) (.inl t)=true) {x:k.den} {xc:List Value} (hx:Ro P w A k x xc) {z:v.den} {GU:List Value} (O3:Ro P w A v z GU) {r:Nat} {es:Array MapEntry} {clock:Nat} (hb:w.heap[r]?=some (.map es clock)) {y:List (k.den×v.den)}
  (he:qE P w A k v (es.toList.map λe=>(e.key,e.val)) y) :
  ∃ (vd:Array MapEntry) (p5:Nat),(Instr.mapUpdate t (.map (some r)) (aY k xc) (aY v GU)).run P w=.ok () { w with heap:=w.heap.setIfInBounds r (.map vd p5) }/\qE P w A k v (vd.toList.map λe=>(e.key,e.val)) (fI k y x z):=by
 obtain ⟨ki,vi,hu,K,hv,_⟩:=wo hl
 have hc:=(zi (P:=P) (w:=w) (A:=A) k).1 ki 10000 false x xc K.lay K.gQ (by have:=K.dep;omega) hx
 have hf:=Bo (v:=v) K hx he
 unfold fI
 cases zj:y.findIdx? (λe=>k.eq x e.1) with
 | none=>
  rw[zj] at hf
  simp only[Option.bind_none] at hf ⊢
  refine ⟨es.push { key:=aY k xc,val:=aY v GU,born:=clock },clock+1,?_,?_,λi q hq=>?_⟩
  ·simp[Instr.mapUpdate,run_underlying hu,MapKept.run_getObj_map hb,hc,hf,MapKept.run_setObj_map _ hb,Result.andThen]
  ·have:=he.1;grind
  ·have hlen:(es.toList.map λe=>(e.key,e.val)).length=y.length:=he.1
   rw[Array.toList_push,List.map_append]
   by_cases hi:i < y.length
   ·rw[List.getElem?_append_left hi] at hq
    rw[List.getElem?_append_left (by grind)]
    exact he.2 i q hq
   grind
 | some j=>
  rw[zj] at hf
  have M8:=List.findIdx?_eq_some_iff_findIdx_eq.1 zj
  have hj:j < y.length:=M8.1
  obtain ⟨kc,vc,g1,g2,g3⟩:=he.2 j y[j] (List.getElem?_eq_getElem hj)
  rw[List.getElem?_map] at g1
  have hlen:es.size=y.length:=by have:=he.1;simpa using this
  have kZ:es.toList[j]?=some es[j]:=by simp[hlen,hj]
  rw[kZ] at g1
  simp only[Option.map_some,Option.some.injEq,Prod.mk.injEq] at g1
  simp only[Option.bind_some] at hf ⊢
  rw[kZ] at hf
  simp only[Option.map_some] at hf
  have L1:k.eq x (y[j]).1=true:=by
   grind
  have Of:aY k kc=aY k xc:=by
   have:=E_ k K.eS hx g2 L1
   rw[this]
  have sT:(Instr.keyThatStays (aY k xc) (aY k xc)).run P w=.ok (aY k xc) w:=by
   simp[Instr.keyThatStays,DY K.agg K.eS hx]
  have mm:(es[j]?).map (·.key)=some (aY k xc):=by
   grind
  refine ⟨es.modify j λe=>{ e with key:=aY k xc,val:=aY v GU },clock,?_,?_,λi q hq=>?_⟩
  ·simp[Instr.mapUpdate,run_underlying hu,MapKept.run_getObj_map hb,hc,hf,mm,sT,MapKept.run_setObj_map _ hb,Result.andThen]
  ·simp[hlen]
  ·rw[List.getElem?_set] at hq
   rw[List.getElem?_map,Array.getElem?_toList,Array.getElem?_modify]
   by_cases iB:j=i
   ·grind
   ·rw[if_neg iB] at hq ⊢
    have:=he.2 i q hq
    grind
theorem wr (h:bd P C A σ a w F) (dr:∀ i T,E.TI i=some T->ao P T (.inl i)=true) {t:Nat} {y z u:Operand} (ho:o.op=.mapUpdate t y z u) (hd:o.dst=none) (am:aZ P y=true/\aZ P z=true/\aZ P u=true) {K:St->Option R}
  (hk:vV E σ t (a9 σ y) (a9 σ z) (a9 σ u) K=some x):o.wp P a w (Nx P C K x) Q:=by
 unfold vV at hk
 obtain ⟨T,hT,hk⟩:=bE hk
 have cn:=dr _ _ hT
 split at hk
 ·rename_i k v
  rcases bt h am.1 with hs | ⟨xs,e⟩
  rotate_left
  ·grind
  split at hk
  ·rename_i r p snap hv
   rw[hv] at hs
   split at hk
   ·rename_i fm
    obtain ⟨hr,t',m',H',v',aC,aS,F',h1,iq,h3,h4,h5,h6⟩:=du h hk
    split at h1
    ·rename_i hH
     simp only[Bool.and_eq_true,List.isEmpty_iff] at hH
     obtain ⟨cm,hH⟩:=hH
     subst hH
     obtain ⟨e1,h1⟩:=aP h1
     subst e1
     obtain ⟨pl,g1,g2,g3⟩:=hs.2 fm
     rw[h3] at g1
     injection g1 with g1
     subst g1
     split at h1
     ·rename_i t2 ix t3 uv I4 O4
      have np:aQ P A σ a w (a.eval z) (.val t2 ix) (λ_ _=>0):=by
       grind [bt]
      have M9:aQ P A σ a w (a.eval u) (.val t3 uv) (λ_ _=>0):=by
       grind [bt]
      obtain ⟨e2,h1⟩:=aP h1
      subst e2
      obtain ⟨e3,h1⟩:=aP h1
      subst e3
      obtain ⟨kc,wT,eF⟩:=np
      obtain ⟨uc,M_,Lf⟩:=M9
      obtain ⟨hr,m2,H2,v2,a_,pW,F2,q1,q2,q3,q4,q5,q6⟩:=pV h h1
      obtain ⟨_,e2,e3,e4⟩:=At.inj ⟨iq⟩ q1
      subst e2;subst e3
      have e4:=eq_of_heq e4
      subst e4
      rw[h3] at q2
      injection q2 with q2
      injection q2 with O5 O6 Na Nb
      subst Na;subst Nb
      have cC:=q3
      obtain ⟨f1,f2,b,es,clock,b1,b2,b3,b4⟩:=sa q3
      have b4:=b4 cm
      simp only at g2
      subst b1
      rw[bj (.map t2 t3) _ rfl] at g2
      obtain ⟨vd,p5,r1,r2⟩:=Ct (P:=P) cn eF Lf b2 b3
      generalize rZ:({ w with heap:=w.heap.setIfInBounds b (.map vd p5) }:World)=w2 at r1
      have bO:Ext w w2 (bm b 0 1):=by grind [Cs]
      have tj:∀ b i,F r b i<=1:=λb i=>by have:=h.fA b i;grind [aW]
      have cX:(execOp a.eval o).run P w=.ok .skip w2:=by
       simp[execOp,ho,g2,wT,M_,r1]
      refine yS cX hd ?_
      have hA:∀ b' i,A b' i->∀ u,ce w b' i=some u->ce w2 b' i=some u:=λb' i ha u hu=>by
       refine bO.cell b' i (h.cW b' i (.inr ha)) ?_ u hu
       rcases Nat.eq_zero_or_pos (bm b 0 1 b' i) with h0 | h0
       ·exact h0
       ·have:b'=b/\i=0:=by
         grind [bm]
        obtain ⟨rfl,rfl⟩:=this
        exact absurd ha (h.fW b' 0 (by grind [aW]))
      have tW:ce w2 b 0=some (qn (entriesOf vd)):=by
       grind [Dl]
      have sQ:ae P w2 A (.map t2 t3) m' [] (fI t2 v' ix uv) [.map (some b)] F2:=by
       simp only[ae,hole,List.any_nil,Bool.false_eq_true,if_false,cm,if_true]
       refine ⟨f1,f2,b,entriesOf vd,rfl,tW,b4,r2.1,λi q hq=>?_⟩
       obtain ⟨Nc,Nd,j1,j2,j3⟩:=r2.2 i q hq
       exact ⟨Nc,Nd,j1,Ro.mono hA (λ_ _ h=>h) t2 j2,Ro.mono hA (λ_ _ h=>h) t3 j3⟩
      have zg:∀ b' i,bm b 0 1 b' i<=F2 b' i:=λb' i=>by
       grind [bm]
      have rQ:∀ b' o',aS=some (b',o')->Has w2 b' o' [.map (some b)]:=λb' o' ea j u hu=>by
       have Nf:=(q5 b' o' ea).1 j u hu
       have hj:=(List.getElem?_eq_some_iff.1 hu).1
       have Ng:j=0:=by simpa using hj
       subst Ng
       have Y:=q4 b' (o'+0);have h4:=zg b' (o'+0);have h5:=tj b' (o'+0);have h7:=aW F hr b' (o'+0)
       have h6:dc aS (Ty.map t2 t3).sz b' (o'+0)=1:=by
        grind [dc,bm,Ty.sz]
       exact bO.cell _ _ (h.cW b' (o'+0) (.inl (by grind))) (by omega) u Nf
      obtain ⟨A3,o9,Fr,n1,n2,n3,n4,n5⟩:=q6 w2 A [.map (some b)] F2 (λ_ _=>0) (bO.mono λb' i hz=>by
        grind) (λ_ _ h=>h) (λ_ _ h=>.inl h) (λb i=>by omega) rQ (λ_=>rfl) sQ
      refine ⟨_,n1,A3,_,n5 li (mz (h.dK r)) (rN (h.dK r)) rfl λp' snap hb am hlen=>?_⟩
      have h5:=tT (h.dK r) hb am
      refine ⟨bc p'+1,False,by omega,λ_=>.inl (by omega),λ_=>by omega,?_⟩
      intro q pl hq hp
      grind [ay]
     ·cases h1
    ·cases h1
   ·cases hk
  ·cases hk
 ·cases hk
theorem Av (h:bd P C A σ a w F) (dr:∀ i T,E.TI i=some T->ao P T (.inl i)=true) {t:Nat} {y:Operand} (ho:o.op=.call { callee:=.builtin .len,args:=#[y],argTypes:=#[t] }) (am:aZ P y=true) {K:St->Option R}
  (hk:vW E σ t (a9 σ y) (λn=>K (σ.aB o.dst (.val (.int .i64) (n:Int))))=some x):o.wp P a w (Nx P C K x) Q:=by
 unfold vW at hk
 obtain ⟨T,hT,hk⟩:=bE hk
 have cn:=dr _ _ hT
 split at hk
 ·rename_i k v
  rcases bt h am with hs | ⟨xs,e⟩
  rotate_left
  ·grind
  split at hk
  ·rename_i r p snap hv
   rw[hv] at hs
   split at hk
   ·rename_i fm
    obtain ⟨hr,t',m',H',v',aC,aS,F',h1,iq,h3,h4,h5,h6⟩:=du h hk
    split at h1
    ·rename_i hH
     have hH:=List.isEmpty_iff.1 hH
     subst hH
     obtain ⟨e1,h1⟩:=aP h1
     subst e1
     obtain ⟨pl,g1,g2,g3⟩:=hs.2 fm
     rw[h3] at g1
     injection g1 with g1
     subst g1
     obtain ⟨f1,f2,b,es,clock,q1,q2,q3,q4⟩:=sa h4
     simp only at g2
     subst q1
     rw[bj (.map k v) _ rfl] at g2
     obtain ⟨ki,vi,hu,_,_,_⟩:=wo cn
     have hlen:es.size=List.length v':=by have:=q3.1;simpa using this
     have cX:(execOp a.eval o).run P w=.ok (.value (.int .i64 ((List.length v':Nat):Int))) w:=by
      rw[oA ho]
      simp[Builtin.len_,g2,run_underlying hu,MapKept.run_getObj_map q2,goInt,hlen]
     exact e8 cX (aK h h1 ⟨[.int .i64 _],rfl,rfl⟩ (λ_ _ _ _ e=>by cases e))
    ·cases h1
   ·cases hk
  ·cases hk
 ·cases hk
end
end OT
set_option linter.unusedVariables false
set_option linter.unusedSimpArgs false
namespace OT
open Go
structure iu (P:Program) (E:Env):Prop where
 ti:∀ i T,E.TI i=some T->ao P T (.inl i)=true
 eq:GE P E
 fn:∀ f g,E.G f=some g->Sound P f g/\mp P f g.cap
def Cu (P:Program) (t:TypeId):Bool:=match P.underlying t with
 | some (.slice _)=>true
 | some .string=>true
 | _=>false
theorem ve {P:Program} {t:TypeId} (h:Cu P t=true):(∃ e',P.underlying t=some (.slice e'))\/P.underlying t=some .string:=by
 grind [Cu]
def zk (P:Program) (c:Call):Bool:=match c.callee with
 | .builtin .append | .builtin .copy=>match c.argTypes.toList with
  | [_,tx]=>Cu P tx
  | _=>false
 | _=>true
def gI (P:Program):Op->Bool
 | .move x | .assign x | .nilCheck x | .box _ x | .load _ x | .unOp _ _ x | .convert _ _ x | .fieldAddr _ x _ | .field _ x _=>aZ P x
 | .pick c a b=>aZ P c&&aZ P a&&aZ P b
 | .mapUpdate _ m k v=>aZ P m&&aZ P k&&aZ P v
 | .lookup _ a x _ | .store _ a x | .binOp _ _ a x _ | .indexAddr _ a x | .index _ a x | .makeSlice _ a x=>aZ P a&&aZ P x
 | .build _ ps | .buildSlice _ _ ps=>ps.toList.all λp=>aZ P p.2
 | .slice _ x lo hi _=>aZ P x&&lo.all (aZ P)&&hi.all (aZ P)
 | .makeFunc (.func f) _ cs=>(P.funcs[f]?).any λfn=>fn.nfree == cs.size
 | .call c=>c.args.toList.all (aZ P)&&zk P c
 | _=>true
section
variable {P:Program} {C:Ctx} {A:Cells} {X:FP} {σ:St} {a:Act} {w:World} {F:Nat->FP} {R:Type} {x:R} {Q:Exit->Act->World->Prop} {o:Oper} {E:Env}
theorem mT {α:Type} {l:Array α} {m:List α} (h:l.toList=m):l=m.toArray:=by grind
def ko (E:Env):Op->Bool
 | .move _ | .assign _ | .pick .. | .build .. | .load .. | .nilCheck _ | .binOp .. | .unOp .. | .fieldAddr .. | .field .. | .indexAddr .. | .index .. | .slice .. | .extract .. | .makeFunc ..=>true
 | .convert _ t _=>match E.TI t with
  | some T=>T.flat
  | none=>false
 | .call c=>match c.callee with
  | .builtin .len=>match c.argTypes.toList with
   | [t]=>!Dh (E.TI t)
   | _=>false
  | _=>false
 | _=>false
theorem yb (hE:iu P E) (h:bd P C A σ a w F) {bM i:Nat} (bh:gI P o.op=true) (gO:ko E o.op=true) {K:St->Option R} (hk:gL E bM i o σ K=some x):Tk P o a w (Nx P C K x):=by
 unfold gL at hk
 cases ho:o.op with
 | move y=>rw[ho] at hk bh;exact DA h ho bh hk
 | assign y=>rw[ho] at hk bh;exact Am h ho bh hk
 | pick c y z=>
  grind [gI,DB]
 | build t ps=>rw[ho] at hk bh;exact Ck h hE.ti ho bh hk
 | load t y=>rw[ho] at hk bh;exact B_ h hE.ti ho bh hk
 | nilCheck y=>rw[ho] at hk bh;exact xM h ho bh hk
 | binOp op t y z t2=>
  rw[ho] at hk bh
  simp only[gI,Bool.and_eq_true] at bh
  exact Ch h hE.ti hE.eq ho bh hk
 | unOp op t y=>
  rw[ho] at hk bh
  refine DH h ho bh (K:=K) ?_
  grind
 | convert s t y=>
  rw[ho] at hk bh gO
  refine yZ h hE.ti ho bh (λT hT=>?_) hk
  grind [ko]
 | fieldAddr t y j=>rw[ho] at hk bh;exact wg h hE.ti ho bh hk
 | field t y j=>rw[ho] at hk bh;exact Ce h hE.ti ho bh hk
 | indexAddr t y z=>
  rw[ho] at hk bh
  simp only[gI,Bool.and_eq_true] at bh
  exact wh h hE.ti ho bh hk
 | index t y z=>
  rw[ho] at hk bh
  simp only[gI,Bool.and_eq_true] at bh
  exact Cf h hE.ti ho bh hk
 | slice t y lo hi mx=>
  rw[ho] at hk bh
  cases mx with
  | none=>
   simp only[gI,Bool.and_eq_true] at bh
   refine Cg h hE.ti ho ⟨bh.1.1,λz hz=>?_,λz hz=>?_⟩ hk
   all_goals grind
  | some m=>cases hk
 | extract y j=>
  grind [y5]
 | makeFunc fn first cs=>
  rw[ho] at hk bh
  cases fn with
  | func f=>exact xQ h ho bh hk
  | _=>cases hk
 | call c=>
  rw[ho] at hk bh gO
  simp only[gI,Bool.and_eq_true] at bh
  obtain ⟨eI,hc⟩:=bh
  obtain ⟨callee,args,ts⟩:=c
  cases callee with
  | builtin b=>
   cases b with
   | len=>
    simp only at hk
    split at hk
    ·rename_i y t h1 Y
     have e1:=mT h1;have e2:=mT Y
     subst e1;subst e2
     simp only[List.all_cons,Bool.and_eq_true] at eI
     simp only[ko,Bool.not_eq_true'] at gO
     rw[gO] at hk
     exact E1 h hE.ti ho eI.1 hk
    ·cases hk
   | _=>grind [ko]
  | _=>grind [ko]
 | _=>grind [ko]
def quiet (E:Env):Op->Bool
 | .alloc _ | .box .. | .buildSlice .. | .makeSlice .. | .convert .. | .makeMap .. | .lookup ..=>true
 | .call c=>match c.callee with
  | .value (.func f)=>match E.G f with
   | some g=>lH g.ps
   | none=>false
  | _=>false
 | _=>false
theorem D2 (hE:iu P E) (h:bd P C A σ a w F) {bM i:Nat} (bh:gI P o.op=true) (gO:ko E o.op=false) {K:St->Option R} (hk:gL E bM i o σ K=some x) :
  o.wp P a w (λa' w'=>Nx P C K x a' w'/\(quiet E o.op=true->Ext w w' (λ_ _=>0))) Q:=by
 have wq:∀ {N:Act->World->Prop},o.wp P a w (λa' w'=>N a' w'/\Ext w w' (λ_ _=>0)) Q->o.wp P a w (λa' w'=>N a' w'/\(quiet E o.op=true->Ext w w' (λ_ _=>0))) Q:=λh=>Oper.wp_mono (λa' w' h=>⟨h.1,λ_=>h.2⟩) h
 have wn:∀ {N:Act->World->Prop},quiet E o.op=false->o.wp P a w N Q->o.wp P a w (λa' w'=>N a' w'/\(quiet E o.op=true->Ext w w' (λ_ _=>0))) Q:=λhq h=>Oper.wp_mono (λa' w' h=>⟨h,λe=>by grind⟩) h
 unfold gL at hk
 cases ho:o.op with
 | alloc t=>rw[ho] at hk;rw[<-ho];exact wq (DK h hE.ti ho hk)
 | box t y=>rw[ho] at hk bh;rw[<-ho];exact wq (HJ h ho bh hk)
 | buildSlice t n ps=>rw[ho] at hk bh;rw[<-ho];exact wq (wk h hE.ti ho bh hk)
 | store t y z=>
  rw[ho] at hk bh
  simp only[gI,Bool.and_eq_true] at bh
  rw[<-ho]
  refine wn (by rw[ho];rfl) ?_
  cases hd:o.dst with
  | none=>rw[hd] at hk;exact Cb h hE.ti ho hd bh hk
  | some d=>grind
 | convert s t y=>rw[ho] at hk bh;rw[<-ho];exact wq (Al h hE.ti ho bh hk)
 | makeMap t rv=>
  rw[ho] at hk
  rw[<-ho]
  cases rv with
  | none=>exact wq (As h hE.ti ho hk)
  | some _=>cases hk
 | lookup t y z ok=>
  rw[ho] at hk bh
  simp only[gI,Bool.and_eq_true] at bh
  rw[<-ho]
  exact wq (Au h hE.ti ho bh hk)
 | mapUpdate t y z u=>
  rw[ho] at hk bh
  simp only[gI,Bool.and_eq_true] at bh
  rw[<-ho]
  refine wn (by rw[ho];rfl) ?_
  cases hd:o.dst with
  | none=>rw[hd] at hk;exact wr h hE.ti ho hd ⟨bh.1.1,bh.1.2,bh.2⟩ hk
  | some d=>grind
 | makeSlice t y z=>
  rw[ho] at hk bh
  simp only[gI,Bool.and_eq_true] at bh
  rw[<-ho]
  exact wq (xO h hE.ti ho bh hk)
 | call c=>
  rw[ho] at hk bh gO
  simp only[gI,Bool.and_eq_true] at bh
  obtain ⟨eI,hc⟩:=bh
  obtain ⟨callee,args,ts⟩:=c
  rw[<-ho]
  cases callee with
  | builtin b=>
   cases b with
   | len=>
    simp only at hk
    split at hk
    ·rename_i y t h1 Y
     have e1:=mT h1;have e2:=mT Y
     subst e1;subst e2
     simp only[List.all_cons,Bool.and_eq_true] at eI
     simp only[ko,Bool.not_eq_false'] at gO
     rw[gO] at hk
     exact wn (by rw[ho];rfl) (Av h hE.ti ho eI.1 hk)
    ·cases hk
   | append=>
    simp only at hk
    split at hk
    ·rename_i y z t kx h1 Y
     have e1:=mT h1
     subst e1
     simp only[zk] at hc
     split at hc
     ·rename_i t0 tx h3
      rw[h3] at Y
      injection Y with Y h4
      subst Y
      have e2:=mT h3
      subst e2
      simp only[List.all_cons,Bool.and_eq_true] at eI
      exact wn (by rw[ho];rfl) (step_append h hE.ti ho ⟨eI.1,eI.2.1⟩ (ve hc) hk)
     ·cases hc
    ·cases hk
   | copy=>
    simp only at hk
    split at hk
    ·rename_i y z t kx h1 Y
     have e1:=mT h1
     subst e1
     simp only[zk] at hc
     split at hc
     ·rename_i t0 tx h3
      rw[h3] at Y
      injection Y with Y h4
      subst Y
      have e2:=mT h3
      subst e2
      simp only[List.all_cons,Bool.and_eq_true] at eI
      exact wn (by rw[ho];rfl) (DR h hE.ti ho ⟨eI.1,eI.2.1⟩ (ve hc) hk)
     ·cases hc
    ·cases hk
   | _=>cases hk
  | value y=>
   cases y with
   | func f=>
    simp only at hk
    split at hk
    ·rename_i g hg
     split at hk
     ·rename_i kK
      obtain ⟨h1,Y⟩:=hE.fn f g hg
      rw[kK] at Y
      refine Oper.wp_mono (λa' w' h=>⟨h.1,λe=>h.2 ?_⟩) (Ap h ho eI h1 Y hk)
      grind [quiet]
     ·cases hk
    ·cases hk
   | tmp i=>
    refine wn (by rw[ho];rfl) ?_
    simp only at hk
    split at hk
    ·rename_i f n gP
     split at hk
     ·rename_i g hg
      obtain ⟨h1,Y⟩:=hE.fn f g hg
      refine Oper.wp_mono (λa' w' h=>h.1) (Aq h ho eI gP h1 Y (K:=K) (x:=x) ?_)
      grind
     ·cases hk
    ·cases hk
   | _=>cases hk
  | _=>cases hk
 | _=>grind [ko]
theorem HS (hE:iu P E) (h:bd P C A σ a w F) {bM i:Nat} (bh:gI P o.op=true) {K:St->Option R} (hk:gL E bM i o σ K=some x):o.wp P a w (Nx P C K x) Q:=by
 cases gO:ko E o.op with
 | true=>exact (yb hE h bh gO hk).wp
 | false=>grind [Oper.wp_mono,D2]
end
end OT
set_option linter.unusedVariables false
set_option linter.unusedSimpArgs false
namespace OT
open Go
noncomputable def Cv (e:Ty):Operand->Option e.den
 | .const v=>match iP v with
  | .val t y=>if h:t=e then some (h ▸ y) else none
  | _=>none
 | _=>none
noncomputable def qF (e:Ty):List (Nat×Operand)->Nat->Option (List e.den)
 | [],_=>some []
 | (j,x)::ps,n=>if Nat.beq j n then (match Cv e x,qF e ps (n+1) with
  | some y,some ys=>some (y::ys)
  | _,_=>none) else none
noncomputable def mU (E:Env):Op->Option Slot
 | .alloc t=>match E.TI t with
  | some T=>if T.kQ then some (.box T (aF T) [] T.zero) else none
  | none=>none
 | .buildSlice t n ps=>match E.TI t with
  | some (.af e)=>if Nat.beq n ps.size&&e.kQ&&Nat.ble (n*e.sz) 16777216&&(Nat.beq n 0||decide (ai e=aF e)) then (qF e ps.toList 0).map λvs=>.own (.af e) (.af true (aF e)) [] vs else none
  | _=>none
 | _=>none
section
variable {P:Program} {C:Ctx} {A:Cells} {X:FP} {σ:St} {a:Act} {w:World} {F:Nat->FP} {R:Type} {x:R} {Q:Exit->Act->World->Prop} {o:Oper} {E:Env}
theorem w9 {e:Ty} {y:Operand} {v:e.den} (h:Cv e y=some v):∃ c,y=.const c/\iP c=.val e v:=by
 unfold Cv at h
 split at h
 ·rename_i c
  split at h
  ·rename_i t y he
   split at h
   ·rename_i Nh
    subst Nh
    injection h with h
    exact ⟨c,rfl,by rw[he,<- h]⟩
   ·cases h
  ·cases h
 ·cases h
theorem w_ {e:Ty} {j n:Nat} {y:Operand} {ps:List (Nat×Operand)} {vs:List e.den} (h:qF e ((j,y)::ps) n=some vs):j=n/\∃ v ys,Cv e y=some v/\qF e ps (n+1)=some ys/\vs=v::ys:=by
 simp only[qF] at h
 split at h
 ·rename_i hj
  split at h
  ·rename_i v ys h1 Y
   injection h with h
   exact ⟨Nat.eq_of_beq_eq_true hj,v,ys,h1,Y,h.symm⟩
  ·cases h
 ·cases h
theorem zl {e:Ty} {fz:Nat->Bool} {m:Md} {K:Md->List e.den->St->Option R}:∀ (ps:List (Nat×Operand)) {n:Nat} {vs acc:List e.den},(ps=[]\/ai e=m)->qF e ps n=some vs->rD σ e fz ps n m acc K=K m (acc++vs) σ
 | [],n,vs,acc,_,h=>by
  injection h with h
  rw[<-h,List.append_nil]
  rfl
 | (j,y)::ps,n,vs,acc,hm,h=>by
  obtain ⟨hj,v,ys,h1,Y,rfl⟩:=w_ h
  obtain ⟨c,rfl,hc⟩:=w9 h1
  have hm:ai e=m:=hm.resolve_left (by simp)
  have:=zl (fz:=fz) (m:=m) (K:=K) (acc:=acc++[v]) ps (.inr hm) Y
  simp only[rD]
  rw[hj,Nat.beq_refl,if_pos rfl]
  show dR σ (iP c) _ e _=_
  rw[hc]
  simp only[dR,cy,dite_true]
  rw[if_pos hm,this,List.append_assoc]
  rfl
theorem Bp (h:Rel P C A X σ a w F) {e:Ty}:∀ (ps:List (Nat×Operand)) {n:Nat} {L Z:List Value} {vs:List e.den},L.length=n*e.sz->Z.length=ps.length*e.sz->qF e ps n=some vs ->
  ∃ L':List Value,vs.length=ps.length/\L'.length=ps.length*e.sz/\(∀ (i:Nat) (y:e.den),vs[i]?=some y->Ro P w A e y ((L'.drop (i*e.sz)).take e.sz))/\Instr.fill (λi=>some (i*e.sz,e.sz)) (L++Z).toArray (ps.map λp=>(p.1,a.eval p.2))=some (L++L').toArray
 | [],n,L,Z,vs,hL,hZ,hc=>by
  injection hc with hc
  subst hc
  have:Z=[]:=by simpa using hZ
  subst this
  exact ⟨[],rfl,by simp,λi y hy=>(by cases hy),by simp[Instr.fill]⟩
 | (j,y)::ps,n,L,Z,vs,hL,hZ,hc=>by
  obtain ⟨hj,v,ys,h1,Y,rfl⟩:=w_ hc
  subst hj
  obtain ⟨c,rfl,fl⟩:=w9 h1
  have hs:=bt (P:=P) h (o:=.const c) rfl
  have ho:a9 σ (.const c)=.val e v:=fl
  rw[ho] at hs
  rcases hs with ⟨cs,k1,k2⟩ | ⟨xs,e'⟩
  rotate_left
  ·cases e'
  have pc:=Ro.length _ k2
  have DP:Z.length=e.sz+ps.length*e.sz:=by rw[hZ,List.length_cons,Nat.succ_mul,Nat.add_comm]
  obtain ⟨L',g1,g2,g3,g4⟩:=Bp h ps (n:=j+1) (L:=L++cs) (Z:=Z.drop e.sz) (by rw[List.length_append,hL,pc,Nat.succ_mul]) (by rw[List.length_drop,DP];omega) Y
  refine ⟨cs++L',by simp[g1],by rw[List.length_append,pc,g2,List.length_cons,Nat.succ_mul,Nat.add_comm],λi z hz=>?_,?_⟩
  ·cases i with
   | zero=>
    injection hz with hz
    subst hz
    rw[Nat.zero_mul,List.drop_zero,List.take_append_of_le_length (Nat.le_of_eq pc.symm),List.take_of_length_le (Nat.le_of_eq pc)]
    exact k2
   | succ i=>
    have hz:ys[i]?=some z:=by simpa using hz
    rw[Nat.succ_mul,Nat.add_comm,<- pc,List.drop_length_add_append,pc]
    exact g3 i z hz
  ·rw[List.map_cons,k1,pa (pl:=λi=>some (i*e.sz,e.sz)) rfl pc (cV pc (Ro.one _ k2)) (by simp[hL,DP])]
   have e1:(L++Z).take (j*e.sz)=L:=by rw[<-hL,List.take_left]
   have e2:(L++Z).drop (j*e.sz+e.sz)=Z.drop e.sz:=by rw[<-hL,List.drop_length_add_append]
   rw[e1,e2,g4,List.append_assoc]
theorem Fc {s:Slot} (hs:mU E o.op=some s) {bM i:Nat} {K:St->Option R}:gL E bM i o σ K=K (σ.aB o.dst s):=by
 unfold mU at hs
 split at hs
 ·grind [gL,fU]
 ·rename_i t n ps ho
  unfold gL
  simp only[ho]
  split at hs
  ·rename_i e hT
   simp only[fU,hT]
   split at hs
   ·rename_i hc
    simp only[Bool.and_eq_true,Bool.or_eq_true,decide_eq_true_eq] at hc
    obtain ⟨⟨⟨h1,Y⟩,h3⟩,h4⟩:=hc
    rw[h1,Y,h3]
    obtain ⟨vs,hv,hs⟩:=Option.map_eq_some_iff.1 hs
    have:=zl (σ:=σ) (fz:=BO E.fz bM i) (m:=aF e) (K:=λm v σ=>K (σ.aB o.dst (.own (.af e) (.af true m) [] v))) (acc:=[]) ps.toList (h4.imp (λh=>by
     have h0:=Nat.eq_of_beq_eq_true h
     have h5:=Nat.eq_of_beq_eq_true h1
     exact List.eq_nil_of_length_eq_zero (by rw[Array.length_toList];omega)) id) hv
    simp only[Bool.and_self,if_true]
    rw[this,<- hs]
    rfl
   ·cases hs
  ·cases hs
 ·cases hs
theorem D3 {N:Act->World->Prop} (hh:o.wp P a w N Q):o.wp P a w (λa' w'=>(∀ d,o.dst≠some d->tmp a' d=tmp a d)/\N a' w') Q:=by
 have key:∀ (a0:Act) v,a0.tmps=a.tmps->∀ d,o.dst≠some d->tmp (a0.put o.dst v) d=tmp a d:=λa0 v h0 d hd=>by
  unfold tmp Act.put
  cases ho:o.dst <;> simp_all
 unfold Oper.wp at *
 generalize (execOp a.eval o).run P w=r at *
 simp_all [Oper.upon]
theorem xd {d:Nat} (h:vY σ d=true):d < σ.n/\σ.get d=.dead/\(∀ k,(d,k,false) ∉ σ.ax)/\∀ r p snap,(d,r,p,snap) ∉ σ.gh:=by
 unfold vY at h
 simp only[Bool.and_eq_true,Bool.not_eq_true',Nat.blt_eq] at h
 obtain ⟨⟨⟨h1,Y⟩,h3⟩,h4⟩:=h
 refine ⟨h1,?_,λk hm=>?_,λr p snap hm=>?_⟩
 ·grind
 ·revert h3 hm
  generalize σ.ax=l
  induction l with
  | nil=>grind
  | cons e l ih=>
   obtain ⟨k1,n1,b1⟩:=e
   simp_all [qh]
 ·rw[List.any_eq_false] at h4
  exact h4 _ hm (by simp)
theorem Rel.tmp (h:Rel P C A X σ a w F) {d:Nat} (hp:vY σ d=true) (v:Value):Rel P C A X σ (a.put (some d) v) w F:=by
 obtain ⟨hd,hg,hl,Gs⟩:=xd hp
 have eN:=h.size
 have ht:∀ i,i≠d->OT.tmp (a.put (some d) v) i=OT.tmp a i:=λi hi=>by
  grind [eZ]
 have cI:∀ r p,place σ (a.put (some d) v) w r p=place σ a w r p:=λr p=>by
  unfold place
  by_cases hr:r=d
  ·subst hr;rw[hg];rfl
  ·rw[ht r hr]
 have eH:mg σ a w σ (a.put (some d) v) w:=λr p snap hb=>⟨hb,λam=>⟨am,λ_ pl hp=>⟨pl.H,pl.cs,by simp_all,λ_=>rfl⟩⟩⟩
 refine { h with size:=by simp[Act.put,eN],defers:=by simpa [Act.put] using h.defers,bX:=λi hi=>?_,gh:=λd' r p snap hm=>?_,fe:=λj k hm=>?_,whole:=λr t m H v' hr hk=>?_,eB:=λj k hm R hR=>?_ }
 ·by_cases ir:i=d
  ·subst ir;rw[hg];trivial
  ·rw[ht i ir]
   exact aQ.ed eH (λ_ _ h=>h) (λ_ _ _ _ h=>h) (λ_ _ h=>h) (λ_ _ _=>⟨λ_ h=>h,rfl⟩) (h.bX i hi)
 ·rw[ht d' (λe=>by grind)]
  exact gF.ed eH (h.gh d' r p snap hm)
 ·rw[ht j (λe=>by grind)]
  exact h.fe j k hm
 ·rw[ht r (λe=>by grind)]
  exact h.whole r t m H v' hr hk
 ·have:j≠d:=λe=>by subst e;rw[hg] at hR;cases hR
  rw[ht j this] at hR
  exact h.eB j k hm R hR
def PS (P:Program) (A:Cells) (w:World) (tv:Value):Slot->FP->Prop
 | .own t m H v,F=>∃ cs,tv=aY t cs/\ae P w A t m H v cs F
 | .box t m H v,F=>∃ b L F1,tv=.pointer (some ⟨b,0,none⟩)/\L.length=t.sz/\Has w b 0 L/\(∀ j,j < t.sz->w.frozen? ⟨b,j,none⟩=false) /\
   (∀ x i,bm b 0 t.sz x i+F1 x i<=F x i)/\ae P w A t m H v L F1/\cf w b (t.sz,false)
 | _,_=>False
theorem PS.slot {tv:Value} {s:Slot} {G:FP} (h:PS P A w tv s G):aQ P A σ a w tv s G:=by
 cases s with
 | own t m H v=>exact h
 | box t m H v=>
  obtain ⟨b,L,F1,h1,Y,h3,h4,h5,h6,h7⟩:=h
  exact ⟨b,0,L,F1,h1,Y,h3,λj hj=>by grind,h5,h6⟩
 | _=>exact h.elim
theorem PS.whole {tv:Value} {s:Slot} {G:FP} (h:PS P A w tv s G):∀ t m H v',s=.box t m H v'->∃ b,tv=.pointer (some ⟨b,0,none⟩)/\cf w b (t.sz,false):=by
 rintro t m H v rfl
 obtain ⟨b,L,F1,h1,Y,h3,h4,h5,h6,h7⟩:=h
 grind
theorem PS.ed {A':Cells} {w':World} {tv:Value} {s:Slot} {G:FP} (hA:∀ b i,A b i->A' b i) (hc:∀ b i,A b i->∀ u,ce w b i=some u->ce w' b i=some u) (hb:∀ b n,cf w b n->cf w' b n)
  (hF:∀ b i,1<=G b i->(∀ u,ce w b i=some u->ce w' b i=some u)/\w'.frozen? ⟨b,i,none⟩=w.frozen? ⟨b,i,none⟩) (h:PS P A w tv s G):PS P A' w' tv s G:=by
 cases s with
 | own t m H v=>obtain ⟨cs,h1,Y⟩:=h;exact ⟨cs,h1,ae.mono hA hc hb t Y (λ_ _=>Nat.le_refl _) (λb i hp=>(hF b i hp).1)⟩
 | box t m H v=>
  obtain ⟨b,L,F1,h1,Y,h3,h4,h5,h6,h7⟩:=h
  have hr:∀ j,j < t.sz->1<=G b j:=λj hj=>by
   grind [bm]
  exact ⟨b,L,F1,h1,Y,λj u hu=>(hF _ _ (by grind)).1 u (h3 j u hu),λj hj=>by grind,h5,
   ae.mono hA hc hb t h6 (λ_ _=>Nat.le_refl _) (λb i hp=>(hF b i (by grind)).1),hb _ _ h7⟩
 | _=>exact h.elim
def PF (P:Program) (E:Env) (ops:Array Oper) (A:Cells) (a:Act) (w:World):List Nat->FP->Prop
 | [],_=>True
 | j::D,X=>∃ (o:Oper) (d:Nat) (s:Slot) (Fj X':FP),ops[j]?=some o/\o.dst=some d/\mU E o.op=some s/\PS P A w (tmp a d) s Fj/\(∀ b i,X' b i+Fj b i<=X b i)/\PF P E ops A a w D X'
theorem PF.ed {ops:Array Oper} {A':Cells} {a':Act} {w':World} (hA:∀ b i,A b i->A' b i) (hc:∀ b i,A b i->∀ u,ce w b i=some u->ce w' b i=some u) (hb:∀ b n,cf w b n->cf w' b n) :
  ∀ (D:List Nat) {X:FP},(∀ j ∈ D,∀ o d,ops[j]?=some o->o.dst=some d->tmp a' d=tmp a d)->(∀ b i,1<=X b i->(∀ u,ce w b i=some u->ce w' b i=some u)/\w'.frozen? ⟨b,i,none⟩=w.frozen? ⟨b,i,none⟩) ->
   PF P E ops A a w D X->PF P E ops A' a' w' D X
 | [],_,_,_,_=>trivial
 | j::D,X,ht,hF,h=>by
  obtain ⟨o,d,s,Fj,X',h1,Y,h3,h4,h5,h6⟩:=h
  exact ⟨o,d,s,Fj,X',h1,Y,h3,by
   rw[ht j (by simp) o d h1 Y]
   exact PS.ed hA hc hb (λb i hp=>hF b i (by have:=h5 b i;omega)) h4,h5,PF.ed hA hc hb D (λk hk=>ht k (by simp[hk])) (λb i hp=>hF b i (by have:=h5 b i;omega)) h6⟩
theorem PF.grow {ops:Array Oper}:∀ (D:List Nat) {X X1:FP},(∀ b i,X b i<=X1 b i)->PF P E ops A a w D X->PF P E ops A a w D X1
 | [],_,_,_,_=>trivial
 | j::D,X,X1,hx,h=>by
  obtain ⟨o,d,s,Fj,X',h1,Y,h3,h4,h5,h6⟩:=h
  exact ⟨o,d,s,Fj,X',h1,Y,h3,h4,λb i=>Nat.le_trans (h5 b i) (hx b i),h6⟩
theorem PF.take {ops:Array Oper} {j:Nat}:∀ (D:List Nat) {X:FP},j ∈ D->PF P E ops A a w D X ->
  ∃ (o:Oper) (d:Nat) (s:Slot) (Fj X':FP),ops[j]?=some o/\o.dst=some d/\mU E o.op=some s/\PS P A w (tmp a d) s Fj/\(∀ b i,X' b i+Fj b i<=X b i)/\PF P E ops A a w (D.erase j) X'
 | [],_,hj,_=>by cases hj
 | k::D,X,hj,h=>by
  by_cases pi:k=j
  ·subst pi
   rw[List.erase_cons_head]
   exact h
  ·have ol:j ∈ D:=by
    rcases List.mem_cons.1 hj with e | e
    ·exact absurd e.symm pi
    ·exact e
   obtain ⟨o,d,s,Fk,X1,h1,Y,h3,h4,h5,h6⟩:=h
   obtain ⟨o',d',s',Fj,X2,g1,g2,g3,g4,g5,g6⟩:=PF.take D ol h6
   rw[List.erase_cons_tail (by simpa using pi)]
   exact ⟨o',d',s',Fj,λb i=>X2 b i+Fk b i,g1,g2,g3,g4,λb i=>by have:=g5 b i;have:=h5 b i;show X2 b i+Fk b i+Fj b i<=X b i;omega,o,d,s,Fk,X2,h1,Y,h3,h4,λb i=>Nat.le_refl _,g6⟩
theorem Fe (h:Rel P C A X σ a w F) (dr:∀ i T,E.TI i=some T->ao P T (.inl i)=true) {s:Slot} (hs:mU E o.op=some s) {d:Nat} (hp:vY σ d=true) :
  ∃ (v:Value) (w':World) (Fj:FP),(execOp a.eval o).run P w=.ok (.value v) w'/\Ext w w' (λ_ _=>0)/\Rel P C A (λb i=>X b i+Fj b i) σ (a.put (some d) v) w' F/\PS P A w' v s Fj:=by
 unfold mU at hs
 split at hs
 ·rename_i t ho
  split at hs
  ·rename_i T hT
   split at hs
   ·rename_i DL
    injection hs with hs
    subst hs
    have cn:=dr _ _ hT
    obtain ⟨L,hL⟩:=jE T DL
    obtain ⟨z,GF,IU⟩:=ng (P:=P) (w:=w) cn hL
    obtain ⟨r1,r2,r3⟩:=o8 (P:=P) (w:=w) (A:=A) T hL cn
    have hc:z.cells=L.toArray:=by grind
    have h1:=h.alloc L.toArray t (0,0)
    have cm:=o_ w L.toArray t (0,0) false (.inr (Nat.le_refl _))
    have Lg:L.length=T.sz:=ae.length T r1
    simp only[List.size_toArray,Lg] at cm h1
    have nm:=ae.alloc h r1 (λb i hp=>by simp at hp) (e9 w (.cells L.toArray t))
    refine ⟨.pointer (some ⟨w.heap.size,0,none⟩),w.alloc (.cells L.toArray t),bm w.heap.size 0 T.sz,?_,e9 w _,h1.tmp hp _,w.heap.size,L,(λ_ _=>0),rfl,Lg,mP w L.toArray t (0,0) (λj u hu=>by simpa using hu) (ae.one _ r1),λj hj=>cm.frozen hj,λ_ _=>Nat.le_refl _,nm,cm⟩
    simp_all [execOp,Instr.alloc,newVar,newRow]
   ·cases hs
  ·cases hs
 ·rename_i t n ps ho
  split at hs
  ·rename_i e hT
   split at hs
   ·rename_i hc
    obtain ⟨vs,hv,hs⟩:=Option.map_eq_some_iff.1 hs
    subst hs
    simp only[Bool.and_eq_true,Bool.or_eq_true,decide_eq_true_eq,Nat.beq_eq,Nat.ble_eq] at hc
    obtain ⟨⟨⟨hn,hz⟩,kK⟩,h4⟩:=hc
    have hl:=dr _ _ hT
    simp only[ao,Bool.and_eq_true] at hl
    have Y:=hl.2
    split at Y
    ·rename_i el hu
     simp only[Bool.and_eq_true,Nat.ble_eq] at Y
     obtain ⟨eN,jl⟩:=Y
     obtain ⟨Lz,DQ⟩:=jE e hz
     obtain ⟨r1,r2,r3⟩:=o8 (P:=P) (w:=w) (A:=A) _ DQ jl
     obtain ⟨inf,i1,i2,i3,i4⟩:=de (ei jl)
     obtain ⟨z,z1,z2⟩:=i4 Lz DQ
     have MS:z.cells.size=e.sz:=by grind
     have rr:ps.toList.length=n:=by simpa using hn.symm
     obtain ⟨L',g1,g2,g3,g4⟩:=Bp h ps.toList (n:=0) (L:=[]) (Z:=((Array.range (n*e.sz)).map (z.cells[· % z.cells.size]!)).toList) (by simp) (by simp[hn]) hv
     simp only[List.nil_append,Array.toArray_toList] at g4
     rw[rr] at g1 g2
     have cX:(execOp a.eval o).run P w=.ok (.value (.slice (some ⟨w.heap.size,0,none⟩) n n)) (w.alloc (.cells L'.toArray el)):=by
      by_cases tm:n*e.sz=0
      ·have:n=0:=by rcases Nat.mul_eq_zero.1 tm with h | h <;> omega
       subst this
       have lD:ps=#[]:=by grind
       subst lD
       have A6:L'=[]:=by simpa using g2
       subst A6
       simp[execOp,ho,Instr.buildSlice,run_underlying hu,Go.sizeOf,typeInfo,i1,Instr.fill,newRow,show Array.range 0=#[] from rfl]
      simp_all [run_buildSlice,execOp]
     have rR:=h.alloc L'.toArray el (0,0)
     have cm:=o_ w L'.toArray el (0,0) (v9 e) (.inr (Nat.le_refl _))
     have Ni:L'.toArray.size=n*e.sz:=by simpa using g2
     rw[Ni] at cm rR
     have Ff:n<=maxLen:=by simp only[maxLen];have:=Nat.le_mul_of_pos_right n eN;omega
     refine ⟨_,_,λb i=>bm w.heap.size 0 (n*e.sz) b i+al n (λ_ _ _=>0) b i,cX,e9 w _,?_,?_⟩
     ·refine (rR.less (λb i=>?_)).tmp hp _
      simp[d9]
     ·refine ⟨_,(bj (.af e) _ rfl).symm,?_⟩
      simp only[ae,hole,List.any_nil,Bool.false_eq_true,if_false,Md.own,if_true,Md.e]
      refine ⟨_,n,by rw[g1],by rw[g1];exact Nat.le_refl _,Ff,(λe=>by cases e),λad cR=>?_⟩
      injection cR with cR;subst cR
      refine ⟨rfl,rfl,cm,λ_ _ _=>0,λb i=>by rw[g1];exact Nat.le_refl _,λi y hy=>?_⟩
      have hi:=(List.getElem?_eq_some_iff.1 hy).1
      have im:=g3 i y hy
      have hm:ai e=aF e:=h4.resolve_left (by omega)
      refine ⟨_,Ro.length _ im,mP w L'.toArray el (0,0) (λj u hu=>?_) (Ro.one _ im),?_⟩
      ·grind
      ·simp only[List.filterMap_nil]
       exact ae.alloc h (Ro.rep e (λ_ _=>0) (by rw[<-hm];exact bI _) im) (λb k hp=>by simp at hp) (e9 w _)
    ·cases Y
   ·cases hs
  ·cases hs
 ·cases hs
theorem Rel.HT (h:Rel P C A X σ a w F):∃ C':Ctx,C'.w0=w/\C'.A0=A/\(∀ b i,A b i->C'.F0 b i=0)/\Rel P C' A X σ a w F/\(∀ {A2:Cells} {X2:FP} {dU:St} {a2:Act} {w2:World} {F2:Nat->FP},Rel P C' A2 X2 dU a2 w2 F2->Rel P C A2 X2 dU a2 w2 F2):=by
 refine ⟨⟨w,A,λb i=>X b i+al σ.n F b i,C.args⟩,rfl,rfl,λb i ha=>?_,?_,λ{A2 X2 dU a2 w2 F2} Y=>?_⟩
 ·show X b i+al σ.n F b i=0
  rcases Nat.eq_zero_or_pos (X b i+al σ.n F b i) with h0 | h0
  ·exact h0
  ·exact absurd ha (h.fW b i h0)
 ·exact { h with ext:=Ext.refl _ _,own:=λb i hp=>.inl hp,a0:=λ_ _ h=>h,J:=λ_ _ h=>.inl h,fe:=h.fe,eB:=h.eB,lu:=h.qv λb i hp=>hp }
 ·have eN:C.w0.heap.size<=w.heap.size:=h.ext.size
  refine { Y with ext:=h.ext.trans Y.ext (λb i hb hz=>?_),own:=λb i hp=>?_,a0:=λb i ha=>Y.a0 b i (h.a0 b i ha),J:=λb i ha=>?_,fe:=Y.fe,eB:=Y.eB,lu:=h.lu }
  ·show X b i+al σ.n F b i=0
   rcases Nat.eq_zero_or_pos (X b i+al σ.n F b i) with h0 | h0
   ·exact h0
   ·rcases h.own b i h0 with h1 | h1 <;> omega
  ·rcases Y.own b i hp with h1 | h1
   ·exact h.own b i h1
   grind
  ·rcases Y.J b i ha with h1 | h1 | h1
   ·exact h.J b i h1
   ·exact .inr (h.own b i h1)
   grind
theorem Rel.frame (h:Rel P C A X σ a w F):∃ C1:Ctx,bd P C1 A σ a w F/\∀ {A2:Cells} {dU:St} {a2:Act} {w2:World} {F2:Nat->FP},bd P C1 A2 dU a2 w2 F2->Rel P C A2 X dU a2 w2 F2 /\
  (∀ b i,A b i->A2 b i)/\(∀ b i,A b i->∀ u,ce w b i=some u->ce w2 b i=some u)/\(∀ b n,cf w b n->cf w2 b n)/\(∀ b i,1<=X b i->(∀ u,ce w b i=some u->ce w2 b i=some u)/\w2.frozen? ⟨b,i,none⟩=w.frozen? ⟨b,i,none⟩):=by
 have Nj:∀ b i,1<=X b i->al σ.n F b i=0:=λb i hp=>by have:=h.fA b i;omega
 have I5:∀ b i,1<=X b i->b < w.heap.size:=λb i hp=>h.cW b i (.inl (by omega))
 refine ⟨⟨w,A,al σ.n F,C.args⟩,?_,λ{A2 dU a2 w2 F2} Y=>⟨?_,Y.a0,λb i ha u hu=>?_,Y.ext.l_,λb i hp=>⟨λu hu=>Y.ext.cell b i (I5 b i hp) (Nj b i hp) u hu,Y.ext.ne b i (I5 b i hp)⟩⟩⟩
 ·exact { h with
   fA:=λb i=>by have:=h.fA b i;grind
   fW:=λb i hp=>h.fW b i (by grind)
   cW:=λb i hp=>h.cW b i (hp.imp (λhp=>by grind) id)
   ext:=Ext.refl _ _
   own:=λb i hp=>.inl (by grind)
   a0:=λ_ _ h=>h,J:=λ_ _ h=>.inl h,fe:=h.fe,eB:=h.eB,lu:=h.qv λb i hp=>by grind }
 ·have eN:C.w0.heap.size<=w.heap.size:=h.ext.size
  have g0:∀ b i,1<=X b i->al dU.n F2 b i=0:=λb i hp=>by
   rcases Nat.eq_zero_or_pos (al dU.n F2 b i) with h0 | h0
   ·exact h0
   ·rcases Y.own b i (by grind) with h1 | h1
    all_goals grind
  have cm:∀ b i,1<=al σ.n F b i->1<=C.F0 b i\/C.w0.heap.size<=b:=λb i hp=>h.own b i (by omega)
  refine { Y with fA:=λb i=>?_,fW:=λb i hp=>?_,cW:=λb i hp=>?_,ext:=h.ext.trans Y.ext (λb i hb hz=>?_),own:=λb i hp=>?_,a0:=λb i ha=>Y.a0 b i (h.a0 b i ha),J:=λb i ha=>?_,fe:=Y.fe,eB:=Y.eB,lu:=h.lu }
  ·have h1:0+al dU.n F2 b i<=1:=Y.fA b i
   have:=g0 b i
   have:=h.fA b i
   omega
  ·by_cases hx:1<=X b i
   ·intro ha
    rcases Y.J b i ha with h1 | h1 | h1
    ·exact h.fW b i (by omega) h1
    all_goals grind
   ·exact Y.fW b i (by grind)
  ·by_cases hx:1<=X b i
   ·exact Nat.lt_of_lt_of_le (I5 b i hx) Y.ext.size
   ·exact Y.cW b i (hp.imp (λhp=>by grind) id)
  ·grind
  ·by_cases hx:1<=X b i
   ·exact h.own b i (by omega)
   ·rcases Y.own b i (by grind) with h1 | h1
    all_goals grind
  ·rcases Y.J b i ha with h1 | h1 | h1
   ·exact h.J b i h1
   all_goals grind
 ·refine Y.ext.cell b i (kC hu) ?_ u hu
  show al σ.n F b i=0
  rcases Nat.eq_zero_or_pos (al σ.n F b i) with h0 | h0
  ·exact h0
  ·exact absurd ha (h.fW b i (by omega))
end
end OT
set_option linter.unusedVariables false
set_option linter.unusedSimpArgs false
namespace OT
open Go
section
variable {P:Program} {C:Ctx} {A:Cells} {X:FP} {σ:St} {a:Act} {w:World} {F:Nat->FP} {R:Type} {x:R} {Q:Exit->Act->World->Prop} {o:Oper} {E:Env}
theorem Rel.congr (h:Rel P C A X σ a w F) {σ':St} (hn:σ'.n=σ.n) (hg:∀ i,σ'.get i=σ.get i) (hv:∀ i,σ'.da i=σ.da i) (hl:∀ e,e ∈ σ'.ax↔e ∈ σ.ax) (Gs:∀ e,e ∈ σ'.gh->e ∈ σ.gh):Rel P C A X σ' a w F:=by
 have eH:mg σ a w σ' a w:=λr p snap hb=>⟨by rw[hv];exact hb,λam=>by
  unfold St.ok at am ⊢
  rw[hv] at am
  exact ⟨am,λ_ pl cI=>⟨pl.H,pl.cs,by unfold place at cI ⊢;rw[hg];exact cI,λ_=>rfl⟩⟩⟩
 refine ⟨by rw[hn];exact h.size,h.defers,λi hi=>?_,λd r p snap hm=>gF.ed eH (h.gh d r p snap (Gs _ hm)),λb i=>by rw[hn];exact h.fA b i,λb i hp=>by rw[hn] at hp;exact h.fW b i hp,λb i hp=>by rw[hn] at hp;exact h.cW b i hp,
  λi=>by rw[hv];exact h.dK i,h.ext,λb i hp=>by rw[hn] at hp;exact h.own b i hp,h.a0,h.J,λj k hm=>h.fe j k ((hl _).1 hm),λr t m H v hr hk=>?_,λj k hm R hR=>?_,h.lu⟩
 ·rw[hg]
  exact aQ.ed eH (λ_ _ h=>h) (λ_ _ _ _ h=>h) (λ_ _ h=>h) (λ_ _ _=>⟨λ_ h=>h,rfl⟩) (h.bX i (by rw[<-hn];exact hi))
 ·rw[hg] at hr
  exact h.whole r t m H v hr λk hm=>hk k ((hl _).2 hm)
 ·rw[hg] at hR
  exact h.eB j k ((hl _).1 hm) R hR
theorem Rel.same (h:Rel P C A X σ a w F) {t:Nat} {s:Slot} (hs:σ.get t=s):Rel P C A X (σ.wF t s) a w F:=
 h.congr rfl (λi=>by
  rw[sP]
  split
  ·rename_i hc;rw[<-hs,hc.1]
  ·rfl) (λi=>rfl) (λe=>Iff.rfl) (λe he=>he)
theorem zm (h:Rel P C A X σ a w F) {ops:Array Oper} {o:Oper} {K:Bool->St->Option R} (hk:rE ops.toList σ o.guard K=some x):∃ (b:Bool) (σ':St),K b σ'=some x/\Rel P C A X σ' a w F/\Region.wanted o (yielded ops a.tmps)=b:=by
 unfold rE at hk
 split at hk
 ·rename_i hg;exact ⟨true,σ,hk,h,by simp[Region.wanted,hg]⟩
 ·rename_i j want hg
  split at hk
  ·cases hk
  ·rename_i t ht
   rw[Array.getElem?_toList] at ht
   have hy:∀ v,tmp a t=v->t < σ.n->yielded ops a.tmps j=match v with | .bool b=>some b | _=>none:=λv hv pX=>by
    have aH:t < a.tmps.size:=by rw[h.size];exact pX
    unfold yielded
    rw[ht]
    have:a.tmps[t]?=some v:=by rw[Array.getElem?_eq_getElem aH,<- hv];simp[tmp,aH]
    simp only[Option.bind_some,this]
    cases v <;> rfl
   have aH:∀ s,σ.get t=s->s≠.dead->t < σ.n:=λs hs bG=>by
    rcases Nat.lt_or_ge t σ.n with hi | hi
    ·exact hi
    ·rw[dN (Nat.not_lt.2 hi)] at hs;exact absurd hs.symm bG
   split at hk
   ·rename_i b zn
    have pX:=aH _ zn (by intro e;cases e)
    have hs:=h.bX t pX
    rw[zn] at hs
    have hv:=yV hs
    have Bq:=hy _ hv pX
    simp only at Bq
    cases b with
    | true=>exact ⟨_,_,hk,Rel.same h zn,by simp only[Region.wanted,hg,Bq];cases want <;> rfl⟩
    | false=>exact ⟨_,_,hk,Rel.same h zn,by simp only[Region.wanted,hg,Bq];cases want <;> rfl⟩
   ·rename_i zn
    have pX:=aH _ zn (by intro e;cases e)
    have hs:=h.bX t pX
    rw[zn] at hs
    obtain ⟨vs,Fi,h1,_⟩:=hs
    have Bq:=hy _ h1 pX
    simp only at Bq
    exact ⟨false,σ,hk,h,by simp only[Region.wanted,hg,Bq];cases want <;> rfl⟩
   ·cases hk
theorem wt (h:Rel P C A X σ a w F) (o:Oper):∃ F',Rel P C A X (σ.aB o.dst (.gN [])) (a.put o.dst undef) w F':=
 h.aB o.dst (s:=.gN []) (v:=undef) (Fd:=λ_ _=>0) (X':=X) ⟨#[],λ_ _ _=>0,rfl,λb i=>by simp[al],λj y hy=>by cases hy⟩ (λb i=>Nat.le_refl _) (λ_ _ _ _ e=>by cases e)
theorem I6 (hE:iu P E) {bM:Nat} {ops:Array Oper} (bh:∀ o ∈ ops.toList,gI P o.op=true) {K:St->Option R} (hQ:∀ a w,Nx P C K x a w->Q .normal a w) :
  ∀ (rest:List Oper) (i:Nat) {σ:St} {A:Cells} {a:Act} {w:World} {F:Nat->FP},ops.toList.drop i=rest->bd P C A σ a w F->vX E bM ops.toList rest i σ K=some x->wpOps P ops Q (List.range' i rest.length) a w:=by
 intro rest
 induction rest with
 | nil=>intro i σ A a w F hd h hk;exact hQ a w ⟨σ,hk,A,F,h⟩
 | cons o rest ih=>
  intro i σ A a w F hd h hk
  have hi:ops[i]?=some o:=by
   have:(ops.toList.drop i)[0]?=some o:=by rw[hd];rfl
   rw[List.getElem?_drop] at this
   simpa using this
  have iD:ops.toList.drop (i+1)=rest:=by rw[<-List.drop_drop,hd];rfl
  have sb:o ∈ ops.toList:=List.mem_of_getElem? (i:=i) (by simpa using hi)
  simp only[vX] at hk
  obtain ⟨b,fi,hk,h1,hw⟩:=zm h hk
  show wpOps P ops Q (i::List.range' (i+1) rest.length) a w
  simp only[wpOps,hi,hw]
  cases b with
  | true=>
   simp only[if_true]
   refine .inl (Oper.wp_mono (λa' w' hn=>?_) (HS hE h1 (bh o sb) hk))
   obtain ⟨dU,eF,A2,F2,Y⟩:=hn
   exact ih (i+1) iD Y eF
  | false=>
   simp only[Bool.false_eq_true,if_false]
   obtain ⟨F2,Y⟩:=wt h1 o
   exact ih (i+1) iD Y hk
theorem D4 (hE:iu P E) {bM id:Nat} {ops:Array Oper} (bh:∀ o ∈ ops.toList,gI P o.op=true) (h:bd P C A σ a w F) {K:St->Option R} (hk:vX E bM ops.toList ops.toList 0 σ K=some x) (hQ:∀ a w,Nx P C K x a w->Q .normal a w) :
  (Code.region id ops false).wp P Q a w:=by
 refine wp_region ?_
 have:=I6 hE bh hQ ops.toList 0 (by simp) h hk
 simpa [List.range_eq_range'] using this
def jH (P:Program) (md:Region.Mode) (ops:Array Oper) (Q:Exit->Act->World->Prop) (S:Array Bool->World->Prop):Nat->Array Bool->Act->World->Prop
 | 0,dj,a,w=>Region.ready md ops dj=[]/\Q .normal a w
 | fuel+1,dj,a,w=>
  (Region.ready md ops dj=[]->Q .normal a w) /\
  ∀ i ∈ Region.ready md ops dj,wpOp P ops Q i (λa' w'=>S (dj.setIfInBounds i true) w'/\jH P md ops Q S fuel (dj.setIfInBounds i true) a' w') a w
theorem vf {md:Region.Mode} {ops:Array Oper} {S:Array Bool->World->Prop}:∀ (fuel:Nat) (dj:Array Bool) (a:Act) (w:World),jH P md ops Q S fuel dj a w->wpAny P md ops Q fuel dj a w
 | 0,_,_,_,h=>h
 | fuel+1,_,_,_,h=>⟨h.1,λi hi=>wpOp_mono (λa' w' h'=>vf fuel _ a' w' h'.2) (h.2 i hi)⟩
def p6 (md:Region.Mode) (ops:Array Oper) (l:Array Bool):Prop:=∀ j o,ops[j]?=some o->l.getD j false=true->∀ e ∈ o.after,Region.binds md e=true->l.getD e.on false=true
theorem qG {md:Region.Mode} {ops:Array Oper} {l:Array Bool} (h:p6 md ops l) {j:Nat} (hj:j ∈ Region.ready md ops l):p6 md ops (l.setIfInBounds j true):=by
 obtain ⟨_,oj,vg,iV⟩:=mem_ready.1 hj
 intro k o hk hl e he hb
 by_cases pi:j=k
 ·subst pi
  rw[vg] at hk
  injection hk with hk
  subst hk
  exact getD_set_true (iV e he hb)
 ·rw[getD_set_ne false pi] at hl
  exact getD_set_true (h k o hk hl e he hb)
def SU (md:Region.Mode) (ops:Array Oper) (S:Array Bool->World->Prop) (i:Nat):World->Prop:=λw'=>∃ l,p6 md ops l/\l.getD i true=false/\S l w'
theorem lI {md:Region.Mode} {ops:Array Oper} {S:Array Bool->World->Prop} {i:Nat} {oi:Oper} {v:Value} (hi:ops[i]?=some oi) (qH:∀ (j:Nat) (o:Oper) cs b,ops[j]?=some o->o.op≠.select cs b)
  (hQ:∀ c a w,Q (.panic c) (a.put oi.dst v) w->Q (.panic c) a w) (hS:∀ l w,S (l.setIfInBounds i true) w↔S l w) :
  ∀ (fuel:Nat) (dj:Array Bool) (a:Act) (w:World),
   (∀ j oj,ops[j]?=some oj->j≠i->dj.getD j true=false->(∀ e ∈ oj.after,Region.binds md e=true->e.on≠i)->oi.apart ops oj=true) ->
   i ∈ Region.ready md ops dj->p6 md ops dj->YieldsIf P ops (SU md ops S i) oi v a->S dj w ->
   jH P md ops Q S fuel (dj.setIfInBounds i true) (a.put oi.dst v) w->jH P md ops Q S (fuel+1) dj a w:=by
 intro fuel
 induction fuel with
 | zero=>
  intro dj a w _ hr hc hy hs H
  have iG:dj.getD i true=false:=(mem_ready.1 hr).1
  refine ⟨λh=>(by rw[h] at hr;cases hr),λj hj=>?_⟩
  by_cases eY:j=i
  ·subst eY;exact hy.wpOp hi ⟨dj,hc,iG,hs⟩ ⟨(hS _ _).2 hs,H⟩
  ·have:=ready_mono hj eY
   rw[H.1] at this
   cases this
 | succ fuel ih=>
  intro dj a w yc hr hc hy hs H
  have iG:dj.getD i true=false:=(mem_ready.1 hr).1
  refine ⟨λh=>(by rw[h] at hr;cases hr),λj hj=>?_⟩
  by_cases eY:j=i
  ·subst eY;exact hy.wpOp hi ⟨dj,hc,iG,hs⟩ ⟨(hS _ _).2 hs,H⟩
  ·have h1:=H.2 j (ready_mono hj eY)
   obtain ⟨I7,oj,vg,iV⟩:=mem_ready.1 hj
   have L2:∀ e ∈ oj.after,Region.binds md e=true->e.on≠i:=λe he hb heq=>by
    have h1:=iV e he hb
    have h0:=(mem_ready.1 hr).1
    rw[heq] at h1
    rcases Nat.lt_or_ge i dj.size with h' | h'
    ·simp[h'] at h0 h1;rw[h0] at h1;cases h1
    ·simp[Array.getElem?_eq_none h'] at h1
   have Y:=wpOp_putIf vg (yc j oj vg eY I7 L2) (λcs b=>qH i oi cs b hi) (λcs b=>qH j oj cs b vg) hQ hy h1
   have I8:∀ k ok,ops[k]?=some ok->k≠i->(dj.setIfInBounds j true).getD k true=false ->
     (∀ e ∈ ok.after,Region.binds md e=true->e.on≠i)->oi.apart ops ok=true:=λk ok hk Nk iG il=>by
    refine yc k ok hk Nk ?_ il
    by_cases Lh:j=k
    ·subst Lh;exact I7
    ·rw[getD_set_ne true Lh] at iG;exact iG
   refine wpOp_mono (λa' w' h3=>?_) Y
   have h4:=h3.2.1
   have h5:=h3.2.2
   rw[Array.setIfInBounds_comm _ _ (Ne.symm eY)] at h4 h5
   have h6:=(hS _ _).1 h4
   exact ⟨h6,ih (dj.setIfInBounds j true) a' w' I8 (ready_mono hr (Ne.symm eY)) (qG hc hj) h3.1 h6 h5⟩
def xe (ops:Array Oper):Nat->Nat->Nat->Bool
 | 0,_,_=>false
 | n+1,d,i=>match ops[d]? with
  | some o=>o.after.toList.any λe=>Region.binds .any e&&(Nat.beq e.on i||xe ops n e.on i)
  | none=>false
theorem jW {ops:Array Oper} {l:Array Bool} (h:p6 .any ops l):∀ (n d i:Nat),xe ops n d i=true->l.getD d false=true->l.getD i false=true
 | 0,_,_,ha,_=>by cases ha
 | n+1,d,i,ha,hd=>by
  simp only[xe] at ha
  split at ha
  ·rename_i o ho
   obtain ⟨e,he,hb⟩:=List.any_eq_true.1 ha
   simp only[Bool.and_eq_true,Bool.or_eq_true,Nat.beq_eq] at hb
   have hl:=h d o ho hd e (by simpa using he) hb.1
   rcases hb.2 with hb | hb
   ·rw[<-hb];exact hl
   ·exact jW h n e.on i hb hl
  ·cases ha
def gf (E:Env) (ops:Array Oper) (d:Nat):Bool:=match ops[d]? with
 | some o=>!ko E o.op&&!quiet E o.op
 | none=>false
def pj (l:Array Bool):List Nat->Array Bool
 | []=>l
 | j::js=>pj (l.setIfInBounds j true) js
def oF (E:Env) (bM:Nat) (ops:Array Oper) (pd:List Nat):List Nat->Array Bool->Bool->Bool
 | [],l,_=>(Region.ready .any ops l).isEmpty
 | i::is,l,f=>match ops[i]? with
  | none=>false
  | some o=>
   match pd.any (Nat.beq i) with
   | true=>!is.any (Nat.beq i)&&(Region.ready .any ops l).contains i&&(Region.ready .any ops (pj l (pd.filter λj=>!Nat.beq i j))).all (λj=>pd.any (Nat.beq j))&&oF E bM ops pd is (l.setIfInBounds i true) f
   | false=>
   match ko E o.op&&(Region.free .any ops l i&&(Region.ready .any ops l).contains i&&(!reads o.op||yD E bM i||BT E bM i||(f&&(List.range ops.size).all λd=>!gf E ops d||xe ops ops.size d i))) with
   | true=>oF E bM ops pd is (l.setIfInBounds i true) f
   | false=>(Region.ready .any ops l).contains i&&(Region.ready .any ops (pj l pd)).all (Nat.beq i)&&oF E bM ops pd is (l.setIfInBounds i true) false
noncomputable def sc (E:Env) (ops:Array Oper) (pd:List Nat):Bool:=pd.all λj=>match ops[j]? with
 | some o=>(match o.guard with
  | none=>true
  | some _=>false)&&(mU E o.op).isSome&&(match o.dst with
   | some d=>(List.range ops.size).all λk=>Nat.beq k j||(match ops[k]? with
    | some o'=>(match o'.dst with
     | some d'=>!Nat.beq d' d
     | none=>true)
    | none=>true)
   | none=>false)
 | none=>false
def vh:List Nat->Bool
 | []=>true
 | i::is=>!is.any (Nat.beq i)&&vh is
noncomputable def oG (E:Env) (ops:Array Oper) (pd:List Nat) (er:List (Nat×Nat)):Bool:=er.all λe=>!pd.any (Nat.beq e.1)&&(Nat.ble ops.size e.2||(gf E ops e.2&&!pd.any (Nat.beq e.2)&&xe ops ops.size e.2 e.1))&&(match ops[e.1]? with
 | some o=>(match o.guard with
  | none=>true
  | some _=>false)&&(match o.op,o.dst with
   | .load _ (.tmp x),some d=>!Nat.beq x d&&(List.range ops.size).all λk=>Nat.beq k e.1||(match ops[k]? with
    | some o'=>(match o'.dst with
     | some d'=>!Nat.beq d' d&&(!Nat.beq d' x||xe ops ops.size e.1 k)
     | none=>true)
    | none=>true)
   | _,_=>false)
 | none=>false)
noncomputable def zo (E:Env) (bM:Nat) (ops:Array Oper) (is:List Nat):Bool:=
 Region.noSelect ops&&Nat.ble is.length ops.size&&(sc E ops (eX E.pd bM)&&(eX E.pd bM).all λj=>is.any (Nat.beq j))&&(vh is&&(List.range ops.size).all (λk=>is.any (Nat.beq k))&&oG E ops (eX E.pd bM) (uH E.er bM))&&oF E bM ops (eX E.pd bM) is (Array.replicate ops.size false) (match eX E.pd bM with
  | []=>true
  | _::_=>false)
theorem GV {K:St->Option R}:∀ (is:List Nat) {σ:St} {A:Cells} {F:Nat->FP},bd P C A σ a w F->AW σ is K=some x->∃ (A':Cells) (σ':St) (F':Nat->FP),K σ'=some x/\bd P C A' σ' a w F':=by
 intro is
 induction is with
 | nil=>intro σ A F h hk;exact ⟨A,σ,F,hk,h⟩
 | cons i is ih=>
  intro σ A F h hk
  simp only[AW] at hk
  split at hk
  ·rename_i t m H v hg
   split at hk
   ·rename_i hc
    simp only[Bool.and_eq_true,List.isEmpty_iff] at hc
    obtain ⟨hH,rX⟩:=hc
    subst hH
    obtain ⟨A1,F1,_,h1,_,_⟩:=DS h hg
    exact ih h1 hk
   ·cases hk
  ·cases hk
theorem Rel.I9 (h:bd P C A σ a w F):∃ C':Ctx,C'.w0=w/\C'.A0=A/\(∀ b i,A b i->C'.F0 b i=0)/\bd P C' A σ a w F/\(∀ {A2:Cells} {dU:St} {a2:Act} {w2:World} {F2:Nat->FP},bd P C' A2 dU a2 w2 F2->bd P C A2 dU a2 w2 F2):=by
 have cm:∀ b i,1<=al σ.n F b i->1<=C.F0 b i\/C.w0.heap.size<=b:=λb i hp=>h.own b i (by show 1<=0+_;omega)
 refine ⟨⟨w,A,al σ.n F,C.args⟩,rfl,rfl,λb i ha=>?_,?_,λ{A2 dU a2 w2 F2} Y=>?_⟩
 ·rcases Nat.eq_zero_or_pos (al σ.n F b i) with h0 | h0
  ·exact h0
  ·exact absurd ha (h.fW b i (by show 1<=0+_;omega))
 ·exact { h with ext:=Ext.refl _ _,own:=λb i hp=>.inl (by have hp:1<=0+al σ.n F b i:=hp;show 1<=al σ.n F b i;omega),a0:=λ_ _ h=>h,J:=λ_ _ h=>.inl h,fe:=h.fe,eB:=h.eB,lu:=h.qv λb i hp=>by have hp:1<=al σ.n F b i:=hp;show 1<=0+_;omega }
 ·have eN:C.w0.heap.size<=w.heap.size:=h.ext.size
  refine { Y with ext:=h.ext.trans Y.ext (λb i hb hz=>?_),own:=λb i hp=>?_,a0:=λb i ha=>Y.a0 b i (h.a0 b i ha),J:=λb i ha=>?_,fe:=Y.fe,eB:=Y.eB,lu:=h.lu }
  ·show al σ.n F b i=0
   rcases Nat.eq_zero_or_pos (al σ.n F b i) with h0 | h0
   ·exact h0
   ·rcases cm b i h0 with h1 | h1 <;> omega
  ·rcases Y.own b i hp with h1 | h1
   ·exact cm b i h1
   ·exact .inr (Nat.le_trans eN h1)
  ·rcases Y.J b i ha with h1 | h1 | h1
   ·exact h.J b i h1
   ·exact .inr (cm b i h1)
   ·exact .inr (.inr (Nat.le_trans eN h1))
theorem HU (h:bd P C A σ a w F) (hE:iu P E) {bM i:Nat} (bh:gI P o.op=true) (gO:ko E o.op=true) (uY:yC σ o=true) {K:St->Option R} (hk:gL E bM i o σ K=some x) :
  ∃ v,(∀ w',(∀ b i,A b i->∀ u,ce w b i=some u->ce w' b i=some u)->(execOp a.eval o).run P w'=.ok (.value v) w')/\Nx P C K x (a.put o.dst v) w:=by
 unfold yC at uY
 split at uY
 ·rename_i t y ho
  split at uY
  ·rename_i t' v hv
   unfold gL at hk
   simp only[ho,uE] at hk
   cases hf:BO E.fz bM i 8 with
   | true=>rw[hf] at hk;simp only[hv] at hk;cases hk
   | false=>
   rw[hf] at hk
   simp only[hv,qi] at hk
   obtain ⟨T,hT,hk⟩:=bE hk
   have cn:=hE.ti _ _ hT
   split at hk
   ·rename_i e;subst e
    rw[ho] at bh
    rcases bt h bh with hs | ⟨xs,e⟩
    rotate_left
    ·rw[e] at hv;cases hv
    rw[hv] at hs
    obtain ⟨⟨b,off,sp⟩,h1,Y,L,h3,h4,h5⟩:=hs
    simp only[List.cons.injEq,and_true] at h1
    simp only at Y;subst Y
    refine ⟨aY t' L,λw' ip=>?_,aK h hk ⟨L,rfl,h5⟩ (λ_ _ _ _ e=>by cases e)⟩
    simp[execOp,ho,h1,Instr.loadAt,Instr.sureAddr,mB cn (λj u hu=>ip _ _ (h4 j u hu).2 u (h4 j u hu).1) h3 (Ro.one _ h5)]
   ·cases hk
  ·cases uY
 ·rename_i s t y ho
  unfold gL at hk
  simp only[ho] at hk
  rw[ho] at bh
  refine uX h hE.ti ho bh (λT hT=>?_) uY hk
  rw[ho] at gO
  simp only[ko,hT] at gO
  exact gO
 ·cases uY
def pH (ops:Array Oper) (l:Array Bool) (u:Nat):Prop:=ops.size<=u\/l.getD u false=false
def SD (E:Env) (ops:Array Oper) (w0:World) (C:Ctx) (RC:List (Nat×Nat×Nat×Nat×List Value)):Array Bool->World->Prop:=λl w'=>((∀ d,gf E ops d=true->l.getD d false=false)->Ext w0 w' (λ_ _=>0))/\(∀ b i,C.A0 b i->∀ u,ce C.w0 b i=some u->ce w' b i=some u)/\∀ e ∈ RC,pH ops l e.2.1->Has w' e.2.2.1 e.2.2.2.1 e.2.2.2.2
theorem HV {next:Act->World->Prop} (h:Tk P o a w next):o.wp P a w (λa' w'=>w=w'/\next a' w') Q:=by
 obtain ⟨v,h1,Y⟩:=h
 exact e8 (h1 w λ_=>Ext.refl _ _) ⟨rfl,Y⟩
theorem pI {md:Region.Mode} {ops:Array Oper} {S S':Array Bool->World->Prop} (hS:∀ l w,S l w->S' l w):∀ (fuel:Nat) (dj:Array Bool) (a:Act) (w:World),jH P md ops Q S fuel dj a w->jH P md ops Q S' fuel dj a w
 | 0,_,_,_,h=>h
 | fuel+1,_,_,_,h=>⟨h.1,λi hi=>wpOp_mono (λa' w' h'=>⟨hS _ _ h'.1,pI hS fuel _ a' w' h'.2⟩) (h.2 i hi)⟩
theorem zp (a:Act) (d:Nat):a.put (some d) (tmp a d)=a:=by
 have:a.tmps.setIfInBounds d (tmp a d)=a.tmps:=by
  unfold tmp
  apply Array.ext
  ·simp
  ·intro i h1 Y
   rw[Array.getElem_setIfInBounds]
   split
   ·rename_i e;subst e;simp[Y]
   ·rfl
 show { a with tmps:=a.tmps.setIfInBounds d (tmp a d) }=a
 rw[this]
theorem Km {ops:Array Oper} {K:St->Option R}:∀ (js:List Nat) {σ:St} {F:Nat->FP},bd P C A σ a w F->Di ops.toList σ js K=some x->∃ (σ':St) (F':Nat->FP),K σ'=some x/\bd P C A σ' a w F':=by
 intro js
 induction js with
 | nil=>intro σ F h hk;exact ⟨σ,F,hk,h⟩
 | cons j js ih=>
  intro σ F h hk
  simp only[Di] at hk
  split at hk
  ·rename_i d hd
   obtain ⟨F1,h1⟩:=h.aB (some d) (s:=.dead) (v:=tmp a d) (Fd:=λ_ _=>0) (X':=λ_ _=>0) trivial (λb i=>Nat.le_refl _) (λ_ _ _ _ e=>by cases e)
   rw[zp] at h1
   exact ih h1 hk
  ·cases hk
theorem qI:∀ (js:List Nat) (l:Array Bool) (k:Nat) (b:Bool),(pj l js).getD k b=if k ∈ js/\k < l.size then true else l.getD k b
 | [],l,k,b=>by simp[pj]
 | j::js,l,k,b=>by
  rw[pj,qI js]
  simp only[Array.size_setIfInBounds]
  by_cases h1:k ∈ js/\k < l.size
  ·rw[if_pos h1,if_pos ⟨by simp[h1.1],h1.2⟩]
  ·rw[if_neg h1]
   by_cases pi:j=k
   ·subst pi
    by_cases aH:j < l.size
    ·rw[if_pos ⟨by simp,aH⟩];simp[aH]
    ·rw[if_neg (λh=>aH h.2)];simp[aH]
   ·rw[getD_set_ne b pi,if_neg]
    rintro ⟨Y,h3⟩
    rcases List.mem_cons.1 Y with e | e
    ·exact pi e.symm
    ·exact h1 ⟨e,h3⟩
theorem gg {l:List Nat} {i:Nat}:l.any (Nat.beq i)=true↔i ∈ l:=by
 rw[List.any_eq_true]
 constructor
 ·rintro ⟨y,h1,Y⟩;rw[Nat.eq_of_beq_eq_true Y];exact h1
 ·intro h;exact ⟨i,h,Nat.beq_refl i⟩
theorem pJ {ops:Array Oper} {pd:List Nat} (h:sc E ops pd=true) {j:Nat} (hj:j ∈ pd):∃ o d s,ops[j]?=some o/\o.guard=none/\o.dst=some d/\mU E o.op=some s/\∀ k o',ops[k]?=some o'->k≠j->o'.dst≠some d:=by
 unfold sc at h
 have h:=List.all_eq_true.1 h j hj
 split at h
 ·rename_i o ho
  simp only[Bool.and_eq_true] at h
  obtain ⟨⟨h1,Y⟩,h3⟩:=h
  split at h3
  ·rename_i d hd
   obtain ⟨s,hs⟩:=Option.isSome_iff_exists.1 Y
   refine ⟨o,d,s,ho,?_,hd,hs,λk o' hk pi e=>?_⟩
   ·split at h1
    ·assumption
    ·cases h1
   ·have:=List.all_eq_true.1 h3 k (List.mem_range.2 (Array.getElem?_eq_some_iff.1 hk).1)
    rw[hk] at this
    simp only[e,Bool.or_eq_true] at this
    rcases this with h4 | h4
    ·exact pi (Nat.eq_of_beq_eq_true h4)
    ·simp at h4
  ·cases h3
 ·cases h
def RE (ops:Array Oper) (er:List (Nat×Nat)) (L:Array Bool) (a:Act) (w:World) (e:Nat×Nat×Nat×Nat×List Value):Prop:=(e.1,e.2.1) ∈ er/\L.getD e.1 false=true /\
 ∃ o t x d,ops[e.1]?=some o/\o.op=.load t (.tmp x)/\o.dst=some d/\tmp a x=.pointer (some ⟨e.2.2.1,e.2.2.2.1,none⟩)/\(tmp a d).cells.toList=e.2.2.2.2/\(pH ops L e.2.1->Has w e.2.2.1 e.2.2.2.1 e.2.2.2.2)
theorem tr:∀ {is:List Nat},vh is=true->is.Nodup
 | [],_=>List.nodup_nil
 | i::is,h=>by
  simp only[vh,Bool.and_eq_true,Bool.not_eq_true'] at h
  refine List.nodup_cons.2 ⟨λhm=>?_,tr h.2⟩
  have:=h.1
  rw[gg.2 hm] at this
  cases this
theorem ky {E:Env} {ops:Array Oper} {pd:List Nat} {er:List (Nat×Nat)} (h:oG E ops pd er=true) {j u:Nat} (hj:(j,u) ∈ er):j ∉ pd/\(ops.size<=u\/(gf E ops u=true/\u ∉ pd/\xe ops ops.size u j=true))/\∃ o t x d,ops[j]?=some o/\o.guard=none/\o.op=.load t (.tmp x)/\o.dst=some d/\x≠d /\
  ∀ k o',ops[k]?=some o'->k≠j->o'.dst≠some d/\(o'.dst=some x->xe ops ops.size j k=true):=by
 unfold oG at h
 have h1:=List.all_eq_true.1 h _ hj
 simp only[Bool.and_eq_true,Bool.or_eq_true,Bool.not_eq_true',Nat.ble_eq] at h1
 obtain ⟨⟨h0,hu⟩,h1⟩:=h1
 refine ⟨λhm=>?_,hu.imp id λq=>⟨q.1.1,λhm=>?_,q.2⟩,?_⟩
 ·rw[gg.2 hm] at h0
  cases h0
 ·have q2:=q.1.2
  rw[gg.2 hm] at q2
  cases q2
 split at h1
 ·rename_i o ho
  simp only[Bool.and_eq_true] at h1
  obtain ⟨Y,h3⟩:=h1
  split at h3
  ·rename_i t x d GH hd
   simp only[Bool.and_eq_true,Bool.not_eq_true',List.all_eq_true,List.mem_range] at h3
   obtain ⟨h4,h5⟩:=h3
   refine ⟨o,t,x,d,ho,?_,GH,hd,(λe=>by subst e;rw[Nat.beq_refl] at h4;cases h4),λk o' hk pi=>?_⟩
   ·cases hg:o.guard with
    | none=>rfl
    | some g=>rw[hg] at Y;cases Y
   ·have h6:=h5 k (Array.getElem?_eq_some_iff.1 hk).1
    rw[hk] at h6
    simp only[Bool.or_eq_true] at h6
    rcases h6 with h6 | h6
    ·exact absurd (Nat.eq_of_beq_eq_true h6) pi
    ·cases iD:o'.dst with
     | none=>exact ⟨(λe=>by cases e),λe=>by cases e⟩
     | some d'=>
      rw[iD] at h6
      simp only[Bool.and_eq_true,Bool.or_eq_true,Bool.not_eq_true'] at h6
      refine ⟨λe=>?_,λe=>?_⟩
      ·injection e with e;subst e;rw[Nat.beq_refl] at h6;cases h6.1
      ·injection e with e;subst e
       rcases h6.2 with h7 | h7
       ·rw[Nat.beq_refl] at h7;cases h7
       ·exact h7
  ·cases h3
 ·cases h1
theorem mq:∀ {p q:Path},ll p q=true->p=q
 | [],[],_=>rfl
 | .fst::p,.fst::q,h=>by simp only[ll] at h;rw[mq h]
 | .snd::p,.snd::q,h=>by simp only[ll] at h;rw[mq h]
 | .idx i::p,.idx j::q,h=>by simp only[ll,Bool.and_eq_true] at h;rw[Nat.eq_of_beq_eq_true h.1,mq h.2]
 | .gm i::p,.gm j::q,h=>by simp only[ll,Bool.and_eq_true] at h;rw[Nat.eq_of_beq_eq_true h.1,mq h.2]
theorem D5 (h:Rel P C A X σ a w F) {o:Oper} (am:EV σ o=true) {t x d:Nat} (ho:o.op=.load t (.tmp x)) (hd:o.dst=some d) {b off:Nat} (hx:tmp a x=.pointer (some ⟨b,off,none⟩)):Has w b off (tmp a d).cells.toList/\d < a.tmps.size:=by
 unfold EV at am
 rw[ho,hd] at am
 simp only at am
 have lt:∀ {i:Nat},σ.get i≠.dead->i < σ.n:=λ{i} hi=>by
  rcases Nat.lt_or_ge i σ.n with h1 | h1
  ·exact h1
  ·exact absurd (dN (Nat.not_lt.2 h1)) hi
 split at am
 ·rename_i r p s Br
  split at am
  ·rename_i r' p' s' pk
   simp only[Bool.and_eq_true] at am
   obtain ⟨⟨h1,Y,h3⟩,h4⟩:=am
   have e1:=Nat.eq_of_beq_eq_true h1
   have e2:=mq h4
   subst e1;subst e2
   have D6:=h.bX x (lt (by rw[Br];intro e;cases e))
   rw[Br] at D6
   obtain ⟨pl,b',o',g1,g2,g3,_⟩:=D6.2 Y
   rw[hx] at g3
   simp only[Value.pointer.injEq,Option.some.injEq,Addr.mk.injEq,and_true] at g3
   obtain ⟨rfl,rfl⟩:=g3
   have xf:=h.bX d (lt (by rw[pk];intro e;cases e))
   rw[pk] at xf
   obtain ⟨wI,k1,k2,_⟩:=xf.2 h3
   rw[g1] at k1
   injection k1 with k1
   subst k1
   have hr:=iT g1
   have cI:=g1
   unfold place at cI
   cases hR:ba w (tmp a r) (σ.get r) with
   | none=>rw[hR] at cI;cases cI
   | some R=>
    rw[hR] at cI
    simp only[Option.bind_some] at cI
    obtain ⟨m,v,F1,q1,_,q2,_⟩:=lw (h.bX r hr) hR
    obtain ⟨z1,m',v',F',z2⟩:=A4 p R.t q1 (λb o e=>(q2 b o e).1) cI
    rw[k2,cV (ae.length _ z2) (ae.one _ z2)]
    exact ⟨z1 _ _ g2,by rw[h.size];exact lt (by rw[pk];intro e;cases e)⟩
  ·rename_i v pk
   simp only[Bool.and_eq_true] at am
   obtain ⟨Y,hi⟩:=am
   unfold Gk at hi
   split at hi
   rotate_left
   ·cases hi
   rename_i bb iq
   subst hi
   have D6:=h.bX x (lt (by rw[Br];intro e;cases e))
   rw[Br] at D6
   obtain ⟨pl,b',o',g1,g2,g3,_⟩:=D6.2 Y
   rw[hx] at g3
   simp only[Value.pointer.injEq,Option.some.injEq,Addr.mk.injEq,and_true] at g3
   obtain ⟨rfl,rfl⟩:=g3
   have xf:=h.bX d (lt (by rw[pk];intro e;cases e))
   rw[pk] at xf
   obtain ⟨a_,k1,k2⟩:=xf
   obtain ⟨hr,t',m',H',v',aC,aS,F',i1,i2,i3,i4,i5,i6⟩:=du h iq
   rw[i3] at g1
   injection g1 with g1
   subst g1
   simp only at g2
   subst g2
   obtain ⟨e,i1⟩:=aP i1
   subst e
   simp only[Option.some.injEq,decide_eq_true_eq] at i1
   have hh:Has w b off aC:=by first | exact (i6 b off rfl).1 | exact i6 b off rfl | exact (i5 b off rfl).1 | exact i5 b off rfl
   have c1:aC=[.int .i64 v]:=by
    have i4:_:=i4
    simp only[ae] at i4
    rw[<-i1]
    first | exact i4.1 | exact i4 | exact i4.2 | simp_all
   have c2:a_=[.int .i64 v]:=k2
   rw[k1,c2,cV rfl (λu hu=>by rw[List.mem_singleton] at hu;subst hu;rfl)]
   rw[c1] at hh
   exact ⟨hh,by rw[h.size];exact lt (by rw[pk];intro e;cases e)⟩
  ·cases am
 ·rename_i tb mb Hb vb Br
  split at am
  ·rename_i r' p' s' pk
   simp only[Bool.and_eq_true] at am
   obtain ⟨⟨h1,h3⟩,h4⟩:=am
   have e1:=Nat.eq_of_beq_eq_true h1
   have e2:=mq h4
   subst e1;subst e2
   have xf:=h.bX d (lt (by rw[pk];intro e;cases e))
   rw[pk] at xf
   obtain ⟨wI,k1,k2,_⟩:=xf.2 h3
   have hr:=iT k1
   have cI:=k1
   unfold place at cI
   cases hR:ba w (tmp a x) (σ.get x) with
   | none=>rw[hR] at cI;cases cI
   | some R=>
    rw[hR] at cI
    simp only[Option.bind_some] at cI
    obtain ⟨m,v,F1,q1,_,q2,_⟩:=lw (h.bX x hr) hR
    obtain ⟨z1,m',v',F',z2⟩:=A4 [] R.t q1 (λb o e=>(q2 b o e).1) cI
    rw[k2,cV (ae.length _ z2) (ae.one _ z2)]
    have cR:wI.ad=some (b,off):=by
     rw[Br,hx] at hR
     simp only[ba,Option.some.injEq] at hR
     subst hR
     simp only[ay,Option.some.injEq] at cI
     subst cI
     rfl
    exact ⟨z1 _ _ cR,by rw[h.size];exact lt (by rw[pk];intro e;cases e)⟩
  ·cases am
 ·cases am
theorem quiet_of {bM i:Nat} {o:Oper} {K:St->Option R} (hk:gL E bM i o σ K=some x) (hm:sM o.op=false) (ht:ko E o.op=false):quiet E o.op=true:=by
 unfold gL at hk
 cases ho:o.op <;> rw[ho] at hk hm ht <;> first | rfl | (cases hm;done) | (cases ht;done) | (simp only[reduceCtorEq] at hk;done) | skip
theorem zq (h:bd P C A σ a w F) (hE:iu P E) {t x0:Nat} {mv:Bool} (bh:gI P o.op=true) (ho:o.op=.load t (.tmp x0)) {K:St->Option R} (hk:qi E σ t (a9 σ (.tmp x0)) mv o.dst K=some x) :
  ∃ b off v cs,tmp a x0=.pointer (some ⟨b,off,none⟩)/\Has w b off cs/\v.cells.toList=cs/\∀ w',Has w' b off cs->(execOp a.eval o).run P w'=.ok (.value v) w':=by
 unfold qi at hk
 obtain ⟨T,hT,hk⟩:=bE hk
 have cn:=hE.ti _ _ hT
 have run:∀ b off L,a.eval (.tmp x0)=.pointer (some ⟨b,off,none⟩)->L.length=T.sz->(∀ u ∈ L,u.oneCell'=true)->∀ w',Has w' b off L->(execOp a.eval o).run P w'=.ok (.value (aY T L)) w':=λb off L hy hl gj w' hL=>by
  simp[execOp,ho,hy,Instr.loadAt,Instr.sureAddr,mB cn hL hl gj]
 rw[ho] at bh
 rcases bt h (show aZ P (.tmp x0)=true from bh) with hs | ⟨xs,e⟩
 rotate_left
 ·rw[e] at hk;cases hk
 split at hk
 ·rename_i t' v hv
  rw[hv] at hs
  split at hk
  ·rename_i e;subst e
   obtain ⟨⟨b,off,sp⟩,h1,Y,L,h3,h4,h5⟩:=hs
   simp only[List.cons.injEq,and_true] at h1
   simp only at Y;subst Y
   exact ⟨b,off,aY t' L,L,h1,λj u hu=>(h4 j u hu).1,cV h3 (Ro.one _ h5),run b off L h1 h3 (Ro.one _ h5)⟩
  ·cases hk
 ·rename_i r p snap hv
  rw[hv] at hs
  split at hk
  ·rename_i fm
   obtain ⟨hr,t',m',H',v',aC,aS,F',h1,Y,h3,h4,h5,h6⟩:=du h hk
   obtain ⟨pl,b,off,g1,g2,g3,g4⟩:=hs.2 fm
   rw[h3] at g1
   injection g1 with g1
   subst g1
   simp only at g2
   subst g2
   split at h1
   ·rename_i e;subst e
    have hh:Has w b off aC:=by first | exact (h6 b off rfl).1 | exact h6 b off rfl | exact (h5 b off rfl).1 | exact h5 b off rfl
    exact ⟨b,off,aY t' aC,aC,g3,hh,cV (ae.length _ h4) (ae.one _ h4),run b off aC g3 (ae.length _ h4) (ae.one _ h4)⟩
   ·cases h1
  ·cases hk
 ·cases hk
theorem HW (h:bd P C A σ a w F) (hE:iu P E) {bM i t x0:Nat} (bh:gI P o.op=true) (ho:o.op=.load t (.tmp x0)) {K:St->Option R} (hk:gL E bM i o σ K=some x) :
  ∃ b off v cs,tmp a x0=.pointer (some ⟨b,off,none⟩)/\Has w b off cs/\v.cells.toList=cs/\∀ w',Has w' b off cs->(execOp a.eval o).run P w'=.ok (.value v) w':=by
 unfold gL at hk
 simp only[ho,uE] at hk
 split at hk
 ·exact zq h hE bh ho hk
 ·split at hk
  ·split at hk
   ·obtain ⟨A1,fi,F1,_,_,_,_,_,k1,_,k3,_⟩:=mO h hk
    exact zq k3 hE bh ho k1
   ·cases hk
  ·cases hk
structure Inv (P:Program) (E:Env) (ops:Array Oper) (pd:List Nat) (w0:World) (C:Ctx) (is:List Nat) (l:Array Bool) (f:Bool) (σ:St) (fuel:Nat) (A:Cells) (a:Act) (w:World) (X:FP) (F:Nat->FP) (D:List Nat) (L:Array Bool) (er:List (Nat×Nat)) (RC:List (Nat×Nat×Nat×Nat×List Value)):Prop where
 h:Rel P C A X σ a w F
 pf:PF P E ops A a w D X
 nd:D.Nodup
 xg:∀ j ∈ D,j ∈ pd
 dl:∀ j ∈ D,l.getD j false=false
 fW:∀ j ∈ D,j ∈ is
 GW:∀ j ∈ pd,l.getD j false=true\/j ∈ is
 tt:(is.filter λk=>decide (k ∉ D)).length<=fuel
 cl:p6 .any ops L
 hS:(∀ d,gf E ops d=true->L.getD d false=false)->Ext w0 w (λ_ _=>0)
 hf:f=true->w=w0/\pd=[]
 vj:l.size=ops.size
 oH:L.size=ops.size
 hL:∀ k,L.getD k false=true↔(l.getD k false=true\/k ∈ D)
 D7:is.Nodup
 D8:∀ k,k < ops.size->l.getD k false=true\/k ∈ is
 io:∀ k ∈ is,l.getD k false=false
 rc:∀ e ∈ RC,RE ops er L a w e
theorem jX {l:Array Bool} {k:Nat} (h:k < l.size):l.getD k true=l.getD k false:=by simp[h]
theorem bS {l:Array Bool} {i k:Nat} (hi:i < l.size):(l.setIfInBounds i true).getD k false=true↔(k=i\/l.getD k false=true):=by
 by_cases hk:i=k
 ·subst hk;simp[hi]
 ·rw[getD_set_ne false hk]
  constructor
  ·exact .inr
  ·rintro (h | h)
   ·exact absurd h.symm hk
   ·exact h
theorem Aw {D:List Nat} {j:Nat} (hD:j ∉ D):∀ (is:List Nat),j ∈ is->(is.filter λk=>decide (k ∉ j::D)).length+1<=(is.filter λk=>decide (k ∉ D)).length:=by
 have hle:∀ (is:List Nat),(is.filter λk=>decide (k ∉ j::D)).length<=(is.filter λk=>decide (k ∉ D)).length:=by
  intro is
  induction is with
  | nil=>exact Nat.le_refl _
  | cons i is ih=>
   simp only[List.filter_cons]
   by_cases h1:i ∈ D
   ·have Y:i ∈ j::D:=by simp[h1]
    simp only[h1,Y,not_true_eq_false,decide_false,Bool.false_eq_true,if_false]
    exact ih
   ·by_cases Y:i ∈ j::D
    ·simp only[h1,Y,not_true_eq_false,not_false_eq_true,decide_false,decide_true,Bool.false_eq_true,if_false,if_true,List.length_cons]
     omega
    ·simp only[h1,Y,not_false_eq_true,decide_true,if_true,List.length_cons]
     omega
 intro is
 induction is with
 | nil=>intro h;cases h
 | cons i is ih=>
  intro h
  simp only[List.filter_cons]
  by_cases iB:i=j
  ·subst iB
   have Y:i ∈ i::D:=by simp
   simp only[hD,Y,not_true_eq_false,not_false_eq_true,decide_false,decide_true,Bool.false_eq_true,if_false,if_true,List.length_cons]
   have:=hle is
   omega
  ·have h3:j ∈ is:=by
    rcases List.mem_cons.1 h with e | e
    ·exact absurd e.symm iB
    ·exact e
   have:=ih h3
   by_cases h1:i ∈ D
   ·have Y:i ∈ j::D:=by simp[h1]
    simp only[h1,Y,not_true_eq_false,decide_false,Bool.false_eq_true,if_false]
    exact this
   ·have Y:i ∉ j::D:=by simp[h1,iB]
    simp only[h1,Y,not_false_eq_true,decide_true,if_true,List.length_cons]
    omega
section
variable {ops:Array Oper} {pd:List Nat} {w0:World} {is:List Nat} {l L:Array Bool} {f:Bool} {fuel:Nat} {D:List Nat} {i:Nat} {er:List (Nat×Nat)} {RC:List (Nat×Nat×Nat×Nat×List Value)}
theorem Inv.t9 (v:Inv P E ops pd w0 C is l f σ fuel A a w X F D L er RC) (hi:i ∈ Region.ready .any ops l) (hD:i ∉ D):i ∈ Region.ready .any ops L:=by
 obtain ⟨h0,o,ho,iV⟩:=mem_ready.1 hi
 have aH:i < ops.size:=(Array.getElem?_eq_some_iff.1 ho).1
 refine mem_ready.2 ⟨?_,o,ho,λe he hb=>(v.hL _).2 (.inl (iV e he hb))⟩
 rw[jX (by rw[v.oH];exact aH)]
 rw[jX (by rw[v.vj];exact aH)] at h0
 cases hh:L.getD i false with
 | false=>rfl
 | true=>
  rcases (v.hL i).1 hh with h1 | h1
  ·rw[h0] at h1;cases h1
  ·exact absurd h1 hD
theorem Inv.sd (v:Inv P E ops pd w0 C is l f σ fuel A a w X F D L er RC) {j:Nat} {S:List Nat} (hS:∀ k ∈ D,k ∈ S) (hj:j ∈ Region.ready .any ops L) (GX:j ∉ S):j ∈ Region.ready .any ops (pj l S):=by
 obtain ⟨h0,o,ho,iV⟩:=mem_ready.1 hj
 have aH:j < ops.size:=(Array.getElem?_eq_some_iff.1 ho).1
 refine mem_ready.2 ⟨?_,o,ho,λe he hb=>?_⟩
 ·rw[qI,if_neg (λh=>GX h.1),jX (by rw[v.vj];exact aH)]
  rw[jX (by rw[v.oH];exact aH)] at h0
  cases hh:l.getD j false with
  | false=>rfl
  | true=>rw[(v.hL j).2 (.inl hh)] at h0;cases h0
 ·rw[qI]
  have h1:=iV e he hb
  rcases (v.hL _).1 h1 with Y | Y
  ·split
   ·rfl
   ·exact Y
  ·have aH:e.on < L.size:=by
    rcases Nat.lt_or_ge e.on L.size with h' | h'
    ·exact h'
    ·simp[Array.getElem?_eq_none h'] at h1
   rw[if_pos ⟨hS _ Y,by rw[v.vj,<- v.oH];exact aH⟩]
theorem Inv.vk (v:Inv P E ops pd w0 C is l f σ fuel A a w X F D L er RC) {j:Nat} (h:L.getD j true=false):j ∉ D/\l.getD j false=false/\l.getD j true=false:=by
 have aH:j < L.size:=by
  rcases Nat.lt_or_ge j L.size with h' | h'
  ·exact h'
  ·simp[Array.getElem?_eq_none h'] at h
 rw[jX aH] at h
 have h1:l.getD j false=false:=by
  cases hh:l.getD j false with
  | false=>rfl
  | true=>rw[(v.hL j).2 (.inl hh)] at h;cases h
 have Y:j ∉ D:=λhD=>by
  rw[(v.hL j).2 (.inr hD)] at h
  cases h
 exact ⟨Y,h1,by rw[jX (by rw[v.vj,<- v.oH];exact aH)];exact h1⟩
theorem Inv.next (v:Inv P E ops pd w0 C (i::is) l f σ (fuel+1) A a w X F D L er RC) (hD:i ∉ D) (hr:i ∈ Region.ready .any ops L) {C2:Ctx} {f2:Bool} {dU:St} {A2:Cells} {a2:Act} {w2:World} {F2:Nat->FP}
  (Y:Rel P C2 A2 X dU a2 w2 F2) (hp:PF P E ops A2 a2 w2 D X) (Nl:(∀ d,gf E ops d=true->(L.setIfInBounds i true).getD d false=false)->Ext w0 w2 (λ_ _=>0)) (K_:f2=true->w2=w0/\pd=[]) {Li:List (Nat×Nat×Nat×Nat×List Value)} (Nm:∀ e ∈ Li,RE ops er (L.setIfInBounds i true) a2 w2 e) :
  Inv P E ops pd w0 C2 is (l.setIfInBounds i true) f2 dU fuel A2 a2 w2 X F2 D (L.setIfInBounds i true) er Li:=by
 obtain ⟨_,o,ho,_⟩:=mem_ready.1 hr
 have aH:i < ops.size:=(Array.getElem?_eq_some_iff.1 ho).1
 have oI:i < l.size:=by rw[v.vj];exact aH
 have oJ:i < L.size:=by rw[v.oH];exact aH
 refine ⟨Y,hp,v.nd,v.xg,λj hj=>?_,λj hj=>?_,λj hj=>?_,?_,qG v.cl hr,Nl,K_,by simpa using v.vj,by simpa using v.oH,λk=>?_,(List.nodup_cons.1 v.D7).2,λk hk=>?_,λk hk=>?_,Nm⟩
 ·rw[getD_set_ne false (λe=>by subst e;exact hD hj)];exact v.dl j hj
 ·rcases List.mem_cons.1 (v.fW j hj) with e | e
  ·subst e;exact absurd hj hD
  ·exact e
 ·rcases v.GW j hj with h | h
  ·exact .inl ((bS oI).2 (.inr h))
  ·rcases List.mem_cons.1 h with e | e
   ·exact .inl ((bS oI).2 (.inl e))
   ·exact .inr e
 ·have:=v.tt
  simp only[List.filter_cons,hD,not_false_eq_true,decide_true,if_true,List.length_cons] at this
  omega
 ·rw[bS oJ,bS oI,v.hL]
  exact or_assoc.symm
 ·rcases v.D8 k hk with h | h
  ·exact .inl ((bS oI).2 (.inr h))
  ·rcases List.mem_cons.1 h with e | e
   ·exact .inl ((bS oI).2 (.inl e))
   ·exact .inr e
 ·rw[getD_set_ne false (λe=>by subst e;exact (List.nodup_cons.1 v.D7).1 hk)]
  exact v.io k (List.mem_cons_of_mem _ hk)
theorem Inv.Cw (v:Inv P E ops pd w0 C (i::is) l f σ fuel A a w X F D L er RC) (hD:i ∈ D) (ru:i ∉ is) {dU:St} {X2:FP} {F2:Nat->FP} (Y:Rel P C A X2 dU a w F2) (hp:PF P E ops A a w (D.erase i) X2) :
  Inv P E ops pd w0 C is (l.setIfInBounds i true) f dU fuel A a w X2 F2 (D.erase i) L er RC:=by
 have oJ:i < L.size:=by
  have h1:=(v.hL i).2 (.inr hD)
  rcases Nat.lt_or_ge i L.size with h' | h'
  ·exact h'
  ·simp[Array.getElem?_eq_none h'] at h1
 have oI:i < l.size:=by rw[v.vj,<- v.oH];exact oJ
 have rq:∀ k,k ∈ D.erase i↔k≠i/\k ∈ D:=λk=>v.nd.mem_erase_iff
 refine ⟨Y,hp,v.nd.erase _,λj hj=>v.xg j ((rq j).1 hj).2,λj hj=>?_,λj hj=>?_,λj hj=>?_,?_,v.cl,v.hS,v.hf,by simpa using v.vj,v.oH,λk=>?_,(List.nodup_cons.1 v.D7).2,λk hk=>?_,λk hk=>?_,v.rc⟩
 ·obtain ⟨h3,h4⟩:=(rq j).1 hj
  rw[getD_set_ne false (λe=>h3 e.symm)];exact v.dl j h4
 ·obtain ⟨h3,h4⟩:=(rq j).1 hj
  rcases List.mem_cons.1 (v.fW j h4) with e | e
  ·exact absurd e h3
  ·exact e
 ·rcases v.GW j hj with h | h
  ·exact .inl ((bS oI).2 (.inr h))
  ·rcases List.mem_cons.1 h with e | e
   ·exact .inl ((bS oI).2 (.inl e))
   ·exact .inr e
 ·have:=v.tt
  simp only[List.filter_cons,hD,not_true_eq_false,decide_false,Bool.false_eq_true,if_false] at this
  refine Nat.le_trans (Nat.le_of_eq (congrArg List.length (List.filter_congr λk hk=>?_))) this
  have:k≠i:=λe=>by subst e;exact ru hk
  simp only[rq,this,ne_eq,not_false_eq_true,true_and]
 ·rw[v.hL,bS oI,rq]
  constructor
  ·rintro (h | h)
   ·exact .inl (.inr h)
   ·by_cases hk:k=i
    ·exact .inl (.inl hk)
    ·exact .inr ⟨hk,h⟩
  ·rintro ((h | h) | h)
   ·subst h;exact .inr hD
   ·exact .inl h
   ·exact .inr h.2
 ·rcases v.D8 k hk with h | h
  ·exact .inl ((bS oI).2 (.inr h))
  ·rcases List.mem_cons.1 h with e | e
   ·exact .inl ((bS oI).2 (.inl e))
   ·exact .inr e
 ·rw[getD_set_ne false (λe=>by subst e;exact ru hk)]
  exact v.io k (List.mem_cons_of_mem _ hk)
theorem Lk {j:Nat} (aH:j < L.size) {k:Nat} (hu:(L.setIfInBounds j true).getD k false=false):L.getD k false=false:=by
 cases hl:L.getD k false with
 | false=>rfl
 | true=>rw[(bS aH).2 (.inr hl)] at hu;cases hu
theorem Inv.nc (v:Inv P E ops pd w0 C is l f σ fuel A a w X F D L er RC) (kZ:oG E ops pd er=true) {j:Nat} {o':Oper} (hj:ops[j]?=some o') (iG:L.getD j false=false) {a2:Act} {w2:World}
  (ht:∀ d,o'.dst≠some d->tmp a2 d=tmp a d) (hh:∀ e ∈ RC,pH ops (L.setIfInBounds j true) e.2.1->Has w2 e.2.2.1 e.2.2.2.1 e.2.2.2.2):∀ e ∈ RC,RE ops er (L.setIfInBounds j true) a2 w2 e:=by
 intro e he
 obtain ⟨h1,Y,o,t,x,d,h3,h4,h5,h6,h7,h8⟩:=v.rc e he
 obtain ⟨_,_,o1,t1,x1,d1,g1,_,g2,g3,_,g4⟩:=ky kZ h1
 rw[h3] at g1
 injection g1 with g1
 subst g1
 rw[h4] at g2
 injection g2 with _ g2
 injection g2 with g2
 subst g2
 rw[h5] at g3
 injection g3 with g3
 subst g3
 have bG:j≠e.1:=λe'=>by rw[e'] at iG;rw[Y] at iG;cases iG
 obtain ⟨k1,k2⟩:=g4 j o' hj bG
 have k3:o'.dst≠some x:=λe'=>by
  have:=jW v.cl _ _ _ (k2 e') Y
  rw[this] at iG;cases iG
 exact ⟨h1,by rw[getD_set_ne false bG];exact Y,o,t,x,d,h3,h4,h5,by rw[ht x k3];exact h6,by rw[ht d k1];exact h7,hh e he⟩
theorem Inv.still (v:Inv P E ops pd w0 C (i::is) l f σ fuel A a w X F D L er RC) (kZ:oG E ops pd er=true) {bM:Nat} (D9:uH E.er bM=er) {o':Oper} (hj:ops[i]?=some o') (iG:L.getD i false=false) {C2:Ctx} {A2:Cells} {X2:FP} {dU:St} {a2:Act} {w2:World} {F2:Nat->FP} (Y:Rel P C2 A2 X2 dU a2 w2 F2)
  (ht:∀ d,o'.dst≠some d->tmp a2 d=tmp a d) (bO:sM o'.op=false->Ext w w2 (λ_ _=>0)) (wu:uI E bM ops.toList i o' is dU=true):∀ e ∈ RC,pH ops (L.setIfInBounds i true) e.2.1->Has w2 e.2.2.1 e.2.2.2.1 e.2.2.2.2:=by
 intro e he hu
 obtain ⟨g1,g2,o,t,x,d,g3,g4,g5,g6,g7,g8⟩:=v.rc e he
 have oJ:i < L.size:=by rw[v.oH];exact (Array.getElem?_eq_some_iff.1 hj).1
 have Ll:pH ops L e.2.1:=hu.imp id λhu=>by
  cases hl:L.getD e.2.1 false with
  | false=>rfl
  | true=>rw[(bS oJ).2 (.inr hl)] at hu;cases hu
 cases hm:sM o'.op with
 | false=>exact (g8 Ll).ext (bO hm)
 | true=>
  simp only[uI,hm,Bool.true_or,Bool.not_true,Bool.false_or,BU,D9,List.all_eq_true] at wu
  have:=wu _ g1
  obtain ⟨D_,Lf,o1,t1,x1,d1,k1,_,k2,k3,_,k4⟩:=ky kZ g1
  rw[g3] at k1
  injection k1 with k1
  subst k1
  rw[g4] at k2
  injection k2 with _ k2
  injection k2 with k2
  subst k2
  rw[g5] at k3
  injection k3 with k3
  subst k3
  have bG:i≠e.1:=λe'=>by rw[e'] at iG;rw[g2] at iG;cases iG
  have hl:l.getD e.1 false=true:=((v.hL e.1).1 g2).resolve_right λhD=>D_ (v.xg _ hD)
  have Fg:is.any (Nat.beq e.1)=false:=by
   cases hb:is.any (Nat.beq e.1) with
   | false=>rfl
   | true=>
    have:=v.io e.1 (List.mem_cons_of_mem _ (gg.1 hb))
    rw[hl] at this;cases this
  have Fh:(is.any (Nat.beq e.2.1)||Nat.ble ops.toList.length e.2.1)=true:=by
   rcases Nat.lt_or_ge e.2.1 ops.size with h9 | h9
   ·have I_:=Ll.resolve_left (by omega)
    have Nn:e.2.1≠i:=λe'=>by
     have:=hu.resolve_left (by omega)
     rw[(bS oJ).2 (.inl e')] at this;cases this
    rcases v.D8 _ h9 with tq | tq
    ·rw[(v.hL _).2 (.inl tq)] at I_;cases I_
    ·rcases List.mem_cons.1 tq with Ea | Ea
     ·exact absurd Ea Nn
     ·rw[gg.2 Ea,Bool.true_or]
   ·have:Nat.ble ops.toList.length e.2.1=true:=by simpa using h9
    rw[this,Bool.or_true]
  rw[Fg,Fh,Bool.not_true,Bool.false_or,Bool.false_or,Array.getElem?_toList,g3] at this
  simp only at this
  obtain ⟨q1,q2⟩:=k4 i o' hj bG
  have q3:o'.dst≠some x:=λe'=>by
   have:=jW v.cl _ _ _ (q2 e') g2
   rw[this] at iG;cases iG
  have hx:tmp a2 x=.pointer (some ⟨e.2.2.1,e.2.2.2.1,none⟩):=by rw[ht x q3];exact g6
  obtain ⟨z1,z2⟩:=D5 Y this g4 g5 hx
  rw[ht d q1,g7] at z1
  exact z1
theorem Inv.early (hE:iu P E) (lD:sc E ops pd=true) {bM:Nat} (D_:eX E.pd bM=pd) (kZ:oG E ops pd er=true) (iV:BV E bM ops.toList is σ=true) (hC:∀ b i,C.A0 b i->C.F0 b i=0)
  (v:Inv P E ops pd w0 C is l f σ (fuel+1) A a w X F D L er RC) {j:Nat} (hj:j ∈ pd) (hr:j ∈ Region.ready .any ops L) {S:Array Bool->World->Prop}
  (hS:∀ w',Ext w w' (λ_ _=>0)->((∀ d,gf E ops d=true->(L.setIfInBounds j true).getD d false=false)->Ext w0 w' (λ_ _=>0))->S (L.setIfInBounds j true) w')
  (next:∀ (a':Act) (w':World) (X':FP),Inv P E ops pd w0 C is l f σ fuel A a' w' X' F (j::D) (L.setIfInBounds j true) er RC->jH P .any ops Q S fuel (L.setIfInBounds j true) a' w') :
  wpOp P ops Q j (λa' w'=>S (L.setIfInBounds j true) w'/\jH P .any ops Q S fuel (L.setIfInBounds j true) a' w') a w:=by
 obtain ⟨o,d,s,ho,hg,hd,hs,bG⟩:=pJ lD hj
 have oJ:j < L.size:=by rw[v.oH];exact (Array.getElem?_eq_some_iff.1 ho).1
 obtain ⟨Ja,GY,_⟩:=v.vk (mem_ready.1 hr).1
 have Fl:j ∈ is:=(v.GW j hj).resolve_left (by rw[GY];simp)
 have am:vY σ d=true:=by
  unfold BV at iV
  rw[D_] at iV
  have:=List.all_eq_true.1 iV j hj
  rw[Array.getElem?_toList,ho,gg.2 Fl] at this
  simpa [hd] using this
 obtain ⟨val,w',Fj,cX,bO,Y,No⟩:=Fe (o:=o) v.h hE.ti hs am
 have jI:(∀ d,gf E ops d=true->(L.setIfInBounds j true).getD d false=false)->Ext w0 w' (λ_ _=>0):=λtu=>(v.hS λd' iD=>by
  cases hh:L.getD d' false with
  | false=>rfl
  | true=>rw[<-tu d' iD,(bS oJ).2 (.inr hh)]).trans bO (λ_ _ _ _=>rfl)
 have hw:Region.wanted o (yielded ops a.tmps)=true:=by simp[Region.wanted,hg]
 unfold wpOp
 simp only[ho,hw,if_true]
 refine .inl (e8 cX ⟨hS w' bO jI,?_⟩)
 rw[hd]
 have Np:d < σ.n:=(xd am).1
 refine next _ _ (λb i=>X b i+Fj b i) ⟨Y,⟨o,d,s,Fj,X,ho,hd,hs,?_,λb i=>Nat.le_refl _,?_⟩,List.nodup_cons.2 ⟨Ja,v.nd⟩,?_,?_,?_,v.GW,?_,qG v.cl hr,jI,λhf=>?_,v.vj,by simpa using v.oH,λk=>?_,v.D7,v.D8,v.io,v.nc kZ ho (by have:=(mem_ready.1 hr).1;rw[jX oJ] at this;exact this) (λd' iD=>by rw[eZ,if_neg (λe=>iD (by rw[hd,e.1]))]) (λe he hu=>by
  obtain ⟨_,_,_,_,_,_,_,_,_,_,_,q⟩:=v.rc e he
  exact (q (hu.imp id λhu=>Lk oJ hu)).ext bO)⟩
 ·have:tmp (a.put (some d) val) d=val:=by rw[eZ,v.h.size,if_pos ⟨rfl,Np⟩]
  rw[this];exact No
 ·refine PF.ed (λ_ _ h=>h) (λb i ha u hu=>bO.cell b i (kC hu) rfl u hu) bO.l_ D (λk hk o' d' po iD=>?_) (λb i hp=>⟨λu hu=>bO.cell b i (kC hu) rfl u hu,bO.ne b i (v.h.cW b i (.inl (by omega)))⟩) v.pf
  have:d'≠d:=λe=>bG k o' po (λe'=>by subst e';exact Ja hk) (by rw[iD,e])
  rw[eZ,if_neg (λh=>this h.1.symm)]
 ·intro k hk
  rcases List.mem_cons.1 hk with e | e
  ·subst e;exact hj
  ·exact v.xg k e
 ·intro k hk
  rcases List.mem_cons.1 hk with e | e
  ·subst e;exact GY
  ·exact v.dl k e
 ·intro k hk
  rcases List.mem_cons.1 hk with e | e
  ·subst e;exact Fl
  ·exact v.fW k e
 ·have:=Aw Ja is Fl
  have:=v.tt
  omega
 ·have:=(v.hf hf).2
  rw[this] at hj;cases hj
 ·rw[bS oJ,v.hL,List.mem_cons]
  constructor
  ·rintro (h | h | h)
   ·exact .inr (.inl h)
   ·exact .inl h
   ·exact .inr (.inr h)
  ·rintro (h | h | h)
   ·exact .inr (.inl h)
   ·exact .inl h
   ·exact .inr (.inr h)
theorem Eb (hE:iu P E) {bM:Nat} (bh:∀ o ∈ ops.toList,gI P o.op=true) {K:St->Option R} (hP:∀ c a w,¬ Q (.panic c) a w) (qH:Region.noSelect ops=true) (lD:sc E ops pd=true) (D_:eX E.pd bM=pd) {er:List (Nat×Nat)} (D9:uH E.er bM=er) (kZ:oG E ops pd er=true) :
  ∀ (is:List Nat) (l:Array Bool) (f:Bool) {C:Ctx} {σ:St},(∀ a w,Nx P C K x a w->Q .normal a w)->(∀ b i,C.A0 b i->C.F0 b i=0)->oF E bM ops pd is l f=true->rF E bM ops.toList is σ K=some x ->
   ∀ (fuel:Nat) {A:Cells} {a:Act} {w:World} {X:FP} {F:Nat->FP} {D:List Nat} {L:Array Bool} {RC:List (Nat×Nat×Nat×Nat×List Value)},Inv P E ops pd w0 C is l f σ fuel A a w X F D L er RC->jH P .any ops Q (SD E ops w0 C RC) fuel L a w:=by
 intro is
 induction is with
 | nil=>
  intro l f C σ hQ hC hg hk fuel A a w X F D L RC v
  simp only[oF,List.isEmpty_iff] at hg
  have hD:D=[]:=by
   cases D with
   | nil=>rfl
   | cons j D=>have:=v.fW j (by simp);cases this
  subst hD
  have hr:Region.ready .any ops L=[]:=by
   rw[List.eq_nil_iff_forall_not_mem]
   intro j hj
   have:=v.sd (S:=[]) (λ_ h=>h) hj (by simp)
   rw[pj,hg] at this
   cases this
  have hq:=hQ a w ⟨σ,hk,A,F,v.h.less λ_ _=>Nat.zero_le _⟩
  cases fuel with
  | zero=>exact ⟨hr,hq⟩
  | succ fuel=>exact ⟨λ_=>hq,by rw[hr];simp⟩
 | cons i is ih=>
  intro l f C σ hQ hC hg hk
  simp only[rF] at hk
  split at hk
  ·cases hk
  rename_i iV
  simp only[oF] at hg
  cases hi:ops[i]? with
  | none=>rw[hi] at hg;cases hg
  | some o=>
  rw[Array.getElem?_toList,hi] at hk
  rw[hi] at hg
  simp only at hk hg
  have za:i < ops.size:=(Array.getElem?_eq_some_iff.1 hi).1
  have sb:o ∈ ops.toList:=List.mem_of_getElem? (i:=i) (by simpa using hi)
  have Cw:∀ (fuel:Nat) {A:Cells} {a:Act} {w:World} {X:FP} {F:Nat->FP} {D:List Nat} {L:Array Bool} {RC:List (Nat×Nat×Nat×Nat×List Value)},Inv P E ops pd w0 C (i::is) l f σ fuel A a w X F D L er RC->i ∈ D->jH P .any ops Q (SD E ops w0 C RC) fuel L a w:=by
   intro fuel A a w X F D L RC v hD
   have vl:=v.xg i hD
   rw[gg.2 vl] at hg
   simp only[Bool.and_eq_true,Bool.not_eq_true'] at hg
   obtain ⟨⟨⟨ru,_⟩,_⟩,hg⟩:=hg
   have ru:i ∉ is:=λhm=>by rw[gg.2 hm] at ru;cases ru
   obtain ⟨o',d',s',po,xh,iD,xi,_⟩:=pJ lD vl
   rw[hi] at po
   injection po with po
   subst po
   obtain ⟨o2,d,s,Fi,X',g1,g2,g3,g4,g5,g6⟩:=PF.take D hD v.pf
   rw[hi] at g1
   injection g1 with g1
   subst g1
   simp only[rE,xh] at hk
   split at hk
   ·cases hk
   rw[Fc g3,g2] at hk
   split at hk
   rotate_left
   ·cases hk
   obtain ⟨F2,Y⟩:=v.h.aB (some d) g4.slot g5 g4.whole
   rw[zp] at Y
   exact ih _ f hQ hC hg hk fuel (v.Cw hD ru Y g6)
  intro fuel
  induction fuel with
  | zero=>
   intro A a w X F D L RC v
   by_cases hD:i ∈ D
   ·exact Cw 0 v hD
   ·have:=v.tt
    simp[List.filter_cons,hD] at this
  | succ fuel Nq=>
  intro A a w X F D L RC v
  by_cases hD:i ∈ D
  ·exact Cw _ v hD
  have vm:∀ e ∈ RC,pH ops L e.2.1->Has w e.2.2.1 e.2.2.2.1 e.2.2.2.2:=λe he=>by obtain ⟨_,_,_,_,_,_,_,_,_,_,_,q⟩:=v.rc e he;exact q
  have L3:∀ w',Ext w w' (λ_ _=>0)->∀ (l':Array Bool),(∀ k,l'.getD k false=false->L.getD k false=false)->((∀ d,gf E ops d=true->l'.getD d false=false)->Ext w0 w' (λ_ _=>0))->SD E ops w0 C RC l' w':=λw' ip l' Bs hh=>⟨hh,(λb i ha u hu=>by
   have:=v.h.ext.cell b i (kC hu) (hC b i ha) u hu
   exact ip.cell b i (kC this) rfl u this),λe he hu=>(vm e he (hu.imp id (Bs _))).ext ip⟩
  have Ec:∀ j,j ∈ pd->j ∈ Region.ready .any ops L->wpOp P ops Q j (λa' w'=>SD E ops w0 C RC (L.setIfInBounds j true) w'/\jH P .any ops Q (SD E ops w0 C RC) fuel (L.setIfInBounds j true) a' w') a w:=λj hj hr=>
   v.early hE lD D_ kZ iV hC hj hr (λw' ip hh=>L3 w' ip _ (λk hk=>Lk (by rw[v.oH];obtain ⟨_,oj,vg,_⟩:=mem_ready.1 hr;exact (Array.getElem?_eq_some_iff.1 vg).1) hk) hh) (λa' w' X' v'=>Nq v')
  have zr:SD E ops w0 C RC L w:=⟨v.hS,(λb i ha u hu=>v.h.ext.cell b i (kC hu) (hC b i ha) u hu),vm⟩
  cases xj:pd.any (Nat.beq i) with
  | true=>
   rw[xj] at hg
   simp only[Bool.and_eq_true,Bool.not_eq_true',List.all_eq_true] at hg
   obtain ⟨⟨⟨ru,rx⟩,wu⟩,hg⟩:=hg
   have iW:i ∈ Region.ready .any ops L:=v.t9 (by simpa using rx) hD
   refine ⟨λh0=>(by rw[h0] at iW;cases iW),λj hj=>Ec j ?_ hj⟩
   by_cases GX:j ∈ pd.filter (λj=>!Nat.beq i j)
   ·exact (List.mem_filter.1 GX).1
   ·refine gg.1 (wu j (v.sd (λk hk=>List.mem_filter.2 ⟨v.xg k hk,?_⟩) hj GX))
    cases hb:Nat.beq i k with
    | false=>rfl
    | true=>rw[Nat.eq_of_beq_eq_true hb] at hD;exact absurd hk hD
  | false=>
  rw[xj] at hg
  simp only at hg
  have Ou:i ∉ pd:=λhm=>by rw[gg.2 hm] at xj;cases xj
  have Fm:∀ j ∈ D,∀ o' d,ops[j]?=some o'->o'.dst=some d->o.dst≠some d:=λj hj o' d po iD=>by
   obtain ⟨o2,d2,s2,g1,_,g2,_,g3⟩:=pJ lD (v.xg j hj)
   rw[po] at g1;injection g1 with g1;subst g1
   rw[iD] at g2;injection g2 with g2;subst g2
   exact g3 i o hi (λe=>by subst e;exact hD hj)
  obtain ⟨b,fi,hk,h1,hw⟩:=zm v.h hk
  have Bm:(match (generalizing:=false) b with
    | true=>gL E bM i o fi λσ=>match uI E bM ops.toList i o is σ with
     | true=>rF E bM ops.toList is σ K
     | false=>none
    | false=>rF E bM ops.toList is (fi.aB o.dst (.gN [])) K)=some x/\(b=true->yD E bM i=true->yC fi o=true):=by
   cases b with
   | true=>
    simp only at hk
    cases hn:(yD E bM i&&!yC fi o) with
    | true=>rw[hn] at hk;cases hk
    | false=>
     rw[hn] at hk
     exact ⟨hk,λ_ uY=>by rw[uY] at hn;simpa using hn⟩
   | false=>exact ⟨hk,λe=>by cases e⟩
  obtain ⟨hk,L4⟩:=Bm
  have pE:∀ (val:Value),∀ j ∈ D,∀ o' d,ops[j]?=some o'->o'.dst=some d->tmp (a.put o.dst val) d=tmp a d:=λval j hj o' d po iD=>by
   have:=Fm j hj o' d po iD
   cases Jb:o.dst with
   | none=>rfl
   | some e=>rw[eZ,if_neg (λh=>this (by rw[Jb,h.1]))]
  split at hg
  ·rename_i GZ
   simp only[Bool.and_eq_true,Bool.or_eq_true,Bool.not_eq_true',List.all_eq_true,List.mem_range] at GZ
   obtain ⟨gO,⟨yc,zs⟩,rx⟩:=GZ
   have iW:i ∈ Region.ready .any ops L:=v.t9 (by simpa using zs) hD
   have vn:∀ j oj,ops[j]?=some oj->j≠i->L.getD j true=false->(∀ e ∈ oj.after,Region.binds .any e=true->e.on≠i)->o.apart ops oj=true:=λj oj vg eY iG il=>Region.free_spec hi yc j oj vg eY (v.vk iG).2.2 il
   have iH:gf E ops i=false:=by simp[gf,hi,gO]
   have tu:∀ (l':Array Bool),(∀ d,gf E ops d=true->(l'.setIfInBounds i true).getD d false=false)↔∀ d,gf E ops d=true->l'.getD d false=false:=λl'=>by
    constructor
    ·intro hh d hd
     have:=hh d hd
     rw[getD_set_ne false (λe=>by subst e;rw[iH] at hd;cases hd)] at this
     exact this
    ·intro hh d hd
     rw[getD_set_ne false (λe=>by subst e;rw[iH] at hd;cases hd)]
     exact hh d hd
   have G0:∀ (C:Ctx) (RC:List (Nat×Nat×Nat×Nat×List Value)),(∀ e ∈ RC,(e.1,e.2.1) ∈ er)->∀ l w,SD E ops w0 C RC (l.setIfInBounds i true) w↔SD E ops w0 C RC l w:=λC RC dy l' w'=>by
    unfold SD
    rw[tu]
    refine and_congr Iff.rfl (and_congr Iff.rfl (forall_congr' λe=>forall_congr' λhe=>?_))
    have bG:i≠e.2.1:=λe'=>by
     rcases (ky kZ (dy e he)).2.1 with h | ⟨h,_⟩
     ·omega
     ·rw[<-e',iH] at h;cases h
    unfold pH
    rw[getD_set_ne false bG]
   have dy:∀ e ∈ RC,(e.1,e.2.1) ∈ er:=λe he=>(v.rc e he).1
   have Kn:∀ {l':Array Bool} {u:Nat},(∃ j,(j,u) ∈ er)->(pH ops (l'.setIfInBounds i true) u->pH ops l' u):=λ{l' u} ⟨j,hj⟩ hu=>by
    have bG:i≠u:=λe'=>by
     rcases (ky kZ hj).2.1 with h | ⟨h,_⟩
     ·omega
     ·rw[<-e',iH] at h;cases h
    unfold pH at hu ⊢
    rwa [getD_set_ne false bG] at hu
   have G3:(∀ d,gf E ops d=true->(L.setIfInBounds i true).getD d false=false)->Ext w0 w (λ_ _=>0):=λhd=>v.hS ((tu L).1 hd)
   have t_:L.getD i false=false:=by
    have h0:=(mem_ready.1 iW).1
    rw[jX (by rw[v.oH];exact za)] at h0
    exact h0
   have sT:∀ (val:Value),∀ e ∈ RC,RE ops er (L.setIfInBounds i true) (a.put o.dst val) w e:=λval=>v.nc kZ hi t_ (λd hd=>by
    cases ho:o.dst with
    | none=>rfl
    | some d'=>rw[eZ,if_neg (λe=>hd (by rw[ho,e.1]))]) (λe he hu=>vm e he (Kn ⟨_,dy e he⟩ hu))
   cases b with
   | true=>
    simp only at hk
    cases Jc:yD E bM i with
    | true=>
     obtain ⟨C',c1,c2,c3,c4,c5⟩:=h1.HT
     obtain ⟨C1,f1,f2⟩:=c4.frame
     obtain ⟨val,cX,dU,eF,A2,F2,Y⟩:=HU f1 hE (bh o sb) gO (L4 rfl Jc) hk
     simp only at eF
     split at eF
     rotate_left
     ·cases eF
     have Jd:∀ b i,C'.A0 b i->C'.F0 b i=0:=λb i ha=>c3 b i (by rw[<-c2];exact ha)
     obtain ⟨e1,e2,e3,e4,e5⟩:=f2 Y
     refine pI (S:=SD E ops w0 C' RC) (λl' w' hs=>⟨hs.1,(λb i ha u hu=>hs.2.1 b i (by rw[c2];exact h1.a0 b i ha) u (by rw[c1];exact h1.ext.cell b i (kC hu) (hC b i ha) u hu)),hs.2.2⟩) _ _ _ _
      (lI hi (Region.noSelect_spec qH) (λc a w hq=>(hP c _ _ hq).elim) (G0 C' RC dy) fuel L a w vn iW v.cl (.inl ⟨hw,λw' jI=>cX w' λb i ha u hu=>?_⟩) ⟨v.hS,(λb i ha u hu=>by rw[c1] at hu;exact hu),vm⟩
      (ih _ f (λa w ⟨o9,q1,A3,F3,q2⟩=>hQ a w ⟨o9,q1,A3,F3,c5 q2⟩) Jd hg eF fuel (v.next hD iW e1 (PF.ed e2 e3 e4 D (pE val) e5 v.pf) G3 v.hf (sT val))))
     obtain ⟨l',n_,iG,jI⟩:=jI
     exact jI.2.1 b i (by rw[c2];exact ha) u (by rw[c1];exact hu)
    | false=>
    cases zt:BT E bM i with
    | true=>
     obtain ⟨u,yd⟩:∃ u,(i,u) ∈ er:=by
      unfold BT at zt
      rw[D9] at zt
      obtain ⟨e,Nr,Ns⟩:=List.any_eq_true.1 zt
      rw[Nat.eq_of_beq_eq_true Ns]
      exact ⟨e.2,Nr⟩
     obtain ⟨_,Lm,o1,t1,x1,d1,g1,_,g2,g3,g4,_⟩:=ky kZ yd
     rw[hi] at g1
     injection g1 with g1
     subst g1
     obtain ⟨C1,f1,f2⟩:=h1.frame
     obtain ⟨b0,off,L5,cs,q1,q2,q3,q4⟩:=HW f1 hE (bh o sb) g2 hk
     obtain ⟨val,cX,dU,eF,A2,F2,Y⟩:=yb hE f1 (bh o sb) gO hk
     have yU:val=L5:=by
      have r1:=cX w λ_=>Ext.refl _ _
      have r2:=q4 w q2
      rw[r1] at r2
      injection r2 with r2 _
      injection r2
     subst yU
     simp only at eF
     split at eF
     rotate_left
     ·cases eF
     rename_i ye
     obtain ⟨e1,e2,e3,e4,e5⟩:=f2 Y
     have tW:RE ops er (L.setIfInBounds i true) (a.put o.dst val) w (i,u,b0,off,cs):=by
      refine ⟨yd,(bS (by rw[v.oH];exact za)).2 (.inl rfl),o,t1,x1,d1,hi,g2,g3,?_,?_,λ_=>q2⟩
      ·rw[g3,eZ,if_neg (λe=>g4 e.1.symm)];exact q1
      ·simp only[uI,zt,Bool.or_true,Bool.not_true,Bool.false_or,BU,D9,List.all_eq_true] at ye
       have h9:=ye _ yd
       have Fg:is.any (Nat.beq i)=false:=by
        cases hb:is.any (Nat.beq i) with
        | false=>rfl
        | true=>exact absurd (gg.1 hb) (List.nodup_cons.1 v.D7).1
       have Fh:(is.any (Nat.beq u)||Nat.ble ops.toList.length u)=true:=by
        rcases Nat.lt_or_ge u ops.size with k1 | k1
        ·obtain ⟨k2,_,k3⟩:=Lm.resolve_left (by omega)
         rcases v.D8 u k1 with k4 | k4
         ·have k5:=(v.hL u).2 (.inl k4)
          have:=jW v.cl _ _ _ k3 k5
          rw[t_] at this;cases this
         ·rcases List.mem_cons.1 k4 with k5 | k5
          ·rw[k5,iH] at k2;cases k2
          ·rw[gg.2 k5,Bool.true_or]
        ·have:Nat.ble ops.toList.length u=true:=by simpa using k1
         rw[this,Bool.or_true]
       rw[Fg,Fh,Bool.not_true,Bool.false_or,Bool.false_or,Array.getElem?_toList,hi] at h9
       simp only at h9
       have tq:=(D5 Y h9 g2 g3 (b:=b0) (off:=off) (by rw[g3,eZ,if_neg (λe=>g4 e.1.symm)];exact q1)).2
       rw[g3] at tq ⊢
       rw[eZ,if_pos ⟨rfl,by simpa [Act.put] using tq⟩];exact q3
     refine pI (S:=SD E ops w0 C ((i,u,b0,off,cs)::RC)) (λl' w' hs=>⟨hs.1,hs.2.1,λe he=>hs.2.2 e (List.mem_cons_of_mem _ he)⟩) _ _ _ _
      (lI hi (Region.noSelect_spec qH) (λc a w hq=>(hP c _ _ hq).elim) (G0 C _ (λe he=>by rcases List.mem_cons.1 he with rfl | he;exact yd;exact dy e he)) fuel L a w vn iW v.cl (.inl ⟨hw,λw' jI=>?_⟩) ⟨zr.1,zr.2.1,λe he hu=>?_⟩
      (ih _ f hQ hC hg eF fuel (v.next hD iW e1 (PF.ed e2 e3 e4 D (pE val) e5 v.pf) G3 v.hf (λe he=>?_))))
     ·obtain ⟨l',n_,iG,jI⟩:=jI
      refine q4 w' (jI.2.2 _ List.mem_cons_self ?_)
      rcases Lm with k1 | ⟨_,_,k3⟩
      ·exact .inl k1
      ·right
       show l'.getD u false=false
       cases Je:l'.getD u false with
       | false=>rfl
       | true=>
        have:=jW n_ _ _ _ k3 Je
        rcases Nat.lt_or_ge i l'.size with h' | h'
        ·simp[h'] at this iG;rw[iG] at this;cases this
        ·simp[Array.getElem?_eq_none h'] at this
     ·rcases List.mem_cons.1 he with rfl | he
      ·exact q2
      ·exact vm e he hu
     ·rcases List.mem_cons.1 he with rfl | he
      ·exact tW
      ·exact sT val e he
    | false=>
    obtain ⟨C1,f1,f2⟩:=h1.frame
    obtain ⟨val,cX,dU,eF,A2,F2,Y⟩:=yb hE f1 (bh o sb) gO hk
    simp only at eF
    split at eF
    rotate_left
    ·cases eF
    obtain ⟨e1,e2,e3,e4,e5⟩:=f2 Y
    refine lI hi (Region.noSelect_spec qH) (λc a w hq=>(hP c _ _ hq).elim) (G0 C RC dy) fuel L a w vn iW v.cl (.inl ⟨hw,λw' jI=>cX w' λhr=>?_⟩) zr (ih _ f hQ hC hg eF fuel (v.next hD iW e1 (PF.ed e2 e3 e4 D (pE val) e5 v.pf) G3 v.hf (sT val)))
    rcases rx with ((rx | rx) | rx) | ⟨gn,L6⟩
    ·rw[hr] at rx;cases rx
    ·rw[Jc] at rx;cases rx
    ·rw[zt] at rx;cases rx
    ·rw[(v.hf gn).1]
     obtain ⟨l',n_,iG,jI⟩:=jI
     refine jI.1 λd hd=>?_
     have Nt:d < ops.size:=by
      unfold gf at hd
      split at hd
      ·rename_i od Jb;exact (Array.getElem?_eq_some_iff.1 Jb).1
      ·cases hd
     rcases L6 d Nt with hh | hh
     ·rw[hd] at hh;cases hh
     ·cases Je:l'.getD d false with
      | false=>rfl
      | true=>
       have:=jW n_ _ _ _ hh Je
       rcases Nat.lt_or_ge i l'.size with h' | h'
       ·simp[h'] at this iG;rw[iG] at this;cases this
       ·simp[Array.getElem?_eq_none h'] at this
   | false=>
    obtain ⟨F2,Y⟩:=wt h1 o
    exact lI hi (Region.noSelect_spec qH) (λc a w hq=>(hP c _ _ hq).elim) (G0 C RC dy) fuel L a w vn iW v.cl (v:=undef) (.inr ⟨hw,rfl⟩) zr (ih _ f hQ hC hg hk fuel (v.next hD iW Y (PF.ed (λ_ _ h=>h) (λ_ _ _ _ h=>h) (λ_ _ h=>h) D (pE undef) (λ_ _ _=>⟨λ_ h=>h,rfl⟩) v.pf) G3 v.hf (sT undef)))
  ·simp only[Bool.and_eq_true,List.all_eq_true] at hg
   obtain ⟨⟨zs,wu⟩,hg⟩:=hg
   have iW:i ∈ Region.ready .any ops L:=v.t9 (by simpa using zs) hD
   have Cx:i < L.size:=by rw[v.oH];exact za
   have t_:L.getD i false=false:=by
    have h0:=(mem_ready.1 iW).1
    rw[jX Cx] at h0
    exact h0
   refine ⟨λh0=>(by rw[h0] at iW;cases iW),λj hj=>?_⟩
   by_cases Ln:j ∈ pd
   ·exact Ec j Ln hj
   have iB:i=j:=Nat.eq_of_beq_eq_true (wu j (v.sd v.xg hj Ln))
   subst iB
   unfold wpOp
   simp only[hi,hw]
   have hold:∀ {d},(L.setIfInBounds i true).getD d false=false->L.getD d false=false:=λ{d} hh=>by
    cases hl:L.getD d false with
    | false=>rfl
    | true=>rw[(bS Cx).2 (.inr hl)] at hh;cases hh
   have tQ:(L.setIfInBounds i true).getD i false=true:=(bS Cx).2 (.inl rfl)
   cases b with
   | true=>
    simp only[if_true]
    obtain ⟨C1,f1,f2⟩:=h1.frame
    have pk:∀ w',(∀ b i,A b i->∀ u,ce w b i=some u->ce w' b i=some u)->∀ b i,C.A0 b i->∀ u,ce C.w0 b i=some u->ce w' b i=some u:=λw' he b i ha u hu=>he b i (v.h.a0 b i ha) u (v.h.ext.cell b i (kC hu) (hC b i ha) u hu)
    cases gO:ko E o.op with
    | true=>
     refine .inl (Oper.wp_mono (λa' w' hn=>?_) (D3 (HV (yb hE f1 (bh o sb) gO hk))))
     obtain ⟨ht,Nu,dU,eF,A2,F2,Y⟩:=hn
     subst Nu
     simp only at eF
     split at eF
     rotate_left
     ·cases eF
     obtain ⟨e1,e2,e3,e4,e5⟩:=f2 Y
     have jI:(∀ d,gf E ops d=true->(L.setIfInBounds i true).getD d false=false)->Ext w0 w (λ_ _=>0):=λhd=>v.hS λd tu=>hold (hd d tu)
     exact ⟨⟨jI,pk _ e3,λe he hu=>vm e he (hu.imp id hold)⟩,ih _ false hQ hC hg eF fuel (v.next hD iW e1 (PF.ed e2 e3 e4 D (λj hj o' d po iD=>ht d (Fm j hj o' d po iD)) e5 v.pf) jI (λe=>by cases e) (v.nc kZ hi t_ ht λe he hu=>vm e he (hu.imp id hold)))⟩
    | false=>
    refine .inl (Oper.wp_mono (λa' w' hn=>?_) (D3 (D2 hE f1 (bh o sb) gO hk)))
    obtain ⟨ht,⟨dU,eF,A2,F2,Y⟩,hq⟩:=hn
    simp only at eF
    split at eF
    rotate_left
    ·cases eF
    rename_i ye
    obtain ⟨e1,e2,e3,e4,e5⟩:=f2 Y
    have jI:(∀ d,gf E ops d=true->(L.setIfInBounds i true).getD d false=false)->Ext w0 w' (λ_ _=>0):=λhd=>by
     have Jf:quiet E o.op=true:=by
      cases Jf:quiet E o.op with
      | true=>rfl
      | false=>
       have Nv:gf E ops i=true:=by simp[gf,hi,gO,Jf]
       have:=hd i Nv
       rw[tQ] at this;cases this
     exact (v.hS λd tu=>hold (hd d tu)).trans (hq Jf) (λ_ _ _ _=>rfl)
    have Jg:=v.still kZ D9 hi t_ Y ht (λhm=>hq (quiet_of hk hm gO)) ye
    exact ⟨⟨jI,pk _ e3,Jg⟩,ih _ false hQ hC hg eF fuel (v.next hD iW e1 (PF.ed e2 e3 e4 D (λj hj o' d po iD=>ht d (Fm j hj o' d po iD)) e5 v.pf) jI (λe=>by cases e) (v.nc kZ hi t_ ht Jg))⟩
   | false=>
    simp only[Bool.false_eq_true,if_false]
    obtain ⟨F2,Y⟩:=wt h1 o
    have jI:(∀ d,gf E ops d=true->(L.setIfInBounds i true).getD d false=false)->Ext w0 w (λ_ _=>0):=λhd=>v.hS λd tu=>hold (hd d tu)
    exact ⟨⟨jI,zr.2.1,λe he hu=>vm e he (hu.imp id hold)⟩,ih _ false hQ hC hg hk fuel (v.next hD iW Y (PF.ed (λ_ _ h=>h) (λ_ _ _ _ h=>h) (λ_ _ h=>h) D (pE undef) (λ_ _ _=>⟨λ_ h=>h,rfl⟩) v.pf) jI (λe=>by cases e) (v.nc kZ hi t_ (λd hd=>by
     cases ho:o.dst with
     | none=>rfl
     | some d'=>rw[eZ,if_neg (λe=>hd (by rw[ho,e.1]))]) λe he hu=>vm e he (hu.imp id hold)))⟩
end
theorem HX (hE:iu P E) (hm:P.follows .mixedOrders=true) {bM id:Nat} {ops:Array Oper} (bh:∀ o ∈ ops.toList,gI P o.op=true) {is bx:List Nat} (hd:zo E bM ops is=true) (h:bd P C A σ a w F) {K:St->Option R} (hk:AW σ bx (λσ=>Di ops.toList σ (eX E.pd bM) λσ=>rF E bM ops.toList is σ K)=some x)
  (hQ:∀ a w,Nx P C K x a w->Q .normal a w) (hP:∀ c a w,¬ Q (.panic c) a w):(Code.region id ops true).wp P Q a w:=by
 simp only[zo,Bool.and_eq_true,Nat.ble_eq] at hd
 obtain ⟨⟨⟨⟨qH,hlen⟩,lD,L7⟩,⟨iH,L8⟩,kZ⟩,hg⟩:=hd
 have h0:=h.drew
 obtain ⟨A1,fi,F1,hk,h1⟩:=GV bx h0 hk
 obtain ⟨dU,F2,hk,h1⟩:=Km (eX E.pd bM) h1 hk
 obtain ⟨C',c1,c2,c3,c4,c5⟩:=h1.I9
 have Jd:∀ b i,C'.A0 b i->C'.F0 b i=0:=λb i ha=>c3 b i (by rw[<-c2];exact ha)
 have Bl:∀ k,(Array.replicate ops.size false).getD k false=false:=λk=>by
  by_cases hk:k < ops.size <;> simp[hk]
 refine wp_region_any hm (vf _ _ _ _ (Eb hE bh hP qH lD rfl rfl kZ is _ _ (λa w ⟨o9,q1,A3,F3,q2⟩=>hQ a w ⟨o9,q1,A3,F3,c5 q2⟩) Jd hg hk ops.size (w0:=w.drew) (D:=[]) (RC:=[]) ⟨c4,trivial,List.nodup_nil,(λ_ h=>by cases h),(λ_ h=>by cases h),(λ_ h=>by cases h),λj hj=>.inr (gg.1 (List.all_eq_true.1 L7 j hj)),
  Nat.le_trans (List.length_filter_le _ _) hlen,λj o hj hl=>?_,λ_=>Ext.refl _ _,λhf=>⟨rfl,?_⟩,by simp,by simp,(λk=>by simp),tr iH,λk hk=>.inr (gg.1 (List.all_eq_true.1 L8 k (List.mem_range.2 hk))),λk _=>Bl k,λe he=>by cases he⟩))
 ·rw[Bl] at hl;cases hl
 ·split at hf
  ·assumption
  ·cases hf
end
end OT
set_option linter.unusedVariables false
set_option linter.unusedSimpArgs false
namespace OT
open Go
section
variable {P:Program} {C:Ctx} {A:Cells} {X:FP} {σ:St} {a:Act} {w:World} {F:Nat->FP} {R:Type} {x:R} {E:Env}
theorem zu (f:Nat->Slot):∀ (live:List Nat) (i:Nat),eG (live.map λj=>(j,f j)) i=if live.any (Nat.beq i) then some (f i) else none
 | [],i=>rfl
 | j::live,i=>by
  simp only[List.map_cons,eG,List.any_cons]
  by_cases iB:i=j
  ·simp_all
  ·have h1:Nat.beq j i=false:=by
    grind [Nat.eq_of_beq_eq_true]
   have Y:Nat.beq i j=false:=by
    grind [Nat.eq_of_beq_eq_true]
   simp only[h1,Y,Bool.false_eq_true,if_false,Bool.false_or,zu f live i]
theorem oK (live:List Nat) (fr:List (Nat×Md)) (σ:St) (i:Nat):(dg live fr σ).get i=if i < σ.n/\live.any (Nat.beq i)=true then o6 fr i (db live fr σ i) else .dead:=by
 unfold St.get dg
 simp only[zu]
 grind [Nat.blt_eq]
theorem qJ (live:List Nat) (fr:List (Nat×Md)) (σ:St) (i:Nat):(dg live fr σ).da i=[0,0,0,0,0]:=rfl
theorem qK {s:List Nat} (h:s.length<=5):Below (s.map λ_=>0) [0,0,0,0,0]:=by
 intro j y hj
 grind
theorem qL {live:List Nat} {fr:List (Nat×Md)} {r:Nat} (hr:rG live fr r=true) {p:Path} {pl:Pl} (hp:place σ a w r p=some pl):place (dg live fr σ) a w r p=some pl:=by
 grind [iT,rG,place,oK,o6,db,ba]
theorem Ed {live:List Nat} {fr:List (Nat×Md)} {i:Nat} {G:FP} (hs:aQ P A σ a w (tmp a i) (σ.get i) G) (hG:∀ b k,G b k<=1) :
  ∃ G':FP,(∀ b k,G' b k<=G b k)/\∀ A':Cells,(∀ b k,A b k->A' b k)->(∀ b k,1<=G b k->G' b k=0->A' b k)->aQ P A' (dg live fr σ) a w (tmp a i) (o6 fr i (db live fr σ i)) G':=by
 have same:∀ b k,A b k->∀ u,ce w b k=some u->ce w b k=some u:=λ_ _ _ _ h=>h
 have dead:o6 fr i .dead=.dead:=by grind [o6]
 have qM:∀ {s:Slot},(∀ t m H v,s≠.own t m H v)->(∀ t m H v,s≠.box t m H v)->o6 fr i s=s:=λ{s} h1 Y=>by
  grind [o6]
 cases hg:σ.get i with
 | dead=>exact ⟨λ_ _=>0,λ_ _=>Nat.zero_le _,λA' _ _=>by simp only[db,hg,dead];trivial⟩
 | lh=>
  rw[hg] at hs
  exact ⟨λ_ _=>0,λ_ _=>Nat.zero_le _,λA' _ _=>by simp only[db,hg];rw[qM (by intros;simp) (by intros;simp)];exact hs⟩
 | val t v=>
  rw[hg] at hs
  obtain ⟨cs,h1,Y⟩:=hs
  exact ⟨λ_ _=>0,λ_ _=>Nat.zero_le _,λA' hA _=>by simp only[db,hg];rw[qM (by intros;simp) (by intros;simp)];exact ⟨cs,h1,Ro.mono same hA t Y⟩⟩
 | cp t v=>
  rw[hg] at hs
  exact ⟨λ_ _=>0,λ_ _=>Nat.zero_le _,λA' hA _=>by simp only[db,hg];rw[qM (by intros;simp) (by intros;simp)];exact Ro.mono same hA (.ptr t) hs⟩
 | own t m H v=>
  rw[hg] at hs
  obtain ⟨cs,h1,Y⟩:=hs
  have hk:db live fr σ i=.own t m H v:=by grind [db]
  rw[hk]
  unfold o6
  split
  ·exact ⟨G,λ_ _=>Nat.le_refl _,λA' hA _=>⟨cs,h1,ae.mono hA same (λ_ _ h=>h) t Y (λ_ _=>Nat.le_refl _) (λ_ _ _ _ h=>h)⟩⟩
  ·rename_i m1 hm
   simp only
   split
   ·rename_i hc
    simp only[Bool.and_eq_true,List.isEmpty_iff] at hc
    obtain ⟨hH,hf⟩:=hc
    subst hH
    obtain ⟨G1,g1,g2⟩:=ae.fits t hf Y hG
    refine ⟨G1,g1,λA' hA pp=>?_⟩
    have hr:=g2 A' hA pp
    split
    ·rename_i e;subst e;exact ⟨cs,h1,ae.ro t (bI t) hr⟩
    ·exact ⟨cs,h1,hr⟩
   ·exact ⟨λ_ _=>0,λ_ _=>Nat.zero_le _,λA' _ _=>trivial⟩
 | box t m H v=>
  rw[hg] at hs
  obtain ⟨b,o,L,F1,s1,s2,s3,s4,s5,s6⟩:=hs
  have hk:db live fr σ i=.box t m H v:=by grind [db]
  rw[hk]
  unfold o6
  split
  ·exact ⟨G,λ_ _=>Nat.le_refl _,λA' hA _=>⟨b,o,L,F1,s1,s2,s3,s4,s5,ae.mono hA same (λ_ _ h=>h) t s6 (λ_ _=>Nat.le_refl _) (λ_ _ _ _ h=>h)⟩⟩
  ·rename_i m1 hm
   simp only
   split
   ·rename_i hc
    simp only[Bool.and_eq_true,List.isEmpty_iff] at hc
    obtain ⟨hH,hf⟩:=hc
    subst hH
    obtain ⟨G1,g1,g2⟩:=ae.fits t hf s6 (λb' k=>by grind)
    refine ⟨λb' k=>bm b o t.sz b' k+G1 b' k,λb' k=>by grind,λA' hA pp=>⟨b,o,L,G1,s1,s2,s3,s4,λ_ _=>Nat.le_refl _,g2 A' hA λb' k hp hz=>?_⟩⟩
    grind
   ·exact ⟨λ_ _=>0,λ_ _=>Nat.zero_le _,λA' _ _=>trivial⟩
 | ref r p snap=>
  rw[hg] at hs
  refine ⟨λ_ _=>0,λ_ _=>Nat.zero_le _,λA' _ _=>?_⟩
  simp only[db,hg]
  split
  ·rename_i hc
   simp only[Bool.and_eq_true] at hc
   rw[qM (by intros;simp) (by intros;simp)]
   obtain ⟨pl,h1,Y,h3⟩:=hs.2 hc.1
   have hl:snap.length<=5:=by grind
   exact ⟨by grind [qJ,qK],λ_=>⟨pl,qL hc.2 h1,Y,by simpa using h3⟩⟩
  ·rw[dead];trivial
 | ptr r p snap=>
  rw[hg] at hs
  refine ⟨λ_ _=>0,λ_ _=>Nat.zero_le _,λA' _ _=>?_⟩
  simp only[db,hg]
  split
  ·rename_i hc
   simp only[Bool.and_eq_true] at hc
   rw[qM (by intros;simp) (by intros;simp)]
   obtain ⟨pl,b,o,h1,Y,h3,h4⟩:=hs.2 hc.1
   have hl:snap.length<=5:=by omega
   exact ⟨by grind [qJ,qK],λ_=>⟨pl,b,o,qL hc.2 h1,Y,h3,by simpa using h4⟩⟩
  ·rw[dead];trivial
 | sub r p snap lo hi=>
  rw[hg] at hs
  refine ⟨λ_ _=>0,λ_ _=>Nat.zero_le _,λA' _ _=>?_⟩
  simp only[db,hg]
  split
  ·rename_i hc
   simp only[Bool.and_eq_true] at hc
   rw[qM (by intros;simp) (by intros;simp)]
   obtain ⟨pl,e,xa,n,cap,kw,cap',h1,Y,h3,h4,h5,h6,h7,h8,h9,tq,Ea⟩:=hs.2 hc.1
   have hl:snap.length<=5:=by grind
   exact ⟨by grind [qJ,qK],λ_=>⟨pl,e,xa,n,cap,kw,cap',qL hc.2 h1,Y,h3,h4,h5,h6,h7,h8,h9,tq,by simpa using Ea⟩⟩
  ·rw[dead];trivial
 | gN xs=>
  rw[hg] at hs
  obtain ⟨vs,Fi,h1,Y,h3⟩:=hs
  refine ⟨G,λ_ _=>Nat.le_refl _,λA' hA _=>?_⟩
  simp only[db,hg]
  rw[qM (by intros;simp) (by intros;simp)]
  exact ⟨vs,Fi,h1,Y,λj y hy=>by
   obtain ⟨v,g1,g2⟩:=h3 j y hy
   exact ⟨v,g1,g2.imp id λ⟨cs,g3,g4⟩=>⟨cs,g3,ae.mono hA same (λ_ _ h=>h) _ g4 (λ_ _=>Nat.le_refl _) (λ_ _ _ _ h=>h)⟩⟩⟩
theorem ua (h:bd P C A σ a w F) (live:List Nat) (fr:List (Nat×Md)):rT P C (dg live fr σ) a w:=by
 have hle:∀ i,i < σ.n->∀ b k,F i b k<=1:=λi hi b k=>by have:=h.fA b k;grind [aW]
 have each:∀ i,∃ G':FP,(∀ b k,i < σ.n->G' b k<=F i b k)/\(¬ i < σ.n->∀ b k,G' b k=0)/\∀ A':Cells,(∀ b k,A b k->A' b k)->(∀ b k,1<=F i b k->G' b k=0->A' b k)->i < σ.n->aQ P A' (dg live fr σ) a w (tmp a i) ((dg live fr σ).get i) G':=by
  intro i
  by_cases hi:i < σ.n
  ·by_cases hl:live.any (Nat.beq i)=true
   ·obtain ⟨G',g1,g2⟩:=Ed (live:=live) (fr:=fr) (h.bX i hi) (hle i hi)
    exact ⟨G',λb k _=>g1 b k,λhn=>absurd hi hn,λA' hA pp _=>by grind [oK]⟩
   ·exact ⟨λ_ _=>0,λ_ _ _=>Nat.zero_le _,λ_ _ _=>rfl,λA' _ _ _=>by rw[oK,if_neg (λhc=>hl hc.2)];trivial⟩
  ·exact ⟨λ_ _=>0,λ_ _ _=>Nat.zero_le _,λ_ _ _=>rfl,λA' _ _ jj=>absurd jj hi⟩
 obtain ⟨F',Jh⟩:=Classical.axiomOfChoice each
 have fV:∀ b k,al σ.n F' b k<=al σ.n F b k:=λb k=>v_ b k λj hj=>(Jh j).1 b k hj
 refine ⟨λb k=>A b k\/∃ j,j < σ.n/\1<=F j b k/\F' j b k=0,F',?_⟩
 have hold:∀ {b k j},j < σ.n->1<=F j b k->1<=0+al σ.n F b k:=λ{b k j} hj hp=>by grind [aW]
 refine ⟨h.size,h.defers,λi hi=>(Jh i).2.2 _ (λ_ _ h=>.inl h) (λb k hp hz=>.inr ⟨i,hi,hp,hz⟩) hi,(λd r p snap hm=>by cases hm),λb k=>by have:=h.fA b k;have:=fV b k;show 0+al σ.n F' b k<=1;omega,λb k hp ha=>?_,λb k hp=>?_,
  λi=>by rw[qJ];rfl,h.ext,λb k hp=>h.own b k (by have:=fV b k;have hp:1<=0+al σ.n F' b k:=hp;grind),λb k ha=>.inl (h.a0 b k ha),λb k ha=>?_,h.fe,λr t m H v hg hl=>?_,λj k hm R' fB=>?_,h.lu⟩
 ·have hp:1<=0+al σ.n F' b k:=hp
  rcases ha with ha | ⟨j,hj,h1,Y⟩
  ·exact h.fW b k (by grind) ha
  ·obtain ⟨i,hi,xj⟩:=yG (show 1<=al σ.n F' b k by omega)
   have bG:i≠j:=λe=>by grind
   have:=iS F hi hj bG b k
   have:=(Jh i).1 b k hi
   have:=h.fA b k
   omega
 ·rcases hp with hp | (ha | ⟨j,hj,h1,_⟩)
  ·exact h.cW b k (.inl (by have:=fV b k;have hp:1<=0+al σ.n F' b k:=hp;grind))
  ·exact h.cW b k (.inr ha)
  ·exact h.cW b k (.inl (hold hj h1))
 ·rcases ha with ha | ⟨j,hj,h1,_⟩
  ·exact h.J b k ha
  ·exact .inr (h.own b k (hold hj h1))
 ·rw[oK] at hg
  split at hg
  ·have:∃ m0 H0 v0,σ.get r=.box t m0 H0 v0:=by
    grind [o6,db]
   obtain ⟨m0,H0,v0,IF⟩:=this
   exact h.whole r t m0 H0 v0 IF hl
  ·cases hg
 ·have B8:ba w (tmp a j) (σ.get j)=some R'\/∃ H0,ba w (tmp a j) (σ.get j)=some { R' with H:=H0 }:=by
   rw[oK] at fB
   split at fB
   ·unfold o6 at fB
    split at fB
    ·grind [db,ba]
    ·split at fB
     ·grind [db,ba]
     ·rename_i t0 m0 H0 v0 hk
      have to:σ.get j=.box t0 m0 H0 v0:=by
       grind [db]
      split at fB
      all_goals simp_all [ba]
     grind [ba]
   grind [ba]
  rcases B8 with hr | ⟨H0,hr⟩
  ·exact h.eB j k hm R' hr
  ·have:=h.eB j k hm _ hr
   exact this
theorem HY (live:List Nat) (σ:St):nc live σ=dg live [] σ:=rfl
theorem HZ (h:bd P C A σ a w F) (live:List Nat):rT P C (nc live σ) a w:=by grind [HY,ua]
end
end OT
set_option linter.unusedVariables false
set_option linter.unusedSimpArgs false
namespace OT
open Go
def QK (P:Program) (C:Ctx) {R:Type} (K:Ex->St->Option R) (fin:St->Option R) (x:R):Exit->Act->World->Prop
 | .normal,a,w=>∃ σ,K .normal σ=some x/\rT P C σ a w
 | .exit id,a,w=>∃ σ,K (.exit id) σ=some x/\rT P C σ a w
 | .ret,a,w=>∃ σ,fin σ=some x/\rT P C σ a w
 | _,_,_=>False
noncomputable def codeOk (P:Program) (E:Env):Code->Bool
 | .skip=>true
 | .region id ops d=>ops.toList.all (λo=>gI P o.op)&&(match d with
  | false=>true
  | true=>P.follows .mixedOrders&&zo E id ops (eX E.od id))
 | .seq a b=>codeOk P E a&&codeOk P E b
 | .cond c a b=>aZ P c&&codeOk P E a&&codeOk P E b
 | .block _ b=>codeOk P E b
 | .loop b=>codeOk P E b
 | .scope b=>codeOk P E b
 | .exit _=>true
 | .ret=>true
 | _=>true
section
variable {P:Program} {C:Ctx} {R:Type} {x:R} {E:Env} {fin:St->Option R} {n:Nat}
theorem H6 (hE:iu P E):∀ (c:Code),codeOk P E c=true->∀ {σ:St} {A:Cells} {a:Act} {w:World} {F:Nat->FP} {K:Ex->St->Option R},bd P C A σ a w F->jv E n fin c σ K=some x->c.wp P (QK P C K fin x) a w:=by
 intro c
 induction c with
 | skip=>intro _ σ A a w F K h hk;exact wp_skip ⟨σ,hk,A,F,h⟩
 | region id ops d=>
  intro hc σ A a w F K h hk
  simp only[codeOk,Bool.and_eq_true] at hc
  have bh:∀ o ∈ ops.toList,gI P o.op=true:=λo ho=>List.all_eq_true.1 hc.1 o ho
  cases d with
  | false=>exact D4 hE bh h hk (λa w ⟨σ',h1,A',F',Y⟩=>by
    obtain ⟨A2,dU,F2,h3,h4⟩:=GV _ Y h1
    exact ⟨dU,h3,A2,F2,h4⟩)
  | true=>
   have Y:=hc.2
   simp only[Bool.and_eq_true] at Y
   exact HX hE Y.1 bh Y.2 h hk (λa w ⟨σ',h1,Y⟩=>⟨σ',h1,Y⟩) (λc a w hq=>hq)
 | seq a b d_ dT=>
  intro hc σ A ac w F K h hk
  simp only[codeOk,Bool.and_eq_true] at hc
  refine wp_seq (wp_mono (d_ hc.1 h hk) λe a' w' hq=>?_)
  cases e with
  | normal=>obtain ⟨σ',h1,A',F',Y⟩:=hq;exact dT hc.2 Y h1
  | exit j=>obtain ⟨σ',h1,Y⟩:=hq;exact ⟨σ',h1,Y⟩
  | ret=>exact hq
  | _=>exact hq.elim
 | cond c a b d_ dT=>
  intro hc σ A ac w F K h hk
  simp only[codeOk,Bool.and_eq_true] at hc
  simp only[jv] at hk
  rcases bt h hc.1.1 with hs | ⟨xs,e⟩
  rotate_left
  ·rw[e] at hk;cases hk
  grind [uS,wp_cond_true,wp_cond_false]
 | block id b ih=>
  intro hc σ A ac w F K h hk
  refine wp_block (wp_mono (ih hc h hk) λe a' w' hq=>?_)
  cases e with
  | normal=>exact hq
  | exit j=>
   obtain ⟨σ',h1,Y⟩:=hq
   simp only[ag] at h1
   simp only[Exit.inBlock]
   by_cases hj:j=id
   ·subst hj
    rw[if_pos (by simp)] at h1
    rw[if_pos rfl]
    exact ⟨σ',h1,Y⟩
   ·have:Nat.beq j id=false:=by
     grind [Nat.eq_of_beq_eq_true]
    rw[this,if_neg (by simp)] at h1
    rw[if_neg hj]
    exact ⟨σ',h1,Y⟩
  | ret=>exact hq
  | _=>exact hq.elim
 | loop b ih=>
  intro hc σ A ac w F K h hk
  simp only[jv] at hk
  have key:∀ (m:Nat) (σ:St) (ac:Act) (w:World),rT P C σ ac w->sN (jv E n fin b) (dg (eX E.lv (hO b)) (BW E.lf (hO b))) K m σ=some x->Code.rounds P b (QK P C K fin x) m ac w:=by
   intro m
   induction m with
   | zero=>intro σ ac w h hk;cases hk
   | succ m IT=>
    intro σ ac w h hk
    obtain ⟨A',F',h⟩:=h
    rw[rounds_succ]
    refine wp_mono (ih hc h hk) λe a' w' hq=>?_
    cases e with
    | normal=>
     obtain ⟨σ',h1,A2,F2,Y⟩:=hq
     exact IT _ a' w' (ua Y _ _) h1
    | exit j=>exact hq
    | ret=>exact hq
    | _=>exact hq.elim
  exact wp_loop_rounds n (key n _ ac w (ua h _ _) hk)
 | scope b ih=>
  intro hc σ A ac w F K h hk
  refine wp_scope_straight (wp_mono (ih hc h hk) λe a' w' hq=>?_)
  cases e with
  | normal=>exact hq
  | exit j=>exact hq
  | ret=>exact hq
  | _=>exact hq.elim
 | exit id=>
  intro hc σ A ac w F K h hk
  exact wp_exit ⟨_,hk,HZ h _⟩
 | ret=>
  intro hc σ A ac w F K h hk
  exact wp_ret ⟨σ,hk,A,F,h⟩
 | _=>grind [jv]
end
end OT
set_option linter.unusedVariables false
set_option linter.unusedSimpArgs false
namespace OT
open Go
section
variable {P:Program} {C:Ctx} {A:Cells} {X:FP} {σ:St} {a:Act} {w:World} {F:Nat->FP} {R:Type} {x:R} {E:Env}
def qN (tmps:Array Value):ResultVar->Sem Value
 | .tmp t=>pure (tmps.getD t undef)
 | .cell a t=>do loadVar t (<- asAddr (tmps.getD a undef))
theorem zw {α:Type} (f:α->Sem Value):∀ (l:List α) (vs:List Value),l.length=vs.length->(∀ (j:Nat) (y:α) (v:Value),l[j]?=some y->vs[j]?=some v->(f y).run P w=.ok v w)->(l.mapM f).run P w=.ok vs w
 | [],[],_,_=>rfl
 | y::l,v::vs,hl,h=>by
  have h0:=h 0 y v rfl rfl
  have ih:=zw f l vs (by simpa using hl) (λj y v hy hv=>h (j+1) y v hy hv)
  simp_all
 | [],_::_,h,_=>by simp at h
 | _::_,[],h,_=>by simp at h
theorem Ax {fn:Func} {tmps:Array Value} {vs:List Value} (hl:fn.results.toList.length=vs.length) (h:∀ (j:Nat) (y:ResultVar) (v:Value),fn.results.toList[j]?=some y->vs[j]?=some v->(qN tmps y).run P w=.ok v w) :
  (results fn tmps).run P w=.ok (if h:vs.toArray.size=1 then vs.toArray[0] else .tuple vs.toArray) w:=by
 have h1:=zw (P:=P) (w:=w) (qN tmps) fn.results.toList vs hl h
 have Y:(fn.results.mapM (qN tmps)).run P w=.ok vs.toArray w:=by
  have e:fn.results=fn.results.toList.toArray:=by simp
  rw[e,List.mapM_toArray,map_eq_pure_bind,Sem.run_bind,h1,Result.andThen_ok,Sem.run_pure]
 have e:results fn tmps=(do
  let vs <- fn.results.mapM (qN tmps)
  pure (if h:vs.size=1 then vs[0] else .tuple vs)):=by
  unfold results
  congr 1
 simp_all
def ub (E:Env):List (Ty×Md)->List ResultVar->Bool
 | [],[]=>true
 | _::rs,.tmp _::xs=>ub E rs xs
 | (t,_)::rs,.cell _ ty::xs=>(match E.TI ty with
  | some T=>decide (T=t)
  | none=>false)&&ub E rs xs
 | _,_=>false
theorem Ko (hE:iu P E) (h:Rel P C A X σ a w F) {rv:ResultVar} {t:Ty} (oy:∀ b ty,rv=.cell b ty->E.TI ty=some t) {mv:Bool} {K:Md->t.den->St->Option R} (hk:dR σ (uJ σ rv) mv t K=some x) :
  ∃ (tv:Value),(qN a.tmps rv).run P w=.ok tv w/\∃ (A':Cells) (σ':St) (F':Nat->FP) (m:Md) (v:t.den) (cs:List Value) (Fv:FP),K m v σ'=some x/\(∀ b i,A b i->A' b i)/\Rel P C A' (λb i=>X b i+Fv b i) σ' a w F'/\tv=aY t cs/\ae P w A' t m [] v cs Fv:=by
 cases rv with
 | tmp i=>
  rcases bt h (o:=.tmp i) rfl with hs | ⟨xs,e⟩
  rotate_left
  ·grind [uJ,dR]
  obtain ⟨A',σ',F',m,v,cs,Fv,k1,k2,k3,k4,kr,k5,k6⟩:=jk h hs hk
  exact ⟨_,rfl,A',σ',F',m,v,cs,Fv,k1,k2,k3,k5,k6⟩
 | cell i ty=>
  have hT:=oy i ty rfl
  have cn:=hE.ti _ _ hT
  simp only[uJ] at hk
  split at hk
  ·rename_i t0 m0 H0 v0 hg
   have hi:i < σ.n:=by
    grind [dN]
   have hs:=h.bX i hi
   rw[hg] at hs
   obtain ⟨b,o,L,F1,s1,s2,s3,s4,s5,s6⟩:=hs
   have cI:place σ a w i []=some ⟨t0,H0,L,some (b,o)⟩:=by
    grind [place,ba,bq,ay]
   have x_:aQ P A σ a w (aY t0 L) (.ref i [] (σ.da i)) (λ_ _=>0):=⟨Below.refl _,λ_=>⟨_,cI,rfl,.inr (h.dK i)⟩⟩
   have ht:t0=t:=by
    grind [dR,du,aP]
   subst ht
   obtain ⟨A',σ',F',m,v,cs,Fv,k1,k2,k3,k4,kr,k5,k6⟩:=jk h x_ hk
   refine ⟨aY t0 L,?_,A',σ',F',m,v,cs,Fv,k1,k2,k3,k5,k6⟩
   have e:a.tmps.getD i undef=.pointer (some ⟨b,o,none⟩):=s1
   grind [mB,ae.one,qN,asAddr]
  grind [dR]
theorem Ji (hE:iu P E) {ts:List Ty} {mv:Nat->Bool} {fin:St->((bB ts).den->Option R)->Option R}:∀ (rs:List (Ty×Md)) (pS:List ResultVar) (j:Nat) {σ:St} {A:Cells} {X:FP} {F:Nat->FP} {K:(bB (rs.map (·.1)++ts)).den->Option R},
  ub E rs pS=true->Rel P C A X σ a w F->BX σ ts mv fin rs pS j K=some x ->
  ∃ (A':Cells) (σ':St) (X':FP) (F':Nat->FP) (qO:List Value) (L:List uB) (Fi:Nat->FP) (pre:(bB ts).den->(bB (rs.map (·.1)++ts)).den),(∀ b i,A b i->A' b i)/\Rel P C A' X' σ' a w F'/\fin σ' (λy=>K (pre y))=some x/\(∀ y,di rs (pre y)=(L,y)) /\
   qO.length=L.length/\qO.length=pS.length/\(∀ (k:Nat) (y:ResultVar) (v:Value),pS[k]?=some y->qO[k]?=some v->(qN a.tmps y).run P w=.ok v w)/\(∀ b i,X b i+al L.length Fi b i<=X' b i) /\
   ∀ A2:Cells,(∀ b i,A' b i->A2 b i)->(∀ b i,1<=X' b i->X b i=0->al L.length Fi b i=0->A2 b i)->∀ k y,L[k]?=some y->∃ v cs,qO[k]?=some v/\v=aY y.t cs/\ae P w A2 y.t y.m [] y.v cs (Fi k):=by
 intro rs
 induction rs with
 | nil=>
  intro pS j σ A X F K G4 h hk
  cases pS with
  | nil=>exact ⟨A,σ,X,F,[],[],λ_ _ _=>0,id,λ_ _ h=>h,h,hk,λy=>rfl,rfl,rfl,(λk y v hy=>by cases hy),(λb i=>by simp[al]),λA2 _ _ k y hy=>by cases hy⟩
  | cons _ _=>cases G4
 | cons p rs ih=>
  intro pS j σ A X F K G4 h hk
  obtain ⟨t,m⟩:=p
  cases pS with
  | nil=>cases hk
  | cons rv pS=>
   simp only[BX] at hk
   have oy:∀ b ty,rv=.cell b ty->E.TI ty=some t:=λb ty e=>by
    grind [ub]
   have L9:ub E rs pS=true:=by
    cases rv <;> grind [ub]
   obtain ⟨tv,cX,A1,fi,F1,m1,v1,cs,Fv,k1,k2,k3,k4,k5⟩:=Ko hE h oy hk
   split at k1
   ·rename_i hm
    obtain ⟨A',σ',X',F',qO,L,Fi,pre,g1,g2,g3,g4,g5,g6,g7,g8,g9⟩:=ih pS (j+1) L9 k3 k1
    have lz:∀ b i,X' b i<=1:=λb i=>by have:=g2.fA b i;omega
    have rX:∃ G:FP,(∀ b i,G b i<=Fv b i)/\∀ A2:Cells,(∀ b i,A1 b i->A2 b i)->(∀ b i,1<=Fv b i->G b i=0->A2 b i)->ae P w A2 t m [] v1 cs G:=by
     by_cases Lo:m1=m
     ·subst Lo
      exact ⟨Fv,λ_ _=>Nat.le_refl _,λA2 hA _=>ae.mono hA (λ_ _ _ _ h=>h) (λ_ _ h=>h) t k5 (λ_ _=>Nat.le_refl _) (λ_ _ _ _ h=>h)⟩
     ·rcases hm with hm | hm
      ·grind
      ·exact ae.fits t hm k5 (λb i=>by grind)
    obtain ⟨G,G1,G2⟩:=rX
    have fV:∀ b i,al (L.length+1) (λk=>match k with | 0=>G | k+1=>Fi k) b i=G b i+al L.length Fi b i:=λb i=>by
     rw[Nat.add_comm,mf]
     congr 1
     ·simp[al]
     grind
    refine ⟨A',σ',X',F',tv::qO,⟨t,m,v1⟩::L,λk=>match k with | 0=>G | k+1=>Fi k,λy=>(v1,pre y),λb i ha=>g1 b i (k2 b i ha),g2,g3,λy=>by grind [di],by simp[g5],by simp[g6],λk y v hy hv=>?_,λb i=>?_,λA2 hA pp k y hy=>?_⟩
    ·grind
    ·grind
    ·have L_:∀ b i,1<=X' b i->X b i=0->G b i+al L.length Fi b i=0->A2 b i:=λb i h1 Y h3=>pp b i h1 Y (by grind)
     cases k with
     | zero=>
      grind
     | succ k=>
      refine g9 A2 hA (λb i h1 Y h3=>L_ b i h1 (by omega) (by grind)) k y hy
   ·cases k1
theorem zx {l:List (Nat×Nat×Bool)} {i j:Nat} {c:Bool} (h:pQ l i j c=true):(i,j,c) ∈ l:=by
 induction l <;> grind [pQ,Nat.beq_eq]
def fE (F:Nat->FP):List Nat->FP
 | []=>λ_ _=>0
 | i::l=>λb k=>F i b k+fE F l b k
theorem qP (F:Nat->FP) (i:Nat) (G:FP) (b k:Nat):∀ (l:List Nat),i ∉ l->fE (bD F i G) l b k=fE F l b k
 | [],_=>rfl
 | j::l,hj=>by
  simp only[List.mem_cons,not_or] at hj
  simp only[fE,qP F i G b k l hj.2]
  rw[show bD F i G j=F j by grind [bD]]
theorem Bt:∀ (l:List Nat) {n:Nat} (F:Nat->FP),l.Nodup->(∀ i ∈ l,i < n)->∀ b k,fE F l b k<=al n F b k
 | [],n,F,_,_,b,k=>Nat.zero_le _
 | i::l,n,F,hn,hl,b,k=>by
  have GK:=List.nodup_cons.1 hn
  have h1:=Bt l (bD F i λ_ _=>0) GK.2 (λj hj=>hl j (List.mem_cons_of_mem _ hj)) b k
  grind [qP,iR,fE]
theorem zy {F:Nat->FP} {b k:Nat}:∀ {l:List Nat},1<=fE F l b k->∃ i ∈ l,1<=F i b k
 | [],h=>by simp[fE] at h
 | i::l,h=>by
  simp only[fE] at h
  rcases Nat.eq_zero_or_pos (F i b k) with h0 | h0
  ·obtain ⟨j,hj,hp⟩:=zy (F:=F) (b:=b) (k:=k) (l:=l) (by omega)
   grind
  grind
def ud:List (PM×Ty)->Bool
 | []=>true
 | _::ps=>ud ps
theorem H7 (h:Rel P C A X σ a w F):∀ (j:Nat) (ps:List (PM×Ty)) (es:List Nat) {K:(bB (dh ps)).den->Option R},ud ps=true->es.Nodup->j+ps.length<=C.args.size->lm σ j ps es K=some x ->
  ∃ (vs:(bB (dh ps)).den) (us:List Nat) (Gi:Nat->FP),K vs=some x/\(∀ i ∈ us,i ∈ es)/\us.Nodup/\(∀ i ∈ us,i < σ.n)/\(∀ i b k,i ∈ us->Gi i b k<=F i b k) /\
   ∀ A2:Cells,(∀ b k,A b k->A2 b k)->(∀ i b k,i ∈ us->1<=F i b k->Gi i b k=0->A2 b k)->fL P w A2 ps vs (C.args.toList.drop j) (fE Gi us):=by
 intro j ps
 induction ps generalizing j with
 | nil=>intro es K _ _ _ hk;exact ⟨(),[],λ_ _ _=>0,by cases es <;> exact hk,(λi hi=>by cases hi),List.nodup_nil,(λi hi=>by cases hi),(λi b k hi=>by cases hi),λ_ _ _=>trivial⟩
 | cons p ps ih=>
  intro es K hp iH hj hk
  obtain ⟨pm,t⟩:=p
  have ol:j+1+ps.length<=C.args.size:=by grind
  have G5:(C.args.toList.drop j).tail=C.args.toList.drop (j+1):=by rw[List.tail_drop]
  have Kp:(C.args.toList.drop j).head?=some (C.args.getD j undef):=by
   simp only[List.length_cons] at hj
   rw[List.head?_drop,Array.getElem?_toList,Array.getElem?_eq_getElem (by omega)]
   simp[show j < C.args.size by omega]
  have MG:∀ i,i < σ.n->∀ b k,F i b k<=1:=λi hi b k=>by have:=h.fA b k;grind [aW]
  cases pm with
  | ro=>
   obtain ⟨vs,us,Gi,g1,g2,g3,g4,g5,g6⟩:=ih (j+1) es hp iH ol hk
   exact ⟨vs,us,Gi,g1,g2,g3,g4,g5,λA2 hA pp=>by grind [fL]⟩
  | fix f=>
   obtain ⟨vs,us,Gi,g1,g2,g3,g4,g5,g6⟩:=ih (j+1) es hp iH ol hk
   exact ⟨vs,us,Gi,g1,g2,g3,g4,g5,λA2 hA pp=>by grind [fL]⟩
  | gV f=>
   obtain ⟨vs,us,Gi,g1,g2,g3,g4,g5,g6⟩:=ih (j+1) es hp iH ol hk
   exact ⟨vs,us,Gi,g1,g2,g3,g4,g5,λA2 hA pp=>by grind [fL]⟩
  | fk f=>
   obtain ⟨vs,us,Gi,g1,g2,g3,g4,g5,g6⟩:=ih (j+1) es hp iH ol hk
   exact ⟨vs,us,Gi,g1,g2,g3,g4,g5,λA2 hA pp=>by grind [fL]⟩
  | dm m0 m=>
   cases es with
   | nil=>cases hk
   | cons i es=>
    have zA:=List.nodup_cons.1 iH
    simp only[lm] at hk
    split at hk
    ·rename_i t' m' H v hg
     split at hk
     ·rename_i hc
      simp only[Bool.and_eq_true,List.isEmpty_iff,Bool.or_eq_true,decide_eq_true_eq] at hc
      obtain ⟨⟨hH,hm⟩,qx⟩:=hc
      subst hH
      obtain ⟨e,hk⟩:=aP hk
      subst e
      obtain ⟨vs,us,Gi,g1,g2,g3,g4,g5,g6⟩:=ih (j+1) es hp zA.2 ol hk
      have hi:i < σ.n:=by
       grind [dN]
      have hs:=h.bX i hi
      rw[hg] at hs
      obtain ⟨b,o,L,F1,s1,s2,s3,s4,s5,s6⟩:=hs
      have Ov:=h.fe i j (zx qx)
      have G6:i ∉ us:=λhu=>zA.1 (g2 i hu)
      have rX:∃ G:FP,(∀ b k,G b k<=F1 b k)/\∀ A2:Cells,(∀ b i,A b i->A2 b i)->(∀ b i,1<=F1 b i->G b i=0->A2 b i)->ae P w A2 t' m [] v L G:=by
       rcases hm with hm | hm
       ·subst hm
        exact ⟨F1,λ_ _=>Nat.le_refl _,λA2 hA _=>ae.mono hA (λ_ _ _ _ h=>h) (λ_ _ h=>h) t' s6 (λ_ _=>Nat.le_refl _) (λ_ _ _ _ h=>h)⟩
       ·exact ae.fits t' hm s6 (λb' k=>by grind)
      obtain ⟨G,G1,G2⟩:=rX
      refine ⟨(v,vs),i::us,bD Gi i λb' k=>bm b o t'.sz b' k+G b' k,g1,λi' jj=>?_,List.nodup_cons.2 ⟨G6,g3⟩,λi' jj=>?_,λi' b' k jj=>?_,λA2 hA pp=>?_⟩
      ·grind
      ·grind
      ·by_cases G7:i'=i
       ·grind [bD]
       ·simp only[bD,if_neg G7]
        grind
      ·refine ⟨λb' k=>bm b o t'.sz b' k+G b' k,fE Gi us,λb' k=>?_,⟨b,o,L,G,by grind,s2,s3,λ_ _=>Nat.le_refl _,G2 A2 hA λb' k hp hz=>?_⟩,?_⟩
       ·grind [fE,qP,bD]
       ·grind [bD]
       ·rw[G5]
        refine g6 A2 hA λi' b' k jj hp hz=>pp i' b' k (List.mem_cons_of_mem _ jj) hp ?_
        have bG:i'≠i:=λe=>by grind
        simp only[bD,if_neg bG];exact hz
     ·cases hk
    ·cases hk
  | eV m=>
   cases es with
   | nil=>cases hk
   | cons i es=>
    have zA:=List.nodup_cons.1 iH
    simp only[lm] at hk
    have main:∀ (t':Ty) (m':Md) (H:List Path) (v:t'.den),(σ.get i=.own t' m' H v\/σ.get i=.box t' m' H v)->(if H.isEmpty&&(decide (m'=m)||fits m' m)&&pQ σ.ax i j true then cy t' t v λv=>lm σ (j+1) ps es λvs=>K (v,vs) else none)=some x ->
      ∃ (vs:(bB (dh ((PM.eV m,t)::ps))).den) (us:List Nat) (Gi:Nat->FP),K vs=some x/\(∀ i' ∈ us,i' ∈ i::es)/\us.Nodup/\(∀ i ∈ us,i < σ.n)/\(∀ i b k,i ∈ us->Gi i b k<=F i b k) /\
       ∀ A2:Cells,(∀ b k,A b k->A2 b k)->(∀ i b k,i ∈ us->1<=F i b k->Gi i b k=0->A2 b k)->fL P w A2 ((PM.eV m,t)::ps) vs (C.args.toList.drop j) (fE Gi us):=by
     intro t' m' H v hg hk
     split at hk
     ·rename_i hc
      simp only[Bool.and_eq_true,List.isEmpty_iff,Bool.or_eq_true,decide_eq_true_eq] at hc
      obtain ⟨⟨hH,hm⟩,qx⟩:=hc
      subst hH
      obtain ⟨e,hk⟩:=aP hk
      subst e
      obtain ⟨vs,us,Gi,g1,g2,g3,g4,g5,g6⟩:=ih (j+1) es hp zA.2 ol hk
      have hi:i < σ.n:=by
       grind [dN]
      have hs:=h.bX i hi
      have cC:∃ (cs:List Value) (F1:FP),aY t' cs=C.args.getD j undef/\(∀ b k,F1 b k<=F i b k)/\ae P w A t' m' [] v cs F1:=by
       have hl:=h.eB i j (zx qx)
       rcases hg with hg | hg
       ·rw[hg] at hs hl
        obtain ⟨cs,h1,Y⟩:=hs
        have:=hl _ rfl
        grind [cV,ae.length,ae.one]
       ·rw[hg] at hs hl
        obtain ⟨b,o,L,F1,s1,s2,s3,s4,s5,s6⟩:=hs
        rw[s1] at hl
        have:=hl _ rfl
        grind [bq]
      obtain ⟨ge,F1,Ma,hF,s6⟩:=cC
      have G6:i ∉ us:=λhu=>zA.1 (g2 i hu)
      have rX:∃ G:FP,(∀ b k,G b k<=F1 b k)/\∀ A2:Cells,(∀ b i,A b i->A2 b i)->(∀ b i,1<=F1 b i->G b i=0->A2 b i)->ae P w A2 t' m [] v ge G:=by
       rcases hm with hm | hm
       ·subst hm
        exact ⟨F1,λ_ _=>Nat.le_refl _,λA2 hA _=>ae.mono hA (λ_ _ _ _ h=>h) (λ_ _ h=>h) t' s6 (λ_ _=>Nat.le_refl _) (λ_ _ _ _ h=>h)⟩
       ·exact ae.fits t' hm s6 (λb' k=>by grind)
      obtain ⟨G,G1,G2⟩:=rX
      refine ⟨(v,vs),i::us,bD Gi i G,g1,λi' jj=>?_,List.nodup_cons.2 ⟨G6,g3⟩,λi' jj=>?_,λi' b' k jj=>?_,λA2 hA pp=>?_⟩
      ·grind
      ·grind
      ·by_cases G7:i'=i
       ·subst G7
        simp only[bD,if_true]
        grind
       ·simp only[bD,if_neg G7]
        grind
      ·refine ⟨G,fE Gi us,λb' k=>?_,⟨ge,by rw[Kp,Ma],G2 A2 hA λb' k hp hz=>?_⟩,?_⟩
       ·simp only[fE,qP Gi i _ b' k us G6]
        simp only[bD,if_true];exact Nat.le_refl _
       ·refine pp i b' k List.mem_cons_self (by grind) ?_
        simp only[bD,if_true];exact hz
       ·rw[G5]
        refine g6 A2 hA λi' b' k jj hp hz=>pp i' b' k (List.mem_cons_of_mem _ jj) hp ?_
        have bG:i'≠i:=λe=>by grind
        simp only[bD,if_neg bG];exact hz
     ·cases hk
    split at hk
    ·rename_i t' m' H v hg;exact main t' m' H v (.inl hg) hk
    ·rename_i t' m' H v hg;exact main t' m' H v (.inr hg) hk
    ·cases hk
end
end OT
set_option linter.unusedVariables false
set_option linter.unusedSimpArgs false
namespace OT
open Go
section
variable {P:Program} {w:World} {A:Cells} {R:Type} {x:R} {E:Env}
theorem kM:∀ (ps:List (PM×Ty)) (v:(bB (ps.map (·.2))).den),(cc ps v).length=ps.length
 | [],_=>rfl
 | (.ro,t)::ps,v=>by cases t <;> simp[cc,kM ps v.2]
 | (.fix f,t)::ps,v=>by cases t <;> simp[cc,kM ps v.2]
 | (.dm m m',t)::ps,v=>by simp[cc,kM ps v.2]
 | (.eV m,t)::ps,v=>by simp[cc,kM ps v.2]
 | (.gV m,t)::ps,v=>by simp[cc,kM ps v.2]
 | (.fk m,t)::ps,v=>by simp[cc,kM ps v.2]
theorem ue:∀ (ps:List (PM×Ty)) {v:(bB (ps.map (·.2))).den} {xs:List Value} {G:FP},fK P w A Bn ps v xs G->xs.length=ps.length
 | [],_,_,_,h=>by have h:_=[]:=h;rw[h];rfl
 | (pm,t)::ps,_,_,_,h=>by
  obtain ⟨y,ys,F1,F2,rfl,_,_,Y⟩:=h
  simp[ue ps Y]
theorem H8:∀ (ps:List (PM×Ty)) {v:(bB (ps.map (·.2))).den} {xs:List Value} {G:FP},fK P w A Bn ps v xs G->ud ps=true ->
  ∃ Fi:Nat->FP,(∀ b k,al ps.length Fi b k<=G b k)/\∀ i s,(cc ps v)[i]?=some s->∃ y,xs[i]?=some y/\(∀ σ a,aQ P A σ a w y s (Fi i))/\(∀ t m H v,s=.box t m H v->(i,i,false) ∈ jy 0 ps) /\
   ((i,i,true) ∈ jy 0 ps->∃ t m H v,s=.own t m H v):=by
 have main:∀ (ps:List (PM×Ty)) (n:Nat) {v:(bB (ps.map (·.2))).den} {xs:List Value} {G:FP},fK P w A Bn ps v xs G->ud ps=true ->
   ∃ Fi:Nat->FP,(∀ b k,al ps.length Fi b k<=G b k)/\∀ i s,(cc ps v)[i]?=some s->∃ y,xs[i]?=some y/\(∀ σ a,aQ P A σ a w y s (Fi i))/\(∀ t m H v,s=.box t m H v->(n+i,n+i,false) ∈ jy n ps) /\
    ((n+i,n+i,true) ∈ jy n ps->∃ t m H v,s=.own t m H v):=by
  have aH:∀ (ps:List (PM×Ty)) (n j k:Nat) (c:Bool),(j,k,c) ∈ jy n ps->n<=j/\j=k:=by
   intro ps
   induction ps with
   | nil=>intro n j k c h;cases h
   | cons p ps ih=>
    intro n j k c h
    obtain ⟨pm,t⟩:=p
    cases pm with
    | ro=>have:=ih (n+1) j k c h;omega
    | fix f=>have:=ih (n+1) j k c h;omega
    | fk m=>have:=ih (n+1) j k c h;omega
    | dm m m'=>
     rcases List.mem_cons.1 h with e | h
     all_goals grind
    | gV m=>
     rcases List.mem_cons.1 h with e | h
     all_goals grind
    | eV m=>
     rcases List.mem_cons.1 h with e | h
     all_goals grind
  intro ps
  induction ps with
  | nil=>intro n v xs G h _;exact ⟨λ_ _ _=>0,λb k=>Nat.zero_le _,λi s hs=>by cases hs⟩
  | cons p ps ih=>
   intro n v xs G h hp
   obtain ⟨pm,t⟩:=p
   obtain ⟨y,ys,F1,F2,rfl,hs,ha,hr⟩:=h
   have KQ:ud ps=true:=hp
   obtain ⟨Fi,g1,g2⟩:=ih (n+1) hr KQ
   obtain ⟨s0,Nw,Fo,IE,cm⟩:∃ s0,cc ((pm,t)::ps) v=s0::cc ps v.2/\(∀ σ a,aQ P A σ a w y s0 F1)/\(∀ t' m' H' v',s0=.box t' m' H' v'->∃ m,(∃ m',pm=.dm m m')\/pm=.gV m)/\((∃ m,pm=.eV m)->∃ t' m H v,s0=.own t' m H v):=by
    cases pm with
    | ro=>
     obtain ⟨cs,h1,Y⟩:=ha
     cases t with
     | ptr e=>
      refine ⟨.cp e v.1,rfl,λσ a=>?_,(λ_ _ _ _ e=>by cases e),λ⟨m,e⟩=>by cases e⟩
      have hl:=Ro.length _ Y
      match cs,hl with
      | [u],_=>
       rw[bj _ _ rfl] at h1
       subst h1
       exact Y
     | _=>exact ⟨.val _ v.1,rfl,λσ a=>⟨cs,h1,Y⟩,(λ_ _ _ _ e=>by cases e),λ⟨m,e⟩=>by cases e⟩
    | fix f=>
     obtain ⟨⟨cs,h1,Y⟩,h3⟩:=ha
     cases t with
     | fn=>
      refine ⟨.val .fn (f,v.1.2),rfl,λσ a=>⟨cs,h1,?_⟩,(λ_ _ _ _ e=>by cases e),λ⟨m,e⟩=>by cases e⟩
      grind
     | _=>exact ⟨.dead,rfl,λσ a=>trivial,(λ_ _ _ _ e=>by cases e),λ⟨m,e⟩=>by cases e⟩
    | dm m m'=>
     obtain ⟨b,o,L,F3,h1,Y,h3,h4,h5,h6⟩:=ha
     exact ⟨.box t m [] v.1,rfl,λσ a=>⟨b,o,L,F3,h1,Y,h3,h4,h5,h6⟩,λ_ _ _ _ _=>⟨m,.inl ⟨m',rfl⟩⟩,λ⟨m,e⟩=>by cases e⟩
    | gV m=>
     obtain ⟨b,o,L,F3,h1,Y,h3,h4,h5,h6⟩:=ha
     exact ⟨.box t m [] v.1,rfl,λσ a=>⟨b,o,L,F3,h1,Y,h3,h4,h5,h6⟩,λ_ _ _ _ _=>⟨m,.inr rfl⟩,λ⟨m,e⟩=>by cases e⟩
    | eV m=>
     obtain ⟨cs,h1,Y⟩:=ha
     exact ⟨.own t m [] v.1,rfl,λσ a=>⟨cs,h1,Y⟩,(λ_ _ _ _ e=>by cases e),λ_=>⟨_,_,_,_,rfl⟩⟩
    | fk m=>
     obtain ⟨H,cs,hH,h1,Y⟩:=ha
     obtain rfl:=List.isEmpty_iff.1 hH
     exact ⟨.own t m [] v.1,rfl,λσ a=>⟨cs,h1,Y⟩,(λ_ _ _ _ e=>by cases e),λ_=>⟨_,_,_,_,rfl⟩⟩
   refine ⟨λk=>match k with | 0=>F1 | k+1=>Fi k,λb k=>?_,λi s hi=>?_⟩
   ·have:al (ps.length+1) (λk=>match k with | 0=>F1 | k+1=>Fi k) b k=F1 b k+al ps.length Fi b k:=by
     rw[Nat.add_comm,mf]
     grind [al]
    grind
   ·rw[Nw] at hi
    cases i with
    | zero=>
     injection hi with hi
     subst hi
     refine ⟨y,rfl,Fo,λt' m' H' v' e=>?_,λhm=>?_⟩
     ·obtain ⟨m,⟨_,rfl⟩ | rfl⟩:=IE t' m' H' v' e
      ·exact List.mem_cons_self
      ·exact List.mem_cons_self
     ·refine cm ?_
      cases pm with
      | eV m=>exact ⟨m,rfl⟩
      | ro=>have:=aH ps (n+1) _ _ _ hm;omega
      | fix f=>have:=aH ps (n+1) _ _ _ hm;omega
      | fk m=>have:=aH ps (n+1) _ _ _ hm;omega
      | dm m m'=>
       rcases List.mem_cons.1 hm with e | hm
       all_goals grind
      | gV m=>
       rcases List.mem_cons.1 hm with e | hm
       all_goals grind
    | succ i=>
     obtain ⟨y',q1,q2,q3,q4⟩:=g2 i s hi
     have Mb:n+1+i=n+(i+1):=by omega
     rw[Mb] at q3 q4
     refine ⟨y',q1,q2,λt' m' H' v' e=>?_,λhm=>q4 ?_⟩
     ·have:=q3 t' m' H' v' e
      cases pm with
      | ro=>exact this
      | fix f=>exact this
      | fk m=>exact this
      | dm m m'=>exact List.mem_cons_of_mem _ this
      | gV m=>exact List.mem_cons_of_mem _ this
      | eV m=>exact List.mem_cons_of_mem _ this
     ·cases pm with
      | ro=>exact hm
      | fix f=>exact hm
      | fk m=>exact hm
      | dm m m'=>
       rcases List.mem_cons.1 hm with e | hm
       all_goals grind
      | gV m=>
       rcases List.mem_cons.1 hm with e | hm
       all_goals grind
      | eV m=>
       rcases List.mem_cons.1 hm with e | hm
       all_goals grind
 intro ps v xs G h hp
 obtain ⟨Fi,g1,g2⟩:=main ps 0 h hp
 exact ⟨Fi,g1,λi s hi=>by grind⟩
theorem zB:∀ (ps:List (PM×Ty)) (n j k:Nat) (c:Bool),(j,k,c) ∈ jy n ps->n<=j/\j=k/\j < n+ps.length:=by
 intro ps
 induction ps with
 | nil=>intro n j k c h;cases h
 | cons p ps ih=>
  intro n j k c h
  obtain ⟨pm,t⟩:=p
  simp only[List.length_cons]
  cases pm with
  | ro=>have:=ih (n+1) j k c h;omega
  | fix f=>have:=ih (n+1) j k c h;omega
  | fk m=>have:=ih (n+1) j k c h;omega
  | dm m m'=>
   rcases List.mem_cons.1 h with e | h
   all_goals grind
  | gV m=>
   rcases List.mem_cons.1 h with e | h
   all_goals grind
  | eV m=>
   rcases List.mem_cons.1 h with e | h
   all_goals grind
theorem zC:∀ (ss:List Slot) (n i:Nat),eG (n8 n ss) i=if n<=i then ss[i - n]? else none
 | [],n,i=>by simp[n8,eG]
 | s::ss,n,i=>by
  simp only[n8,eG,zC ss (n+1) i]
  by_cases hi:n=i
  ·simp_all
  grind [Nat.eq_of_beq_eq_true]
theorem Fq {g:kf} {v:(bB (g.ps.map (·.2))).den} {xs:List Value} {F0:FP} {n:Nat} (h:fK P w A Bn g.ps v xs F0) (hp:ud g.ps=true) (hn:g.ps.length<=n) (h1:∀ b i,F0 b i<=1) (Y:∀ b i,1<=F0 b i->¬ A b i) (h3:∀ b i,1<=F0 b i\/A b i->b < w.heap.size) (Fs:ns P w F0) :
  ∃ F,bd P { w0:=w,A0:=A,F0:=F0,args:=xs.toArray } A (pR g.ps v n) { tmps:=xs.toArray++Array.replicate (n - xs.toArray.size) undef,defers:=[] } w F:=by
 obtain ⟨Fi,g1,g2⟩:=H8 g.ps h hp
 have hlen:=ue g.ps h
 have K8:=kM g.ps v
 have mm:∀ i,(pR g.ps v n).get i=if i < n then (match (cc g.ps v)[i]? with | some s=>s | none=>.dead) else .dead:=λi=>by
  grind [St.get,pR,zC,Nat.blt_eq]
 have Mc:∀ i (y:Value),xs[i]?=some y->tmp { tmps:=xs.toArray++Array.replicate (n - xs.toArray.size) undef,defers:=[] } i=y:=λi y hy=>by
  have hi:=(List.getElem?_eq_some_iff.1 hy).1
  simp_all [tmp,Array.getElem?_append_left]
 have fV:∀ b k,al n (λi=>if i < g.ps.length then Fi i else λ_ _=>0) b k<=F0 b k:=λb k=>by
  have e:n=g.ps.length+(n - g.ps.length):=by omega
  rw[e,mf]
  have e1:=congrFun (congrFun (ln (n:=g.ps.length) (f:=λi=>if i < g.ps.length then Fi i else λ_ _=>0) (g:=Fi) (λj hj=>by grind)) b) k
  grind [d9]
 refine ⟨λi=>if i < g.ps.length then Fi i else λ_ _=>0,?_,rfl,λi hi=>?_,(λd r p snap hm=>by cases hm),λb k=>?_,λb k hp=>?_,λb k hp=>?_,λi=>rfl,Ext.refl _ _,λb k hp=>?_,λ_ _ h=>h,λ_ _ h=>.inl h,λj k hm=>?_,λr t m H v' hg hl=>?_,λj k hm R hR=>?_,Fs⟩
 ·grind [pR]
 ·rw[mm]
  have hi:i < n:=hi
  rw[if_pos hi]
  cases hs:(cc g.ps v)[i]? with
  | none=>trivial
  | some s=>
   grind
 ·have:=fV b k;have:=h1 b k;show 0+al n _ b k<=1;omega
 ·have hp:1<=0+al n (λi=>if i < g.ps.length then Fi i else λ_ _=>0) b k:=hp
  grind
 ·refine h3 b k (hp.imp (λhp=>?_) id)
  have hp:1<=0+al n (λi=>if i < g.ps.length then Fi i else λ_ _=>0) b k:=hp
  grind
 ·have hp:1<=0+al n (λi=>if i < g.ps.length then Fi i else λ_ _=>0) b k:=hp
  grind
 ·obtain ⟨_,rfl,hj⟩:=zB g.ps 0 j k false hm
  simp_all
 ·exfalso
  rw[mm] at hg
  split at hg
  ·cases hs:(cc g.ps v)[r]? with
   | none=>grind
   | some s=>
    rw[hs] at hg
    obtain ⟨y,_,_,q3,_⟩:=g2 r s hs
    exact hl r (q3 t m H v' hg)
  ·cases hg
 ·obtain ⟨_,rfl,hj⟩:=zB g.ps 0 j k true hm
  have ol:j < (cc g.ps v).length:=by omega
  have hs:=List.getElem?_eq_getElem ol
  obtain ⟨y,q1,q2,_,q4⟩:=g2 j _ hs
  obtain ⟨t,m,H,v',e⟩:=q4 hm
  have Ny:j < n:=by omega
  rw[mm,if_pos Ny,hs] at hR
  simp only[e,ba,Option.some.injEq] at hR
  subst hR
  rw[Mc j y q1]
  have Y:=q2 (pR g.ps v n) { tmps:=#[],defers:=[] }
  rw[e] at Y
  obtain ⟨cs,c1,c2⟩:=Y
  have:=cV (ae.length _ c2) (ae.one _ c2)
  simp_all
noncomputable def yf (P:Program) (E:Env) (fn:Func) (ps:List (PM×Ty)) (rs:List (Ty×Md)) (es:List Nat):Bool:=
 codeOk P E (rH fn)&&ub E rs fn.results.toList&&ud ps&&Nat.ble ps.length fn.ntmps&&decide es.Nodup
theorem xR (hE:iu P E) {f:FuncId} {fn:Func} (hf:P.funcs[f]?=some fn) (hb:fn.body.isSome=true) {g:kf} (hh:∀ v H,g.wG v H=true->H=[]) {es fr:List Nat} (am:yf P E fn g.ps g.rs es=true) (hF:∀ v out,g.F v=some out->∃ k,xZ E k fn g.ps g.rs es fr v=some out):Sound P f g:=by
 intro w A F0 v xs eI h1 Y h3 Fs out qQ
 replace eI:=eI.none (hh v)
 obtain ⟨k,hk⟩:=hF v out qQ
 simp only[yf,Bool.and_eq_true,Nat.ble_eq,decide_eq_true_eq] at am
 obtain ⟨⟨⟨⟨G8,G4⟩,lD⟩,Gz⟩,iH⟩:=am
 obtain ⟨c,hc⟩:=Option.isSome_iff_exists.1 hb
 have Lp:rH fn=c:=by simp[rH,hc]
 rw[Lp] at G8
 obtain ⟨F,Fo⟩:=Fq eI lD Gz h1 Y h3 Fs
 unfold xZ at hk
 rw[Lp] at hk
 have Lq:=ue g.ps eI
 have Jj:∀ (a':Act) (w':World) (σ':St),yE g.ps g.rs es fn.results.toList (Gl fr) σ'=some out->rT P { w0:=w,A0:=A,F0:=F0,args:=xs.toArray } σ' a' w' ->
   a'.defers=[]/\∃ rv,(results fn a'.tmps).run P w'=.ok rv w'/\(∃ Lr,Ending.returned rv=.returned Lr/\Ext w w' F0/\∃ (A':Cells) (G GR GM:FP),(∀ b i,A b i->A' b i)/\(∀ b i,A' b i->A b i\/1<=F0 b i\/w.heap.size<=b) /\
    (∀ b i,1<=G b i->1<=F0 b i\/w.heap.size<=b)/\(∀ b i,G b i<=1)/\(∀ b i,1<=G b i->¬ A' b i)/\(∀ b i,1<=G b i\/A' b i->b < w'.heap.size)/\(∀ b i,GR b i+GM b i<=G b i) /\
    e_ P w' A' (di g.rs out).1 Lr GR/\fL P w' A' g.ps (di g.rs out).2 xs GM):=by
  intro a' w' σ' ho hr
  obtain ⟨A1,F1,hr⟩:=hr
  unfold yE at ho
  obtain ⟨A2,dU,X2,F2,qO,L,Fi,pre,r1,r2,r3,r4,r5,r6,r7,r8,r9⟩:=Ji hE g.rs fn.results.toList 0 G4 hr ho
  obtain ⟨vs,us,Gi,m1,m2,m3,m4,m5,m6⟩:=H7 r2 0 g.ps es lD iH (by simp[Lq]) r3
  have Me:pre vs=out:=Option.some.inj m1
  have gZ:di g.rs out=(L,vs):=by rw[<-Me,r4]
  have O7:∀ b i,al L.length Fi b i<=X2 b i:=λb i=>by grind
  have Mf:∀ b i,fE Gi us b i<=fE F2 us b i:=λb i=>by
   have:∀ l:List Nat,(∀ j ∈ l,j ∈ us)->fE Gi l b i<=fE F2 l b i:=by
    intro l
    induction l <;> grind [fE]
   grind
  have O8:∀ b i,fE Gi us b i<=al dU.n F2 b i:=λb i=>Nat.le_trans (Mf b i) (Bt us F2 m3 m4 b i)
  refine ⟨r2.defers,_,Ax (by rw[r6]) r7,_,rfl,r2.ext,?_⟩
  obtain ⟨A3,gE⟩:∃ A3:Cells,∀ b i,A3 b i↔(A2 b i\/(1<=X2 b i+al dU.n F2 b i/\al L.length Fi b i+fE Gi us b i=0)):=⟨λb i=>A2 b i\/(1<=X2 b i+al dU.n F2 b i/\al L.length Fi b i+fE Gi us b i=0),λ_ _=>Iff.rfl⟩
  have Jk:∀ b i,A2 b i->A3 b i:=λb i h=>(gE b i).2 (.inl h)
  have lz:∀ b i,X2 b i+al dU.n F2 b i<=1:=λb i=>r2.fA b i
  refine ⟨A3,λb i=>al L.length Fi b i+fE Gi us b i,al L.length Fi,fE Gi us,λb i ha=>Jk b i (r2.a0 b i ha),λb i ha=>?_,λb i hp=>?_,λb i=>?_,λb i hp ha=>?_,λb i hp=>?_,λ_ _=>Nat.le_refl _,?_,?_⟩
  ·rcases (gE b i).1 ha with ha | ⟨hp,_⟩
   ·exact r2.J b i ha
   ·exact .inr (r2.own b i hp)
  ·have hp:1<=al L.length Fi b i+fE Gi us b i:=hp
   exact r2.own b i (by grind)
  ·grind
  ·have hp:1<=al L.length Fi b i+fE Gi us b i:=hp
   rcases (gE b i).1 ha with ha | ⟨_,hz⟩
   ·exact r2.fW b i (by grind) ha
   ·omega
  ·rcases hp with hp | ha
   ·have hp:1<=al L.length Fi b i+fE Gi us b i:=hp
    exact r2.cW b i (.inl (by grind))
   ·rcases (gE b i).1 ha with ha | ⟨hp,_⟩
    ·exact r2.cW b i (.inr ha)
    ·exact r2.cW b i (.inl hp)
  ·rw[gZ]
   have Cy:=r9 A3 Jk (λb i hx _ hz=>(gE b i).2 (.inr ⟨by omega,by
    grind⟩))
   show e_ P w' A3 L _ _
   match L,r5,Cy with
   | [],_,_=>trivial
   | [y],hl,Cy=>
    match qO,hl with
    | [u],_=>
     obtain ⟨u',cs,e1,e2,e3⟩:=Cy 0 y rfl
     injection e1 with e1
     subst e1
     refine ⟨cs,by simpa using e2,e3.le λb i=>by simp[al]⟩
   | y::z::L,hl,Cy=>
    refine ⟨qO.toArray,Fi,?_,λ_ _=>Nat.le_refl _,λj q hq=>?_⟩
    all_goals grind
  grind [aW,zy,iS]
 refine calls_of_wp hf hc (wp_mono (H6 hE c G8 Fo hk) λe a' w' hq=>?_)
 cases e with
 | normal=>obtain ⟨σ',h4,h5⟩:=hq;exact Jj a' w' σ' h4 h5
 | ret=>obtain ⟨σ',h4,h5⟩:=hq;exact Jj a' w' σ' h4 h5
 | exit j=>obtain ⟨σ',h4,h5⟩:=hq;cases h4
 | _=>exact hq.elim
end
end OT
set_option linter.unusedVariables false
set_option linter.unusedSimpArgs false
namespace OT
open Go
def zD (w:World):Cells:=λb _=>b < w.heap.size
def pK:Ty->Bool
 | .int _ | .bool | .str | .unit=>true
 | .pair a b=>pK a&&pK b
 | .af e=>pK e
 | _=>false
def xk:(T:Ty)->T.den->Prop
 | .int k,n=>k.min<=fy k n/\fy k n<=k.max
 | .str,s=>List.length s<=maxLen
 | .pair a b,v=>xk a v.1/\xk b v.2
 | .af e,v=>List.length v<=maxLen/\∀ x ∈ (v:List e.den),xk e x
 | _,_=>True
def Ee:(ps:List (PM×Ty))->(bB (ps.map (·.2))).den->Prop
 | [],_=>True
 | (_,T)::ps,v=>xk T v.1/\Ee ps v.2
section
variable {P:Program} {w:World} {H:Type} {enc:TypeId×Value->H}
theorem uf {T:Ty} {i:TypeId} (h:ao P T (.inl i)=true):P.cellsOf i=T.sz:=by
 obtain ⟨inf,h1,Y,_⟩:=de (ei h)
 grind [Program.cellsOf]
theorem Ft {a:Addr} {k:Nat} {u:Value} (h:w.cell? (a.add k)=some u) (hk:k=0\/a.spot=none):a.spot=none:=by
 rcases hk with rfl | hk
 ·unfold Addr.add at h
  rw[if_pos rfl] at h
  unfold World.cell? at h
  split at h
  all_goals simp_all
 ·exact hk
theorem H9:∀ (T:Ty),pK T=true ->
  (∀ i,ao P T (.inl i)=true->∀ fuel cs x,DataW.trod enc P w 0 (λ_=>true) true fuel i cs=some x->∃ v:T.den,xk T v/\Ro P w (zD w) T v cs) /\
  (∀ fs off,ao P T (.inr (fs,off))=true->∀ n (cs:List Value),cs.length=off+T.sz->(∀ f ∈ fs,∃ x,DataW.trod enc P w 0 (λ_=>true) true n f.type ((cs.drop f.offset).take (P.cellsOf f.type))=some x)->∃ v:T.den,xk T v/\Ro P w (zD w) T v (cs.drop off)):=by
 intro T
 induction T with
 | int k=>
  intro _
  refine ⟨λi hl fuel cs x h=>?_,λfs off hl=>by simp[ao] at hl⟩
  obtain ⟨n,rfl,_,G9⟩:=DataW.trod_int (gd hl) h
  simp only[Lit.wf,Bool.and_eq_true,decide_eq_true_eq] at G9
  cases k with
  | u8=>
   have h1:fy .u8 (UInt8.ofInt n)=n:=by
    have:=wj .u8 n (λ_=>by
     have h1:(0:Int)<=n:=G9.1
     have Y:n<=(255:Int):=G9.2
     omega)
    exact this
   refine ⟨(UInt8.ofInt n:UInt8),?_,?_⟩
   ·show IntKind.u8.min<=fy .u8 (UInt8.ofInt n)/\fy .u8 (UInt8.ofInt n)<=IntKind.u8.max
    grind
   ·show [Value.int .u8 n]=[Value.int .u8 (fy .u8 (UInt8.ofInt n))]
    rw[h1]
  | _=>exact ⟨n,G9,rfl⟩
 | bool=>
  intro _
  refine ⟨λi hl fuel cs x h=>?_,λfs off hl=>by simp[ao] at hl⟩
  have hu:P.underlying i=some .bool:=by
   grind [ao]
  obtain ⟨b,rfl,_⟩:=DataW.trod_bool hu h
  exact ⟨b,trivial,rfl⟩
 | str=>
  intro _
  refine ⟨λi hl fuel cs x h=>?_,λfs off hl=>by simp[ao] at hl⟩
  obtain ⟨s,rfl,_,lJ⟩:=DataW.trod_string (ef hl) h
  exact ⟨s.data.toList,(by show s.data.toList.length<=maxLen;simp_all),by simp only[Ro]⟩
 | unit=>
  intro _
  refine ⟨λi hl fuel cs x h=>?_,λfs off hl n cs hlen _=>⟨(),trivial,?_⟩⟩
  ·simp only[ao,Bool.and_eq_true] at hl
   have Y:=hl.2
   split at Y
   ·rename_i fs hu
    obtain ⟨xs,n,_,_,hlen,_⟩:=DataW.trod_struct hu h
    have eN:P.cellsOf i=0:=by
     grind [de,Program.cellsOf,Ty.sz]
    rw[eN] at hlen
    exact ⟨(),trivial,by grind [Ro]⟩
   ·cases Y
  grind [Ro,List.drop_of_length_le,Ty.sz]
 | pair a b d_ dT=>
  intro ha
  simp only[pK,Bool.and_eq_true] at ha
  have Jl:∀ fs off,ao P (.pair a b) (.inr (fs,off))=true->∀ n (cs:List Value),cs.length=off+(Ty.pair a b).sz->(∀ f ∈ fs,∃ x,DataW.trod enc P w 0 (λ_=>true) true n f.type ((cs.drop f.offset).take (P.cellsOf f.type))=some x)->∃ v:(Ty.pair a b).den,xk (.pair a b) v/\Ro P w (zD w) (.pair a b) v (cs.drop off):=by
   intro fs off hl n cs hlen hf
   cases fs with
   | nil=>simp[ao] at hl
   | cons f r=>
    simp only[ao,Bool.and_eq_true,Nat.beq_eq,Nat.ble_eq] at hl
    obtain ⟨⟨⟨ho,_⟩,h1⟩,Y⟩:=hl
    simp only[Ty.sz] at hlen
    obtain ⟨x,hx⟩:=hf f List.mem_cons_self
    rw[ho,uf h1] at hx
    obtain ⟨v1,o1,r1⟩:=(d_ ha.1).1 _ h1 _ _ _ hx
    obtain ⟨v2,o2,r2⟩:=(dT ha.2).2 r (off+a.sz) Y n cs (by omega) (λf' G_=>hf f' (List.mem_cons_of_mem _ G_))
    exact ⟨(v1,v2),⟨o1,o2⟩,r1,by simp_all⟩
  refine ⟨λi hl fuel cs x h=>?_,Jl⟩
  have K5:=hl
  simp only[ao,Bool.and_eq_true] at hl
  have Y:=hl.2
  split at Y
  ·rename_i fs hu
   split at Y
   ·rename_i f r uU
    have h3:ao P (.pair a b) (.inr (f::r,0))=true:=by
     grind [ao]
    obtain ⟨xs,n,_,_,hlen,Lq,H_⟩:=DataW.trod_struct hu h
    rw[uf K5] at hlen
    have:=Jl (f::r) 0 h3 n cs (by omega) (λf' G_=>by
     rw[<-uU] at G_
     obtain ⟨j,hj,e⟩:=List.mem_iff_getElem.1 G_
     have ol:j < fs.size:=by simpa using hj
     have:=H_ j f' (by grind)
     grind)
    simpa using this
   ·cases Y
  ·cases Y
 | af e ih=>
  intro ha
  simp only[pK] at ha
  refine ⟨λi hl fuel cs x h=>?_,λfs off hl=>by simp[ao] at hl⟩
  obtain ⟨el,hu,eN,hle⟩:=jr hl
  rcases DataW.trod_slice hu h with ⟨rfl,_⟩ | ⟨a,len,cap,elems,rest,n,_,rfl,_,_,KY,Ls,jl,Fu,ff,_⟩
  ·exact ⟨[],⟨Nat.zero_le _,λx hx=>by cases hx⟩,none,0,rfl,Nat.le_refl _,λ_=>rfl,λad e=>by cases e⟩
  ·rw[uf hle] at Fu ff
   have nx:∀ k y,(w.cells? 0 (a.add (k*e.sz)) e.sz).bind (DataW.trod enc P w 0 (λ_=>true) true n el)=some y->∃ aC,w.cells? 0 (a.add (k*e.sz)) e.sz=some aC/\DataW.trod enc P w 0 (λ_=>true) true n el aC=some y:=λk y hk=>by
    cases hc:w.cells? 0 (a.add (k*e.sz)) e.sz <;> grind
   have Ha:0 < cap->a.spot=none:=λqA=>by
    have zb:∃ aC,w.cells? 0 (a.add (0*e.sz)) e.sz=some aC:=by
     by_cases hlen:0 < len
     ·have h0:=Fu 0 hlen
      rw[List.getElem?_eq_getElem (by omega)] at h0
      obtain ⟨aC,h1,_⟩:=nx 0 _ h0
      grind
     ·obtain rfl:len=0:=by omega
      obtain ⟨nm,mM⟩:=ff rfl
      have h0:=mM 0 (by omega)
      rw[List.getElem?_eq_getElem (by omega)] at h0
      obtain ⟨aC,h1,_⟩:=nx (0+0) _ h0
      grind
    obtain ⟨aC,h1⟩:=zb
    obtain ⟨_,pc,Y⟩:=World.cells?_some h1
    grind [Addr.add,Ft]
   have each:∀ k:Fin len,∃ v:e.den,xk e v/\∃ L:List Value,L.length=e.sz/\(∀ j u,L[j]?=some u->ce w a.block (a.off+k.val*e.sz+j)=some u/\zD w a.block (a.off+k.val*e.sz+j))/\Ro P w (zD w) e v L:=λk=>by
    have h0:=Fu k.val k.isLt
    rw[List.getElem?_eq_getElem (by grind)] at h0
    obtain ⟨aC,h1,Y⟩:=nx k.val _ h0
    obtain ⟨v,ho,hv⟩:=(ih ha).1 _ hle _ _ _ Y
    obtain ⟨_,pc,h3⟩:=World.cells?_some h1
    refine ⟨v,ho,aC,pc,λj u hu=>?_,hv⟩
    have hj:=(List.getElem?_eq_some_iff.1 hu).1
    have h4:=h3 j (by omega)
    rw[hu] at h4
    have gZ:=Ha (by grind)
    obtain ⟨b,off,sp⟩:=a
    simp only at gZ
    subst gZ
    rw[gi,gi] at h4
    have h5:ce w b (off+k.val*e.sz+j)=some u:=vZ h4 (Ro.one e hv u (List.mem_of_getElem? hu))
    exact ⟨h5,kC h5⟩
   obtain ⟨f,hf⟩:=Classical.axiomOfChoice each
   refine ⟨List.ofFn f,⟨by simp;omega,λx hx=>?_⟩,some a,cap,by simp,by simpa using KY,(λe=>by cases e),λad e=>?_⟩
   ·grind
   injection e with e
   subst e
   refine ⟨Ha,λk y hk=>?_⟩
   rw[List.getElem?_ofFn] at hk
   split at hk
   ·rename_i aH
    injection hk with hk
    subst hk
    exact (hf ⟨k,aH⟩).2
   ·cases hk
 | _=>grind [pK]
theorem arg_val {T:Ty} (ha:pK T=true) {i:TypeId} (hl:ao P T (.inl i)=true) {r:Reach} {b0:Nat} {v:Value} (h:Value.okWide P w r b0 i v):v=aY T v.cells.toList:=by
 cases T with
 | int k=>
  have hu:=gd hl
  cases v <;> simp[Value.okWide,Cell.okWide,Cell.ok,hu] at h <;> simp[aY,isAgg,Value.cells]
 | bool=>
  have hu:P.underlying i=some .bool:=by
   grind [ao]
  cases v <;> simp[Value.okWide,Cell.okWide,Cell.ok,hu] at h <;> simp[aY,isAgg,Value.cells]
 | str=>
  have hu:=ef hl
  cases v <;> simp[Value.okWide,Cell.okWide,Cell.ok,hu] at h <;> simp[aY,isAgg,Value.cells]
 | af e=>
  obtain ⟨el,hu,_⟩:=jr hl
  cases v <;> simp[Value.okWide,Cell.okWide,Cell.ok,hu] at h <;> simp[aY,isAgg,Value.cells]
 | unit=>
  simp only[ao,Bool.and_eq_true] at hl
  have Y:=hl.2
  split at Y
  ·rename_i fs hu
   simp only[Value.okWide,hu] at h
   obtain ⟨cs,rfl,_⟩:=h
   simp[aY,isAgg,Value.cells]
  ·cases Y
 | pair a b=>
  simp only[ao,Bool.and_eq_true] at hl
  have Y:=hl.2
  split at Y
  ·rename_i fs hu
   simp only[Value.okWide,hu] at h
   obtain ⟨cs,rfl,_⟩:=h
   simp[aY,isAgg,Value.cells]
  ·cases Y
 | _=>simp[pK] at ha
def pq (P:Program):List (PM×Ty)->List TypeId->Bool
 | [],[]=>true
 | (.ro,T)::ps,t::ts=>pK T&&ao P T (.inl t)&&P.readableRec t&&Nat.blt t P.types.size&&pq P ps ts
 | _,_=>false
theorem Bu:∀ (ps:List (PM×Ty)) (ts:List TypeId) (args:List Value) (ds:List (DataW H)) (p:List MemPlace) {b0:Nat},pq P ps ts=true->DataW.TrodAll enc P w 0 (λ_=>true) true ts args ds p ->
  (∀ (j:Nat) t v,ts[j]?=some t->args[j]?=some v->Value.okWide P w .any b0 t v)->∃ v,Ee ps v/\fK P w (zD w) Bn ps v args (λ_ _=>0)
 | [],[],args,ds,p,b0,_,h,_=>by
  cases args with
  | nil=>exact ⟨(),trivial,rfl⟩
  | cons _ _=>simp[DataW.TrodAll] at h
 | (.ro,T)::ps,t::ts,args,ds,p,b0,hl,h,am=>by
  simp only[pq,Bool.and_eq_true] at hl
  cases args with
  | nil=>simp[DataW.TrodAll] at h
  | cons v args=>
   cases ds with
   | nil=>simp[DataW.TrodAll] at h
   | cons d ds=>
    obtain ⟨p1,q1,⟨fuel,h1⟩,Y,_⟩:=h
    obtain ⟨x,Nz,hx⟩:=(H9 T hl.1.1.1.1).1 t hl.1.1.1.2 _ _ _ h1
    obtain ⟨xs,Mg,NA⟩:=Bu ps ts args ds q1 (b0:=b0) hl.2 Y (λj t' v' ht hv=>am (j+1) t' v' ht hv)
    exact ⟨(x,xs),⟨Nz,Mg⟩,v,args,λ_ _=>0,λ_ _=>0,rfl,λ_ _=>Nat.le_refl _,⟨_,arg_val hl.1.1.1.1 hl.1.1.1.2 (am 0 t v rfl rfl),hx⟩,NA⟩
theorem xl (yQ:laidOutB P=true) {W W':World} (hb:RowKit.Below W.heap.size W W') {sp:Nat->Bool}:∀ (ps:List (PM×Ty)) (ts:List TypeId) (args:List Value) (ds:List (DataW H)) (p:List MemPlace),pq P ps ts=true->DataW.TrodAll enc P W 0 (λ_=>true) true ts args ds p ->
  (∀ x ∈ p,x.block < W.heap.size)->(∀ x ∈ p,sp x.block=true)->DataW.TrodAll enc P W' 0 sp true ts args ds p
 | [],[],args,ds,p,_,h,_,_=>by
  grind [DataW.TrodAll]
 | (.ro,T)::ps,t::ts,args,ds,p,hl,h,aH,gZ=>by
  simp only[pq,Bool.and_eq_true] at hl
  cases args with
  | nil=>simp[DataW.TrodAll] at h
  | cons v args=>
   cases ds with
   | nil=>simp[DataW.TrodAll] at h
   | cons d ds=>
    obtain ⟨p1,q1,h1,Y,rfl⟩:=h
    have ht:t < P.types.size:=by simp_all
    exact ⟨p1,q1,WideElems.Trod_stays yQ hl.1.1.2 ht h1 (λx hx=>hb.same (aH x (List.mem_append_left _ hx))) (λx hx=>gZ x (List.mem_append_left _ hx)),
     xl yQ hb ps ts args ds q1 hl.2 Y (λx hx=>aH x (List.mem_append_right _ hx)) (λx hx=>gZ x (List.mem_append_right _ hx)),rfl⟩
theorem Ef {f:FuncId} {cap:Bool} {ps:List (PM×Ty)} {Fn:(bB (ps.map (·.2))).den->Option (bB ([((Ty.bool,ai .bool):Ty×Md)].map (·.1)++dh ps)).den} (hs:Sound P f { cap:=cap,ps:=ps,rs:=[(.bool,ai .bool)],F:=Fn }) (Cz:∀ v,Ee ps v->∃ u,Fn v=some (true,u))
  {ts:List TypeId} (hl:pq P ps ts=true) {args:List Value} {ds:List (DataW H)} {p:List MemPlace} (hA:DataW.TrodAll enc P w 0 (λ_=>true) true ts args ds p) {b0:Nat} (am:∀ (j:Nat) t v,ts[j]?=some t->args[j]?=some v->Value.okWide P w .any b0 t v) (ht:ns P w λ_ _=>0) :
  Calls P f args.toArray w λe W'=>e=.returned (.bool true)/\RowKit.Below w.heap.size w W':=by
 obtain ⟨v,NB,hv⟩:=Bu ps ts args ds p hl hA am
 obtain ⟨u,hu⟩:=Cz v NB
 refine (hs w (zD w) (λ_ _=>0) v args hv (λ_ _=>Nat.zero_le _) (λb i h=>by omega) (λb i h=>?_) ht _ hu).mono λe W' h=>?_
 ·rcases h with h | h
  ·omega
  ·exact h
 ·obtain ⟨rv,rfl,bO,A',G,GR,GM,_,_,_,_,_,_,_,km,_⟩:=h
  obtain ⟨cs,h1,Y⟩:=km
  simp only[di] at h1 Y
  have Y:cs=[.bool true]:=Y
  subst Y
  exact ⟨by rw[h1];rfl,bO.os,bO.tape,bO.output,bO.size,λb hb=>bO.obj b hb λ_=>rfl⟩
theorem Fx {C:Checked} {f:Func} {s:ChangeSpec} {W W':World} {args:Array Value} {ds:List (DataW H)} {p:List MemPlace} {apart fresh handsOn:Bool} (yQ:laidOutB P=true) {ps:List (PM×Ty)} {ts:List TypeId} (vo:f.params.toList=ts) (hl:pq P ps ts=true) {tb:TypeId} (hr:f.resultTypes=#[tb]) (hu:P.underlying tb=some .bool)
  (Kq:s.vars=[]) (hW:DataW.Whole enc P f.params.toList s.vars apart W args.toList ds [] p) (hA:DataW.TrodAll enc P W 0 (λ_=>true) true ts args.toList ds p) (Lt:s.fn H (ds++[])={ results:=[.lit (.bool true)],args:=ds }) (hb:RowKit.Below W.heap.size W W') :
  s.post enc P f apart fresh handsOn false W args (.bool true) W':=by
 have aH:∀ x ∈ p,x.block < W.heap.size:=λx hx=>by simpa using hW.lt x hx
 refine ⟨ds,[],p,[],p,[],hW,?_,?_,?_,World.keptBut_mono (λx hx=>⟨hx,.inr (.inl hx)⟩) (hb.frame (· ∈ p)),λe=>by cases e⟩
 ·rw[Lt,hr]
  exact ⟨[],[],RowKit.shut_bool hu true,rfl,rfl⟩
 ·grind [xl]
 ·rw[Lt,Kq]
  rfl
end
end OT
namespace OT
open Go
def CA (P:Program) (l:List (Nat×Ty)):Bool:=l.all λp=>ao P p.2 (.inl p.1)
def yg (P:Program) (l:List (Nat×Ty)):Bool:=l.all λp=>!(p.2.eS&&isAgg p.2)||(gQ P p.2 (.inl p.1)&&(P.eqGuardType P.depth p.1 == false)&&Nat.ble (dep p.2) 10000)
theorem ug {α:Type}:∀ {l:List (Nat×α)} {i:Nat} {x:α},eG l i=some x->(i,x) ∈ l
 | (k,y)::l,i,x,h=>by
  simp only[eG] at h
  split at h
  ·simp_all
  ·exact List.mem_cons_of_mem _ (ug h)
def se (P:Program) (l:List (Nat×kf)):Prop:=∀ f g,eG l f=some g->Sound P f g/\mp P f g.cap
theorem an (P:Program):se P []:=λf g h=>by cases h
theorem Ia {P:Program} {f:Nat} {g:kf} {l:List (Nat×kf)} (h1:Sound P f g) (Y:mp P f g.cap) (h3:se P l):se P ((f,g)::l):=λf' g' h=>by
 simp only[eG] at h
 split at h
 ·simp_all
 ·exact h3 f' g' h
theorem Jm {P:Program} {E:Env} {tl:List (Nat×Ty)} {gl:List (Nat×kf)} (h1:E.TI=eG tl) (Y:E.G=eG gl) (h3:CA P tl=true) (h4:yg P tl=true) (h5:se P gl):iu P E where
 ti i T h:=by rw[h1] at h;exact List.all_eq_true.1 h3 _ (ug h)
 eq i T h hq ha:=by
  rw[h1] at h
  have:=List.all_eq_true.1 h4 _ (ug h)
  simp_all
 fn f g h:=by rw[Y] at h;exact h5 f g h
def Ok (P:Program) (f:FuncId) (g:kf):Prop:=Sound P f g/\mp P f g.cap
theorem fc {P:Program} {f:Nat} {g:kf} {l:List (Nat×kf)} (h:Ok P f g) (h3:se P l):se P ((f,g)::l):=Ia h.1 h.2 h3
def zE (fn:Func) (cap:Bool):Bool:=!(fn.name == "runtime.NumGoroutine")&&!fn.body.isNone&&Nat.beq fn.nfree (match cap with | true=>1 | false=>0)
noncomputable def okB (P:Program) (E:Env) (fn:Func) (ps:PQ) (rs:RQ) (es:List Nat) (cap:Bool) (tl:TL):Bool:=(CA P tl&&yg P tl)&&(zE fn cap&&yf P E fn ps rs es)
theorem Kr {P:Program} {E:Env} {f:FuncId} {fn:Func} (hf:P.funcs[f]?=some fn) {g:kf} (hh:∀ v H,g.wG v H=true->H=[]) {es fr:List Nat} {tl:TL} {gl:GL} (h1:E.TI=eG tl) (Y:E.G=eG gl) (am:okB P E fn g.ps g.rs es g.cap tl=true) (hg:se P gl) (hF:∀ v,g.F v=lift λk=>xZ E k fn g.ps g.rs es fr v):Ok P f g:=by
 simp only[okB,zE,Bool.and_eq_true,Bool.not_eq_true',Nat.beq_eq] at am
 obtain ⟨⟨J,a2⟩,⟨⟨b1,b2⟩,b3⟩,c⟩:=am
 have hb:fn.body.isSome=true:=by
  simp_all
 exact ⟨xR (Jm h1 Y J a2 hg) hf hb hh c λv out h=>Dj (by rw[<-hF];exact h),fn,hf,b1,b2,b3⟩
structure FD where
 fn:Func
 tl:TL
 ps:PQ
 rs:RQ
 gl:GL:=[]
 es:List Nat:=[]
 fr:List Nat:=[]
 cap:Bool:=false
 fz:List (Nat×Nat×Nat):=[]
 lv:List (Nat×List Nat):=[]
 lx:List (Nat×List Nat):=[]
 lf:List (Nat×List (Nat×Md)):=[]
 od:List (Nat×List Nat):=[]
 ar:List (Nat×List Nat):=[]
 bx:List (Nat×List Nat):=[]
 pd:List (Nat×List Nat):=[]
 er:List (Nat×List (Nat×Nat)):=[]
noncomputable def FD.E (D:FD):Env:={ TI:=eG D.tl,G:=eG D.gl,fz:=D.fz,lv:=D.lv,lx:=D.lx,lf:=D.lf,od:=D.od,ar:=D.ar,bx:=D.bx,pd:=D.pd,er:=D.er }
noncomputable def FD.W (D:FD) (k:Nat) (a:(bB (D.ps.map (·.2))).den):Option (bB (D.rs.map (·.1)++dh D.ps)).den:=xZ D.E k D.fn D.ps D.rs D.es D.fr a
noncomputable def FD.F (D:FD) (a:(bB (D.ps.map (·.2))).den):Option (bB (D.rs.map (·.1)++dh D.ps)).den:=lift λk=>D.W k a
noncomputable def FD.sig (D:FD):kf:={ cap:=D.cap,ps:=D.ps,rs:=D.rs,F:=D.F }
noncomputable def FD.fin (D:FD):St->Option (bB (D.rs.map (·.1)++dh D.ps)).den:=yE D.ps D.rs D.es D.fn.results.toList (Gl D.fr)
noncomputable def FD.K0 (D:FD):KT (bB (D.rs.map (·.1)++dh D.ps)).den:=Im D.fin
noncomputable def FD.N (D:FD) (k:Nat) (p:List Nat):St->KT (bB (D.rs.map (·.1)++dh D.ps)).den->Option (bB (D.rs.map (·.1)++dh D.ps)).den:=jv D.E k D.fin (sub p (rH D.fn))
noncomputable def FD.L (D:FD) (k:Nat) (p live:List Nat) (o6:List (Nat×Md)) (K:KT (bB (D.rs.map (·.1)++dh D.ps)).den) (σ:St):Option (bB (D.rs.map (·.1)++dh D.ps)).den:=sN (D.N k p) (dg live o6) K k σ
theorem az {P:Program} {D:FD} {f:FuncId} (hf:P.funcs[f]?=some D.fn) (ht:(CA P D.tl&&yg P D.tl)=true) (am:(zE D.fn D.cap&&yf P D.E D.fn D.ps D.rs D.es)=true) (hg:se P D.gl):Ok P f D.sig:=
 Kr (hh:=λ_ _ h=>List.isEmpty_iff.1 h) (es:=D.es) (fr:=D.fr) (tl:=D.tl) (gl:=D.gl) (E:=D.E) hf rfl rfl (by rw[okB,ht,Bool.true_and];exact am) hg λ_=>rfl
end OT
namespace OT
open Go
theorem dz {n:Int} (h:-9223372036854775808<=n/\n<=9223372036854775807):ap n=n:=by
 grind [ap,IntKind.wrap_i64]
theorem ak:maxLen=9223372036854775807:=by simp[maxLen]
theorem vp {V R:Type} {B:(V->Option R)->V->Option R} (f:V->R) (I:V->Prop) (μ:V->Nat)
  (h:∀ v,I v->∀ self,B self v=some (f v)\/∃ v',B self v=self v'/\f v'=f v/\I v'/\μ v' < μ v):∀ (k:Nat) (v:V),I v->μ v < k->au B k v=some (f v)
 | 0,v,_,hk=>by omega
 | k+1,v,hI,hk=>by
  show B (au B k) v=some (f v)
  rcases h v hI (au B k) with h1 | ⟨v',h1,Y,h3,h4⟩
  ·exact h1
  ·rw[h1,vp f I μ h k v' h3 (by omega),Y]
end OT
set_option linter.unusedVariables false
set_option linter.unusedSimpArgs false
namespace OT
open Go
theorem lK {V R:Type} (B:(V->Option R)->V->Option R) (k:Nat) (v:V):au B (k+1) v=B (au B k) v:=rfl
def Jn {α:Type} (f:α->Nat):List α->Nat
 | []=>0
 | x::xs=>f x+Jn f xs
def zz:(t:Ty)->t.den->Nat
 | .str,v=>List.length v
 | .pair a b,v=>zz a v.1+zz b v.2
 | .af e,v=>List.length v+Jn (zz e) v
 | _,_=>0
end OT
set_option linter.unusedVariables false
set_option linter.unusedSimpArgs false
namespace OT
open Go
end OT
set_option linter.unusedVariables false
set_option linter.unusedSimpArgs false
namespace OT
open Go
def aX {S O α:Type} (f:Nat->S->α->Sum O S) (fin:S->O):Nat->List α->S->O
 | _,[],s=>fin s
 | i,x::xs,s=>match f i s x with
  | .inl o=>o
  | .inr s'=>aX f fin (i+1) xs s'
theorem b_ {V S O α:Type} {B:(V->Option O)->V->Option O} (xs:List α) (enc:S->Int->V) (f:Nat->S->α->Sum O S) (fin:S->O) (I:Nat->S->Prop) (Ff:xs.length<=maxLen)
  (dy:∀ (i:Nat) (hi:i < xs.length) (s:S) self,I i s->B self (enc s (i:Int))=match f i s xs[i] with | .inl o=>some o | .inr s'=>self (enc s' (ap ((i:Int)+1))))
  (hI:∀ (i:Nat) (hi:i < xs.length) (s s':S),I i s->f i s xs[i]=.inr s'->I (i+1) s')
  (qQ:∀ (s:S) self,I xs.length s->B self (enc s (xs.length:Int))=some (fin s)) (s:S) (h0:I 0 s):∀ k,xs.length < k->au B k (enc s 0)=some (aX f fin 0 xs s):=by
 have main:∀ (m i:Nat) (s:S),xs.length - i=m->i<=xs.length->I i s->∀ k,m < k->au B k (enc s (i:Int))=some (aX f fin i (xs.drop i) s):=by
  intro m
  induction m with
  | zero=>
   intro i s hm hi hs k hk
   have jj:i=xs.length:=by omega
   subst jj
   cases k <;> grind [au,aX]
  | succ m ih=>
   intro i s hm hi hs k hk
   have aH:i < xs.length:=by omega
   cases k <;> grind [au,List.drop_eq_getElem_cons,aX,dz,ak]
 intro k hk
 simpa using main xs.length 0 s (by omega) (by omega) h0 k hk
theorem nA {O α:Type} (p:α->Bool) (bad:O) (fin:Unit->O):∀ (xs:List α) (i:Nat),aX (λ_ _ x=>if p x then .inr () else .inl bad) fin i xs ()=if xs.all p then fin () else bad
 | [],_=>rfl
 | x::xs,i=>by
  simp only[aX,List.all_cons]
  by_cases h:p x=true
  ·simp[h,nA p bad fin xs (i+1)]
  ·simp[h]
def jJ {α:Type} (c:α->Int):List α->Int
 | []=>0
 | x::xs=>if c x=0 then jJ c xs else c x
theorem vq {O α:Type} (c:α->Int) (bad:Int->O) (fin:Unit->O):∀ (xs:List α) (i:Nat),aX (λ_ _ x=>if c x=0 then .inr () else .inl (bad (c x))) fin i xs ()=if jJ c xs=0 then fin () else bad (jJ c xs)
 | [],_=>rfl
 | x::xs,i=>by
  simp only[aX,jJ]
  by_cases h:c x=0
  ·simp[h,vq c bad fin xs (i+1)]
  ·simp[h]
theorem Eg {R:Type} (a:Option R):both a a=a:=by simp[both]
theorem sU {R α:Type} {v:List α} {a b r:Option R} (h1:v=[]->a=r) (Y:b=r):pB v a b=r:=by
 cases v <;> grind [pB,Eg]
theorem dA {n:Nat} (h:n<=200000000000):n<=cU:=by grind [cU]
end OT
set_option linter.unusedVariables false
set_option linter.unusedSimpArgs false
namespace OT
open Go
section
variable {P:Program} {w:World} {A:Cells}
end
end OT
set_option linter.unusedVariables false
set_option linter.unusedSimpArgs false
namespace OT
open Go Go.Sort
instance NC (e:Ty):Inhabited e.den:=⟨e.zero⟩
section
variable {P:Program}
end
end OT
