/- The proof's parts, merged: Calls, third part.. No conditions but those that each states. -/
import Derived.Test.YteljaioipnoakaaDoorVb
import Derived.MapKept
import Derived.WideMake
import Derived.OrdersHeld
import Derived.LoopN
import Derived.Scope
import Derived.ProofKit
import Derived.Deep.Slices
import Derived.Laws.BitsLemmas
set_option linter.unusedVariables false
set_option linter.unusedSimpArgs false
namespace OT
open Go
section
variable {P:Program} {C:Ctx} {A:Cells} {X:FP} {σ:St} {a:Act} {w:World} {F:Nat->FP} {R:Type} {x:R} {Q:Exit->Act->World->Prop} {o:Oper} {E:Env}
def pickN (b:Bool) (n:Nat):Nat:=match b with
 | true=>n
 | false=>0
theorem plc_head {w2:World} {A2:Cells}:∀ (q:Path) (t:Ty) {m':Md} {v':t.den} {cs:List Value} {G':FP} {ad:Option (Nat×Nat)} {pl:Pl},Rep P w2 A2 t m' [] v' cs G'->nidx q<=1->plc w q t [] cs ad=some pl ->
  ∃ H' cs',plc w2 q t [] cs ad=some ⟨pl.t,H',cs',pl.ad⟩/\(nidx q < 1->isSlc pl.t=true->cs'=pl.cs):=by
 intro q
 induction q with
 | nil=>
  intro t m' v' cs G' ad pl h2 hq hp
  simp only[plc,Option.some.injEq] at hp
  subst hp
  exact ⟨_,_,rfl,fun _ _=>rfl⟩
 | cons s q ih=>
  intro t m' v' cs G' ad pl h2 hq hp
  cases t with
  | pair a b=>
   obtain ⟨h0,F1,F2,hs,r1,r2⟩:=h2
   cases s with
   | fst=>
    simp only[plc,h0,if_false] at hp ⊢
    exact ih a r1 (by simpa [nidx] using hq) (by simpa using hp)
   | snd=>
    simp only[plc,h0,if_false] at hp ⊢
    exact ih b r2 (by simpa [nidx] using hq) (by simpa using hp)
   | idx i=>simp[plc] at hp
   | aix i=>simp[plc] at hp
  | slc e=>
   cases s with
   | idx i=>
    obtain ⟨xa,cap,news,Fi,r1,r2,r3,r4,r5,r6,r7,r8⟩:=slc_elems h2
    subst r1
    cases xa with
    | none=>grind [plc]
    | some ad'=>
     simp only[plc,hole,List.any_nil,Bool.false_eq_true,if_false,List.filterMap_nil] at hp ⊢
     split at hp
     ·rename_i hi
      rw[if_pos hi]
      have hrep:=r6 i _ (List.getElem?_eq_getElem hi)
      obtain ⟨g1,g2⟩:=r3 ad' rfl
      have hl:=Rep.length _ hrep
      have hh:Has w2 ad'.block (ad'.off+i*e.sz) ((news.drop (i*e.sz)).take e.sz):=fun j u hu=>by
       rw[List.getElem?_take] at hu
       split at hu
       ·rw[List.getElem?_drop] at hu
        rw[Nat.add_assoc];exact g2 _ u hu
       ·cases hu
      rw[rd_of_has hh hl]
      obtain ⟨H',cs',h1,h2⟩:=plc_typed (A:=fun _ _=>True) (m:=.leaf) (v:=v'[i]) (F:=fun _ _=>0) q e hrep (.inl (by grind [nidx])) hp
      grind [nidx]
     ·cases hp
   | _=>simp[plc] at hp
  | arr n e=>
   cases s with
   | fst=>simp[plc] at hp
   | snd=>simp[plc] at hp
   | idx i=>simp[plc] at hp
   | aix i=>
    obtain ⟨_,hf,hl,hlen,hr⟩:=h2
    simp only[plc,List.isEmpty_nil,if_true] at hp ⊢
    split at hp
    ·rename_i hi
     rw[if_pos hi]
     exact ih e (Ro.flat e (m:=.leaf) (fun _ _=>0) hf (hr i _ (List.getElem?_eq_getElem (by grind)))) (by simpa [nidx] using hq) hp
    ·cases hp
  | _=>grind [plc]
theorem stab_head {t:Ty} {m':Md} {v':t.den} {cs:List Value} {G':FP} {w2:World} {A2:Cells} (ad:Option (Nat×Nat)) (h2:Rep P w2 A2 t m' [] v' cs G'):Stab 1 False w t [] cs ad w2 [] cs:=by
 intro q pl hq hp
 grind [plc_head]
theorem ax_bnd (h:Rel0 P C A σ a w F) {r:Nat} {ow:Bool} {b i:Nat} (ha:AX A F σ.n r ow b i):b < w.heap.size:=by
 rcases ha with ha | ⟨_,j,hj,_,hp⟩
 ·exact h.bnd b i (.inr ha)
 ·exact h.bnd b i (.inl (by grind [le_sumF]))
def noMut:List (PM×Ty)->Bool
 | []=>true
 | (.mutp _ _,_)::_=>false
 | (.muts _,_)::_=>false
 | (.eat _,_)::_=>false
 | (.eatv _,_)::_=>false
 | _::ps=>noMut ps
theorem argsOk_mut {ow:Bool} {y:Nat×Path} {ws:List (Nat×Path)}:∀ (ps:List (PM×Ty)) {v:(tupT (ps.map (·.2))).den} {ss:List Slot} {tvs:List Value},noMut ps=true->ArgsOk P A σ a w F ow ps v ss tvs (y::ws)->False
 | [],_,_,_,_,h=>by cases h.2.2
 | (pm,t)::ps,_,_,_,hm,h=>by
  obtain ⟨s,ss',tv,tvs',wp,ws',_,_,hw,hao,hrest⟩:=h
  cases pm with
  | ro=>obtain ⟨hwp,_⟩:=hao;subst hwp;have hw:_=ws':=hw;subst hw;exact argsOk_mut ps hm hrest
  | fix f=>obtain ⟨hwp,_⟩:=hao;subst hwp;have hw:_=ws':=hw;subst hw;exact argsOk_mut ps hm hrest
  | mutp m m'=>cases hm
  | muts m=>cases hm
  | eat m=>cases hm
  | eatv m=>cases hm
theorem callGo_eat (h:Rel0 P C A σ a w F) {f:FuncId} {g:Sig} (hs:Sound P f g) {ow:Bool} (how:ow=true->(allOwn g.rs&&allOwnP g.ps)=true) {r:Nat} {p:Path} {t:Ty} {m:Md} {v1:t.den} {cs:List Value} {ad:Option (Nat×Nat)} {isP:Bool} {v:(tupT (g.ps.map (·.2))).den} {tvs:List Value} {out:(tupT (g.rs.map (·.1)++mutTys g.ps)).den} (hF:g.F v=some out)
  (b1:At σ r p t m [] v1) (b2:place σ a w r p=some ⟨t,[],cs,ad⟩) (b3:isP=true->∃ b o,ad=some (b,o))
  (b5 : ∀ (A0:Cells) (F0 Fp:FP),(∀ b i,A b i->A0 b i)->(ow=true->∀ b i j,j < σ.n->j≠r->1<=F j b i->A0 b i)->Rep P w A0 t m [] v1 cs Fp ->
      (isP=true->∀ b o,ad=some (b,o)->Has w b o cs/\(∀ j,j < t.sz->w.frozen? ⟨b,o+j,none⟩=false)/\∀ b' i,rng b o t.sz b' i+Fp b' i<=F0 b' i)->(isP=false->∀ b i,Fp b i<=F0 b i)->ArgsRel P w A0 (g.hol v) g.ps v tvs F0)
  {d:Option Tmp} {K:St->Option R} (q1:(match setK σ r p t m t.zero (fun _=>some ()) with | some _=>K ((σ.put r .dead).putD d (resSlot (splitR g.rs out).1)) | none=>none)=some x) (hmut:noMut g.ps=true->False) :
  Calls P f tvs.toArray w fun e w'=>∃ rv,e=.returned rv/\Nx P C K x (a.put d rv) w'/\(noMut g.ps=true->Ext w w' (fun _ _=>0)):=by
 cases hset:setK σ r p t m t.zero (fun _=>some ()) with
 | none=>grind
 | some u=>
 rw[hset] at q1
 simp only at q1
 obtain ⟨hr,m2,H2,v2,cs2,ad2,F2,s1,s2,s3,s4,s5,_⟩:=set_ok h hset
 obtain ⟨_,e3,e4,e5⟩:=b1.inj s1
 subst e3;subst e4
 have e5:=eq_of_heq e5
 subst e5
 rw[b2] at s2
 simp only[Option.some.injEq,Pl.mk.injEq,true_and] at s2
 obtain ⟨rfl,rfl⟩:=s2
 obtain ⟨fp1,fp2⟩:=Rep.fp t s3
 obtain ⟨F0,hF0⟩:∃ F0:FP,∀ b i,F0 b i=pickN isP (rngO ad t.sz b i)+fpOf w t m [] cs b i:=⟨fun b i=>pickN isP (rngO ad t.sz b i)+fpOf w t m [] cs b i,fun _ _=>rfl⟩
 have hF0r:∀ b i,F0 b i<=rngO ad t.sz b i+fpOf w t m [] cs b i:=fun b i=>by
  rw[hF0];cases isP <;> simp[pickN]
 have hF0F:∀ b i,F0 b i<=F r b i:=fun b i=>by grind
 have hsum:∀ b i,F r b i<=sumF σ.n F b i:=fun b i=>le_sumF F hr b i
 have htot:∀ b i,sumF σ.n F b i<=1:=fun b i=>by have:=h.tot b i;omega
 have hA0:∀ b i,A b i->AX A F σ.n r ow b i:=fun b i h=>.inl h
 have hbn:∀ b i,1<=F r b i->b < w.heap.size:=fun b i hp=>h.bnd b i (.inl (by grind))
 have hargs:=b5 (AX A F σ.n r ow) F0 (fpOf w t m [] cs) hA0 (fun how b i j hj hne hp=>.inr ⟨how,j,hj,hne,hp⟩)
  (Rep.mono hA0 (fun _ _ _ _ h=>h) (fun _ _ h=>h) t fp1 (fun _ _=>Nat.le_refl _) (fun _ _ _ _ h=>h))
  (fun hP b o e=>⟨(s5 b o e).1,(s5 b o e).2,fun b' i=>by rw[hF0,hP,e];exact Nat.le_refl _⟩) (fun hP b i=>by grind)
 refine (hs w _ F0 v _ hargs (fun b i=>by grind) (fun b i hp ha=>?_) (fun b i hp=>?_) (h.tabAt fun b i hp=>by grind) out hF).mono fun e w' hpost=>?_
 ·have h1:=hF0F b i;have h2:=hsum b i
  rcases ha with ha | ⟨_,j,hj,hne,hpj⟩
  ·exact h.dis b i (by grind) ha
  grind [le_sumF2]
 ·rcases hp with hp | hp
  ·grind
  ·exact ax_bnd h hp
 ·obtain ⟨rv,rfl,hext,A',G,GR,GM,g1,g2,g3,g4,g5,g6,g7,g8,g9⟩:=hpost
  refine ⟨rv,rfl,?_⟩
  obtain ⟨x1,x2⟩:=ext_news hext
  obtain ⟨A2f,A2,a1,a2,a3,a4,a6⟩:∃ A2f A2:Cells,(∀ b i,A b i->A2f b i)/\(∀ b i,A2f b i->A b i\/(w.heap.size<=b/\b < w'.heap.size/\G b i=0))/\(∀ b i,A2f b i->A2 b i)/\(∀ b i,A2 b i->A2f b i\/(1<=F0 b i/\G b i=0)) /\
    RetRel P w' A2 (splitR g.rs out).1 rv GR:=by
   cases ow with
   | true=>
    have ho:=how rfl
    simp only[Bool.and_eq_true] at ho
    exact ⟨A,A,fun _ _ h=>h,fun _ _ h=>.inl h,fun _ _ h=>h,fun _ _ h=>.inl h,RetRel.free (split_own g.rs out ho.1) g8⟩
   | false=>
    have hno:∀ b i,A' b i->G b i=0:=fun b i ha=>by
     grind
    refine ⟨fun b i=>A b i\/(w.heap.size<=b/\A' b i),A',fun _ _ h=>.inl h,fun b i ha=>ha.imp id fun ⟨h1,h2⟩=>⟨h1,g6 b i (.inr h2),hno b i h2⟩,fun b i ha=>?_,fun b i ha=>?_,g8⟩
    ·grind
    ·rcases g2 b i ha with (ha' | ⟨e,_⟩) | h0 | hn
     ·grind
     all_goals grind
  have hszn:=news_size hext.size
  have h1:=h.put hr (s:=.dead) (v:=tmp a r) (Fd:=fun _ _=>0) (X':=F r) trivial (fun b k=>by omega) (fun _ _ _ _ e=>by cases e)
  rw[put_same] at h1
  have hgr:=h1.grow x1 (A1:=A2f) (X1:=fun b i=>if w.heap.size<=b then G b i else F r b i) a1 (fun b i ha=>?_) (fun b i=>?_)
  rotate_left
  ·grind
  ·grind
  have h3:=hgr.world x2 (fun b i hp=>by
   grind)
  have h4:=h3.giveUp (A1:=A2) (X1:=GR) a3 (fun b i ha=>by
   grind) (fun b i=>by
   grind)
  have hret:=ret_ok (σ:=σ.put r .dead) (a:=a) a6
  exact ⟨fin_val h4 q1 hret.1 (fun _ _=>Nat.le_refl _) hret.2,fun hm=>(hmut hm).elim⟩
theorem callGo_take (h:Rel0 P C A σ a w F) {f:FuncId} {g:Sig} (hs:Sound P f g) {ow:Bool} (how:ow=true->(allOwn g.rs&&allOwnP g.ps)=true) {r:Nat} {p:Path} {t:Ty} {m:Md} {H:List Path} {v1:t.den} {cs:List Value} {ad:Option (Nat×Nat)} {isP:Bool} {v:(tupT (g.ps.map (·.2))).den} {tvs:List Value} {out:(tupT (g.rs.map (·.1)++mutTys g.ps)).den} (hF:g.F v=some out)
  (b1:At σ r p t m H v1) (b2:place σ a w r p=some ⟨t,H,cs,ad⟩) (hP:isP=false)
  (b5 : ∀ (A0:Cells) (F0 Fp:FP),(∀ b i,A b i->A0 b i)->(ow=true->∀ b i j,j < σ.n->j≠r->1<=F j b i->A0 b i)->Rep P w A0 t m H v1 cs Fp ->
      (isP=true->∀ b o,ad=some (b,o)->Has w b o cs/\(∀ j,j < t.sz->w.frozen? ⟨b,o+j,none⟩=false)/\∀ b' i,rng b o t.sz b' i+Fp b' i<=F0 b' i)->(isP=false->∀ b i,Fp b i<=F0 b i)->ArgsRel P w A0 (g.hol v) g.ps v tvs F0)
  {d:Option Tmp} {K:St->Option R} (q1:takeK σ r p (fun σ=>K (σ.putD d (resSlot (splitR g.rs out).1)))=some x) (hmut:noMut g.ps=true->False) :
  Calls P f tvs.toArray w fun e w'=>∃ rv,e=.returned rv/\Nx P C K x (a.put d rv) w'/\(noMut g.ps=true->Ext w w' (fun _ _=>0)):=by
 have hr:r < σ.n:=place_lt b2
 obtain ⟨A1,σ1,F1,cs1,ad1,F0,k1,k2,k3,k4,_,k5,k6,k7⟩:=take_okF h q1 b1
 rw[b2] at k5
 simp only[Option.some.injEq,Pl.mk.injEq,true_and] at k5
 obtain ⟨rfl,rfl⟩:=k5
 have hsum:∀ b i,F r b i<=sumF σ.n F b i:=fun b i=>le_sumF F hr b i
 have htot:∀ b i,sumF σ.n F b i<=1:=fun b i=>by have:=h.tot b i;omega
 have k3t:∀ b i,F0 b i+sumF σ1.n F1 b i<=1:=fun b i=>by have h:=k3.tot b i;simpa using h
 have k3d:∀ b i,1<=F0 b i->¬ A1 b i:=fun b i hp=>k3.dis b i (by grind)
 have k3b:∀ b i,1<=F0 b i\/A1 b i->b < w.heap.size:=fun b i hp=>k3.bnd b i (hp.imp (fun hp=>by grind) id)
 have hA0:∀ b i,A1 b i->AX A1 F σ.n r ow b i:=fun b i h=>.inl h
 have hargs:=b5 (AX A1 F σ.n r ow) F0 F0 (fun b i h=>.inl (k2 b i h)) (fun how b i j hj hne hp=>.inr ⟨how,j,hj,hne,hp⟩)
  (Rep.mono (fun b i h=>.inl (k2 b i h)) (fun _ _ _ _ h=>h) (fun _ _ h=>h) t k6 (fun _ _=>Nat.le_refl _) (fun _ _ _ _ h=>h))
  (fun e=>by grind) (fun _ b i=>Nat.le_refl _)
 refine (hs w _ F0 v _ hargs (fun b i=>by grind) (fun b i hp ha=>?_) (fun b i hp=>?_) (k3.tabAt fun b i hp=>by grind) out hF).mono fun e w' hpost=>?_
 ·rcases ha with ha | ⟨_,j,hj,hne,hpj⟩
  all_goals grind [le_sumF2]
 ·rcases hp with hp | hp | ⟨_,j,hj,hne,hpj⟩
  ·grind
  ·grind
  ·exact h.bnd b i (.inl (by grind [le_sumF]))
 ·obtain ⟨rv,rfl,hext,A',G,GR,GM,g1,g2,g3,g4,g5,g6,g7,g8,g9⟩:=hpost
  refine ⟨rv,rfl,?_⟩
  obtain ⟨x1,x2⟩:=ext_news hext
  obtain ⟨A2f,A2,a1,a2,a3,a4,a6⟩:∃ A2f A2:Cells,(∀ b i,A1 b i->A2f b i)/\(∀ b i,A2f b i->A1 b i\/(w.heap.size<=b/\b < w'.heap.size/\G b i=0))/\(∀ b i,A2f b i->A2 b i)/\(∀ b i,A2 b i->A2f b i\/(1<=F0 b i/\G b i=0)) /\
    RetRel P w' A2 (splitR g.rs out).1 rv GR:=by
   cases ow with
   | true=>
    have ho:=how rfl
    simp only[Bool.and_eq_true] at ho
    exact ⟨A1,A1,fun _ _ h=>h,fun _ _ h=>.inl h,fun _ _ h=>h,fun _ _ h=>.inl h,RetRel.free (split_own g.rs out ho.1) g8⟩
   | false=>
    have hno:∀ b i,A' b i->G b i=0:=fun b i ha=>by
     grind
    refine ⟨fun b i=>A1 b i\/(w.heap.size<=b/\A' b i),A',fun _ _ h=>.inl h,fun b i ha=>ha.imp id fun ⟨h1,h2⟩=>⟨h1,g6 b i (.inr h2),hno b i h2⟩,fun b i ha=>?_,fun b i ha=>?_,g8⟩
    ·grind
    ·rcases g2 b i ha with (ha' | ⟨e,_⟩) | h0 | hn
     all_goals grind
  have hszn:=news_size hext.size
  have hgr:=k3.grow x1 (A1:=A2f) (X1:=fun b i=>if w.heap.size<=b then G b i else F0 b i) a1 (fun b i ha=>?_) (fun b i=>?_)
  rotate_left
  ·grind
  ·grind
  have h3:=hgr.world x2 (fun b i hp=>by
   grind)
  have h4:=h3.giveUp (A1:=A2) (X1:=GR) a3 (fun b i ha=>by
   grind) (fun b i=>by
   grind)
  have hret:=ret_ok (σ:=σ1) (a:=a) a6
  exact ⟨fin_val h4 k1 hret.1 (fun _ _=>Nat.le_refl _) hret.2,fun hm=>(hmut hm).elim⟩
theorem ax_le {F2:Nat->FP} {n r0:Nat} {ow:Bool} (hF:∀ j b i,F2 j b i<=F j b i):∀ b i,AX A F2 n r0 ow b i->AX A F n r0 ow b i:=fun b i h=>h.imp id fun ⟨e,j,h1,h2,h3⟩=>⟨e,j,h1,h2,Nat.le_trans h3 (hF j b i)⟩
set_option maxHeartbeats 1000000 in
theorem callGo_ok (h:Rel0 P C A σ a w F) {f:FuncId} {g:Sig} (hs:Sound P f g) {ow:Bool} (how:ow=true->(allOwn g.rs&&(allOwnP g.ps||u8P g.ps))=true) {xs:List Operand} {ex:List Slot} {exv:List Value} (hok:xs.all (opdOk P)=true)
  (hex:∀ (A':Cells) (σ':St),(∀ b i,A b i->A' b i)->SlotsRel P A' σ' a w ex exv) {d:Option Tmp} {K:St->Option R} (hk:callGo g ow σ xs ex d K=some x) :
  Calls P f (xs.map a.eval++exv).toArray w fun e w'=>∃ rv,e=.returned rv/\Nx P C K x (a.put d rv) w'/\(noMut g.ps=true->Ext w w' (fun _ _=>0)):=by
 unfold callGo at hk
 obtain ⟨A1,σ1,F1,k1,k2,k3,k4⟩:=trim_ok g.ps xs h hk
 have hsl:=slots_opds k3 xs hok (hex A1 σ1 k2)
 obtain ⟨v,ws,q1,q2⟩:=args_ok k3 g.ps hsl k1
 obtain ⟨FX,hF2,q2,hU⟩:∃ FX:Nat->FP,(∀ j b i,FX j b i<=F1 j b i)/\ArgsOk P A1 σ1 a w FX ow g.ps v (xs.map (opd σ1)++ex) (xs.map a.eval++exv) ws/\(ow=true->allOwn g.rs=true/\(allOwnP g.ps=true\/(u8P g.ps=true/\∀ j b i,1<=FX j b i->nonB (ce w b i)=true))):=by
  by_cases hown:allOwnP g.ps=true
  ·exact ⟨F1,fun _ _ _=>Nat.le_refl _,q2,fun e=>by have:=how e;simp only[Bool.and_eq_true] at this;exact ⟨this.1,.inl hown⟩⟩
  ·by_cases hu:u8P g.ps=true
   ·exact ⟨resF w F1,resF_le w F1,argsOk_res g.ps hu q2,fun e=>by have:=how e;simp only[Bool.and_eq_true] at this;exact ⟨this.1,.inr ⟨hu,fun j b i hp=>resF_non hp⟩⟩⟩
   ·exact ⟨F1,fun _ _ _=>Nat.le_refl _,q2,fun e=>by have:=how e;simp only[Bool.and_eq_true,Bool.or_eq_true] at this;exact absurd this.2 (by simp[hown,hu])⟩
 split at q1
 rotate_left
 ·cases q1
 rename_i hc
 simp only[Bool.and_eq_true,Nat.ble_eq] at hc
 obtain ⟨hlen,hap⟩:=hc
 match ws,hlen with
 | [],_=>
  have q1:((g.F v).bind fun out=>backK σ1 g.ps [] (splitR g.rs out).2 fun σ=>K (σ.putD d (resSlot (splitR g.rs out).1)))=some x:=by
   grind [holK]
  cases hF:g.F v with
  | none=>grind
  | some out=>
  rw[hF] at q1
  simp only[Option.bind_some] at q1
  obtain ⟨n1,n2⟩:=argsOk_none (R:=R) (A0:=AX A1 FX σ1.n σ1.n ow) (fun b i h=>.inl h) (r0:=σ1.n) (fun how b i j hj hne hp=>.inr ⟨how,j,hj,hne,hp⟩) g.ps q2 (fun r _ hlt=>by omega)
  rw[n2] at q1
  refine (hs w _ (fun _ _=>0) v _ (n1 _) (fun _ _=>Nat.zero_le _) (fun b i hp=>by omega) (fun b i hp=>?_) (k3.tabAt fun b i hp=>by omega) out hF).mono fun e w' hpost=>?_
  ·rcases hp with hp | hp
   ·omega
   ·exact ax_bnd k3 (ax_le hF2 b i hp)
  ·obtain ⟨rv,rfl,hext,A',G,GR,GM,g1,g2,g3,g4,g5,g6,g7,g8,g9⟩:=hpost
   have hX:∀ b i,GR b i<=0\/(w.heap.size<=b/\b < w'.heap.size/\GR b i<=1):=fun b i=>by
    grind
   refine ⟨rv,rfl,?_⟩
   cases ow with
   | true=>
    have ho:=hU rfl
    have hgr:=k3.grow hext (A1:=A1) (X1:=GR) (fun _ _ h=>h) (fun _ _ h=>.inl h) hX
    have hret:=ret_ok (σ:=σ1) (a:=a) (RetRel.free (A':=A1) (split_own g.rs out ho.1) g8)
    exact ⟨fin_val hgr q1 hret.1 (fun _ _=>Nat.le_refl _) hret.2,fun _=>hext⟩
   | false=>
    have hgr:=k3.grow hext (A1:=A') (X1:=GR) (fun b i ha=>g1 b i (.inl ha)) (fun b i ha=>by
     rcases g2 b i ha with (ha' | ⟨e,_⟩) | h0 | hn
     all_goals grind) hX
    have hret:=ret_ok (σ:=σ1) (a:=a) g8
    exact ⟨fin_val hgr q1 hret.1 (fun _ _=>Nat.le_refl _) hret.2,fun _=>hext⟩
 | [(r,p)],_=>
  simp only[apart,Bool.and_eq_true,Nat.ble_eq,and_true] at hap
  obtain ⟨_,isE,isP,isV,t,m,H,v1,cs,ad,b0,b1,b2,b3,b4,b5,b8,b7,b6⟩:=argsOk_one g.ps q2 hap
  have q3:(isV=true->g.hol v H=true)/\((g.F v).bind fun out=>backK σ1 g.ps [(r,p)] (splitR g.rs out).2 fun σ=>K (σ.putD d (resSlot (splitR g.rs out).1)))=some x:=by
   cases hv:hasV g.ps with
   | false=>
    rw[hv] at q1
    exact ⟨fun e=>(by grind),q1⟩
   | true=>
    rw[hv] at q1
    simp only[holK] at q1
    rw[b1.eq] at q1
    grind
  obtain ⟨q0,q1⟩:=q3
  replace b5:=fun A0 F0 Fp a1 a2 a3 a4 a5=>b5 A0 F0 Fp a1 a2 a3 a4 a5 (g.hol v) q0
  have b5':=fun A0 F0 Fp a1 (a2:ow=true->∀ b i j,j < σ1.n->j≠r->1<=F1 j b i->A0 b i) a3 a4 a5=>b5 A0 F0 Fp a1 (fun e b i j hj hne hp=>a2 e b i j hj hne (Nat.le_trans hp (hF2 j b i))) a3 a4 a5
  have howE:isE=true->ow=true->(allOwn g.rs&&allOwnP g.ps)=true:=fun e1 e2=>by
   obtain ⟨u1,u2 | u2⟩:=hU e2
   ·rw[u1,u2];rfl
   ·rw[b0.2.2.1 (u8P_noEat _ u2.1)] at e1;cases e1
  cases hF:g.F v with
  | none=>grind
  | some out=>
  rw[hF] at q1
  simp only[Option.bind_some] at q1
  cases isV with
  | true=>
   obtain ⟨hE,hP,_⟩:=b8 rfl
   subst hE
   exact callGo_take k3 hs (howE rfl) hF b1 b2 (b8 rfl).2.1 b5' (((b8 rfl).2.2 σ1 (fun σ=>K (σ.putD d (resSlot (splitR g.rs out).1))) (splitR g.rs out).2).symm.trans q1) (fun hm=>argsOk_mut g.ps hm q2)
  | false=>
  obtain rfl:=b0.1 rfl
  cases isE with
  | true=>exact callGo_eat k3 hs (howE rfl) hF b1 b2 b3 b5' ((b7 rfl rfl σ1 (fun σ=>K (σ.putD d (resSlot (splitR g.rs out).1))) (splitR g.rs out).2).symm.trans q1) (fun hm=>argsOk_mut g.ps hm q2)
  | false=>
  obtain ⟨mo,o1,b6o,e1,e2⟩:=b6 rfl (splitR g.rs out).2
  rw[e1] at q1
  have q1':=q1
  obtain ⟨hr,m2,H2,v2,cs2,ad2,F2,s1,s2,s3,s4,s5,_⟩:=set_ok k3 q1
  obtain ⟨_,e3,e4,e5⟩:=b1.inj s1
  subst e3;subst e4
  have e5:=eq_of_heq e5
  subst e5
  rw[b2] at s2
  simp only[Option.some.injEq,Pl.mk.injEq,true_and] at s2
  obtain ⟨rfl,rfl⟩:=s2
  obtain ⟨fp1,fp2⟩:=Rep.fp t s3
  obtain ⟨F0,hF0⟩:∃ F0:FP,∀ b i,F0 b i=pickN isP (rngO ad t.sz b i)+fpOf w t m [] cs b i:=⟨fun b i=>pickN isP (rngO ad t.sz b i)+fpOf w t m [] cs b i,fun _ _=>rfl⟩
  have hF0r:∀ b i,F0 b i<=rngO ad t.sz b i+fpOf w t m [] cs b i:=fun b i=>by
   rw[hF0];cases isP <;> simp[pickN]
  have hF0F:∀ b i,F0 b i<=F1 r b i:=fun b i=>by grind
  have hsum:∀ b i,F1 r b i<=sumF σ1.n F1 b i:=fun b i=>le_sumF F1 hr b i
  have htot:∀ b i,sumF σ1.n F1 b i<=1:=fun b i=>by have:=k3.tot b i;omega
  have hA0:∀ b i,A1 b i->AX A1 FX σ1.n r ow b i:=fun b i h=>.inl h
  have hargs:=b5 (AX A1 FX σ1.n r ow) F0 (fpOf w t m [] cs) hA0 (fun how b i j hj hne hp=>.inr ⟨how,j,hj,hne,hp⟩)
   (Rep.mono hA0 (fun _ _ _ _ h=>h) (fun _ _ h=>h) t fp1 (fun _ _=>Nat.le_refl _) (fun _ _ _ _ h=>h))
   (fun hP b o e=>⟨(s5 b o e).1,(s5 b o e).2,fun b' i=>by rw[hF0,hP,e];exact Nat.le_refl _⟩) (fun hP b i=>by grind)
  refine (hs w _ F0 v _ hargs (fun b i=>by grind) (fun b i hp ha=>?_) (fun b i hp=>?_) (k3.tabAt fun b i hp=>by grind) out hF).mono fun e w' hpost=>?_
  ·have h1:=hF0F b i;have h2:=hsum b i
   rcases ha with ha | ⟨_,j,hj,hne,hpj⟩
   ·exact k3.dis b i (by grind) ha
   have hpj:=Nat.le_trans hpj (hF2 j b i)
   grind [le_sumF2]
  ·rcases hp with hp | hp
   ·exact k3.bnd b i (.inl (by grind))
   ·exact ax_bnd k3 (ax_le hF2 b i hp)
  ·obtain ⟨rv,rfl,hext,A',G,GR,GM,g1,g2,g3,g4,g5,g6,g7,g8,g9⟩:=hpost
   refine ⟨rv,rfl,?_⟩
   obtain ⟨cs3,F3,t1,t2,t3,t4⟩:=e2 w' A' GM g9
   obtain ⟨x1,x2⟩:=ext_news hext
   obtain ⟨A2f,A2,a1,a2,a3,a4,a5,a6⟩:∃ A2f A2:Cells,(∀ b i,A1 b i->A2f b i)/\(∀ b i,A2f b i->A1 b i\/(w.heap.size<=b/\b < w'.heap.size/\G b i=0))/\(∀ b i,A2f b i->A2 b i)/\(∀ b i,A2 b i->A2f b i\/(1<=F0 b i/\G b i=0)) /\
     Rep P w' A2 t mo [] o1 cs3 F3/\RetRel P w' A2 (splitR g.rs out).1 rv GR:=by
    cases ow with
    | true=>
     obtain ⟨u1,u2 | ⟨u2,u3⟩⟩:=hU rfl
     ·exact ⟨A1,A1,fun _ _ h=>h,fun _ _ h=>.inl h,fun _ _ h=>h,fun _ _ h=>.inl h,Rep.free (b6o u2) (b4 u2).2 t1,RetRel.free (split_own g.rs out u1) g8⟩
     ·have hno:∀ b i,A' b i->G b i=0:=fun b i ha=>by
       rcases Nat.eq_zero_or_pos (G b i) with h0 | h0
       ·exact h0
       grind
      refine ⟨fun b i=>A1 b i\/(w.heap.size<=b/\A' b i),fun b i=>A' b i/\(A1 b i\/w.heap.size<=b\/1<=F0 b i),fun _ _ h=>.inl h,fun b i ha=>ha.imp id fun ⟨h1,h2⟩=>⟨h1,g6 b i (.inr h2),hno b i h2⟩,fun b i ha=>?_,fun b i ha=>?_,Rep.u8 (fun b i n ha hn=>⟨ha,?_⟩) t (b0.2.2.2 u2) t1,RetRel.free (split_own g.rs out u1) g8⟩
      ·rcases ha with ha | ⟨h1,h2⟩
       ·exact ⟨g1 b i (.inl ha),.inl ha⟩
       ·exact ⟨h2,.inr (.inl h1)⟩
      ·obtain ⟨h1,h2 | h2 | h2⟩:=ha
       ·exact .inl (.inl h2)
       ·exact .inl (.inr ⟨h2,h1⟩)
       ·exact .inr ⟨h2,hno b i h1⟩
      ·rcases g2 b i ha with (ha' | ⟨_,j,hj,hne,hp⟩) | h0 | hn'
       ·exact .inl ha'
       ·exfalso
        have hb:=u3 j b i hp
        have hp1:=Nat.le_trans hp (hF2 j b i)
        have hz:F0 b i=0:=by
         have:=hF0F b i
         grind [le_sumF2]
        cases hc:ce w b i with
        | none=>rw[hc] at hb;cases hb
        | some u=>
         have:=hext.cell b i (ce_lt hc) hz u hc
         rw[this] at hn
         injection hn with hn
         rw[hc,hn] at hb
         cases hb
       all_goals grind
    | false=>
     have hno:∀ b i,A' b i->G b i=0:=fun b i ha=>by
      rcases Nat.eq_zero_or_pos (G b i) with h0 | h0
      ·exact h0
      grind
     refine ⟨fun b i=>A1 b i\/(w.heap.size<=b/\A' b i),A',fun _ _ h=>.inl h,fun b i ha=>ha.imp id fun ⟨h1,h2⟩=>⟨h1,g6 b i (.inr h2),hno b i h2⟩,fun b i ha=>?_,fun b i ha=>?_,t1,g8⟩
     ·grind
     ·rcases g2 b i ha with (ha' | ⟨e,_⟩) | h0 | hn
      ·grind
      ·cases e
      ·grind
      grind
   have hszn:=news_size hext.size
   have hgr:=k3.grow x1 (A1:=A2f) (X1:=fun b i=>if w.heap.size<=b then G b i else 0) a1 (fun b i ha=>?_) (fun b i=>?_)
   rotate_left
   ·rcases a2 b i ha with ha | ⟨h1,h2,h3⟩
    ·exact .inl ha
    grind
   ·by_cases hb:w.heap.size<=b
    ·rw[if_pos hb]
     rcases Nat.eq_zero_or_pos (G b i) with h0 | h0
     ·left;omega
     grind
    grind
   obtain ⟨_,m4,H4,v4,cs4,ad4,F4,u1,u2,u3,u4,u5,u6⟩:=set_ok hgr q1'
   obtain ⟨_,e3,e4,e5⟩:=b1.inj u1
   subst e3;subst e4
   have e5:=eq_of_heq e5
   subst e5
   have hbn:∀ b i,1<=F1 r b i->b < w.heap.size:=fun b i hp=>k3.bnd b i (.inl (by grind))
   have hpl:=place_frame (σ':=σ1) (a':=a) (w2:=World.news w w') (k3.slots r hr) rfl rfl (fun b i ha u hu=>x1.cell b i (k3.bnd b i (.inr ha)) rfl u hu) (fun b i hp u hu=>x1.cell b i (hbn b i hp) rfl u hu) b2
   rw[hpl] at u2
   simp only[Option.some.injEq,Pl.mk.injEq,true_and] at u2
   obtain ⟨rfl,rfl⟩:=u2
   have hfr:fpOf (World.news w w') t m [] cs=fpOf w t m [] cs:=fpOf_frame t s3 (fun b i hp u hu=>x1.cell b i (hbn b i (by grind)) rfl u hu)
   have hfp:∀ b i,fpOf w t m [] cs b i<=F4 b i:=fun b i=>by have:=(Rep.fp t u3).2 b i;rw[hfr] at this;exact this
   have hl3:=Rep.length _ t1
   have hl:=Rep.length _ s3
   have hcs:isP=false->cs3=cs:=fun hP=>mkV_inj hl3 (Rep.one _ t1) hl (Rep.one _ s3) (t4 hP)
   have hself:∀ b i,1<=rngO ad t.sz b i->F4 b i=0:=fun b i hp=>by
    grind
   have hkey:∀ b i,b < w.heap.size->1<=G b i->1<=rngO ad t.sz b i\/1<=F4 b i:=fun b i hb hp=>by
    grind
   have hsumG:∀ b i,GR b i+F3 b i<=(if w.heap.size<=b then G b i else 0)+F4 b i:=fun b i=>by
    have h7:=g7 b i;have h2:=t2 b i
    by_cases hb:w.heap.size<=b
    ·grind
    ·rw[if_neg hb]
     rcases Nat.eq_zero_or_pos (GR b i+F3 b i) with h0 | h0
     ·omega
     ·have h4:=g4 b i
      rcases g3 b i (by omega) with h1 | h1
      ·rw[hF0] at h1
       cases hP:isP with
       | true=>
        obtain ⟨b',o',had⟩:=b3 hP
        grind [rngO]
       | false=>
        grind [pickN]
      ·omega
   obtain ⟨A3,σ3,Fr,n1,n2,n3,n4,n5⟩:=u6 w' A2 cs3 F3 GR (x2.mono fun b i hz=>by
     grind) a3 (fun b i ha=>by
     rcases a4 b i ha with ha | ⟨h1,h2⟩
     ·exact .inl ha
     ·refine .inr ⟨?_,by grind⟩
      have hb:b < w.heap.size:=hbn b i (by grind)
      rw[if_neg (by omega)]
      rw[hF0] at h1
      cases hP:isP with
      | true=>
       obtain ⟨b',o',had⟩:=b3 hP
       grind [rngO]
      | false=>
       grind [pickN]) hsumG (fun b o e=>by
     cases hP:isP with
     | true=>grind
     | false=>
      rw[hcs hP]
      intro j u hu
      have hj:=(List.getElem?_eq_some_iff.1 hu).1
      have h9:rngO ad t.sz b (o+j)=1:=by grind [rngO,rng]
      have h8:=hself b (o+j) (by omega)
      refine x2.cell b (o+j) ?_ ?_ u ((u5 b o e).1 j u hu)
      ·rw[hszn];exact Nat.lt_of_lt_of_le (hbn b (o+j) (by grind)) hext.size
      ·rw[hF0,hP]
       have:=hfp b (o+j)
       simp only[pickN,Nat.zero_add];omega) (fun e=>by
     cases hP:isP with
     | true=>obtain ⟨b',o',had⟩:=b3 hP;rw[e] at had;cases had
     | false=>exact hcs hP) a5
   have hret:=ret_ok (σ:=σ3) (a:=a) (RetRel.mono n2 a6)
   cases hP:isP with
   | true=>
    subst hP
    exact ⟨fin_val n3 n1 hret.1 (fun _ _=>Nat.le_refl _) hret.2,fun hm=>(argsOk_mut g.ps hm q2).elim⟩
   | false=>
    subst hP
    have hc:=hcs rfl
    subst hc
    have h5:=n5 (bumpAt (nidx p+1)) (below_bumpAt _ (k3.vlen r)) (len_bumpAt _ (k3.vlen r)) rfl (fun p' snap hb hok hlen=>by
     have:=ok_bumpAt (nidx p+1) (k3.vlen r) hb hok
     exact ⟨1,False,by omega,fun _=>.inl (by omega),fun _=>by omega,stab_head ad a5⟩)
    have hret':=ret_ok (σ:={ σ3 with vr:=(σ1.setVer r (bumpAt (nidx p+1))).vr,lent:=σ1.lent }) (a:=a) (RetRel.mono n2 a6)
    exact ⟨fin_val h5 n1 hret'.1 (fun _ _=>Nat.le_refl _) hret'.2,fun hm=>(argsOk_mut g.ps hm q2).elim⟩
 | _::_::_,hl=>simp at hl
theorem callK_ok (h:Rel0 P C A σ a w F) {f:FuncId} {g:Sig} (hs:Sound P f g) {xs:List Operand} {ex:List Slot} {exv:List Value} (hok:xs.all (opdOk P)=true)
  (hex:∀ (A':Cells) (σ':St),(∀ b i,A b i->A' b i)->SlotsRel P A' σ' a w ex exv) {d:Option Tmp} {K:St->Option R} (hk:callK g σ xs ex d K=some x) :
  Calls P f (xs.map a.eval++exv).toArray w fun e w'=>∃ rv,e=.returned rv/\Nx P C K x (a.put d rv) w'/\(noMut g.ps=true->Ext w w' (fun _ _=>0)):=by
 unfold callK at hk
 split at hk
 all_goals grind [callGo_ok,frz_ok]
theorem enter_run {f:FuncId} {cap:Bool} (he:EnterOk P f cap) (args:Array Value):(callFunc f args).run P w=.ok (.enter f args) w:=by
 obtain ⟨fn,h1,h2,h3,_⟩:=he
 have h2':fn.name ≠ "runtime.NumGoroutine" := by simpa using h2
 have h3':fn.body≠none:=by grind
 simp_all [callFunc]
theorem step_call_f (h:Rel0 P C A σ a w F) {f:FuncId} {args:Array Operand} {ts:Array TypeId} (ho:o.op=.call { callee:=.value (.func f),args:=args,argTypes:=ts }) (hok:args.toList.all (opdOk P)=true) {g:Sig} (hs:Sound P f g) (he:EnterOk P f false)
  {K:St->Option R} (hk:callK g σ args.toList [] o.dst K=some x):o.wp P a w (fun a' w'=>Nx P C K x a' w'/\(noMut g.ps=true->Ext w w' (fun _ _=>0))) Q:=by
 have hrun:(execOp a.eval o).run P w=.ok (.enter f (args.map a.eval)) w:=by
  have e:a.eval (.func f)=.func (.func f) #[] #[]:=rfl
  grind [execOp,resolve,Deferred.ofValue,invoke,enter_run]
 unfold Oper.wp
 rw[hrun,Oper.upon_enter]
 have hc:=callK_ok h hs (ex:=[]) (exv:=[]) hok (fun _ _ _=>trivial) hk
 have:(args.toList.map a.eval++[]).toArray=args.map a.eval:=by grind
 rw[this] at hc
 exact hc.mono fun e w' ⟨rv,he,hn⟩=>by grind
theorem step_call_t (h:Rel0 P C A σ a w F) {i:Tmp} {args:Array Operand} {ts:Array TypeId} (ho:o.op=.call { callee:=.value (.tmp i),args:=args,argTypes:=ts }) (hok:args.toList.all (opdOk P)=true) {f:FuncId} {n:Int} (hsl:slotFn (σ.get i)=some (f,n)) {g:Sig} (hs:Sound P f g) (he:EnterOk P f g.cap)
  {K:St->Option R} (hk:callK g σ args.toList (match g.cap with | true=>[.cp (.int .i64) n] | false=>[]) o.dst K=some x):o.wp P a w (fun a' w'=>Nx P C K x a' w'/\(noMut g.ps=true->Ext w w' (fun _ _=>0))) Q:=by
 have hi:i < σ.n:=by
  rcases Nat.lt_or_ge i σ.n with hi | hi
  ·exact hi
  ·rw[get_out (Nat.not_lt.2 hi)] at hsl;cases hsl
 have hsi:=h.slots i hi
 unfold slotFn at hsl
 split at hsl
 rotate_left
 ·cases hsl
 rename_i v hg
 injection hsl with hv
 subst hv
 rw[hg] at hsi
 obtain ⟨cs,h1,caps,rfl,fn,h3,h4⟩:=hsi
 have e:a.eval (.tmp i)=.func (.func f) #[] caps:=h1
 have hrun:(execOp a.eval o).run P w=.ok (.enter f (args.map a.eval++caps)) w:=by
  grind [execOp,resolve,Deferred.ofValue,invoke,enter_run]
 unfold Oper.wp
 rw[hrun,Oper.upon_enter]
 obtain ⟨fn',f1,f2,f3,f4⟩:=he
 rw[h3] at f1
 injection f1 with f1
 subst f1
 have hex:∃ exv:List Value,(args.toList.map a.eval++exv).toArray=args.map a.eval++caps/\∀ (A':Cells) (σ':St),(∀ b i,A b i->A' b i)->SlotsRel P A' σ' a w (match g.cap with | true=>[.cp (.int .i64) n] | false=>[]) exv:=by
  rcases h4 with ⟨h4,rfl⟩ | ⟨h4,ad,rfl,h5,h6,h7⟩
  ·have:g.cap=false:=by grind
   rw[this]
   exact ⟨[],by grind,fun _ _ _=>trivial⟩
  ·have:g.cap=true:=by grind
   rw[this]
   refine ⟨[.pointer (some ad)],by grind,fun A' σ' hA=>⟨.inl ⟨ad,rfl,h5,[.int .i64 n],rfl,(fun j u hu=>?_),rfl⟩,trivial⟩⟩
   grind
 obtain ⟨exv,hexv,hex⟩:=hex
 have hc:=callK_ok h hs hok hex hk
 rw[hexv] at hc
 exact hc.mono fun e w' ⟨rv,he,hn⟩=>by grind
end
end OT
set_option linter.unusedVariables false
set_option linter.unusedSimpArgs false
namespace OT
open Go
section
variable {P:Program} {w:World} {A:Cells}
def simpleV:Value->Bool
 | .int _ _ | .bool _ | .string _=>true
 | _=>false
theorem Ro.simple:∀ (t:Ty) {v:t.den} {cs:List Value},t.eqOk=true->Ro P w A t v cs->∀ x ∈ cs,simpleV x=true:=by
 intro t
 induction t with
 | int k=>intro v cs _ h x hx;simp only[Ro] at h;subst h;simp at hx;subst hx;rfl
 | bool=>intro v cs _ h x hx;simp only[Ro] at h;subst h;simp at hx;subst hx;rfl
 | str=>intro v cs _ h x hx;simp only[Ro] at h;subst h;simp at hx;subst hx;rfl
 | unit=>grind [Ro]
 | pair a b iha ihb=>
  intro v cs he h x hx
  simp only[Ty.eqOk,Bool.and_eq_true] at he
  rw[<-List.take_append_drop a.sz cs] at hx
  rcases List.mem_append.1 hx with hx | hx
  ·exact iha he.1 h.1 x hx
  ·exact ihb he.2 h.2 x hx
 | arr n e ih=>
  intro v cs he h x hx
  obtain ⟨_,hv,hl,hr⟩:=h
  obtain ⟨j,hj,rfl⟩:=List.mem_iff_getElem.1 hx
  have hs:0 < e.sz:=by
   grind
  have hi:j / e.sz < n:=by
   rw[Nat.div_lt_iff_lt_mul hs];omega
  have h1:=hr (j / e.sz) _ (List.getElem?_eq_getElem (by omega))
  refine ih he h1 _ (List.mem_iff_getElem?.2 ⟨j % e.sz,?_⟩)
  grind [Nat.mod_lt,Nat.div_add_mod]
 | _=>grind [Ty.eqOk]
theorem bits_simple {x:Value} (h:simpleV x=true) (n:Nat):Instr.sameBits n x x=true:=by
 cases x <;> simp[simpleV] at h <;> cases n <;> simp[Instr.sameBits,MapKept.bytes_beq]
theorem bits_self {t:Ty} {v:t.den} {cs:List Value} (ha:isAgg t=true) (he:t.eqOk=true) (h:Ro P w A t v cs):Instr.sameBits 10000 (mkV t cs) (mkV t cs)=true:=by
 have hs:=Ro.simple t he h
 simp only[mkV,ha,if_true,Instr.sameBits,beq_self_eq_true,Bool.true_and,List.all_eq_true]
 rintro ⟨x,y⟩ hxy
 have hz:(x,y) ∈ cs.zip cs:=by simpa using hxy
 have hxe:x=y/\x ∈ cs:=by
  clear h hs hxy
  induction cs with
  | nil=>simp at hz
  | cons c cs ih=>
   grind [List.zip_cons_cons]
 grind [bits_simple]
theorem check_ok:∀ (t:Ty),(∀ (i:TypeId) (d:Nat) (e:Bool) (v:t.den) (cs:List Value),layB P t (.inl i)=true->eqB P t (.inl i)=true->dep t<=d->Ro P w A t v cs->(Instr.checkKey e d i (mkV t cs)).run P w=.ok () w) /\
  (∀ (fs:List Field) (off d:Nat) (e:Bool) (v:t.den) (xs:Array Value),layB P t (.inr (fs,off))=true->eqB P t (.inr fs)=true->dep t<=d+1->Ro P w A t v (xs.toList.drop off) ->
   (forIn fs PUnit.unit fun f _=>(if f.name ≠ "_" then do
     let x <- part f.type xs f.offset
     Instr.checkKey e d f.type x
     pure (ForInStep.yield PUnit.unit)
    else pure (ForInStep.yield PUnit.unit):Sem (ForInStep PUnit))).run P w=.ok () w):=by
 intro t
 induction t with
 | int k=>
  refine ⟨fun i d e v cs hl he hd h=>?_,fun fs off d e v xs hl=>by simp[layB] at hl⟩
  simp only[Ro] at h
  subst h
  cases d with
  | zero=>simp[dep] at hd
  | succ d=>rw[mkV_one _ _ rfl];simp[Instr.checkKey,run_underlying (lay_int hl)]
 | bool=>
  refine ⟨fun i d e v cs hl he hd h=>?_,fun fs off d e v xs hl=>by simp[layB] at hl⟩
  simp only[Ro] at h
  subst h
  have hu:P.underlying i=some .bool:=by
   grind [layB]
  cases d <;> simp_all [dep,Instr.checkKey,run_underlying]
 | str=>
  refine ⟨fun i d e v cs hl he hd h=>?_,fun fs off d e v xs hl=>by simp[layB] at hl⟩
  simp only[Ro] at h
  subst h
  cases d <;> simp_all [dep,Instr.checkKey,run_underlying,lay_str]
 | unit=>
  refine ⟨fun i d e v cs hl he hd h=>?_,fun fs off d e v xs hl he hd h=>?_⟩
  ·simp only[Ro] at h
   subst h
   simp only[layB,Bool.and_eq_true] at hl
   have h3:=hl.2
   split at h3
   ·rename_i fs hu
    have hnil:fs.toList=[]:=List.isEmpty_iff.1 h3
    cases d with
    | zero=>simp[dep] at hd
    | succ d=>
     show (Instr.checkKey e (d+1) i (.agg #[])).run P w=_
     simp_all [Instr.checkKey,run_underlying]
   ·cases h3
  simp_all [layB]
 | pair a b iha ihb=>
  have second:∀ (fs:List Field) (off d:Nat) (e:Bool) (v:(Ty.pair a b).den) (xs:Array Value),layB P (.pair a b) (.inr (fs,off))=true->eqB P (.pair a b) (.inr fs)=true->dep (.pair a b)<=d+1->Ro P w A (.pair a b) v (xs.toList.drop off) ->
    (forIn fs PUnit.unit fun f _=>(if f.name ≠ "_" then do
      let x <- part f.type xs f.offset
      Instr.checkKey e d f.type x
      pure (ForInStep.yield PUnit.unit)
     else pure (ForInStep.yield PUnit.unit):Sem (ForInStep PUnit))).run P w=.ok () w:=by
   intro fs off d e v xs hl he hd h1
   cases fs with
   | nil=>simp_all
   | cons f r=>
    simp only[layB,Bool.and_eq_true,Nat.beq_eq,Nat.ble_eq] at hl
    simp only[eqB,Bool.and_eq_true,bne_iff_ne,ne_eq] at he
    simp only[dep] at hd
    obtain ⟨h1a,h1b⟩:=h1
    have p1:=run_part (P:=P) (w:=w) hl.1.2 (cs:=xs) (off:=off) (Ro.length _ h1a)
    have e1:=iha.1 f.type d e v.1 _ hl.1.2 he.1.2 (by omega) h1a
    rw[List.drop_drop] at h1b
    have e2:=ihb.2 r (off+a.sz) d e v.2 xs hl.2 he.2 (by omega) h1b
    simp_all
  refine ⟨fun i d e v cs hl he hd h=>?_,second⟩
  simp only[layB,Bool.and_eq_true] at hl
  simp only[eqB,Bool.and_eq_true,Bool.not_eq_true'] at he
  have h3:=hl.2
  have h4:=he.2
  split at h3
  ·rename_i fs hu
   rw[hu] at h4
   simp only at h4
   split at h3
   ·rename_i f r hfs
    rw[hfs] at h4
    simp only at h4
    cases d with
    | zero=>grind [dep]
    | succ d=>
     show (Instr.checkKey e (d+1) i (.agg cs.toArray)).run P w=_
     rw[Instr.checkKey]
     simp only[Sem.run_bind,run_underlying hu,Result.andThen_ok]
     rw[<-Array.forIn_toList,hfs]
     have:=second (f::r) 0 d e v cs.toArray (by grind [layB]) (by grind [eqB]) hd (by simpa using h)
     rw[this]
     rfl
   ·cases h3
  ·cases h3
 | arr n e ih=>
  refine ⟨fun i d em v cs hl he hd h=>?_,fun fs off d em v xs hl=>by simp[layB] at hl⟩
  simp only[layB,Bool.and_eq_true] at hl
  have h3:=hl.2
  simp only[eqB] at he
  split at h3
  ·rename_i n' el hu
   simp only[Bool.and_eq_true,Nat.beq_eq,Nat.ble_eq] at h3
   obtain ⟨⟨rfl,_⟩,hle⟩:=h3
   rw[hu] at he
   simp only at he
   obtain ⟨inf,i1,i2,_⟩:=infoOk_some (layB_info hle)
   have hsz:P.cellsOf el=e.sz:=by grind [Program.cellsOf]
   obtain ⟨_,l1,_,r1⟩:=h
   cases d with
   | zero=>simp[dep] at hd
   | succ d=>
    simp only[dep] at hd
    show (Instr.checkKey em (d+1) i (.agg cs.toArray)).run P w=_
    rw[Instr.checkKey]
    simp only[Sem.run_bind,run_underlying hu,Result.andThen_ok,Std.Legacy.Range.forIn_eq_forIn_range',Std.Legacy.Range.size,Nat.sub_zero,Nat.add_one_sub_one,Nat.div_one]
    have key:∀ (m j:Nat),j+m=n->(forIn (List.range' j m) PUnit.unit fun i _=>(do
       let x <- part el cs.toArray (i*(<- Go.sizeOf el))
       Instr.checkKey em d el x
       pure (ForInStep.yield PUnit.unit):Sem (ForInStep PUnit))).run P w=.ok () w:=by
     intro m
     induction m with
     | zero=>simp_all
     | succ m ihm=>
      intro j hj
      have a1:=r1 j _ (List.getElem?_eq_getElem (l:=v) (i:=j) (by omega))
      have p1:=run_part (P:=P) (w:=w) hle (cs:=cs.toArray) (off:=j*e.sz) (Ro.length _ a1)
      have e1:=ih.1 el d em _ _ hle he (by omega) a1
      rw[List.range'_succ]
      simp only[List.forIn_cons,Sem.run_bind,run_sizeOf hle,p1,e1,Result.andThen_ok,Sem.run_pure]
      grind
    simp_all
  ·cases h3
 | _=>grind [eqB]
def EntOk (P:Program) (w:World) (A:Cells) (k v:Ty) (es:List (Value×Value)) (m:List (k.den×v.den)):Prop:=
 es.length=m.length/\∀ (i:Nat) (y:k.den×v.den),m[i]?=some y->∃ (kc vc:List Value),es[i]?=some (mkV k kc,mkV v vc)/\Ro P w A k y.1 kc/\Ro P w A v y.2 vc
structure KeyOk (P:Program) (k:Ty) (i:TypeId):Prop where
 lay:layB P k (.inl i)=true
 agg:isAgg k=true
 eqOk:k.eqOk=true
 flat:k.flat=true
 eqB:eqB P k (.inl i)=true
 dep:dep k<=9000
theorem lay_map {k v:Ty} {i:TypeId} (h:layB P (.map k v) (.inl i)=true):∃ ki vi,P.underlying i=some (.map ki vi)/\KeyOk P k ki/\layB P v (.inl vi)=true/\zvB P v vi=true:=by
 simp only[layB,Bool.and_eq_true] at h
 have h2:=h.2
 split at h2
 ·rename_i ki vi hu
  simp only[Bool.and_eq_true,keyB,Nat.ble_eq] at h2
  obtain ⟨⟨⟨h3,h4⟩,⟨⟨⟨⟨h5,h6⟩,h7⟩,h8⟩,h9⟩⟩,h10⟩:=h2
  exact ⟨ki,vi,hu,⟨h3,h5,h6,h7,h8,h9⟩,h4,h10⟩
 ·cases h2
theorem find_asks {k v:Ty} {ki:TypeId} (K:KeyOk P k ki) {x:k.den} {xc:List Value} (hx:Ro P w A k x xc):∀ (es:List MapEntry) (m:List (k.den×v.den)) (i:Nat),EntOk P w A k v (es.map fun e=>(e.key,e.val)) m ->
  (Instr.findAsking ki (mkV k xc) es i).run P w=.ok ((m.findIdx? fun y=>k.eq x y.1).bind fun j=>(es[j]?).map fun e=>(i+j,e.val)) w:=by
 intro es
 induction es with
 | nil=>
  simp_all [Instr.findAsking]
 | cons e es ih=>
  intro m i h
  cases m with
  | nil=>have:=h.1;simp at this
  | cons y m=>
   obtain ⟨kc,vc,h1,h2,h3⟩:=h.2 0 y rfl
   simp only[List.map_cons,List.getElem?_cons_zero,Option.some.injEq,Prod.mk.injEq] at h1
   have heq:(Op.equal ki (mkV k xc) (mkV k kc)).run P w=.ok (k.eq x y.1) w:=(eq_ok (P:=P) (w:=w) (A:=A) k).1 ki Op.maxDepth x y.1 xc kc K.lay K.eqB (by have:=K.dep;grind [Op.maxDepth]) hx h2
   have hrest:EntOk P w A k v (es.map fun e=>(e.key,e.val)) m:=⟨by have:=h.1;simpa using this,fun j z hz=>by
    have:=h.2 (j+1) z (by simpa using hz)
    simpa using this⟩
   simp only[Instr.findAsking,Sem.run_bind,h1.1,heq,Result.andThen_ok,List.findIdx?_cons]
   cases hq:k.eq x y.1 with
   | true=>simp
   | false=>
    simp only[Bool.false_eq_true,if_false,ih m (i+1) hrest,Option.bind_map]
    congr 2
    grind
theorem agg_under {k:Ty} {ki:TypeId} (K:KeyOk P k ki):∃ d,P.underlying ki=some d/\∀ x y,Instr.sameNow d x y=none:=by
 have hl:=K.lay
 have ha:=K.agg
 have he:=K.eqOk
 cases k with
 | pair a b=>
  simp only[layB,Bool.and_eq_true] at hl
  have h3:=hl.2
  split at h3
  ·rename_i fs hu;exact ⟨_,hu,fun _ _=>rfl⟩
  ·cases h3
 | unit=>
  simp only[layB,Bool.and_eq_true] at hl
  have h3:=hl.2
  split at h3
  ·rename_i fs hu;exact ⟨_,hu,fun _ _=>rfl⟩
  ·cases h3
 | arr n e=>
  simp only[layB,Bool.and_eq_true] at hl
  have h3:=hl.2
  split at h3
  ·rename_i n' el hu;exact ⟨_,hu,fun _ _=>rfl⟩
  ·cases h3
 | _=>simp[isAgg] at ha
theorem find_ok {k v:Ty} {ki:TypeId} (K:KeyOk P k ki) {x:k.den} {xc:List Value} (hx:Ro P w A k x xc) {es:List MapEntry} {m:List (k.den×v.den)} (h:EntOk P w A k v (es.map fun e=>(e.key,e.val)) m) :
  (Instr.findKey ki (mkV k xc) es).run P w=.ok ((m.findIdx? fun y=>k.eq x y.1).bind fun j=>(es[j]?).map fun e=>(j,e.val)) w:=by
 obtain ⟨d,hu,hd⟩:=agg_under K
 have ha:=find_asks (v:=v) K hx es m 0 h
 simp only[Nat.zero_add] at ha
 unfold Instr.findKey
 simp only[Sem.run_bind,run_underlying hu,Result.andThen_ok]
 cases es <;> simp_all [Instr.findNow]
theorem map_block {k v:Ty} {m:Md} {y:List (k.den×v.den)} {cs:List Value} {F:FP} (h:Rep P w A (.map k v) m [] y cs F) :
  k.flat=true/\v.flat=true/\∃ (r:Nat) (es:Array MapEntry) (clock:Nat),cs=[.map (some r)]/\w.heap[r]?=some (.map es clock)/\EntOk P w A k v (es.toList.map fun e=>(e.key,e.val)) y/\(m.own=true->1<=F r 0):=by
 simp only[Rep,hole,List.any_nil,Bool.false_eq_true,if_false] at h
 split at h
 ·rename_i hm
  obtain ⟨h1,h2,r,kvs,h3,h4,h5,h6,h7⟩:=h
  obtain ⟨es,clock,q1,q2⟩:=ce_map h4
  refine ⟨h1,h2,r,es,clock,h3,q1,?_,fun _=>h5⟩
  have q2:(es.toList.map fun e=>(e.key,e.val))=kvs:=q2
  rw[q2]
  exact ⟨h6,h7⟩
 ·rename_i hm
  obtain ⟨_,_,h1,h2,r,kvs,h3,h4,h5,h6,h7⟩:=h
  obtain ⟨es,clock,q1,q2⟩:=ce_map h4
  refine ⟨h1,h2,r,es,clock,h3,q1,?_,fun e=>absurd e hm⟩
  have q2:(es.toList.map fun e=>(e.key,e.val))=kvs:=q2
  rw[q2]
  exact ⟨h6,h7⟩
theorem mapGet_eq {α:Type} {k:Ty} (m:List (k.den×α)) (x:k.den):mapGet k m x=(m.findIdx? fun e=>k.eq x e.1).bind fun j=>(m[j]?).map (·.2):=by
 unfold mapGet
 induction m with
 | nil=>rfl
 | cons y m ih=>
  simp only[List.find?_cons,List.findIdx?_cons]
  cases hq:k.eq x y.1 with
  | true=>simp
  | false=>
   simp only[Bool.false_eq_true,if_false]
   rw[ih]
   cases m.findIdx? (fun e=>k.eq x e.1) <;> simp
theorem zero_mkV {v:Ty} {i:TypeId} (hz:zvB P v i=true) (hv:layB P v (.inl i)=true) {z:Value} {L:List Value} (h1:(zeroValue i).run P w=.ok z w) (h2:z.cells.toList=L) (hl:L.length=v.sz):z=mkV v L:=by
 obtain ⟨inf,i1,i2,i3,i4⟩:=infoOk_some (layB_info hv)
 unfold zvB at hz
 rw[i1] at hz
 simp only at hz
 cases hzz:inf.zero with
 | none=>grind
 | some z0=>
  have:z=z0:=by
   simp_all [zeroValue,typeInfo]
  subst this
  rw[hzz] at hz
  unfold mkV
  cases ha:isAgg v with
  | true=>
   rw[ha] at hz
   cases z <;> simp at hz
   simp only[Value.cells] at h2
   subst h2
   simp
  | false=>
   grind [Value.cells]
theorem eqOk_inj:∀ (t:Ty),t.eqOk=true->∀ {v1 v2:t.den} {cs1 cs2:List Value},Ro P w A t v1 cs1->Ro P w A t v2 cs2->t.eq v1 v2=true->cs2=cs1:=by
 intro t
 induction t with
 | int k=>
  intro _ v1 v2 cs1 cs2 h1 h2 he
  simp only[Ro] at h1 h2
  subst h1;subst h2
  have:v1=v2:=by cases k <;> simpa [Ty.eq] using he
  rw[this]
 | bool=>
  grind [Ro,Ty.eq]
 | str=>
  grind [Ro,Ty.eq]
 | unit=>
  grind [Ro]
 | pair a b iha ihb=>
  intro hq v1 v2 cs1 cs2 h1 h2 he
  simp only[Ty.eqOk,Bool.and_eq_true] at hq
  simp only[Ty.eq,Bool.and_eq_true] at he
  have e1:=iha hq.1 h1.1 h2.1 he.1
  have e2:=ihb hq.2 h1.2 h2.2 he.2
  grind [List.take_append_drop]
 | arr n e ih=>
  intro hq v1 v2 cs1 cs2 h1 h2 he
  obtain ⟨_,l1,c1,r1⟩:=h1
  obtain ⟨_,l2,c2,r2⟩:=h2
  refine List.ext_getElem (by omega) fun j hj2 hj1=>?_
  have hs:0 < e.sz:=by
   grind
  have hi:j / e.sz < n:=by
   rw[Nat.div_lt_iff_lt_mul hs];omega
  have a1:=r1 (j / e.sz) _ (List.getElem?_eq_getElem (by omega))
  have a2:=r2 (j / e.sz) _ (List.getElem?_eq_getElem (by omega))
  have he':e.eq (v1[j / e.sz]'(by omega)) (v2[j / e.sz]'(by omega))=true:=by
   simp only[Ty.eq,List.all_eq_true] at he
   exact he (_,_) (List.mem_iff_getElem?.2 ⟨j / e.sz,by grind⟩)
  have h3:=ih hq a1 a2 he'
  have hm:=Nat.mod_lt j hs
  have hd:=Nat.div_add_mod j e.sz
  have h4:=congrArg (·[j % e.sz]?) h3
  grind
 | _=>grind [Ty.eqOk]
theorem run_lookup {k v:Ty} {t:TypeId} (hl:layB P (.map k v) (.inl t)=true) (hz:v.zok=true) {x:k.den} {xc:List Value} (hx:Ro P w A k x xc) {r:Nat} {es:Array MapEntry} {clock:Nat} (hb:w.heap[r]?=some (.map es clock)) {y:List (k.den×v.den)}
  (he:EntOk P w A k v (es.toList.map fun e=>(e.key,e.val)) y) (ok:Bool) :
  ∃ vc,Ro P w A v (orZ (mapGet k y x) v.zero) vc/\(Instr.lookup t (.map (some r)) (mkV k xc) ok).run P w=.ok (if ok then .tuple #[mkV v vc,.bool (mapGet k y x).isSome] else mkV v vc) w:=by
 obtain ⟨ki,vi,hu,K,hv,hzv0⟩:=lay_map hl
 have hc:=(check_ok (P:=P) (w:=w) (A:=A) k).1 ki 10000 es.isEmpty x xc K.lay K.eqB (by have:=K.dep;omega) hx
 have hf:=find_ok (v:=v) K hx he
 obtain ⟨L,hL⟩:=zok_some v hz
 obtain ⟨z,hz1,hz2⟩:=run_zeroValue (P:=P) (w:=w) hv hL
 obtain ⟨r1,r2,r3⟩:=zc_ok (P:=P) (w:=w) (A:=A) v hL hv
 rw[mapGet_eq]
 cases hfi:y.findIdx? (fun e=>k.eq x e.1) with
 | none=>
  rw[hfi] at hf
  simp only[Option.bind_none] at hf ⊢
  refine ⟨L,r2,?_⟩
  have hzv:z=mkV v L:=zero_mkV hzv0 hv hz1 hz2 r3
  cases ok <;> simp[Instr.lookup,run_underlying hu,MapKept.run_getObj_map hb,hc,hf,hz1,hzv]
 | some j=>
  rw[hfi] at hf
  have hj:j < y.length:=(List.findIdx?_eq_some_iff_findIdx_eq.1 hfi).1
  obtain ⟨kc,vc,g1,g2,g3⟩:=he.2 j y[j] (List.getElem?_eq_getElem hj)
  rw[List.getElem?_map] at g1
  cases hej:es.toList[j]? with
  | none=>grind
  | some e=>
   rw[hej] at g1
   simp only[Option.map_some,Option.some.injEq,Prod.mk.injEq] at g1
   simp only[hej,Option.bind_some,Option.map_some,List.getElem?_eq_getElem hj] at hf ⊢
   refine ⟨vc,g3,?_⟩
   cases ok <;> simp[Instr.lookup,run_underlying hu,MapKept.run_getObj_map hb,hc,hf,g1.2]
end
section
variable {P:Program} {C:Ctx} {A:Cells} {X:FP} {σ:St} {a:Act} {w:World} {F:Nat->FP} {R:Type} {x:R} {Q:Exit->Act->World->Prop} {o:Oper} {E:Env}
theorem new_makeMap (h:Rel0 P C A σ a w F) (hti:∀ i T,E.TI i=some T->layB P T (.inl i)=true) {t:Nat} (ho:o.op=.makeMap t none) {K:St->Option R}
  (hk:(tiK E t fun t=>match t with
  | .map k v=>if k.flat&&v.flat then K (σ.putD o.dst (.own (.map k v) (ownMd (.map k v)) [] [])) else none
  | _=>none)=some x):o.wp P a w (fun a' w'=>Nx P C K x a' w'/\Ext w w' (fun _ _=>0)) Q:=by
 obtain ⟨T,hT,hk⟩:=tiK_some hk
 split at hk
 ·rename_i k v
  split at hk
  ·rename_i hc
   simp only[Bool.and_eq_true] at hc
   have hrun:(execOp a.eval o).run P w=.ok (.value (.map (some w.heap.size))) (w.alloc (.map #[] 0)):=by
    simp[execOp,ho,run_makeMap_plain]
   have hext:=ext_alloc w (.map #[] 0)
   have h1:Rel P C A (fun b i=>0+rng w.heap.size 0 1 b i) σ a (w.alloc (.map #[] 0)) F:=by
    refine h.grow hext (fun _ _ h=>h) (fun _ _ h=>.inl h) (fun b i=>?_)
    by_cases hb:b=w.heap.size
    ·subst hb
     right
     exact ⟨Nat.le_refl _,by simp,by grind [rng]⟩
    grind [rng]
   have hnew:(w.alloc (.map #[] 0)).heap[w.heap.size]?=some (.map #[] 0):=heap_alloc_new w _
   refine wp_val hrun ⟨fin_val h1 hk (Fd:=rng w.heap.size 0 1) ⟨_,(mkV_one (.map k v) _ rfl).symm,?_⟩ (fun b i=>by simp) (fun _ _ _ _ e=>by cases e),hext⟩
   simp only[Rep,hole,List.any_nil,Bool.false_eq_true,if_false,ownMd,mdOf,Md.own,if_true]
   refine ⟨hc.1,hc.2,w.heap.size,[],rfl,?_,by simp[rng],rfl,fun i y hy=>by cases hy⟩
   exact map_ce hnew
  ·cases hk
 ·cases hk
theorem step_lookup (h:Rel0 P C A σ a w F) (hti:∀ i T,E.TI i=some T->layB P T (.inl i)=true) {t:Nat} {y z:Operand} {ok:Bool} (ho:o.op=.lookup t y z ok) (hok:opdOk P y=true/\opdOk P z=true) {K:St->Option R}
  (hk:lookupK E σ t (opd σ y) (opd σ z) ok o.dst K=some x):o.wp P a w (fun a' w'=>Nx P C K x a' w'/\Ext w w' (fun _ _=>0)) Q:=by
 unfold lookupK at hk
 obtain ⟨T,hT,hk⟩:=tiK_some hk
 have hlay:=hti _ _ hT
 split at hk
 ·rename_i k v
  split at hk
  ·rename_i hz
   rcases opd_ok h hok.1 with hs | ⟨xs,e⟩
   rotate_left
   ·grind
   rcases opd_ok h hok.2 with hs2 | ⟨xs,e2⟩
   rotate_left
   ·exfalso
    rw[e2] at hk
    split at hk
    ·split at hk
     ·obtain ⟨_,_,_,_,_,_,_,_,h1,_⟩:=at_ok h hk
      grind [castK_some]
     ·cases hk
    ·cases hk
   split at hk
   ·rename_i r p snap hv
    rw[hv] at hs
    split at hk
    ·rename_i hsn
     obtain ⟨hr,t',m',H',v',cs',ad',F',h1,hat,h3,h4,h5,h6⟩:=at_ok h hk
     split at h1
     ·rename_i hH
      have hH:=List.isEmpty_iff.1 hH
      subst hH
      obtain ⟨e1,h1⟩:=castK_some h1
      subst e1
      obtain ⟨pl,g1,g2,g3⟩:=hs.2 hsn
      rw[h3] at g1
      injection g1 with g1
      subst g1
      obtain ⟨f1,f2,b,es,clock,q1,q2,q3,q4⟩:=map_block h4
      simp only at g2
      subst q1
      rw[mkV_one (.map k v) _ rfl] at g2
      split at h1
      ·rename_i t2 ix hix
       rw[hix] at hs2
       obtain ⟨e2,h1⟩:=castK_some h1
       subst e2
       obtain ⟨kc,hk1,hk2⟩:=hs2
       obtain ⟨vc,r1,r2⟩:=run_lookup (P:=P) hlay hz hk2 q2 q3 ok
       have hrun:(execOp a.eval o).run P w=.ok (.value (if ok then .tuple #[mkV v vc,.bool (mapGet t2 v' ix).isSome] else mkV v vc)) w:=by
        simp_all [execOp]
       cases ok with
       | true=>
        simp only at h1
        refine wp_val hrun ⟨fin_flat h h1 ⟨#[mkV v vc,.bool (mapGet t2 v' ix).isSome],fun _ _ _=>0,rfl,fun b i=>by grind [sumF_zero],fun j y hy=>?_⟩ (fun _ _ _ _ e=>by cases e),Ext.refl _ _⟩
        match j with
        | 0=>simp at hy;subst hy;exact ⟨_,rfl,.inr ⟨vc,rfl,Ro.rep v _ (roMd_noOwn v) r1⟩⟩
        | 1=>simp at hy;subst hy;exact ⟨_,rfl,.inr ⟨[.bool _],rfl,rfl⟩⟩
        | n+2=>simp at hy
       | false=>
        simp only at h1
        exact wp_val hrun ⟨fin_flat h h1 ⟨vc,rfl,r1⟩ (fun _ _ _ _ e=>by cases e),Ext.refl _ _⟩
      ·cases h1
     ·cases h1
    ·cases hk
   ·cases hk
  ·cases hk
 ·cases hk
theorem ext_setMap {r:Nat} {es es':Array MapEntry} {clock clock':Nat} (hb:w.heap[r]?=some (.map es clock)):Ext w { w with heap:=w.heap.setIfInBounds r (.map es' clock') } (rng r 0 1):=by
 have hother:∀ b,b≠r->(w.heap.setIfInBounds r (.map es' clock'))[b]?=w.heap[b]?:=fun b hne=>by grind
 refine ⟨by simp,fun b i hbs hz u hu=>?_,fun b n hn=>?_,fun b i hbs=>?_,rfl,rfl,rfl,fun b hbs hz=>?_,Nat.le_refl _⟩
 ·grind [rng,ce,ce_block]
 ·obtain ⟨c,e,fr,h1,h2,h3⟩:=hn
  have hbr:b≠r:=fun e=>by grind
  exact ⟨c,e,fr,by grind,h2,h3⟩
 ·grind [World.frozen?]
 ·have hbr:b≠r:=fun e=>by simp_all [rng]
  grind
theorem run_update {k v:Ty} {t:TypeId} (hl:layB P (.map k v) (.inl t)=true) {x:k.den} {xc:List Value} (hx:Ro P w A k x xc) {z:v.den} {zc':List Value} (hzr:Ro P w A v z zc') {r:Nat} {es:Array MapEntry} {clock:Nat} (hb:w.heap[r]?=some (.map es clock)) {y:List (k.den×v.den)}
  (he:EntOk P w A k v (es.toList.map fun e=>(e.key,e.val)) y) :
  ∃ (es':Array MapEntry) (clock':Nat),(Instr.mapUpdate t (.map (some r)) (mkV k xc) (mkV v zc')).run P w=.ok () { w with heap:=w.heap.setIfInBounds r (.map es' clock') }/\EntOk P w A k v (es'.toList.map fun e=>(e.key,e.val)) (mapPut k y x z):=by
 obtain ⟨ki,vi,hu,K,hv,_⟩:=lay_map hl
 have hc:=(check_ok (P:=P) (w:=w) (A:=A) k).1 ki 10000 false x xc K.lay K.eqB (by have:=K.dep;omega) hx
 have hf:=find_ok (v:=v) K hx he
 unfold mapPut
 cases hfi:y.findIdx? (fun e=>k.eq x e.1) with
 | none=>
  rw[hfi] at hf
  simp only[Option.bind_none] at hf ⊢
  refine ⟨es.push { key:=mkV k xc,val:=mkV v zc',born:=clock },clock+1,?_,?_,fun i q hq=>?_⟩
  ·simp[Instr.mapUpdate,run_underlying hu,MapKept.run_getObj_map hb,hc,hf,MapKept.run_setObj_map _ hb,Result.andThen]
  ·have:=he.1;grind
  ·have hlen:(es.toList.map fun e=>(e.key,e.val)).length=y.length:=he.1
   rw[Array.toList_push,List.map_append]
   by_cases hi:i < y.length
   ·rw[List.getElem?_append_left hi] at hq
    rw[List.getElem?_append_left (by grind)]
    exact he.2 i q hq
   grind
 | some j=>
  rw[hfi] at hf
  have hfj:=List.findIdx?_eq_some_iff_findIdx_eq.1 hfi
  have hj:j < y.length:=hfj.1
  obtain ⟨kc,vc,g1,g2,g3⟩:=he.2 j y[j] (List.getElem?_eq_getElem hj)
  rw[List.getElem?_map] at g1
  have hlen:es.size=y.length:=by have:=he.1;simpa using this
  have hes:es.toList[j]?=some es[j]:=by simp[hlen,hj]
  rw[hes] at g1
  simp only[Option.map_some,Option.some.injEq,Prod.mk.injEq] at g1
  simp only[Option.bind_some] at hf ⊢
  rw[hes] at hf
  simp only[Option.map_some] at hf
  have hkeq:k.eq x (y[j]).1=true:=by
   grind
  have hbits:mkV k kc=mkV k xc:=by
   have:=eqOk_inj k K.eqOk hx g2 hkeq
   rw[this]
  have hkeep:(Instr.keyThatStays (mkV k xc) (mkV k xc)).run P w=.ok (mkV k xc) w:=by
   simp[Instr.keyThatStays,bits_self K.agg K.eqOk hx]
  have hget:(es[j]?).map (·.key)=some (mkV k xc):=by
   grind
  refine ⟨es.modify j fun e=>{ e with key:=mkV k xc,val:=mkV v zc' },clock,?_,?_,fun i q hq=>?_⟩
  ·simp[Instr.mapUpdate,run_underlying hu,MapKept.run_getObj_map hb,hc,hf,hget,hkeep,MapKept.run_setObj_map _ hb,Result.andThen]
  ·simp[hlen]
  ·rw[List.getElem?_set] at hq
   rw[List.getElem?_map,Array.getElem?_toList,Array.getElem?_modify]
   by_cases hij:j=i
   ·grind
   ·rw[if_neg hij] at hq ⊢
    have:=he.2 i q hq
    grind
theorem step_mapUpdate (h:Rel0 P C A σ a w F) (hti:∀ i T,E.TI i=some T->layB P T (.inl i)=true) {t:Nat} {y z u:Operand} (ho:o.op=.mapUpdate t y z u) (hd:o.dst=none) (hok:opdOk P y=true/\opdOk P z=true/\opdOk P u=true) {K:St->Option R}
  (hk:mapUpdK E σ t (opd σ y) (opd σ z) (opd σ u) K=some x):o.wp P a w (Nx P C K x) Q:=by
 unfold mapUpdK at hk
 obtain ⟨T,hT,hk⟩:=tiK_some hk
 have hlay:=hti _ _ hT
 split at hk
 ·rename_i k v
  rcases opd_ok h hok.1 with hs | ⟨xs,e⟩
  rotate_left
  ·grind
  split at hk
  ·rename_i r p snap hv
   rw[hv] at hs
   split at hk
   ·rename_i hsn
    obtain ⟨hr,t',m',H',v',cs',ad',F',h1,hat,h3,h4,h5,h6⟩:=at_ok h hk
    split at h1
    ·rename_i hH
     simp only[Bool.and_eq_true,List.isEmpty_iff] at hH
     obtain ⟨hown,hH⟩:=hH
     subst hH
     obtain ⟨e1,h1⟩:=castK_some h1
     subst e1
     obtain ⟨pl,g1,g2,g3⟩:=hs.2 hsn
     rw[h3] at g1
     injection g1 with g1
     subst g1
     split at h1
     ·rename_i t2 ix t3 uv hix huv
      have hs2:SlotRel P A σ a w (a.eval z) (.val t2 ix) (fun _ _=>0):=by
       grind [opd_ok]
      have hs3:SlotRel P A σ a w (a.eval u) (.val t3 uv) (fun _ _=>0):=by
       grind [opd_ok]
      obtain ⟨e2,h1⟩:=castK_some h1
      subst e2
      obtain ⟨e3,h1⟩:=castK_some h1
      subst e3
      obtain ⟨kc,hk1,hk2⟩:=hs2
      obtain ⟨uc,hu1,hu2⟩:=hs3
      obtain ⟨hr,m2,H2,v2,cs2,ad2,F2,q1,q2,q3,q4,q5,q6⟩:=set_ok h h1
      obtain ⟨_,e2,e3,e4⟩:=At.inj ⟨hat⟩ q1
      subst e2;subst e3
      have e4:=eq_of_heq e4
      subst e4
      rw[h3] at q2
      injection q2 with q2
      injection q2 with q21 q22 q23 q24
      subst q23;subst q24
      have hrep:=q3
      obtain ⟨f1,f2,b,es,clock,b1,b2,b3,b4⟩:=map_block q3
      have b4:=b4 hown
      simp only at g2
      subst b1
      rw[mkV_one (.map t2 t3) _ rfl] at g2
      obtain ⟨es',clock',r1,r2⟩:=run_update (P:=P) hlay hk2 hu2 b2 b3
      generalize hw2:({ w with heap:=w.heap.setIfInBounds b (.map es' clock') }:World)=w2 at r1
      have hext:Ext w w2 (rng b 0 1):=by grind [ext_setMap]
      have hFr:∀ b i,F r b i<=1:=fun b i=>by have:=h.tot b i;grind [le_sumF]
      have hrun:(execOp a.eval o).run P w=.ok .skip w2:=by
       simp[execOp,ho,g2,hk1,hu1,r1]
      refine wp_skip' hrun hd ?_
      have hA:∀ b' i,A b' i->∀ u,ce w b' i=some u->ce w2 b' i=some u:=fun b' i ha u hu=>by
       refine hext.cell b' i (h.bnd b' i (.inr ha)) ?_ u hu
       rcases Nat.eq_zero_or_pos (rng b 0 1 b' i) with h0 | h0
       ·exact h0
       ·have:b'=b/\i=0:=by
         grind [rng]
        obtain ⟨rfl,rfl⟩:=this
        exact absurd ha (h.dis b' 0 (by grind [le_sumF]))
      have hnew:ce w2 b 0=some (mapV (entriesOf es')):=by
       grind [map_ce]
      have hrep2:Rep P w2 A (.map t2 t3) m' [] (mapPut t2 v' ix uv) [.map (some b)] F2:=by
       simp only[Rep,hole,List.any_nil,Bool.false_eq_true,if_false,hown,if_true]
       refine ⟨f1,f2,b,entriesOf es',rfl,hnew,b4,r2.1,fun i q hq=>?_⟩
       obtain ⟨kc',vc',j1,j2,j3⟩:=r2.2 i q hq
       exact ⟨kc',vc',j1,Ro.mono hA (fun _ _ h=>h) t2 j2,Ro.mono hA (fun _ _ h=>h) t3 j3⟩
      have hF2:∀ b' i,rng b 0 1 b' i<=F2 b' i:=fun b' i=>by
       grind [rng]
      have hhas:∀ b' o',ad'=some (b',o')->Has w2 b' o' [.map (some b)]:=fun b' o' ea j u hu=>by
       have hh1:=(q5 b' o' ea).1 j u hu
       have hj:=(List.getElem?_eq_some_iff.1 hu).1
       have hj0:j=0:=by simpa using hj
       subst hj0
       have h2:=q4 b' (o'+0);have h4:=hF2 b' (o'+0);have h5:=hFr b' (o'+0);have h7:=le_sumF F hr b' (o'+0)
       have h6:rngO ad' (Ty.map t2 t3).sz b' (o'+0)=1:=by
        grind [rngO,rng,Ty.sz]
       exact hext.cell _ _ (h.bnd b' (o'+0) (.inl (by grind))) (by omega) u hh1
      obtain ⟨A3,σ3,Fr,n1,n2,n3,n4,n5⟩:=q6 w2 A [.map (some b)] F2 (fun _ _=>0) (hext.mono fun b' i hz=>by
        grind) (fun _ _ h=>h) (fun _ _ h=>.inl h) (fun b i=>by omega) hhas (fun _=>rfl) hrep2
      refine ⟨_,n1,A3,_,n5 bumpW (below_bumpW (h.vlen r)) (len_bumpW (h.vlen r)) rfl fun p' snap hb hok hlen=>?_⟩
      have h5:=ok_bumpW (h.vlen r) hb hok
      refine ⟨nidx p'+1,False,by omega,fun _=>.inl (by omega),fun _=>by omega,?_⟩
      intro q pl hq hp
      grind [plc]
     ·cases h1
    ·cases h1
   ·cases hk
  ·cases hk
 ·cases hk
theorem step_mapLen (h:Rel0 P C A σ a w F) (hti:∀ i T,E.TI i=some T->layB P T (.inl i)=true) {t:Nat} {y:Operand} (ho:o.op=.call { callee:=.builtin .len,args:=#[y],argTypes:=#[t] }) (hok:opdOk P y=true) {K:St->Option R}
  (hk:mapLenK E σ t (opd σ y) (fun n=>K (σ.putD o.dst (.val (.int .i64) (n:Int))))=some x):o.wp P a w (Nx P C K x) Q:=by
 unfold mapLenK at hk
 obtain ⟨T,hT,hk⟩:=tiK_some hk
 have hlay:=hti _ _ hT
 split at hk
 ·rename_i k v
  rcases opd_ok h hok with hs | ⟨xs,e⟩
  rotate_left
  ·grind
  split at hk
  ·rename_i r p snap hv
   rw[hv] at hs
   split at hk
   ·rename_i hsn
    obtain ⟨hr,t',m',H',v',cs',ad',F',h1,hat,h3,h4,h5,h6⟩:=at_ok h hk
    split at h1
    ·rename_i hH
     have hH:=List.isEmpty_iff.1 hH
     subst hH
     obtain ⟨e1,h1⟩:=castK_some h1
     subst e1
     obtain ⟨pl,g1,g2,g3⟩:=hs.2 hsn
     rw[h3] at g1
     injection g1 with g1
     subst g1
     obtain ⟨f1,f2,b,es,clock,q1,q2,q3,q4⟩:=map_block h4
     simp only at g2
     subst q1
     rw[mkV_one (.map k v) _ rfl] at g2
     obtain ⟨ki,vi,hu,_,_,_⟩:=lay_map hlay
     have hlen:es.size=List.length v':=by have:=q3.1;simpa using this
     have hrun:(execOp a.eval o).run P w=.ok (.value (.int .i64 ((List.length v':Nat):Int))) w:=by
      rw[run_len_call ho]
      simp[Builtin.len_,g2,run_underlying hu,MapKept.run_getObj_map q2,goInt,hlen]
     exact wp_val hrun (fin_flat h h1 ⟨[.int .i64 _],rfl,rfl⟩ (fun _ _ _ _ e=>by cases e))
    ·cases h1
   ·cases hk
  ·cases hk
 ·cases hk
end
end OT
set_option linter.unusedVariables false
set_option linter.unusedSimpArgs false
namespace OT
open Go
structure EnvOk (P:Program) (E:Env):Prop where
 ti:∀ i T,E.TI i=some T->layB P T (.inl i)=true
 eq:eqTab P E
 fn:∀ f g,E.G f=some g->Sound P f g/\EnterOk P f g.cap
def kindB (P:Program) (t:TypeId):Bool:=match P.underlying t with
 | some (.slice _)=>true
 | some .string=>true
 | _=>false
theorem kindB_some {P:Program} {t:TypeId} (h:kindB P t=true):(∃ e',P.underlying t=some (.slice e'))\/P.underlying t=some .string:=by
 grind [kindB]
def callOk (P:Program) (c:Call):Bool:=match c.callee with
 | .builtin .append | .builtin .copy=>match c.argTypes.toList with
  | [_,tx]=>kindB P tx
  | _=>false
 | _=>true
def opOk (P:Program):Op->Bool
 | .move x | .assign x | .nilCheck x | .box _ x | .load _ x | .unOp _ _ x | .convert _ _ x | .fieldAddr _ x _ | .field _ x _=>opdOk P x
 | .pick c a b=>opdOk P c&&opdOk P a&&opdOk P b
 | .mapUpdate _ m k v=>opdOk P m&&opdOk P k&&opdOk P v
 | .lookup _ a x _ | .store _ a x | .binOp _ _ a x _ | .indexAddr _ a x | .index _ a x | .makeSlice _ a x=>opdOk P a&&opdOk P x
 | .build _ ps | .buildSlice _ _ ps=>ps.toList.all fun p=>opdOk P p.2
 | .slice _ x lo hi _=>opdOk P x&&lo.all (opdOk P)&&hi.all (opdOk P)
 | .makeFunc (.func f) _ cs=>(P.funcs[f]?).any fun fn=>fn.nfree == cs.size
 | .call c=>c.args.toList.all (opdOk P)&&callOk P c
 | _=>true
section
variable {P:Program} {C:Ctx} {A:Cells} {X:FP} {σ:St} {a:Act} {w:World} {F:Nat->FP} {R:Type} {x:R} {Q:Exit->Act->World->Prop} {o:Oper} {E:Env}
theorem arr_of {α:Type} {l:Array α} {m:List α} (h:l.toList=m):l=m.toArray:=by grind
def tkOp (E:Env):Op->Bool
 | .move _ | .assign _ | .pick .. | .build .. | .load .. | .nilCheck _ | .binOp .. | .unOp .. | .fieldAddr .. | .field .. | .indexAddr .. | .index .. | .slice .. | .extract .. | .makeFunc ..=>true
 | .convert _ t _=>match E.TI t with
  | some T=>T.flat
  | none=>false
 | .call c=>match c.callee with
  | .builtin .len=>match c.argTypes.toList with
   | [t]=>!isMapT (E.TI t)
   | _=>false
  | _=>false
 | _=>false
theorem tk_ok (hE:EnvOk P E) (h:Rel0 P C A σ a w F) {rid i:Nat} (hst:opOk P o.op=true) (htk:tkOp E o.op=true) {K:St->Option R} (hk:stepK E rid i o σ K=some x):Tk P o a w (Nx P C K x):=by
 unfold stepK at hk
 cases ho:o.op with
 | move y=>rw[ho] at hk hst;exact take_move h ho hst hk
 | assign y=>rw[ho] at hk hst;exact take_assign h ho hst hk
 | pick c y z=>
  grind [opOk,take_pick]
 | build t ps=>rw[ho] at hk hst;exact take_build h hE.ti ho hst hk
 | load t y=>rw[ho] at hk hst;exact take_loadF h hE.ti ho hst hk
 | nilCheck y=>rw[ho] at hk hst;exact take_nilCheck h ho hst hk
 | binOp op t y z t2=>
  rw[ho] at hk hst
  simp only[opOk,Bool.and_eq_true] at hst
  exact take_binOp h hE.ti hE.eq ho hst hk
 | unOp op t y=>
  rw[ho] at hk hst
  refine take_unOp h ho hst (K:=K) ?_
  grind
 | convert s t y=>
  rw[ho] at hk hst htk
  refine take_convert h hE.ti ho hst (fun T hT=>?_) hk
  grind [tkOp]
 | fieldAddr t y j=>rw[ho] at hk hst;exact take_fieldAddr h hE.ti ho hst hk
 | field t y j=>rw[ho] at hk hst;exact take_field h hE.ti ho hst hk
 | indexAddr t y z=>
  rw[ho] at hk hst
  simp only[opOk,Bool.and_eq_true] at hst
  exact take_indexAddr h hE.ti ho hst hk
 | index t y z=>
  rw[ho] at hk hst
  simp only[opOk,Bool.and_eq_true] at hst
  exact take_index h hE.ti ho hst hk
 | slice t y lo hi mx=>
  rw[ho] at hk hst
  cases mx with
  | none=>
   simp only[opOk,Bool.and_eq_true] at hst
   refine take_slice h hE.ti ho ⟨hst.1.1,fun z hz=>?_,fun z hz=>?_⟩ hk
   all_goals grind
  | some m=>cases hk
 | extract y j=>
  grind [take_extract]
 | makeFunc fn first cs=>
  rw[ho] at hk hst
  cases fn with
  | func f=>exact take_makeFunc h ho hst hk
  | _=>cases hk
 | call c=>
  rw[ho] at hk hst htk
  simp only[opOk,Bool.and_eq_true] at hst
  obtain ⟨hargs,hc⟩:=hst
  obtain ⟨callee,args,ts⟩:=c
  cases callee with
  | builtin b=>
   cases b with
   | len=>
    simp only at hk
    split at hk
    ·rename_i y t h1 h2
     have e1:=arr_of h1;have e2:=arr_of h2
     subst e1;subst e2
     simp only[List.all_cons,Bool.and_eq_true] at hargs
     simp only[tkOp,Bool.not_eq_true'] at htk
     rw[htk] at hk
     exact take_len h hE.ti ho hargs.1 hk
    ·cases hk
   | _=>grind [tkOp]
  | _=>grind [tkOp]
 | _=>grind [tkOp]
def quiet (E:Env):Op->Bool
 | .alloc _ | .box .. | .buildSlice .. | .makeSlice .. | .convert .. | .makeMap .. | .lookup ..=>true
 | .call c=>match c.callee with
  | .value (.func f)=>match E.G f with
   | some g=>noMut g.ps
   | none=>false
  | _=>false
 | _=>false
theorem not_tk (hE:EnvOk P E) (h:Rel0 P C A σ a w F) {rid i:Nat} (hst:opOk P o.op=true) (htk:tkOp E o.op=false) {K:St->Option R} (hk:stepK E rid i o σ K=some x) :
  o.wp P a w (fun a' w'=>Nx P C K x a' w'/\(quiet E o.op=true->Ext w w' (fun _ _=>0))) Q:=by
 have wq:∀ {N:Act->World->Prop},o.wp P a w (fun a' w'=>N a' w'/\Ext w w' (fun _ _=>0)) Q->o.wp P a w (fun a' w'=>N a' w'/\(quiet E o.op=true->Ext w w' (fun _ _=>0))) Q:=fun h=>Oper.wp_mono (fun a' w' h=>⟨h.1,fun _=>h.2⟩) h
 have wn:∀ {N:Act->World->Prop},quiet E o.op=false->o.wp P a w N Q->o.wp P a w (fun a' w'=>N a' w'/\(quiet E o.op=true->Ext w w' (fun _ _=>0))) Q:=fun hq h=>Oper.wp_mono (fun a' w' h=>⟨h,fun e=>by grind⟩) h
 unfold stepK at hk
 cases ho:o.op with
 | alloc t=>rw[ho] at hk;rw[<-ho];exact wq (new_alloc h hE.ti ho hk)
 | box t y=>rw[ho] at hk hst;rw[<-ho];exact wq (new_box h ho hst hk)
 | buildSlice t n ps=>rw[ho] at hk hst;rw[<-ho];exact wq (new_buildSlice h hE.ti ho hst hk)
 | store t y z=>
  rw[ho] at hk hst
  simp only[opOk,Bool.and_eq_true] at hst
  rw[<-ho]
  refine wn (by rw[ho];rfl) ?_
  cases hd:o.dst with
  | none=>rw[hd] at hk;exact step_store h hE.ti ho hd hst hk
  | some d=>grind
 | convert s t y=>rw[ho] at hk hst;rw[<-ho];exact wq (new_convert h hE.ti ho hst hk)
 | makeMap t rv=>
  rw[ho] at hk
  rw[<-ho]
  cases rv with
  | none=>exact wq (new_makeMap h hE.ti ho hk)
  | some _=>cases hk
 | lookup t y z ok=>
  rw[ho] at hk hst
  simp only[opOk,Bool.and_eq_true] at hst
  rw[<-ho]
  exact wq (step_lookup h hE.ti ho hst hk)
 | mapUpdate t y z u=>
  rw[ho] at hk hst
  simp only[opOk,Bool.and_eq_true] at hst
  rw[<-ho]
  refine wn (by rw[ho];rfl) ?_
  cases hd:o.dst with
  | none=>rw[hd] at hk;exact step_mapUpdate h hE.ti ho hd ⟨hst.1.1,hst.1.2,hst.2⟩ hk
  | some d=>grind
 | makeSlice t y z=>
  rw[ho] at hk hst
  simp only[opOk,Bool.and_eq_true] at hst
  rw[<-ho]
  exact wq (new_makeSlice h hE.ti ho hst hk)
 | call c=>
  rw[ho] at hk hst htk
  simp only[opOk,Bool.and_eq_true] at hst
  obtain ⟨hargs,hc⟩:=hst
  obtain ⟨callee,args,ts⟩:=c
  rw[<-ho]
  cases callee with
  | builtin b=>
   cases b with
   | len=>
    simp only at hk
    split at hk
    ·rename_i y t h1 h2
     have e1:=arr_of h1;have e2:=arr_of h2
     subst e1;subst e2
     simp only[List.all_cons,Bool.and_eq_true] at hargs
     simp only[tkOp,Bool.not_eq_false'] at htk
     rw[htk] at hk
     exact wn (by rw[ho];rfl) (step_mapLen h hE.ti ho hargs.1 hk)
    ·cases hk
   | append=>
    simp only at hk
    split at hk
    ·rename_i y z t ts' h1 h2
     have e1:=arr_of h1
     subst e1
     simp only[callOk] at hc
     split at hc
     ·rename_i t0 tx h3
      rw[h3] at h2
      injection h2 with h2 h4
      subst h2
      have e2:=arr_of h3
      subst e2
      simp only[List.all_cons,Bool.and_eq_true] at hargs
      exact wn (by rw[ho];rfl) (step_append h hE.ti ho ⟨hargs.1,hargs.2.1⟩ (kindB_some hc) hk)
     ·cases hc
    ·cases hk
   | copy=>
    simp only at hk
    split at hk
    ·rename_i y z t ts' h1 h2
     have e1:=arr_of h1
     subst e1
     simp only[callOk] at hc
     split at hc
     ·rename_i t0 tx h3
      rw[h3] at h2
      injection h2 with h2 h4
      subst h2
      have e2:=arr_of h3
      subst e2
      simp only[List.all_cons,Bool.and_eq_true] at hargs
      exact wn (by rw[ho];rfl) (step_copy h hE.ti ho ⟨hargs.1,hargs.2.1⟩ (kindB_some hc) hk)
     ·cases hc
    ·cases hk
   | _=>cases hk
  | value y=>
   cases y with
   | func f=>
    simp only at hk
    split at hk
    ·rename_i g hg
     split at hk
     ·rename_i hcap
      obtain ⟨h1,h2⟩:=hE.fn f g hg
      rw[hcap] at h2
      refine Oper.wp_mono (fun a' w' h=>⟨h.1,fun e=>h.2 ?_⟩) (step_call_f h ho hargs h1 h2 hk)
      grind [quiet]
     ·cases hk
    ·cases hk
   | tmp i=>
    refine wn (by rw[ho];rfl) ?_
    simp only at hk
    split at hk
    ·rename_i f n hsl
     split at hk
     ·rename_i g hg
      obtain ⟨h1,h2⟩:=hE.fn f g hg
      refine Oper.wp_mono (fun a' w' h=>h.1) (step_call_t h ho hargs hsl h1 h2 (K:=K) (x:=x) ?_)
      grind
     ·cases hk
    ·cases hk
   | _=>cases hk
  | _=>cases hk
 | _=>grind [tkOp]
theorem step_ok (hE:EnvOk P E) (h:Rel0 P C A σ a w F) {rid i:Nat} (hst:opOk P o.op=true) {K:St->Option R} (hk:stepK E rid i o σ K=some x):o.wp P a w (Nx P C K x) Q:=by
 cases htk:tkOp E o.op with
 | true=>exact (tk_ok hE h hst htk hk).wp
 | false=>grind [Oper.wp_mono,not_tk]
end
end OT
set_option linter.unusedVariables false
set_option linter.unusedSimpArgs false
namespace OT
open Go
noncomputable def cstE (e:Ty):Operand->Option e.den
 | .const v=>match constSlot v with
  | .val t y=>if h:t=e then some (h ▸ y) else none
  | _=>none
 | _=>none
noncomputable def cstsE (e:Ty):List (Nat×Operand)->Nat->Option (List e.den)
 | [],_=>some []
 | (j,x)::ps,n=>if Nat.beq j n then (match cstE e x,cstsE e ps (n+1) with
  | some y,some ys=>some (y::ys)
  | _,_=>none) else none
noncomputable def pdSlot (E:Env):Op->Option Slot
 | .alloc t=>match E.TI t with
  | some T=>if T.zok then some (.box T (ownMd T) [] T.zero) else none
  | none=>none
 | .buildSlice t n ps=>match E.TI t with
  | some (.slc e)=>if Nat.beq n ps.size&&e.zok&&Nat.ble (n*e.sz) 16777216&&(Nat.beq n 0||decide (roMd e=ownMd e)) then (cstsE e ps.toList 0).map fun vs=>.own (.slc e) (.slc true (ownMd e)) [] vs else none
  | _=>none
 | _=>none
section
variable {P:Program} {C:Ctx} {A:Cells} {X:FP} {σ:St} {a:Act} {w:World} {F:Nat->FP} {R:Type} {x:R} {Q:Exit->Act->World->Prop} {o:Oper} {E:Env}
theorem cstE_some {e:Ty} {y:Operand} {v:e.den} (h:cstE e y=some v):∃ c,y=.const c/\constSlot c=.val e v:=by
 unfold cstE at h
 split at h
 ·rename_i c
  split at h
  ·rename_i t y he
   split at h
   ·rename_i hte
    subst hte
    injection h with h
    exact ⟨c,rfl,by rw[he,<- h]⟩
   ·cases h
  ·cases h
 ·cases h
theorem csts_cons {e:Ty} {j n:Nat} {y:Operand} {ps:List (Nat×Operand)} {vs:List e.den} (h:cstsE e ((j,y)::ps) n=some vs):j=n/\∃ v ys,cstE e y=some v/\cstsE e ps (n+1)=some ys/\vs=v::ys:=by
 simp only[cstsE] at h
 split at h
 ·rename_i hj
  split at h
  ·rename_i v ys h1 h2
   injection h with h
   exact ⟨Nat.eq_of_beq_eq_true hj,v,ys,h1,h2,h.symm⟩
  ·cases h
 ·cases h
theorem seqK_cst {e:Ty} {fz:Nat->Bool} {m:Md} {K:Md->List e.den->St->Option R}:∀ (ps:List (Nat×Operand)) {n:Nat} {vs acc:List e.den},(ps=[]\/roMd e=m)->cstsE e ps n=some vs->seqK σ e fz ps n m acc K=K m (acc++vs) σ
 | [],n,vs,acc,_,h=>by
  injection h with h
  rw[<-h,List.append_nil]
  rfl
 | (j,y)::ps,n,vs,acc,hm,h=>by
  obtain ⟨hj,v,ys,h1,h2,rfl⟩:=csts_cons h
  obtain ⟨c,rfl,hc⟩:=cstE_some h1
  have hm:roMd e=m:=hm.resolve_left (by simp)
  have:=seqK_cst (fz:=fz) (m:=m) (K:=K) (acc:=acc++[v]) ps (.inr hm) h2
  simp only[seqK]
  rw[hj,Nat.beq_refl,if_pos rfl]
  show useK σ (constSlot c) _ e _=_
  rw[hc]
  simp only[useK,castK,dite_true]
  rw[if_pos hm,this,List.append_assoc]
  rfl
theorem csts_ok (h:Rel P C A X σ a w F) {e:Ty}:∀ (ps:List (Nat×Operand)) {n:Nat} {L Z:List Value} {vs:List e.den},L.length=n*e.sz->Z.length=ps.length*e.sz->cstsE e ps n=some vs ->
  ∃ L':List Value,vs.length=ps.length/\L'.length=ps.length*e.sz/\(∀ (i:Nat) (y:e.den),vs[i]?=some y->Ro P w A e y ((L'.drop (i*e.sz)).take e.sz))/\Instr.fill (fun i=>some (i*e.sz,e.sz)) (L++Z).toArray (ps.map fun p=>(p.1,a.eval p.2))=some (L++L').toArray
 | [],n,L,Z,vs,hL,hZ,hc=>by
  injection hc with hc
  subst hc
  have:Z=[]:=by simpa using hZ
  subst this
  exact ⟨[],rfl,by simp,fun i y hy=>(by cases hy),by simp[Instr.fill]⟩
 | (j,y)::ps,n,L,Z,vs,hL,hZ,hc=>by
  obtain ⟨hj,v,ys,h1,h2,rfl⟩:=csts_cons hc
  subst hj
  obtain ⟨c,rfl,hcs⟩:=cstE_some h1
  have hs:=opd_ok (P:=P) h (o:=.const c) rfl
  have ho:opd σ (.const c)=.val e v:=hcs
  rw[ho] at hs
  rcases hs with ⟨cs,k1,k2⟩ | ⟨xs,e'⟩
  rotate_left
  ·cases e'
  have hl1:=Ro.length _ k2
  have hZ1:Z.length=e.sz+ps.length*e.sz:=by rw[hZ,List.length_cons,Nat.succ_mul,Nat.add_comm]
  obtain ⟨L',g1,g2,g3,g4⟩:=csts_ok h ps (n:=j+1) (L:=L++cs) (Z:=Z.drop e.sz) (by rw[List.length_append,hL,hl1,Nat.succ_mul]) (by rw[List.length_drop,hZ1];omega) h2
  refine ⟨cs++L',by simp[g1],by rw[List.length_append,hl1,g2,List.length_cons,Nat.succ_mul,Nat.add_comm],fun i z hz=>?_,?_⟩
  ·cases i with
   | zero=>
    injection hz with hz
    subst hz
    rw[Nat.zero_mul,List.drop_zero,List.take_append_of_le_length (Nat.le_of_eq hl1.symm),List.take_of_length_le (Nat.le_of_eq hl1)]
    exact k2
   | succ i=>
    have hz:ys[i]?=some z:=by simpa using hz
    rw[Nat.succ_mul,Nat.add_comm,<- hl1,List.drop_length_add_append,hl1]
    exact g3 i z hz
  ·rw[List.map_cons,k1,fill_step (pl:=fun i=>some (i*e.sz,e.sz)) rfl hl1 (mkV_cells hl1 (Ro.one _ k2)) (by simp[hL,hZ1])]
   have e1:(L++Z).take (j*e.sz)=L:=by rw[<-hL,List.take_left]
   have e2:(L++Z).drop (j*e.sz+e.sz)=Z.drop e.sz:=by rw[<-hL,List.drop_length_add_append]
   rw[e1,e2,g4,List.append_assoc]
theorem stepK_pd {s:Slot} (hs:pdSlot E o.op=some s) {rid i:Nat} {K:St->Option R}:stepK E rid i o σ K=K (σ.putD o.dst s):=by
 unfold pdSlot at hs
 split at hs
 ·grind [stepK,tiK]
 ·rename_i t n ps ho
  unfold stepK
  simp only[ho]
  split at hs
  ·rename_i e hT
   simp only[tiK,hT]
   split at hs
   ·rename_i hc
    simp only[Bool.and_eq_true,Bool.or_eq_true,decide_eq_true_eq] at hc
    obtain ⟨⟨⟨h1,h2⟩,h3⟩,h4⟩:=hc
    rw[h1,h2,h3]
    obtain ⟨vs,hv,hs⟩:=Option.map_eq_some_iff.1 hs
    have:=seqK_cst (σ:=σ) (fz:=isFz E.fz rid i) (m:=ownMd e) (K:=fun m v σ=>K (σ.putD o.dst (.own (.slc e) (.slc true m) [] v))) (acc:=[]) ps.toList (h4.imp (fun h=>by
     have h0:=Nat.eq_of_beq_eq_true h
     have h5:=Nat.eq_of_beq_eq_true h1
     exact List.eq_nil_of_length_eq_zero (by rw[Array.length_toList];omega)) id) hv
    simp only[Bool.and_self,if_true]
    rw[this,<- hs]
    rfl
   ·cases hs
  ·cases hs
 ·cases hs
theorem wp_put {N:Act->World->Prop} (hh:o.wp P a w N Q):o.wp P a w (fun a' w'=>(∀ d,o.dst≠some d->tmp a' d=tmp a d)/\N a' w') Q:=by
 have key:∀ (a0:Act) v,a0.tmps=a.tmps->∀ d,o.dst≠some d->tmp (a0.put o.dst v) d=tmp a d:=fun a0 v h0 d hd=>by
  unfold tmp Act.put
  cases ho:o.dst <;> simp_all
 unfold Oper.wp at *
 generalize (execOp a.eval o).run P w=r at *
 simp_all [Oper.upon]
theorem pdOk_spec {d:Nat} (h:pdOk σ d=true):d < σ.n/\σ.get d=.dead/\(∀ k,(d,k,false) ∉ σ.lent)/\∀ r p snap,(d,r,p,snap) ∉ σ.gh:=by
 unfold pdOk at h
 simp only[Bool.and_eq_true,Bool.not_eq_true',Nat.blt_eq] at h
 obtain ⟨⟨⟨h1,h2⟩,h3⟩,h4⟩:=h
 refine ⟨h1,?_,fun k hm=>?_,fun r p snap hm=>?_⟩
 ·grind
 ·revert h3 hm
  generalize σ.lent=l
  induction l with
  | nil=>grind
  | cons e l ih=>
   obtain ⟨k1,n1,b1⟩:=e
   simp_all [lentB]
 ·rw[List.any_eq_false] at h4
  exact h4 _ hm (by simp)
theorem Rel.tmp (h:Rel P C A X σ a w F) {d:Nat} (hp:pdOk σ d=true) (v:Value):Rel P C A X σ (a.put (some d) v) w F:=by
 obtain ⟨hd,hg,hl,hgh⟩:=pdOk_spec hp
 have hsz:=h.size
 have ht:∀ i,i≠d->OT.tmp (a.put (some d) v) i=OT.tmp a i:=fun i hi=>by
  grind [tmp_put]
 have hpl:∀ r p,place σ (a.put (some d) v) w r p=place σ a w r p:=fun r p=>by
  unfold place
  by_cases hr:r=d
  ·subst hr;rw[hg];rfl
  ·rw[ht r hr]
 have hpres:Pres σ a w σ (a.put (some d) v) w:=fun r p snap hb=>⟨hb,fun hok=>⟨hok,fun _ pl hp=>⟨pl.H,pl.cs,by simp_all,fun _=>rfl⟩⟩⟩
 refine { h with size:=by simp[Act.put,hsz],defers:=by simpa [Act.put] using h.defers,slots:=fun i hi=>?_,gh:=fun d' r p snap hm=>?_,lentP:=fun j k hm=>?_,whole:=fun r t m H v' hr hk=>?_,lentS:=fun j k hm R hR=>?_ }
 ·by_cases hid:i=d
  ·subst hid;rw[hg];trivial
  ·rw[ht i hid]
   exact SlotRel.pres hpres (fun _ _ h=>h) (fun _ _ _ _ h=>h) (fun _ _ h=>h) (fun _ _ _=>⟨fun _ h=>h,rfl⟩) (h.slots i hi)
 ·rw[ht d' (fun e=>by grind)]
  exact RefRel.pres hpres (h.gh d' r p snap hm)
 ·rw[ht j (fun e=>by grind)]
  exact h.lentP j k hm
 ·rw[ht r (fun e=>by grind)]
  exact h.whole r t m H v' hr hk
 ·have:j≠d:=fun e=>by subst e;rw[hg] at hR;cases hR
  rw[ht j this] at hR
  exact h.lentS j k hm R hR
def PS (P:Program) (A:Cells) (w:World) (tv:Value):Slot->FP->Prop
 | .own t m H v,F=>∃ cs,tv=mkV t cs/\Rep P w A t m H v cs F
 | .box t m H v,F=>∃ b L F1,tv=.pointer (some ⟨b,0,none⟩)/\L.length=t.sz/\Has w b 0 L/\(∀ j,j < t.sz->w.frozen? ⟨b,j,none⟩=false) /\
   (∀ x i,rng b 0 t.sz x i+F1 x i<=F x i)/\Rep P w A t m H v L F1/\OwnBlk w b (t.sz,false)
 | _,_=>False
theorem PS.slot {tv:Value} {s:Slot} {G:FP} (h:PS P A w tv s G):SlotRel P A σ a w tv s G:=by
 cases s with
 | own t m H v=>exact h
 | box t m H v=>
  obtain ⟨b,L,F1,h1,h2,h3,h4,h5,h6,h7⟩:=h
  exact ⟨b,0,L,F1,h1,h2,h3,fun j hj=>by grind,h5,h6⟩
 | _=>exact h.elim
theorem PS.whole {tv:Value} {s:Slot} {G:FP} (h:PS P A w tv s G):∀ t m H v',s=.box t m H v'->∃ b,tv=.pointer (some ⟨b,0,none⟩)/\OwnBlk w b (t.sz,false):=by
 rintro t m H v rfl
 obtain ⟨b,L,F1,h1,h2,h3,h4,h5,h6,h7⟩:=h
 grind
theorem PS.pres {A':Cells} {w':World} {tv:Value} {s:Slot} {G:FP} (hA:∀ b i,A b i->A' b i) (hc:∀ b i,A b i->∀ u,ce w b i=some u->ce w' b i=some u) (hb:∀ b n,OwnBlk w b n->OwnBlk w' b n)
  (hF:∀ b i,1<=G b i->(∀ u,ce w b i=some u->ce w' b i=some u)/\w'.frozen? ⟨b,i,none⟩=w.frozen? ⟨b,i,none⟩) (h:PS P A w tv s G):PS P A' w' tv s G:=by
 cases s with
 | own t m H v=>obtain ⟨cs,h1,h2⟩:=h;exact ⟨cs,h1,Rep.mono hA hc hb t h2 (fun _ _=>Nat.le_refl _) (fun b i hp=>(hF b i hp).1)⟩
 | box t m H v=>
  obtain ⟨b,L,F1,h1,h2,h3,h4,h5,h6,h7⟩:=h
  have hr:∀ j,j < t.sz->1<=G b j:=fun j hj=>by
   grind [rng]
  exact ⟨b,L,F1,h1,h2,fun j u hu=>(hF _ _ (by grind)).1 u (h3 j u hu),fun j hj=>by grind,h5,
   Rep.mono hA hc hb t h6 (fun _ _=>Nat.le_refl _) (fun b i hp=>(hF b i (by grind)).1),hb _ _ h7⟩
 | _=>exact h.elim
def PF (P:Program) (E:Env) (ops:Array Oper) (A:Cells) (a:Act) (w:World):List Nat->FP->Prop
 | [],_=>True
 | j::D,X=>∃ (o:Oper) (d:Nat) (s:Slot) (Fj X':FP),ops[j]?=some o/\o.dst=some d/\pdSlot E o.op=some s/\PS P A w (tmp a d) s Fj/\(∀ b i,X' b i+Fj b i<=X b i)/\PF P E ops A a w D X'
theorem PF.pres {ops:Array Oper} {A':Cells} {a':Act} {w':World} (hA:∀ b i,A b i->A' b i) (hc:∀ b i,A b i->∀ u,ce w b i=some u->ce w' b i=some u) (hb:∀ b n,OwnBlk w b n->OwnBlk w' b n) :
  ∀ (D:List Nat) {X:FP},(∀ j ∈ D,∀ o d,ops[j]?=some o->o.dst=some d->tmp a' d=tmp a d)->(∀ b i,1<=X b i->(∀ u,ce w b i=some u->ce w' b i=some u)/\w'.frozen? ⟨b,i,none⟩=w.frozen? ⟨b,i,none⟩) ->
   PF P E ops A a w D X->PF P E ops A' a' w' D X
 | [],_,_,_,_=>trivial
 | j::D,X,ht,hF,h=>by
  obtain ⟨o,d,s,Fj,X',h1,h2,h3,h4,h5,h6⟩:=h
  exact ⟨o,d,s,Fj,X',h1,h2,h3,by
   rw[ht j (by simp) o d h1 h2]
   exact PS.pres hA hc hb (fun b i hp=>hF b i (by have:=h5 b i;omega)) h4,h5,PF.pres hA hc hb D (fun k hk=>ht k (by simp[hk])) (fun b i hp=>hF b i (by have:=h5 b i;omega)) h6⟩
theorem PF.grow {ops:Array Oper}:∀ (D:List Nat) {X X1:FP},(∀ b i,X b i<=X1 b i)->PF P E ops A a w D X->PF P E ops A a w D X1
 | [],_,_,_,_=>trivial
 | j::D,X,X1,hx,h=>by
  obtain ⟨o,d,s,Fj,X',h1,h2,h3,h4,h5,h6⟩:=h
  exact ⟨o,d,s,Fj,X',h1,h2,h3,h4,fun b i=>Nat.le_trans (h5 b i) (hx b i),h6⟩
theorem PF.take {ops:Array Oper} {j:Nat}:∀ (D:List Nat) {X:FP},j ∈ D->PF P E ops A a w D X ->
  ∃ (o:Oper) (d:Nat) (s:Slot) (Fj X':FP),ops[j]?=some o/\o.dst=some d/\pdSlot E o.op=some s/\PS P A w (tmp a d) s Fj/\(∀ b i,X' b i+Fj b i<=X b i)/\PF P E ops A a w (D.erase j) X'
 | [],_,hj,_=>by cases hj
 | k::D,X,hj,h=>by
  by_cases hkj:k=j
  ·subst hkj
   rw[List.erase_cons_head]
   exact h
  ·have hj':j ∈ D:=by
    rcases List.mem_cons.1 hj with e | e
    ·exact absurd e.symm hkj
    ·exact e
   obtain ⟨o,d,s,Fk,X1,h1,h2,h3,h4,h5,h6⟩:=h
   obtain ⟨o',d',s',Fj,X2,g1,g2,g3,g4,g5,g6⟩:=PF.take D hj' h6
   rw[List.erase_cons_tail (by simpa using hkj)]
   exact ⟨o',d',s',Fj,fun b i=>X2 b i+Fk b i,g1,g2,g3,g4,fun b i=>by have:=g5 b i;have:=h5 b i;show X2 b i+Fk b i+Fj b i<=X b i;omega,o,d,s,Fk,X2,h1,h2,h3,h4,fun b i=>Nat.le_refl _,g6⟩
theorem early_ok (h:Rel P C A X σ a w F) (hti:∀ i T,E.TI i=some T->layB P T (.inl i)=true) {s:Slot} (hs:pdSlot E o.op=some s) {d:Nat} (hp:pdOk σ d=true) :
  ∃ (v:Value) (w':World) (Fj:FP),(execOp a.eval o).run P w=.ok (.value v) w'/\Ext w w' (fun _ _=>0)/\Rel P C A (fun b i=>X b i+Fj b i) σ (a.put (some d) v) w' F/\PS P A w' v s Fj:=by
 unfold pdSlot at hs
 split at hs
 ·rename_i t ho
  split at hs
  ·rename_i T hT
   split at hs
   ·rename_i hzk
    injection hs with hs
    subst hs
    have hlay:=hti _ _ hT
    obtain ⟨L,hL⟩:=zok_some T hzk
    obtain ⟨z,hz1,hz2⟩:=run_zeroValue (P:=P) (w:=w) hlay hL
    obtain ⟨r1,r2,r3⟩:=zc_ok (P:=P) (w:=w) (A:=A) T hL hlay
    have hc:z.cells=L.toArray:=by grind
    have h1:=h.alloc L.toArray t (0,0)
    have hown:=own_alloc w L.toArray t (0,0) false (.inr (Nat.le_refl _))
    have hll:L.length=T.sz:=Rep.length T r1
    simp only[List.size_toArray,hll] at hown h1
    have hr1:=Rep.alloc h r1 (fun b i hp=>by simp at hp) (ext_alloc w (.cells L.toArray t))
    refine ⟨.pointer (some ⟨w.heap.size,0,none⟩),w.alloc (.cells L.toArray t),rng w.heap.size 0 T.sz,?_,ext_alloc w _,h1.tmp hp _,w.heap.size,L,(fun _ _=>0),rfl,hll,has_alloc w L.toArray t (0,0) (fun j u hu=>by simpa using hu) (Rep.one _ r1),fun j hj=>hown.frozen hj,fun _ _=>Nat.le_refl _,hr1,hown⟩
    simp_all [execOp,Instr.alloc,newVar,newRow]
   ·cases hs
  ·cases hs
 ·rename_i t n ps ho
  split at hs
  ·rename_i e hT
   split at hs
   ·rename_i hc
    obtain ⟨vs,hv,hs⟩:=Option.map_eq_some_iff.1 hs
    subst hs
    simp only[Bool.and_eq_true,Bool.or_eq_true,decide_eq_true_eq,Nat.beq_eq,Nat.ble_eq] at hc
    obtain ⟨⟨⟨hn,hz⟩,hcap⟩,h4⟩:=hc
    have hl:=hti _ _ hT
    simp only[layB,Bool.and_eq_true] at hl
    have h2:=hl.2
    split at h2
    ·rename_i el hu
     simp only[Bool.and_eq_true,Nat.ble_eq] at h2
     obtain ⟨hsz,hel⟩:=h2
     obtain ⟨Lz,hLz⟩:=zok_some e hz
     obtain ⟨r1,r2,r3⟩:=zc_ok (P:=P) (w:=w) (A:=A) _ hLz hel
     obtain ⟨inf,i1,i2,i3,i4⟩:=infoOk_some (layB_info hel)
     obtain ⟨z,z1,z2⟩:=i4 Lz hLz
     have hzl:z.cells.size=e.sz:=by grind
     have hnl:ps.toList.length=n:=by simpa using hn.symm
     obtain ⟨L',g1,g2,g3,g4⟩:=csts_ok h ps.toList (n:=0) (L:=[]) (Z:=((Array.range (n*e.sz)).map (z.cells[· % z.cells.size]!)).toList) (by simp) (by simp[hn]) hv
     simp only[List.nil_append,Array.toArray_toList] at g4
     rw[hnl] at g1 g2
     have hrun:(execOp a.eval o).run P w=.ok (.value (.slice (some ⟨w.heap.size,0,none⟩) n n)) (w.alloc (.cells L'.toArray el)):=by
      by_cases hn0:n*e.sz=0
      ·have:n=0:=by rcases Nat.mul_eq_zero.1 hn0 with h | h <;> omega
       subst this
       have hps:ps=#[]:=by grind
       subst hps
       have hL':L'=[]:=by simpa using g2
       subst hL'
       simp[execOp,ho,Instr.buildSlice,run_underlying hu,Go.sizeOf,typeInfo,i1,Instr.fill,newRow,show Array.range 0=#[] from rfl]
      simp_all [run_buildSlice,execOp]
     have hA1:=h.alloc L'.toArray el (0,0)
     have hown:=own_alloc w L'.toArray el (0,0) (isU8 e) (.inr (Nat.le_refl _))
     have hLs:L'.toArray.size=n*e.sz:=by simpa using g2
     rw[hLs] at hown hA1
     have hmax:n<=maxLen:=by simp only[maxLen];have:=Nat.le_mul_of_pos_right n hsz;omega
     refine ⟨_,_,fun b i=>rng w.heap.size 0 (n*e.sz) b i+sumF n (fun _ _ _=>0) b i,hrun,ext_alloc w _,?_,?_⟩
     ·refine (hA1.less (fun b i=>?_)).tmp hp _
      simp[sumF_zero]
     ·refine ⟨_,(mkV_one (.slc e) _ rfl).symm,?_⟩
      simp only[Rep,hole,List.any_nil,Bool.false_eq_true,if_false,Md.own,if_true,Md.e]
      refine ⟨_,n,by rw[g1],by rw[g1];exact Nat.le_refl _,hmax,(fun e=>by cases e),fun ad had=>?_⟩
      injection had with had;subst had
      refine ⟨rfl,rfl,hown,fun _ _ _=>0,fun b i=>by rw[g1];exact Nat.le_refl _,fun i y hy=>?_⟩
      have hi:=(List.getElem?_eq_some_iff.1 hy).1
      have hro:=g3 i y hy
      have hm:roMd e=ownMd e:=h4.resolve_left (by omega)
      refine ⟨_,Ro.length _ hro,has_alloc w L'.toArray el (0,0) (fun j u hu=>?_) (Ro.one _ hro),?_⟩
      ·grind
      ·simp only[List.filterMap_nil]
       exact Rep.alloc h (Ro.rep e (fun _ _=>0) (by rw[<-hm];exact roMd_noOwn _) hro) (fun b k hp=>by simp at hp) (ext_alloc w _)
    ·cases h2
   ·cases hs
  ·cases hs
 ·cases hs
theorem Rel.rebaseX (h:Rel P C A X σ a w F):∃ C':Ctx,C'.w0=w/\C'.A0=A/\(∀ b i,A b i->C'.F0 b i=0)/\Rel P C' A X σ a w F/\(∀ {A2:Cells} {X2:FP} {σ2:St} {a2:Act} {w2:World} {F2:Nat->FP},Rel P C' A2 X2 σ2 a2 w2 F2->Rel P C A2 X2 σ2 a2 w2 F2):=by
 refine ⟨⟨w,A,fun b i=>X b i+sumF σ.n F b i,C.args⟩,rfl,rfl,fun b i ha=>?_,?_,fun {A2 X2 σ2 a2 w2 F2} h2=>?_⟩
 ·show X b i+sumF σ.n F b i=0
  rcases Nat.eq_zero_or_pos (X b i+sumF σ.n F b i) with h0 | h0
  ·exact h0
  ·exact absurd ha (h.dis b i h0)
 ·exact { h with ext:=Ext.refl _ _,own:=fun b i hp=>.inl hp,a0:=fun _ _ h=>h,a1:=fun _ _ h=>.inl h,lentP:=h.lentP,lentS:=h.lentS,tab:=h.tabAt fun b i hp=>hp }
 ·have hsz:C.w0.heap.size<=w.heap.size:=h.ext.size
  refine { h2 with ext:=h.ext.trans h2.ext (fun b i hb hz=>?_),own:=fun b i hp=>?_,a0:=fun b i ha=>h2.a0 b i (h.a0 b i ha),a1:=fun b i ha=>?_,lentP:=h2.lentP,lentS:=h2.lentS,tab:=h.tab }
  ·show X b i+sumF σ.n F b i=0
   rcases Nat.eq_zero_or_pos (X b i+sumF σ.n F b i) with h0 | h0
   ·exact h0
   ·rcases h.own b i h0 with h1 | h1 <;> omega
  ·rcases h2.own b i hp with h1 | h1
   ·exact h.own b i h1
   grind
  ·rcases h2.a1 b i ha with h1 | h1 | h1
   ·exact h.a1 b i h1
   ·exact .inr (h.own b i h1)
   grind
theorem Rel.frame (h:Rel P C A X σ a w F):∃ C1:Ctx,Rel0 P C1 A σ a w F/\∀ {A2:Cells} {σ2:St} {a2:Act} {w2:World} {F2:Nat->FP},Rel0 P C1 A2 σ2 a2 w2 F2->Rel P C A2 X σ2 a2 w2 F2 /\
  (∀ b i,A b i->A2 b i)/\(∀ b i,A b i->∀ u,ce w b i=some u->ce w2 b i=some u)/\(∀ b n,OwnBlk w b n->OwnBlk w2 b n)/\(∀ b i,1<=X b i->(∀ u,ce w b i=some u->ce w2 b i=some u)/\w2.frozen? ⟨b,i,none⟩=w.frozen? ⟨b,i,none⟩):=by
 have hX0:∀ b i,1<=X b i->sumF σ.n F b i=0:=fun b i hp=>by have:=h.tot b i;omega
 have hXb:∀ b i,1<=X b i->b < w.heap.size:=fun b i hp=>h.bnd b i (.inl (by omega))
 refine ⟨⟨w,A,sumF σ.n F,C.args⟩,?_,fun {A2 σ2 a2 w2 F2} h2=>⟨?_,h2.a0,fun b i ha u hu=>?_,h2.ext.blk,fun b i hp=>⟨fun u hu=>h2.ext.cell b i (hXb b i hp) (hX0 b i hp) u hu,h2.ext.froz b i (hXb b i hp)⟩⟩⟩
 ·exact { h with
   tot:=fun b i=>by have:=h.tot b i;grind
   dis:=fun b i hp=>h.dis b i (by grind)
   bnd:=fun b i hp=>h.bnd b i (hp.imp (fun hp=>by grind) id)
   ext:=Ext.refl _ _
   own:=fun b i hp=>.inl (by grind)
   a0:=fun _ _ h=>h,a1:=fun _ _ h=>.inl h,lentP:=h.lentP,lentS:=h.lentS,tab:=h.tabAt fun b i hp=>by grind }
 ·have hsz:C.w0.heap.size<=w.heap.size:=h.ext.size
  have hx2:∀ b i,1<=X b i->sumF σ2.n F2 b i=0:=fun b i hp=>by
   rcases Nat.eq_zero_or_pos (sumF σ2.n F2 b i) with h0 | h0
   ·exact h0
   ·rcases h2.own b i (by grind) with h1 | h1
    all_goals grind
  have hown:∀ b i,1<=sumF σ.n F b i->1<=C.F0 b i\/C.w0.heap.size<=b:=fun b i hp=>h.own b i (by omega)
  refine { h2 with tot:=fun b i=>?_,dis:=fun b i hp=>?_,bnd:=fun b i hp=>?_,ext:=h.ext.trans h2.ext (fun b i hb hz=>?_),own:=fun b i hp=>?_,a0:=fun b i ha=>h2.a0 b i (h.a0 b i ha),a1:=fun b i ha=>?_,lentP:=h2.lentP,lentS:=h2.lentS,tab:=h.tab }
  ·have h1:0+sumF σ2.n F2 b i<=1:=h2.tot b i
   have:=hx2 b i
   have:=h.tot b i
   omega
  ·by_cases hx:1<=X b i
   ·intro ha
    rcases h2.a1 b i ha with h1 | h1 | h1
    ·exact h.dis b i (by omega) h1
    all_goals grind
   ·exact h2.dis b i (by grind)
  ·by_cases hx:1<=X b i
   ·exact Nat.lt_of_lt_of_le (hXb b i hx) h2.ext.size
   ·exact h2.bnd b i (hp.imp (fun hp=>by grind) id)
  ·grind
  ·by_cases hx:1<=X b i
   ·exact h.own b i (by omega)
   ·rcases h2.own b i (by grind) with h1 | h1
    all_goals grind
  ·rcases h2.a1 b i ha with h1 | h1 | h1
   ·exact h.a1 b i h1
   all_goals grind
 ·refine h2.ext.cell b i (ce_lt hu) ?_ u hu
  show sumF σ.n F b i=0
  rcases Nat.eq_zero_or_pos (sumF σ.n F b i) with h0 | h0
  ·exact h0
  ·exact absurd ha (h.dis b i (by omega))
end
end OT
set_option linter.unusedVariables false
set_option linter.unusedSimpArgs false
namespace OT
open Go
section
variable {P:Program} {C:Ctx} {A:Cells} {X:FP} {σ:St} {a:Act} {w:World} {F:Nat->FP} {R:Type} {x:R} {Q:Exit->Act->World->Prop} {o:Oper} {E:Env}
theorem Rel.congr (h:Rel P C A X σ a w F) {σ':St} (hn:σ'.n=σ.n) (hg:∀ i,σ'.get i=σ.get i) (hv:∀ i,σ'.ver i=σ.ver i) (hl:∀ e,e ∈ σ'.lent↔e ∈ σ.lent) (hgh:∀ e,e ∈ σ'.gh->e ∈ σ.gh):Rel P C A X σ' a w F:=by
 have hpres:Pres σ a w σ' a w:=fun r p snap hb=>⟨by rw[hv];exact hb,fun hok=>by
  unfold St.ok at hok ⊢
  rw[hv] at hok
  exact ⟨hok,fun _ pl hpl=>⟨pl.H,pl.cs,by unfold place at hpl ⊢;rw[hg];exact hpl,fun _=>rfl⟩⟩⟩
 refine ⟨by rw[hn];exact h.size,h.defers,fun i hi=>?_,fun d r p snap hm=>RefRel.pres hpres (h.gh d r p snap (hgh _ hm)),fun b i=>by rw[hn];exact h.tot b i,fun b i hp=>by rw[hn] at hp;exact h.dis b i hp,fun b i hp=>by rw[hn] at hp;exact h.bnd b i hp,
  fun i=>by rw[hv];exact h.vlen i,h.ext,fun b i hp=>by rw[hn] at hp;exact h.own b i hp,h.a0,h.a1,fun j k hm=>h.lentP j k ((hl _).1 hm),fun r t m H v hr hk=>?_,fun j k hm R hR=>?_,h.tab⟩
 ·rw[hg]
  exact SlotRel.pres hpres (fun _ _ h=>h) (fun _ _ _ _ h=>h) (fun _ _ h=>h) (fun _ _ _=>⟨fun _ h=>h,rfl⟩) (h.slots i (by rw[<-hn];exact hi))
 ·rw[hg] at hr
  exact h.whole r t m H v hr fun k hm=>hk k ((hl _).2 hm)
 ·rw[hg] at hR
  exact h.lentS j k ((hl _).1 hm) R hR
theorem Rel.same (h:Rel P C A X σ a w F) {t:Nat} {s:Slot} (hs:σ.get t=s):Rel P C A X (σ.upd t s) a w F:=
 h.congr rfl (fun i=>by
  rw[get_upd]
  split
  ·rename_i hc;rw[<-hs,hc.1]
  ·rfl) (fun i=>rfl) (fun e=>Iff.rfl) (fun e he=>he)
theorem guard_ok (h:Rel P C A X σ a w F) {ops:Array Oper} {o:Oper} {K:Bool->St->Option R} (hk:guardK ops.toList σ o.guard K=some x):∃ (b:Bool) (σ':St),K b σ'=some x/\Rel P C A X σ' a w F/\Region.wanted o (yielded ops a.tmps)=b:=by
 unfold guardK at hk
 split at hk
 ·rename_i hg;exact ⟨true,σ,hk,h,by simp[Region.wanted,hg]⟩
 ·rename_i j want hg
  split at hk
  ·cases hk
  ·rename_i t ht
   rw[Array.getElem?_toList] at ht
   have hy:∀ v,tmp a t=v->t < σ.n->yielded ops a.tmps j=match v with | .bool b=>some b | _=>none:=fun v hv ht'=>by
    have hlt:t < a.tmps.size:=by rw[h.size];exact ht'
    unfold yielded
    rw[ht]
    have:a.tmps[t]?=some v:=by rw[Array.getElem?_eq_getElem hlt,<- hv];simp[tmp,hlt]
    simp only[Option.bind_some,this]
    cases v <;> rfl
   have hlt:∀ s,σ.get t=s->s≠.dead->t < σ.n:=fun s hs hne=>by
    rcases Nat.lt_or_ge t σ.n with hi | hi
    ·exact hi
    ·rw[get_out (Nat.not_lt.2 hi)] at hs;exact absurd hs.symm hne
   split at hk
   ·rename_i b hgt
    have ht':=hlt _ hgt (by intro e;cases e)
    have hs:=h.slots t ht'
    rw[hgt] at hs
    have hv:=val_bool hs
    have hyy:=hy _ hv ht'
    simp only at hyy
    cases b with
    | true=>exact ⟨_,_,hk,Rel.same h hgt,by simp only[Region.wanted,hg,hyy];cases want <;> rfl⟩
    | false=>exact ⟨_,_,hk,Rel.same h hgt,by simp only[Region.wanted,hg,hyy];cases want <;> rfl⟩
   ·rename_i hgt
    have ht':=hlt _ hgt (by intro e;cases e)
    have hs:=h.slots t ht'
    rw[hgt] at hs
    obtain ⟨vs,Fi,h1,_⟩:=hs
    have hyy:=hy _ h1 ht'
    simp only at hyy
    exact ⟨false,σ,hk,h,by simp only[Region.wanted,hg,hyy];cases want <;> rfl⟩
   ·cases hk
theorem skip_ok (h:Rel P C A X σ a w F) (o:Oper):∃ F',Rel P C A X (σ.putD o.dst (.tup [])) (a.put o.dst undef) w F':=
 h.putD o.dst (s:=.tup []) (v:=undef) (Fd:=fun _ _=>0) (X':=X) ⟨#[],fun _ _ _=>0,rfl,fun b i=>by simp[sumF],fun j y hy=>by cases hy⟩ (fun b i=>Nat.le_refl _) (fun _ _ _ _ e=>by cases e)
theorem ops_ok (hE:EnvOk P E) {rid:Nat} {ops:Array Oper} (hst:∀ o ∈ ops.toList,opOk P o.op=true) {K:St->Option R} (hQ:∀ a w,Nx P C K x a w->Q .normal a w) :
  ∀ (rest:List Oper) (i:Nat) {σ:St} {A:Cells} {a:Act} {w:World} {F:Nat->FP},ops.toList.drop i=rest->Rel0 P C A σ a w F->opsK E rid ops.toList rest i σ K=some x->wpOps P ops Q (List.range' i rest.length) a w:=by
 intro rest
 induction rest with
 | nil=>intro i σ A a w F hd h hk;exact hQ a w ⟨σ,hk,A,F,h⟩
 | cons o rest ih=>
  intro i σ A a w F hd h hk
  have hi:ops[i]?=some o:=by
   have:(ops.toList.drop i)[0]?=some o:=by rw[hd];rfl
   rw[List.getElem?_drop] at this
   simpa using this
  have hd':ops.toList.drop (i+1)=rest:=by rw[<-List.drop_drop,hd];rfl
  have hmem:o ∈ ops.toList:=List.mem_of_getElem? (i:=i) (by simpa using hi)
  simp only[opsK] at hk
  obtain ⟨b,σ1,hk,h1,hw⟩:=guard_ok h hk
  show wpOps P ops Q (i::List.range' (i+1) rest.length) a w
  simp only[wpOps,hi,hw]
  cases b with
  | true=>
   simp only[if_true]
   refine .inl (Oper.wp_mono (fun a' w' hn=>?_) (step_ok hE h1 (hst o hmem) hk))
   obtain ⟨σ2,hk2,A2,F2,h2⟩:=hn
   exact ih (i+1) hd' h2 hk2
  | false=>
   simp only[Bool.false_eq_true,if_false]
   obtain ⟨F2,h2⟩:=skip_ok h1 o
   exact ih (i+1) hd' h2 hk
theorem region_ok (hE:EnvOk P E) {rid id:Nat} {ops:Array Oper} (hst:∀ o ∈ ops.toList,opOk P o.op=true) (h:Rel0 P C A σ a w F) {K:St->Option R} (hk:opsK E rid ops.toList ops.toList 0 σ K=some x) (hQ:∀ a w,Nx P C K x a w->Q .normal a w) :
  (Code.region id ops false).wp P Q a w:=by
 refine wp_region ?_
 have:=ops_ok hE hst hQ ops.toList 0 (by simp) h hk
 simpa [List.range_eq_range'] using this
def wpAnyL (P:Program) (md:Region.Mode) (ops:Array Oper) (Q:Exit->Act->World->Prop) (S:Array Bool->World->Prop):Nat->Array Bool->Act->World->Prop
 | 0,listed,a,w=>Region.ready md ops listed=[]/\Q .normal a w
 | fuel+1,listed,a,w=>
  (Region.ready md ops listed=[]->Q .normal a w) /\
  ∀ i ∈ Region.ready md ops listed,wpOp P ops Q i (fun a' w'=>S (listed.setIfInBounds i true) w'/\wpAnyL P md ops Q S fuel (listed.setIfInBounds i true) a' w') a w
theorem wpAny_of_L {md:Region.Mode} {ops:Array Oper} {S:Array Bool->World->Prop}:∀ (fuel:Nat) (listed:Array Bool) (a:Act) (w:World),wpAnyL P md ops Q S fuel listed a w->wpAny P md ops Q fuel listed a w
 | 0,_,_,_,h=>h
 | fuel+1,_,_,_,h=>⟨h.1,fun i hi=>wpOp_mono (fun a' w' h'=>wpAny_of_L fuel _ a' w' h'.2) (h.2 i hi)⟩
def Closed (md:Region.Mode) (ops:Array Oper) (l:Array Bool):Prop:=∀ j o,ops[j]?=some o->l.getD j false=true->∀ e ∈ o.after,Region.binds md e=true->l.getD e.on false=true
theorem closed_set {md:Region.Mode} {ops:Array Oper} {l:Array Bool} (h:Closed md ops l) {j:Nat} (hj:j ∈ Region.ready md ops l):Closed md ops (l.setIfInBounds j true):=by
 obtain ⟨_,oj,hoj,hall⟩:=mem_ready.1 hj
 intro k o hk hl e he hb
 by_cases hkj:j=k
 ·subst hkj
  rw[hoj] at hk
  injection hk with hk
  subst hk
  exact getD_set_true (hall e he hb)
 ·rw[getD_set_ne false hkj] at hl
  exact getD_set_true (h k o hk hl e he hb)
def SU (md:Region.Mode) (ops:Array Oper) (S:Array Bool->World->Prop) (i:Nat):World->Prop:=fun w'=>∃ l,Closed md ops l/\l.getD i true=false/\S l w'
theorem wpAnyL_first {md:Region.Mode} {ops:Array Oper} {S:Array Bool->World->Prop} {i:Nat} {oi:Oper} {v:Value} (hi:ops[i]?=some oi) (hsel:∀ (j:Nat) (o:Oper) cs b,ops[j]?=some o->o.op≠.select cs b)
  (hQ:∀ c a w,Q (.panic c) (a.put oi.dst v) w->Q (.panic c) a w) (hS:∀ l w,S (l.setIfInBounds i true) w↔S l w) :
  ∀ (fuel:Nat) (listed:Array Bool) (a:Act) (w:World),
   (∀ j oj,ops[j]?=some oj->j≠i->listed.getD j true=false->(∀ e ∈ oj.after,Region.binds md e=true->e.on≠i)->oi.apart ops oj=true) ->
   i ∈ Region.ready md ops listed->Closed md ops listed->YieldsIf P ops (SU md ops S i) oi v a->S listed w ->
   wpAnyL P md ops Q S fuel (listed.setIfInBounds i true) (a.put oi.dst v) w->wpAnyL P md ops Q S (fuel+1) listed a w:=by
 intro fuel
 induction fuel with
 | zero=>
  intro listed a w _ hr hc hy hs H
  have hun:listed.getD i true=false:=(mem_ready.1 hr).1
  refine ⟨fun h=>(by rw[h] at hr;cases hr),fun j hj=>?_⟩
  by_cases hji:j=i
  ·subst hji;exact hy.wpOp hi ⟨listed,hc,hun,hs⟩ ⟨(hS _ _).2 hs,H⟩
  ·have:=ready_mono hj hji
   rw[H.1] at this
   cases this
 | succ fuel ih=>
  intro listed a w hfree hr hc hy hs H
  have hun:listed.getD i true=false:=(mem_ready.1 hr).1
  refine ⟨fun h=>(by rw[h] at hr;cases hr),fun j hj=>?_⟩
  by_cases hji:j=i
  ·subst hji;exact hy.wpOp hi ⟨listed,hc,hun,hs⟩ ⟨(hS _ _).2 hs,H⟩
  ·have h1:=H.2 j (ready_mono hj hji)
   obtain ⟨hjun,oj,hoj,hall⟩:=mem_ready.1 hj
   have hnot:∀ e ∈ oj.after,Region.binds md e=true->e.on≠i:=fun e he hb heq=>by
    have h1:=hall e he hb
    have h0:=(mem_ready.1 hr).1
    rw[heq] at h1
    rcases Nat.lt_or_ge i listed.size with h' | h'
    ·simp[h'] at h0 h1;rw[h0] at h1;cases h1
    ·simp[Array.getElem?_eq_none h'] at h1
   have h2:=wpOp_putIf hoj (hfree j oj hoj hji hjun hnot) (fun cs b=>hsel i oi cs b hi) (fun cs b=>hsel j oj cs b hoj) hQ hy h1
   have hfree':∀ k ok,ops[k]?=some ok->k≠i->(listed.setIfInBounds j true).getD k true=false ->
     (∀ e ∈ ok.after,Region.binds md e=true->e.on≠i)->oi.apart ops ok=true:=fun k ok hk hki hun hno=>by
    refine hfree k ok hk hki ?_ hno
    by_cases hjk:j=k
    ·subst hjk;exact hjun
    ·rw[getD_set_ne true hjk] at hun;exact hun
   refine wpOp_mono (fun a' w' h3=>?_) h2
   have h4:=h3.2.1
   have h5:=h3.2.2
   rw[Array.setIfInBounds_comm _ _ (Ne.symm hji)] at h4 h5
   have h6:=(hS _ _).1 h4
   exact ⟨h6,ih (listed.setIfInBounds j true) a' w' hfree' (ready_mono hr (Ne.symm hji)) (closed_set hc hj) h3.1 h6 h5⟩
def anc (ops:Array Oper):Nat->Nat->Nat->Bool
 | 0,_,_=>false
 | n+1,d,i=>match ops[d]? with
  | some o=>o.after.toList.any fun e=>Region.binds .any e&&(Nat.beq e.on i||anc ops n e.on i)
  | none=>false
theorem anc_closed {ops:Array Oper} {l:Array Bool} (h:Closed .any ops l):∀ (n d i:Nat),anc ops n d i=true->l.getD d false=true->l.getD i false=true
 | 0,_,_,ha,_=>by cases ha
 | n+1,d,i,ha,hd=>by
  simp only[anc] at ha
  split at ha
  ·rename_i o ho
   obtain ⟨e,he,hb⟩:=List.any_eq_true.1 ha
   simp only[Bool.and_eq_true,Bool.or_eq_true,Nat.beq_eq] at hb
   have hl:=h d o ho hd e (by simpa using he) hb.1
   rcases hb.2 with hb | hb
   ·rw[<-hb];exact hl
   ·exact anc_closed h n e.on i hb hl
  ·cases ha
def dirty (E:Env) (ops:Array Oper) (d:Nat):Bool:=match ops[d]? with
 | some o=>!tkOp E o.op&&!quiet E o.op
 | none=>false
def pdAdd (l:Array Bool):List Nat->Array Bool
 | []=>l
 | j::js=>pdAdd (l.setIfInBounds j true) js
def drawGo (E:Env) (rid:Nat) (ops:Array Oper) (pd:List Nat):List Nat->Array Bool->Bool->Bool
 | [],l,_=>(Region.ready .any ops l).isEmpty
 | i::is,l,f=>match ops[i]? with
  | none=>false
  | some o=>
   match pd.any (Nat.beq i) with
   | true=>!is.any (Nat.beq i)&&(Region.ready .any ops l).contains i&&(Region.ready .any ops (pdAdd l (pd.filter fun j=>!Nat.beq i j))).all (fun j=>pd.any (Nat.beq j))&&drawGo E rid ops pd is (l.setIfInBounds i true) f
   | false=>
   match tkOp E o.op&&(Region.free .any ops l i&&(Region.ready .any ops l).contains i&&(!reads o.op||arIn E rid i||erIn E rid i||(f&&(List.range ops.size).all fun d=>!dirty E ops d||anc ops ops.size d i))) with
   | true=>drawGo E rid ops pd is (l.setIfInBounds i true) f
   | false=>(Region.ready .any ops l).contains i&&(Region.ready .any ops (pdAdd l pd)).all (Nat.beq i)&&drawGo E rid ops pd is (l.setIfInBounds i true) false
noncomputable def pdStat (E:Env) (ops:Array Oper) (pd:List Nat):Bool:=pd.all fun j=>match ops[j]? with
 | some o=>(match o.guard with
  | none=>true
  | some _=>false)&&(pdSlot E o.op).isSome&&(match o.dst with
   | some d=>(List.range ops.size).all fun k=>Nat.beq k j||(match ops[k]? with
    | some o'=>(match o'.dst with
     | some d'=>!Nat.beq d' d
     | none=>true)
    | none=>true)
   | none=>false)
 | none=>false
def nodupB:List Nat->Bool
 | []=>true
 | i::is=>!is.any (Nat.beq i)&&nodupB is
noncomputable def erStat (E:Env) (ops:Array Oper) (pd:List Nat) (er:List (Nat×Nat)):Bool:=er.all fun e=>!pd.any (Nat.beq e.1)&&(Nat.ble ops.size e.2||(dirty E ops e.2&&!pd.any (Nat.beq e.2)&&anc ops ops.size e.2 e.1))&&(match ops[e.1]? with
 | some o=>(match o.guard with
  | none=>true
  | some _=>false)&&(match o.op,o.dst with
   | .load _ (.tmp x),some d=>!Nat.beq x d&&(List.range ops.size).all fun k=>Nat.beq k e.1||(match ops[k]? with
    | some o'=>(match o'.dst with
     | some d'=>!Nat.beq d' d&&(!Nat.beq d' x||anc ops ops.size e.1 k)
     | none=>true)
    | none=>true)
   | _,_=>false)
 | none=>false)
noncomputable def drawOk (E:Env) (rid:Nat) (ops:Array Oper) (is:List Nat):Bool:=
 Region.noSelect ops&&Nat.ble is.length ops.size&&(pdStat E ops (liveOf E.pd rid)&&(liveOf E.pd rid).all fun j=>is.any (Nat.beq j))&&(nodupB is&&(List.range ops.size).all (fun k=>is.any (Nat.beq k))&&erStat E ops (liveOf E.pd rid) (ersOf E.er rid))&&drawGo E rid ops (liveOf E.pd rid) is (Array.replicate ops.size false) (match liveOf E.pd rid with
  | []=>true
  | _::_=>false)
theorem bx_ok {K:St->Option R}:∀ (is:List Nat) {σ:St} {A:Cells} {F:Nat->FP},Rel0 P C A σ a w F->bxK σ is K=some x->∃ (A':Cells) (σ':St) (F':Nat->FP),K σ'=some x/\Rel0 P C A' σ' a w F':=by
 intro is
 induction is with
 | nil=>intro σ A F h hk;exact ⟨A,σ,F,hk,h⟩
 | cons i is ih=>
  intro σ A F h hk
  simp only[bxK] at hk
  split at hk
  ·rename_i t m H v hg
   split at hk
   ·rename_i hc
    simp only[Bool.and_eq_true,List.isEmpty_iff] at hc
    obtain ⟨hH,hfit⟩:=hc
    subst hH
    obtain ⟨A1,F1,_,h1,_,_⟩:=box_cp h hg
    exact ih h1 hk
   ·cases hk
  ·cases hk
theorem Rel.rebase (h:Rel0 P C A σ a w F):∃ C':Ctx,C'.w0=w/\C'.A0=A/\(∀ b i,A b i->C'.F0 b i=0)/\Rel0 P C' A σ a w F/\(∀ {A2:Cells} {σ2:St} {a2:Act} {w2:World} {F2:Nat->FP},Rel0 P C' A2 σ2 a2 w2 F2->Rel0 P C A2 σ2 a2 w2 F2):=by
 have hown:∀ b i,1<=sumF σ.n F b i->1<=C.F0 b i\/C.w0.heap.size<=b:=fun b i hp=>h.own b i (by show 1<=0+_;omega)
 refine ⟨⟨w,A,sumF σ.n F,C.args⟩,rfl,rfl,fun b i ha=>?_,?_,fun {A2 σ2 a2 w2 F2} h2=>?_⟩
 ·rcases Nat.eq_zero_or_pos (sumF σ.n F b i) with h0 | h0
  ·exact h0
  ·exact absurd ha (h.dis b i (by show 1<=0+_;omega))
 ·exact { h with ext:=Ext.refl _ _,own:=fun b i hp=>.inl (by have hp:1<=0+sumF σ.n F b i:=hp;show 1<=sumF σ.n F b i;omega),a0:=fun _ _ h=>h,a1:=fun _ _ h=>.inl h,lentP:=h.lentP,lentS:=h.lentS,tab:=h.tabAt fun b i hp=>by have hp:1<=sumF σ.n F b i:=hp;show 1<=0+_;omega }
 ·have hsz:C.w0.heap.size<=w.heap.size:=h.ext.size
  refine { h2 with ext:=h.ext.trans h2.ext (fun b i hb hz=>?_),own:=fun b i hp=>?_,a0:=fun b i ha=>h2.a0 b i (h.a0 b i ha),a1:=fun b i ha=>?_,lentP:=h2.lentP,lentS:=h2.lentS,tab:=h.tab }
  ·show sumF σ.n F b i=0
   rcases Nat.eq_zero_or_pos (sumF σ.n F b i) with h0 | h0
   ·exact h0
   ·rcases hown b i h0 with h1 | h1 <;> omega
  ·rcases h2.own b i hp with h1 | h1
   ·exact hown b i h1
   ·exact .inr (Nat.le_trans hsz h1)
  ·rcases h2.a1 b i ha with h1 | h1 | h1
   ·exact h.a1 b i h1
   ·exact .inr (hown b i h1)
   ·exact .inr (.inr (Nat.le_trans hsz h1))
theorem take_ar (h:Rel0 P C A σ a w F) (hE:EnvOk P E) {rid i:Nat} (hst:opOk P o.op=true) (htk:tkOp E o.op=true) (har:arOk σ o=true) {K:St->Option R} (hk:stepK E rid i o σ K=some x) :
  ∃ v,(∀ w',(∀ b i,A b i->∀ u,ce w b i=some u->ce w' b i=some u)->(execOp a.eval o).run P w'=.ok (.value v) w')/\Nx P C K x (a.put o.dst v) w:=by
 unfold arOk at har
 split at har
 ·rename_i t y ho
  split at har
  ·rename_i t' v hv
   unfold stepK at hk
   simp only[ho,loadF] at hk
   cases hf:isFz E.fz rid i 8 with
   | true=>rw[hf] at hk;simp only[hv] at hk;cases hk
   | false=>
   rw[hf] at hk
   simp only[hv,loadK] at hk
   obtain ⟨T,hT,hk⟩:=tiK_some hk
   have hlay:=hE.ti _ _ hT
   split at hk
   ·rename_i e;subst e
    rw[ho] at hst
    rcases opd_ok h hst with hs | ⟨xs,e⟩
    rotate_left
    ·rw[e] at hv;cases hv
    rw[hv] at hs
    obtain ⟨⟨b,off,sp⟩,h1,h2,L,h3,h4,h5⟩:=hs
    simp only[List.cons.injEq,and_true] at h1
    simp only at h2;subst h2
    refine ⟨mkV t' L,fun w' hw'=>?_,fin_flat h hk ⟨L,rfl,h5⟩ (fun _ _ _ _ e=>by cases e)⟩
    simp[execOp,ho,h1,Instr.loadAt,Instr.sureAddr,run_loadVar hlay (fun j u hu=>hw' _ _ (h4 j u hu).2 u (h4 j u hu).1) h3 (Ro.one _ h5)]
   ·cases hk
  ·cases har
 ·rename_i s t y ho
  unfold stepK at hk
  simp only[ho] at hk
  rw[ho] at hst
  refine take_convert_ar h hE.ti ho hst (fun T hT=>?_) har hk
  rw[ho] at htk
  simp only[tkOp,hT] at htk
  exact htk
 ·cases har
def Act0 (ops:Array Oper) (l:Array Bool) (u:Nat):Prop:=ops.size<=u\/l.getD u false=false
def SD (E:Env) (ops:Array Oper) (w0:World) (C:Ctx) (RC:List (Nat×Nat×Nat×Nat×List Value)):Array Bool->World->Prop:=fun l w'=>((∀ d,dirty E ops d=true->l.getD d false=false)->Ext w0 w' (fun _ _=>0))/\(∀ b i,C.A0 b i->∀ u,ce C.w0 b i=some u->ce w' b i=some u)/\∀ e ∈ RC,Act0 ops l e.2.1->Has w' e.2.2.1 e.2.2.2.1 e.2.2.2.2
theorem wp_same {next:Act->World->Prop} (h:Tk P o a w next):o.wp P a w (fun a' w'=>w=w'/\next a' w') Q:=by
 obtain ⟨v,h1,h2⟩:=h
 exact wp_val (h1 w fun _=>Ext.refl _ _) ⟨rfl,h2⟩
theorem wpAnyL_mono {md:Region.Mode} {ops:Array Oper} {S S':Array Bool->World->Prop} (hS:∀ l w,S l w->S' l w):∀ (fuel:Nat) (listed:Array Bool) (a:Act) (w:World),wpAnyL P md ops Q S fuel listed a w->wpAnyL P md ops Q S' fuel listed a w
 | 0,_,_,_,h=>h
 | fuel+1,_,_,_,h=>⟨h.1,fun i hi=>wpOp_mono (fun a' w' h'=>⟨hS _ _ h'.1,wpAnyL_mono hS fuel _ a' w' h'.2⟩) (h.2 i hi)⟩
theorem put_self (a:Act) (d:Nat):a.put (some d) (tmp a d)=a:=by
 have:a.tmps.setIfInBounds d (tmp a d)=a.tmps:=by
  unfold tmp
  apply Array.ext
  ·simp
  ·intro i h1 h2
   rw[Array.getElem_setIfInBounds]
   split
   ·rename_i e;subst e;simp[h2]
   ·rfl
 show { a with tmps:=a.tmps.setIfInBounds d (tmp a d) }=a
 rw[this]
theorem pd_ok {ops:Array Oper} {K:St->Option R}:∀ (js:List Nat) {σ:St} {F:Nat->FP},Rel0 P C A σ a w F->pdK ops.toList σ js K=some x->∃ (σ':St) (F':Nat->FP),K σ'=some x/\Rel0 P C A σ' a w F':=by
 intro js
 induction js with
 | nil=>intro σ F h hk;exact ⟨σ,F,hk,h⟩
 | cons j js ih=>
  intro σ F h hk
  simp only[pdK] at hk
  split at hk
  ·rename_i d hd
   obtain ⟨F1,h1⟩:=h.putD (some d) (s:=.dead) (v:=tmp a d) (Fd:=fun _ _=>0) (X':=fun _ _=>0) trivial (fun b i=>Nat.le_refl _) (fun _ _ _ _ e=>by cases e)
   rw[put_self] at h1
   exact ih h1 hk
  ·cases hk
theorem getD_pdAdd:∀ (js:List Nat) (l:Array Bool) (k:Nat) (b:Bool),(pdAdd l js).getD k b=if k ∈ js/\k < l.size then true else l.getD k b
 | [],l,k,b=>by simp[pdAdd]
 | j::js,l,k,b=>by
  rw[pdAdd,getD_pdAdd js]
  simp only[Array.size_setIfInBounds]
  by_cases h1:k ∈ js/\k < l.size
  ·rw[if_pos h1,if_pos ⟨by simp[h1.1],h1.2⟩]
  ·rw[if_neg h1]
   by_cases hkj:j=k
   ·subst hkj
    by_cases hlt:j < l.size
    ·rw[if_pos ⟨by simp,hlt⟩];simp[hlt]
    ·rw[if_neg (fun h=>hlt h.2)];simp[hlt]
   ·rw[getD_set_ne b hkj,if_neg]
    rintro ⟨h2,h3⟩
    rcases List.mem_cons.1 h2 with e | e
    ·exact hkj e.symm
    ·exact h1 ⟨e,h3⟩
theorem mem_any {l:List Nat} {i:Nat}:l.any (Nat.beq i)=true↔i ∈ l:=by
 rw[List.any_eq_true]
 constructor
 ·rintro ⟨y,h1,h2⟩;rw[Nat.eq_of_beq_eq_true h2];exact h1
 ·intro h;exact ⟨i,h,Nat.beq_refl i⟩
theorem pdStat_spec {ops:Array Oper} {pd:List Nat} (h:pdStat E ops pd=true) {j:Nat} (hj:j ∈ pd):∃ o d s,ops[j]?=some o/\o.guard=none/\o.dst=some d/\pdSlot E o.op=some s/\∀ k o',ops[k]?=some o'->k≠j->o'.dst≠some d:=by
 unfold pdStat at h
 have h:=List.all_eq_true.1 h j hj
 split at h
 ·rename_i o ho
  simp only[Bool.and_eq_true] at h
  obtain ⟨⟨h1,h2⟩,h3⟩:=h
  split at h3
  ·rename_i d hd
   obtain ⟨s,hs⟩:=Option.isSome_iff_exists.1 h2
   refine ⟨o,d,s,ho,?_,hd,hs,fun k o' hk hkj e=>?_⟩
   ·split at h1
    ·assumption
    ·cases h1
   ·have:=List.all_eq_true.1 h3 k (List.mem_range.2 (Array.getElem?_eq_some_iff.1 hk).1)
    rw[hk] at this
    simp only[e,Bool.or_eq_true] at this
    rcases this with h4 | h4
    ·exact hkj (Nat.eq_of_beq_eq_true h4)
    ·simp at h4
  ·cases h3
 ·cases h
def RE (ops:Array Oper) (er:List (Nat×Nat)) (L:Array Bool) (a:Act) (w:World) (e:Nat×Nat×Nat×Nat×List Value):Prop:=(e.1,e.2.1) ∈ er/\L.getD e.1 false=true /\
 ∃ o t x d,ops[e.1]?=some o/\o.op=.load t (.tmp x)/\o.dst=some d/\tmp a x=.pointer (some ⟨e.2.2.1,e.2.2.2.1,none⟩)/\(tmp a d).cells.toList=e.2.2.2.2/\(Act0 ops L e.2.1->Has w e.2.2.1 e.2.2.2.1 e.2.2.2.2)
theorem nodupB_spec:∀ {is:List Nat},nodupB is=true->is.Nodup
 | [],_=>List.nodup_nil
 | i::is,h=>by
  simp only[nodupB,Bool.and_eq_true,Bool.not_eq_true'] at h
  refine List.nodup_cons.2 ⟨fun hm=>?_,nodupB_spec h.2⟩
  have:=h.1
  rw[mem_any.2 hm] at this
  cases this
theorem erStat_spec {E:Env} {ops:Array Oper} {pd:List Nat} {er:List (Nat×Nat)} (h:erStat E ops pd er=true) {j u:Nat} (hj:(j,u) ∈ er):j ∉ pd/\(ops.size<=u\/(dirty E ops u=true/\u ∉ pd/\anc ops ops.size u j=true))/\∃ o t x d,ops[j]?=some o/\o.guard=none/\o.op=.load t (.tmp x)/\o.dst=some d/\x≠d /\
  ∀ k o',ops[k]?=some o'->k≠j->o'.dst≠some d/\(o'.dst=some x->anc ops ops.size j k=true):=by
 unfold erStat at h
 have h1:=List.all_eq_true.1 h _ hj
 simp only[Bool.and_eq_true,Bool.or_eq_true,Bool.not_eq_true',Nat.ble_eq] at h1
 obtain ⟨⟨h0,hu⟩,h1⟩:=h1
 refine ⟨fun hm=>?_,hu.imp id fun q=>⟨q.1.1,fun hm=>?_,q.2⟩,?_⟩
 ·rw[mem_any.2 hm] at h0
  cases h0
 ·have q2:=q.1.2
  rw[mem_any.2 hm] at q2
  cases q2
 split at h1
 ·rename_i o ho
  simp only[Bool.and_eq_true] at h1
  obtain ⟨h2,h3⟩:=h1
  split at h3
  ·rename_i t x d hop hd
   simp only[Bool.and_eq_true,Bool.not_eq_true',List.all_eq_true,List.mem_range] at h3
   obtain ⟨h4,h5⟩:=h3
   refine ⟨o,t,x,d,ho,?_,hop,hd,(fun e=>by subst e;rw[Nat.beq_refl] at h4;cases h4),fun k o' hk hkj=>?_⟩
   ·cases hg:o.guard with
    | none=>rfl
    | some g=>rw[hg] at h2;cases h2
   ·have h6:=h5 k (Array.getElem?_eq_some_iff.1 hk).1
    rw[hk] at h6
    simp only[Bool.or_eq_true] at h6
    rcases h6 with h6 | h6
    ·exact absurd (Nat.eq_of_beq_eq_true h6) hkj
    ·cases hd':o'.dst with
     | none=>exact ⟨(fun e=>by cases e),fun e=>by cases e⟩
     | some d'=>
      rw[hd'] at h6
      simp only[Bool.and_eq_true,Bool.or_eq_true,Bool.not_eq_true'] at h6
      refine ⟨fun e=>?_,fun e=>?_⟩
      ·injection e with e;subst e;rw[Nat.beq_refl] at h6;cases h6.1
      ·injection e with e;subst e
       rcases h6.2 with h7 | h7
       ·rw[Nat.beq_refl] at h7;cases h7
       ·exact h7
  ·cases h3
 ·cases h1
theorem pathB_eq:∀ {p q:Path},pathB p q=true->p=q
 | [],[],_=>rfl
 | .fst::p,.fst::q,h=>by simp only[pathB] at h;rw[pathB_eq h]
 | .snd::p,.snd::q,h=>by simp only[pathB] at h;rw[pathB_eq h]
 | .idx i::p,.idx j::q,h=>by simp only[pathB,Bool.and_eq_true] at h;rw[Nat.eq_of_beq_eq_true h.1,pathB_eq h.2]
 | .aix i::p,.aix j::q,h=>by simp only[pathB,Bool.and_eq_true] at h;rw[Nat.eq_of_beq_eq_true h.1,pathB_eq h.2]
theorem er_has (h:Rel P C A X σ a w F) {o:Oper} (hok:erOk σ o=true) {t x d:Nat} (ho:o.op=.load t (.tmp x)) (hd:o.dst=some d) {b off:Nat} (hx:tmp a x=.pointer (some ⟨b,off,none⟩)):Has w b off (tmp a d).cells.toList/\d < a.tmps.size:=by
 unfold erOk at hok
 rw[ho,hd] at hok
 simp only at hok
 have lt:∀ {i:Nat},σ.get i≠.dead->i < σ.n:=fun {i} hi=>by
  rcases Nat.lt_or_ge i σ.n with h1 | h1
  ·exact h1
  ·exact absurd (get_out (Nat.not_lt.2 h1)) hi
 split at hok
 ·rename_i r p s hsx
  split at hok
  ·rename_i r' p' s' hsd
   simp only[Bool.and_eq_true] at hok
   obtain ⟨⟨h1,h2,h3⟩,h4⟩:=hok
   have e1:=Nat.eq_of_beq_eq_true h1
   have e2:=pathB_eq h4
   subst e1;subst e2
   have hx1:=h.slots x (lt (by rw[hsx];intro e;cases e))
   rw[hsx] at hx1
   obtain ⟨pl,b',o',g1,g2,g3,_⟩:=hx1.2 h2
   rw[hx] at g3
   simp only[Value.pointer.injEq,Option.some.injEq,Addr.mk.injEq,and_true] at g3
   obtain ⟨rfl,rfl⟩:=g3
   have hd1:=h.slots d (lt (by rw[hsd];intro e;cases e))
   rw[hsd] at hd1
   obtain ⟨pl2,k1,k2,_⟩:=hd1.2 h3
   rw[g1] at k1
   injection k1 with k1
   subst k1
   have hr:=place_lt g1
   have hpl:=g1
   unfold place at hpl
   cases hR:rootPl w (tmp a r) (σ.get r) with
   | none=>rw[hR] at hpl;cases hpl
   | some R=>
    rw[hR] at hpl
    simp only[Option.bind_some] at hpl
    obtain ⟨m,v,F1,q1,_,q2,_⟩:=rootPl_rep (h.slots r hr) hR
    obtain ⟨z1,m',v',F',z2⟩:=plc_has p R.t q1 (fun b o e=>(q2 b o e).1) hpl
    rw[k2,mkV_cells (Rep.length _ z2) (Rep.one _ z2)]
    exact ⟨z1 _ _ g2,by rw[h.size];exact lt (by rw[hsd];intro e;cases e)⟩
  ·rename_i v hsd
   simp only[Bool.and_eq_true] at hok
   obtain ⟨h2,hi⟩:=hok
   unfold intAt at hi
   split at hi
   rotate_left
   ·cases hi
   rename_i bb hat
   subst hi
   have hx1:=h.slots x (lt (by rw[hsx];intro e;cases e))
   rw[hsx] at hx1
   obtain ⟨pl,b',o',g1,g2,g3,_⟩:=hx1.2 h2
   rw[hx] at g3
   simp only[Value.pointer.injEq,Option.some.injEq,Addr.mk.injEq,and_true] at g3
   obtain ⟨rfl,rfl⟩:=g3
   have hd1:=h.slots d (lt (by rw[hsd];intro e;cases e))
   rw[hsd] at hd1
   obtain ⟨cs2,k1,k2⟩:=hd1
   obtain ⟨hr,t',m',H',v',cs',ad',F',i1,i2,i3,i4,i5,i6⟩:=at_ok h hat
   rw[i3] at g1
   injection g1 with g1
   subst g1
   simp only at g2
   subst g2
   obtain ⟨e,i1⟩:=castK_some i1
   subst e
   simp only[Option.some.injEq,decide_eq_true_eq] at i1
   have hh:Has w b off cs':=by first | exact (i6 b off rfl).1 | exact i6 b off rfl | exact (i5 b off rfl).1 | exact i5 b off rfl
   have c1:cs'=[.int .i64 v]:=by
    have i4:_:=i4
    simp only[Rep] at i4
    rw[<-i1]
    first | exact i4.1 | exact i4 | exact i4.2 | simp_all
   have c2:cs2=[.int .i64 v]:=k2
   rw[k1,c2,mkV_cells rfl (fun u hu=>by rw[List.mem_singleton] at hu;subst hu;rfl)]
   rw[c1] at hh
   exact ⟨hh,by rw[h.size];exact lt (by rw[hsd];intro e;cases e)⟩
  ·cases hok
 ·rename_i tb mb Hb vb hsx
  split at hok
  ·rename_i r' p' s' hsd
   simp only[Bool.and_eq_true] at hok
   obtain ⟨⟨h1,h3⟩,h4⟩:=hok
   have e1:=Nat.eq_of_beq_eq_true h1
   have e2:=pathB_eq h4
   subst e1;subst e2
   have hd1:=h.slots d (lt (by rw[hsd];intro e;cases e))
   rw[hsd] at hd1
   obtain ⟨pl2,k1,k2,_⟩:=hd1.2 h3
   have hr:=place_lt k1
   have hpl:=k1
   unfold place at hpl
   cases hR:rootPl w (tmp a x) (σ.get x) with
   | none=>rw[hR] at hpl;cases hpl
   | some R=>
    rw[hR] at hpl
    simp only[Option.bind_some] at hpl
    obtain ⟨m,v,F1,q1,_,q2,_⟩:=rootPl_rep (h.slots x hr) hR
    obtain ⟨z1,m',v',F',z2⟩:=plc_has [] R.t q1 (fun b o e=>(q2 b o e).1) hpl
    rw[k2,mkV_cells (Rep.length _ z2) (Rep.one _ z2)]
    have had:pl2.ad=some (b,off):=by
     rw[hsx,hx] at hR
     simp only[rootPl,Option.some.injEq] at hR
     subst hR
     simp only[plc,Option.some.injEq] at hpl
     subst hpl
     rfl
    exact ⟨z1 _ _ had,by rw[h.size];exact lt (by rw[hsd];intro e;cases e)⟩
  ·cases hok
 ·cases hok
theorem quiet_of {rid i:Nat} {o:Oper} {K:St->Option R} (hk:stepK E rid i o σ K=some x) (hm:mayTurn o.op=false) (ht:tkOp E o.op=false):quiet E o.op=true:=by
 unfold stepK at hk
 cases ho:o.op <;> rw[ho] at hk hm ht <;> first | rfl | (cases hm;done) | (cases ht;done) | (simp only[reduceCtorEq] at hk;done) | skip
theorem take_er0 (h:Rel0 P C A σ a w F) (hE:EnvOk P E) {t x0:Nat} {mv:Bool} (hst:opOk P o.op=true) (ho:o.op=.load t (.tmp x0)) {K:St->Option R} (hk:loadK E σ t (opd σ (.tmp x0)) mv o.dst K=some x) :
  ∃ b off v cs,tmp a x0=.pointer (some ⟨b,off,none⟩)/\Has w b off cs/\v.cells.toList=cs/\∀ w',Has w' b off cs->(execOp a.eval o).run P w'=.ok (.value v) w':=by
 unfold loadK at hk
 obtain ⟨T,hT,hk⟩:=tiK_some hk
 have hlay:=hE.ti _ _ hT
 have run:∀ b off L,a.eval (.tmp x0)=.pointer (some ⟨b,off,none⟩)->L.length=T.sz->(∀ u ∈ L,u.oneCell'=true)->∀ w',Has w' b off L->(execOp a.eval o).run P w'=.ok (.value (mkV T L)) w':=fun b off L hy hl hone w' hL=>by
  simp[execOp,ho,hy,Instr.loadAt,Instr.sureAddr,run_loadVar hlay hL hl hone]
 rw[ho] at hst
 rcases opd_ok h (show opdOk P (.tmp x0)=true from hst) with hs | ⟨xs,e⟩
 rotate_left
 ·rw[e] at hk;cases hk
 split at hk
 ·rename_i t' v hv
  rw[hv] at hs
  split at hk
  ·rename_i e;subst e
   obtain ⟨⟨b,off,sp⟩,h1,h2,L,h3,h4,h5⟩:=hs
   simp only[List.cons.injEq,and_true] at h1
   simp only at h2;subst h2
   exact ⟨b,off,mkV t' L,L,h1,fun j u hu=>(h4 j u hu).1,mkV_cells h3 (Ro.one _ h5),run b off L h1 h3 (Ro.one _ h5)⟩
  ·cases hk
 ·rename_i r p snap hv
  rw[hv] at hs
  split at hk
  ·rename_i hsn
   obtain ⟨hr,t',m',H',v',cs',ad',F',h1,h2,h3,h4,h5,h6⟩:=at_ok h hk
   obtain ⟨pl,b,off,g1,g2,g3,g4⟩:=hs.2 hsn
   rw[h3] at g1
   injection g1 with g1
   subst g1
   simp only at g2
   subst g2
   split at h1
   ·rename_i e;subst e
    have hh:Has w b off cs':=by first | exact (h6 b off rfl).1 | exact h6 b off rfl | exact (h5 b off rfl).1 | exact h5 b off rfl
    exact ⟨b,off,mkV t' cs',cs',g3,hh,mkV_cells (Rep.length _ h4) (Rep.one _ h4),run b off cs' g3 (Rep.length _ h4) (Rep.one _ h4)⟩
   ·cases h1
  ·cases hk
 ·cases hk
theorem take_er (h:Rel0 P C A σ a w F) (hE:EnvOk P E) {rid i t x0:Nat} (hst:opOk P o.op=true) (ho:o.op=.load t (.tmp x0)) {K:St->Option R} (hk:stepK E rid i o σ K=some x) :
  ∃ b off v cs,tmp a x0=.pointer (some ⟨b,off,none⟩)/\Has w b off cs/\v.cells.toList=cs/\∀ w',Has w' b off cs->(execOp a.eval o).run P w'=.ok (.value v) w':=by
 unfold stepK at hk
 simp only[ho,loadF] at hk
 split at hk
 ·exact take_er0 h hE hst ho hk
 ·split at hk
  ·split at hk
   ·obtain ⟨A1,σ1,F1,_,_,_,_,_,k1,_,k3,_⟩:=freeze_ok h hk
    exact take_er0 k3 hE hst ho k1
   ·cases hk
  ·cases hk
structure Inv (P:Program) (E:Env) (ops:Array Oper) (pd:List Nat) (w0:World) (C:Ctx) (is:List Nat) (l:Array Bool) (f:Bool) (σ:St) (fuel:Nat) (A:Cells) (a:Act) (w:World) (X:FP) (F:Nat->FP) (D:List Nat) (L:Array Bool) (er:List (Nat×Nat)) (RC:List (Nat×Nat×Nat×Nat×List Value)):Prop where
 h:Rel P C A X σ a w F
 pf:PF P E ops A a w D X
 nd:D.Nodup
 dpd:∀ j ∈ D,j ∈ pd
 dl:∀ j ∈ D,l.getD j false=false
 dis:∀ j ∈ D,j ∈ is
 cov:∀ j ∈ pd,l.getD j false=true\/j ∈ is
 cnt:(is.filter fun k=>decide (k ∉ D)).length<=fuel
 cl:Closed .any ops L
 hS:(∀ d,dirty E ops d=true->L.getD d false=false)->Ext w0 w (fun _ _=>0)
 hf:f=true->w=w0/\pd=[]
 szl:l.size=ops.size
 szL:L.size=ops.size
 hL:∀ k,L.getD k false=true↔(l.getD k false=true\/k ∈ D)
 isn:is.Nodup
 cva:∀ k,k < ops.size->l.getD k false=true\/k ∈ is
 io:∀ k ∈ is,l.getD k false=false
 rc:∀ e ∈ RC,RE ops er L a w e
theorem getD_tf {l:Array Bool} {k:Nat} (h:k < l.size):l.getD k true=l.getD k false:=by simp[h]
theorem getD_set_iff {l:Array Bool} {i k:Nat} (hi:i < l.size):(l.setIfInBounds i true).getD k false=true↔(k=i\/l.getD k false=true):=by
 by_cases hk:i=k
 ·subst hk;simp[hi]
 ·rw[getD_set_ne false hk]
  constructor
  ·exact .inr
  ·rintro (h | h)
   ·exact absurd h.symm hk
   ·exact h
theorem filter_less {D:List Nat} {j:Nat} (hD:j ∉ D):∀ (is:List Nat),j ∈ is->(is.filter fun k=>decide (k ∉ j::D)).length+1<=(is.filter fun k=>decide (k ∉ D)).length:=by
 have hle:∀ (is:List Nat),(is.filter fun k=>decide (k ∉ j::D)).length<=(is.filter fun k=>decide (k ∉ D)).length:=by
  intro is
  induction is with
  | nil=>exact Nat.le_refl _
  | cons i is ih=>
   simp only[List.filter_cons]
   by_cases h1:i ∈ D
   ·have h2:i ∈ j::D:=by simp[h1]
    simp only[h1,h2,not_true_eq_false,decide_false,Bool.false_eq_true,if_false]
    exact ih
   ·by_cases h2:i ∈ j::D
    ·simp only[h1,h2,not_true_eq_false,not_false_eq_true,decide_false,decide_true,Bool.false_eq_true,if_false,if_true,List.length_cons]
     omega
    ·simp only[h1,h2,not_false_eq_true,decide_true,if_true,List.length_cons]
     omega
 intro is
 induction is with
 | nil=>intro h;cases h
 | cons i is ih=>
  intro h
  simp only[List.filter_cons]
  by_cases hij:i=j
  ·subst hij
   have h2:i ∈ i::D:=by simp
   simp only[hD,h2,not_true_eq_false,not_false_eq_true,decide_false,decide_true,Bool.false_eq_true,if_false,if_true,List.length_cons]
   have:=hle is
   omega
  ·have h3:j ∈ is:=by
    rcases List.mem_cons.1 h with e | e
    ·exact absurd e.symm hij
    ·exact e
   have:=ih h3
   by_cases h1:i ∈ D
   ·have h2:i ∈ j::D:=by simp[h1]
    simp only[h1,h2,not_true_eq_false,decide_false,Bool.false_eq_true,if_false]
    exact this
   ·have h2:i ∉ j::D:=by simp[h1,hij]
    simp only[h1,h2,not_false_eq_true,decide_true,if_true,List.length_cons]
    omega
section
variable {ops:Array Oper} {pd:List Nat} {w0:World} {is:List Nat} {l L:Array Bool} {f:Bool} {fuel:Nat} {D:List Nat} {i:Nat} {er:List (Nat×Nat)} {RC:List (Nat×Nat×Nat×Nat×List Value)}
theorem Inv.ready_in (v:Inv P E ops pd w0 C is l f σ fuel A a w X F D L er RC) (hi:i ∈ Region.ready .any ops l) (hD:i ∉ D):i ∈ Region.ready .any ops L:=by
 obtain ⟨h0,o,ho,hall⟩:=mem_ready.1 hi
 have hlt:i < ops.size:=(Array.getElem?_eq_some_iff.1 ho).1
 refine mem_ready.2 ⟨?_,o,ho,fun e he hb=>(v.hL _).2 (.inl (hall e he hb))⟩
 rw[getD_tf (by rw[v.szL];exact hlt)]
 rw[getD_tf (by rw[v.szl];exact hlt)] at h0
 cases hh:L.getD i false with
 | false=>rfl
 | true=>
  rcases (v.hL i).1 hh with h1 | h1
  ·rw[h0] at h1;cases h1
  ·exact absurd h1 hD
theorem Inv.ready_out (v:Inv P E ops pd w0 C is l f σ fuel A a w X F D L er RC) {j:Nat} {S:List Nat} (hS:∀ k ∈ D,k ∈ S) (hj:j ∈ Region.ready .any ops L) (hjS:j ∉ S):j ∈ Region.ready .any ops (pdAdd l S):=by
 obtain ⟨h0,o,ho,hall⟩:=mem_ready.1 hj
 have hlt:j < ops.size:=(Array.getElem?_eq_some_iff.1 ho).1
 refine mem_ready.2 ⟨?_,o,ho,fun e he hb=>?_⟩
 ·rw[getD_pdAdd,if_neg (fun h=>hjS h.1),getD_tf (by rw[v.szl];exact hlt)]
  rw[getD_tf (by rw[v.szL];exact hlt)] at h0
  cases hh:l.getD j false with
  | false=>rfl
  | true=>rw[(v.hL j).2 (.inl hh)] at h0;cases h0
 ·rw[getD_pdAdd]
  have h1:=hall e he hb
  rcases (v.hL _).1 h1 with h2 | h2
  ·split
   ·rfl
   ·exact h2
  ·have hlt:e.on < L.size:=by
    rcases Nat.lt_or_ge e.on L.size with h' | h'
    ·exact h'
    ·simp[Array.getElem?_eq_none h'] at h1
   rw[if_pos ⟨hS _ h2,by rw[v.szl,<- v.szL];exact hlt⟩]
theorem Inv.not_listed (v:Inv P E ops pd w0 C is l f σ fuel A a w X F D L er RC) {j:Nat} (h:L.getD j true=false):j ∉ D/\l.getD j false=false/\l.getD j true=false:=by
 have hlt:j < L.size:=by
  rcases Nat.lt_or_ge j L.size with h' | h'
  ·exact h'
  ·simp[Array.getElem?_eq_none h'] at h
 rw[getD_tf hlt] at h
 have h1:l.getD j false=false:=by
  cases hh:l.getD j false with
  | false=>rfl
  | true=>rw[(v.hL j).2 (.inl hh)] at h;cases h
 have h2:j ∉ D:=fun hD=>by
  rw[(v.hL j).2 (.inr hD)] at h
  cases h
 exact ⟨h2,h1,by rw[getD_tf (by rw[v.szl,<- v.szL];exact hlt)];exact h1⟩
theorem Inv.next (v:Inv P E ops pd w0 C (i::is) l f σ (fuel+1) A a w X F D L er RC) (hD:i ∉ D) (hr:i ∈ Region.ready .any ops L) {C2:Ctx} {f2:Bool} {σ2:St} {A2:Cells} {a2:Act} {w2:World} {F2:Nat->FP}
  (h2:Rel P C2 A2 X σ2 a2 w2 F2) (hp:PF P E ops A2 a2 w2 D X) (hS2:(∀ d,dirty E ops d=true->(L.setIfInBounds i true).getD d false=false)->Ext w0 w2 (fun _ _=>0)) (hf2:f2=true->w2=w0/\pd=[]) {RC2:List (Nat×Nat×Nat×Nat×List Value)} (hrc:∀ e ∈ RC2,RE ops er (L.setIfInBounds i true) a2 w2 e) :
  Inv P E ops pd w0 C2 is (l.setIfInBounds i true) f2 σ2 fuel A2 a2 w2 X F2 D (L.setIfInBounds i true) er RC2:=by
 obtain ⟨_,o,ho,_⟩:=mem_ready.1 hr
 have hlt:i < ops.size:=(Array.getElem?_eq_some_iff.1 ho).1
 have hltl:i < l.size:=by rw[v.szl];exact hlt
 have hltL:i < L.size:=by rw[v.szL];exact hlt
 refine ⟨h2,hp,v.nd,v.dpd,fun j hj=>?_,fun j hj=>?_,fun j hj=>?_,?_,closed_set v.cl hr,hS2,hf2,by simpa using v.szl,by simpa using v.szL,fun k=>?_,(List.nodup_cons.1 v.isn).2,fun k hk=>?_,fun k hk=>?_,hrc⟩
 ·rw[getD_set_ne false (fun e=>by subst e;exact hD hj)];exact v.dl j hj
 ·rcases List.mem_cons.1 (v.dis j hj) with e | e
  ·subst e;exact absurd hj hD
  ·exact e
 ·rcases v.cov j hj with h | h
  ·exact .inl ((getD_set_iff hltl).2 (.inr h))
  ·rcases List.mem_cons.1 h with e | e
   ·exact .inl ((getD_set_iff hltl).2 (.inl e))
   ·exact .inr e
 ·have:=v.cnt
  simp only[List.filter_cons,hD,not_false_eq_true,decide_true,if_true,List.length_cons] at this
  omega
 ·rw[getD_set_iff hltL,getD_set_iff hltl,v.hL]
  exact or_assoc.symm
 ·rcases v.cva k hk with h | h
  ·exact .inl ((getD_set_iff hltl).2 (.inr h))
  ·rcases List.mem_cons.1 h with e | e
   ·exact .inl ((getD_set_iff hltl).2 (.inl e))
   ·exact .inr e
 ·rw[getD_set_ne false (fun e=>by subst e;exact (List.nodup_cons.1 v.isn).1 hk)]
  exact v.io k (List.mem_cons_of_mem _ hk)
theorem Inv.virt (v:Inv P E ops pd w0 C (i::is) l f σ fuel A a w X F D L er RC) (hD:i ∈ D) (his:i ∉ is) {σ2:St} {X2:FP} {F2:Nat->FP} (h2:Rel P C A X2 σ2 a w F2) (hp:PF P E ops A a w (D.erase i) X2) :
  Inv P E ops pd w0 C is (l.setIfInBounds i true) f σ2 fuel A a w X2 F2 (D.erase i) L er RC:=by
 have hltL:i < L.size:=by
  have h1:=(v.hL i).2 (.inr hD)
  rcases Nat.lt_or_ge i L.size with h' | h'
  ·exact h'
  ·simp[Array.getElem?_eq_none h'] at h1
 have hltl:i < l.size:=by rw[v.szl,<- v.szL];exact hltL
 have hme:∀ k,k ∈ D.erase i↔k≠i/\k ∈ D:=fun k=>v.nd.mem_erase_iff
 refine ⟨h2,hp,v.nd.erase _,fun j hj=>v.dpd j ((hme j).1 hj).2,fun j hj=>?_,fun j hj=>?_,fun j hj=>?_,?_,v.cl,v.hS,v.hf,by simpa using v.szl,v.szL,fun k=>?_,(List.nodup_cons.1 v.isn).2,fun k hk=>?_,fun k hk=>?_,v.rc⟩
 ·obtain ⟨h3,h4⟩:=(hme j).1 hj
  rw[getD_set_ne false (fun e=>h3 e.symm)];exact v.dl j h4
 ·obtain ⟨h3,h4⟩:=(hme j).1 hj
  rcases List.mem_cons.1 (v.dis j h4) with e | e
  ·exact absurd e h3
  ·exact e
 ·rcases v.cov j hj with h | h
  ·exact .inl ((getD_set_iff hltl).2 (.inr h))
  ·rcases List.mem_cons.1 h with e | e
   ·exact .inl ((getD_set_iff hltl).2 (.inl e))
   ·exact .inr e
 ·have:=v.cnt
  simp only[List.filter_cons,hD,not_true_eq_false,decide_false,Bool.false_eq_true,if_false] at this
  refine Nat.le_trans (Nat.le_of_eq (congrArg List.length (List.filter_congr fun k hk=>?_))) this
  have:k≠i:=fun e=>by subst e;exact his hk
  simp only[hme,this,ne_eq,not_false_eq_true,true_and]
 ·rw[v.hL,getD_set_iff hltl,hme]
  constructor
  ·rintro (h | h)
   ·exact .inl (.inr h)
   ·by_cases hk:k=i
    ·exact .inl (.inl hk)
    ·exact .inr ⟨hk,h⟩
  ·rintro ((h | h) | h)
   ·subst h;exact .inr hD
   ·exact .inl h
   ·exact .inr h.2
 ·rcases v.cva k hk with h | h
  ·exact .inl ((getD_set_iff hltl).2 (.inr h))
  ·rcases List.mem_cons.1 h with e | e
   ·exact .inl ((getD_set_iff hltl).2 (.inl e))
   ·exact .inr e
 ·rw[getD_set_ne false (fun e=>by subst e;exact his hk)]
  exact v.io k (List.mem_cons_of_mem _ hk)
theorem unl {j:Nat} (hlt:j < L.size) {k:Nat} (hu:(L.setIfInBounds j true).getD k false=false):L.getD k false=false:=by
 cases hl:L.getD k false with
 | false=>rfl
 | true=>rw[(getD_set_iff hlt).2 (.inr hl)] at hu;cases hu
theorem Inv.keep (v:Inv P E ops pd w0 C is l f σ fuel A a w X F D L er RC) (hes:erStat E ops pd er=true) {j:Nat} {o':Oper} (hj:ops[j]?=some o') (hun:L.getD j false=false) {a2:Act} {w2:World}
  (ht:∀ d,o'.dst≠some d->tmp a2 d=tmp a d) (hh:∀ e ∈ RC,Act0 ops (L.setIfInBounds j true) e.2.1->Has w2 e.2.2.1 e.2.2.2.1 e.2.2.2.2):∀ e ∈ RC,RE ops er (L.setIfInBounds j true) a2 w2 e:=by
 intro e he
 obtain ⟨h1,h2,o,t,x,d,h3,h4,h5,h6,h7,h8⟩:=v.rc e he
 obtain ⟨_,_,o1,t1,x1,d1,g1,_,g2,g3,_,g4⟩:=erStat_spec hes h1
 rw[h3] at g1
 injection g1 with g1
 subst g1
 rw[h4] at g2
 injection g2 with _ g2
 injection g2 with g2
 subst g2
 rw[h5] at g3
 injection g3 with g3
 subst g3
 have hne:j≠e.1:=fun e'=>by rw[e'] at hun;rw[h2] at hun;cases hun
 obtain ⟨k1,k2⟩:=g4 j o' hj hne
 have k3:o'.dst≠some x:=fun e'=>by
  have:=anc_closed v.cl _ _ _ (k2 e') h2
  rw[this] at hun;cases hun
 exact ⟨h1,by rw[getD_set_ne false hne];exact h2,o,t,x,d,h3,h4,h5,by rw[ht x k3];exact h6,by rw[ht d k1];exact h7,hh e he⟩
theorem Inv.still (v:Inv P E ops pd w0 C (i::is) l f σ fuel A a w X F D L er RC) (hes:erStat E ops pd er=true) {rid:Nat} (her:ersOf E.er rid=er) {o':Oper} (hj:ops[i]?=some o') (hun:L.getD i false=false) {C2:Ctx} {A2:Cells} {X2:FP} {σ2:St} {a2:Act} {w2:World} {F2:Nat->FP} (h2:Rel P C2 A2 X2 σ2 a2 w2 F2)
  (ht:∀ d,o'.dst≠some d->tmp a2 d=tmp a d) (hext:mayTurn o'.op=false->Ext w w2 (fun _ _=>0)) (hchk:erChk E rid ops.toList i o' is σ2=true):∀ e ∈ RC,Act0 ops (L.setIfInBounds i true) e.2.1->Has w2 e.2.2.1 e.2.2.2.1 e.2.2.2.2:=by
 intro e he hu
 obtain ⟨g1,g2,o,t,x,d,g3,g4,g5,g6,g7,g8⟩:=v.rc e he
 have hltL:i < L.size:=by rw[v.szL];exact (Array.getElem?_eq_some_iff.1 hj).1
 have huL:Act0 ops L e.2.1:=hu.imp id fun hu=>by
  cases hl:L.getD e.2.1 false with
  | false=>rfl
  | true=>rw[(getD_set_iff hltL).2 (.inr hl)] at hu;cases hu
 cases hm:mayTurn o'.op with
 | false=>exact (g8 huL).ext (hext hm)
 | true=>
  simp only[erChk,hm,Bool.true_or,Bool.not_true,Bool.false_or,erAll,her,List.all_eq_true] at hchk
  have:=hchk _ g1
  obtain ⟨hpd,hu2,o1,t1,x1,d1,k1,_,k2,k3,_,k4⟩:=erStat_spec hes g1
  rw[g3] at k1
  injection k1 with k1
  subst k1
  rw[g4] at k2
  injection k2 with _ k2
  injection k2 with k2
  subst k2
  rw[g5] at k3
  injection k3 with k3
  subst k3
  have hne:i≠e.1:=fun e'=>by rw[e'] at hun;rw[g2] at hun;cases hun
  have hl:l.getD e.1 false=true:=((v.hL e.1).1 g2).resolve_right fun hD=>hpd (v.dpd _ hD)
  have hnis:is.any (Nat.beq e.1)=false:=by
   cases hb:is.any (Nat.beq e.1) with
   | false=>rfl
   | true=>
    have:=v.io e.1 (List.mem_cons_of_mem _ (mem_any.1 hb))
    rw[hl] at this;cases this
  have hact:(is.any (Nat.beq e.2.1)||Nat.ble ops.toList.length e.2.1)=true:=by
   rcases Nat.lt_or_ge e.2.1 ops.size with h9 | h9
   ·have huL2:=huL.resolve_left (by omega)
    have hui:e.2.1≠i:=fun e'=>by
     have:=hu.resolve_left (by omega)
     rw[(getD_set_iff hltL).2 (.inl e')] at this;cases this
    rcases v.cva _ h9 with h10 | h10
    ·rw[(v.hL _).2 (.inl h10)] at huL2;cases huL2
    ·rcases List.mem_cons.1 h10 with h11 | h11
     ·exact absurd h11 hui
     ·rw[mem_any.2 h11,Bool.true_or]
   ·have:Nat.ble ops.toList.length e.2.1=true:=by simpa using h9
    rw[this,Bool.or_true]
  rw[hnis,hact,Bool.not_true,Bool.false_or,Bool.false_or,Array.getElem?_toList,g3] at this
  simp only at this
  obtain ⟨q1,q2⟩:=k4 i o' hj hne
  have q3:o'.dst≠some x:=fun e'=>by
   have:=anc_closed v.cl _ _ _ (q2 e') g2
   rw[this] at hun;cases hun
  have hx:tmp a2 x=.pointer (some ⟨e.2.2.1,e.2.2.2.1,none⟩):=by rw[ht x q3];exact g6
  obtain ⟨z1,z2⟩:=er_has h2 this g4 g5 hx
  rw[ht d q1,g7] at z1
  exact z1
theorem Inv.early (hE:EnvOk P E) (hps:pdStat E ops pd=true) {rid:Nat} (hpd:liveOf E.pd rid=pd) (hes:erStat E ops pd er=true) (hall:pdAll E rid ops.toList is σ=true) (hC:∀ b i,C.A0 b i->C.F0 b i=0)
  (v:Inv P E ops pd w0 C is l f σ (fuel+1) A a w X F D L er RC) {j:Nat} (hj:j ∈ pd) (hr:j ∈ Region.ready .any ops L) {S:Array Bool->World->Prop}
  (hS:∀ w',Ext w w' (fun _ _=>0)->((∀ d,dirty E ops d=true->(L.setIfInBounds j true).getD d false=false)->Ext w0 w' (fun _ _=>0))->S (L.setIfInBounds j true) w')
  (next:∀ (a':Act) (w':World) (X':FP),Inv P E ops pd w0 C is l f σ fuel A a' w' X' F (j::D) (L.setIfInBounds j true) er RC->wpAnyL P .any ops Q S fuel (L.setIfInBounds j true) a' w') :
  wpOp P ops Q j (fun a' w'=>S (L.setIfInBounds j true) w'/\wpAnyL P .any ops Q S fuel (L.setIfInBounds j true) a' w') a w:=by
 obtain ⟨o,d,s,ho,hg,hd,hs,hne⟩:=pdStat_spec hps hj
 have hltL:j < L.size:=by rw[v.szL];exact (Array.getElem?_eq_some_iff.1 ho).1
 obtain ⟨hjD,hjl,_⟩:=v.not_listed (mem_ready.1 hr).1
 have hjis:j ∈ is:=(v.cov j hj).resolve_left (by rw[hjl];simp)
 have hok:pdOk σ d=true:=by
  unfold pdAll at hall
  rw[hpd] at hall
  have:=List.all_eq_true.1 hall j hj
  rw[Array.getElem?_toList,ho,mem_any.2 hjis] at this
  simpa [hd] using this
 obtain ⟨val,w',Fj,hrun,hext,h2,hPS⟩:=early_ok (o:=o) v.h hE.ti hs hok
 have hS':(∀ d,dirty E ops d=true->(L.setIfInBounds j true).getD d false=false)->Ext w0 w' (fun _ _=>0):=fun hdd=>(v.hS fun d' hd'=>by
  cases hh:L.getD d' false with
  | false=>rfl
  | true=>rw[<-hdd d' hd',(getD_set_iff hltL).2 (.inr hh)]).trans hext (fun _ _ _ _=>rfl)
 have hw:Region.wanted o (yielded ops a.tmps)=true:=by simp[Region.wanted,hg]
 unfold wpOp
 simp only[ho,hw,if_true]
 refine .inl (wp_val hrun ⟨hS w' hext hS',?_⟩)
 rw[hd]
 have hdn:d < σ.n:=(pdOk_spec hok).1
 refine next _ _ (fun b i=>X b i+Fj b i) ⟨h2,⟨o,d,s,Fj,X,ho,hd,hs,?_,fun b i=>Nat.le_refl _,?_⟩,List.nodup_cons.2 ⟨hjD,v.nd⟩,?_,?_,?_,v.cov,?_,closed_set v.cl hr,hS',fun hf=>?_,v.szl,by simpa using v.szL,fun k=>?_,v.isn,v.cva,v.io,v.keep hes ho (by have:=(mem_ready.1 hr).1;rw[getD_tf hltL] at this;exact this) (fun d' hd'=>by rw[tmp_put,if_neg (fun e=>hd' (by rw[hd,e.1]))]) (fun e he hu=>by
  obtain ⟨_,_,_,_,_,_,_,_,_,_,_,q⟩:=v.rc e he
  exact (q (hu.imp id fun hu=>unl hltL hu)).ext hext)⟩
 ·have:tmp (a.put (some d) val) d=val:=by rw[tmp_put,v.h.size,if_pos ⟨rfl,hdn⟩]
  rw[this];exact hPS
 ·refine PF.pres (fun _ _ h=>h) (fun b i ha u hu=>hext.cell b i (ce_lt hu) rfl u hu) hext.blk D (fun k hk o' d' ho' hd'=>?_) (fun b i hp=>⟨fun u hu=>hext.cell b i (ce_lt hu) rfl u hu,hext.froz b i (v.h.bnd b i (.inl (by omega)))⟩) v.pf
  have:d'≠d:=fun e=>hne k o' ho' (fun e'=>by subst e';exact hjD hk) (by rw[hd',e])
  rw[tmp_put,if_neg (fun h=>this h.1.symm)]
 ·intro k hk
  rcases List.mem_cons.1 hk with e | e
  ·subst e;exact hj
  ·exact v.dpd k e
 ·intro k hk
  rcases List.mem_cons.1 hk with e | e
  ·subst e;exact hjl
  ·exact v.dl k e
 ·intro k hk
  rcases List.mem_cons.1 hk with e | e
  ·subst e;exact hjis
  ·exact v.dis k e
 ·have:=filter_less hjD is hjis
  have:=v.cnt
  omega
 ·have:=(v.hf hf).2
  rw[this] at hj;cases hj
 ·rw[getD_set_iff hltL,v.hL,List.mem_cons]
  constructor
  ·rintro (h | h | h)
   ·exact .inr (.inl h)
   ·exact .inl h
   ·exact .inr (.inr h)
  ·rintro (h | h | h)
   ·exact .inr (.inl h)
   ·exact .inl h
   ·exact .inr (.inr h)
theorem drawGo_ok (hE:EnvOk P E) {rid:Nat} (hst:∀ o ∈ ops.toList,opOk P o.op=true) {K:St->Option R} (hP:∀ c a w,¬ Q (.panic c) a w) (hsel:Region.noSelect ops=true) (hps:pdStat E ops pd=true) (hpd:liveOf E.pd rid=pd) {er:List (Nat×Nat)} (her:ersOf E.er rid=er) (hes:erStat E ops pd er=true) :
  ∀ (is:List Nat) (l:Array Bool) (f:Bool) {C:Ctx} {σ:St},(∀ a w,Nx P C K x a w->Q .normal a w)->(∀ b i,C.A0 b i->C.F0 b i=0)->drawGo E rid ops pd is l f=true->ordK E rid ops.toList is σ K=some x ->
   ∀ (fuel:Nat) {A:Cells} {a:Act} {w:World} {X:FP} {F:Nat->FP} {D:List Nat} {L:Array Bool} {RC:List (Nat×Nat×Nat×Nat×List Value)},Inv P E ops pd w0 C is l f σ fuel A a w X F D L er RC->wpAnyL P .any ops Q (SD E ops w0 C RC) fuel L a w:=by
 intro is
 induction is with
 | nil=>
  intro l f C σ hQ hC hg hk fuel A a w X F D L RC v
  simp only[drawGo,List.isEmpty_iff] at hg
  have hD:D=[]:=by
   cases D with
   | nil=>rfl
   | cons j D=>have:=v.dis j (by simp);cases this
  subst hD
  have hr:Region.ready .any ops L=[]:=by
   rw[List.eq_nil_iff_forall_not_mem]
   intro j hj
   have:=v.ready_out (S:=[]) (fun _ h=>h) hj (by simp)
   rw[pdAdd,hg] at this
   cases this
  have hq:=hQ a w ⟨σ,hk,A,F,v.h.less fun _ _=>Nat.zero_le _⟩
  cases fuel with
  | zero=>exact ⟨hr,hq⟩
  | succ fuel=>exact ⟨fun _=>hq,by rw[hr];simp⟩
 | cons i is ih=>
  intro l f C σ hQ hC hg hk
  simp only[ordK] at hk
  split at hk
  ·cases hk
  rename_i hall
  simp only[drawGo] at hg
  cases hi:ops[i]? with
  | none=>rw[hi] at hg;cases hg
  | some o=>
  rw[Array.getElem?_toList,hi] at hk
  rw[hi] at hg
  simp only at hk hg
  have hilt:i < ops.size:=(Array.getElem?_eq_some_iff.1 hi).1
  have hmem:o ∈ ops.toList:=List.mem_of_getElem? (i:=i) (by simpa using hi)
  have virt:∀ (fuel:Nat) {A:Cells} {a:Act} {w:World} {X:FP} {F:Nat->FP} {D:List Nat} {L:Array Bool} {RC:List (Nat×Nat×Nat×Nat×List Value)},Inv P E ops pd w0 C (i::is) l f σ fuel A a w X F D L er RC->i ∈ D->wpAnyL P .any ops Q (SD E ops w0 C RC) fuel L a w:=by
   intro fuel A a w X F D L RC v hD
   have hip:=v.dpd i hD
   rw[mem_any.2 hip] at hg
   simp only[Bool.and_eq_true,Bool.not_eq_true'] at hg
   obtain ⟨⟨⟨his,_⟩,_⟩,hg⟩:=hg
   have his:i ∉ is:=fun hm=>by rw[mem_any.2 hm] at his;cases his
   obtain ⟨o',d',s',ho',hgd,hd',hs',_⟩:=pdStat_spec hps hip
   rw[hi] at ho'
   injection ho' with ho'
   subst ho'
   obtain ⟨o2,d,s,Fi,X',g1,g2,g3,g4,g5,g6⟩:=PF.take D hD v.pf
   rw[hi] at g1
   injection g1 with g1
   subst g1
   simp only[guardK,hgd] at hk
   split at hk
   ·cases hk
   rw[stepK_pd g3,g2] at hk
   split at hk
   rotate_left
   ·cases hk
   obtain ⟨F2,h2⟩:=v.h.putD (some d) g4.slot g5 g4.whole
   rw[put_self] at h2
   exact ih _ f hQ hC hg hk fuel (v.virt hD his h2 g6)
  intro fuel
  induction fuel with
  | zero=>
   intro A a w X F D L RC v
   by_cases hD:i ∈ D
   ·exact virt 0 v hD
   ·have:=v.cnt
    simp[List.filter_cons,hD] at this
  | succ fuel ihf=>
  intro A a w X F D L RC v
  by_cases hD:i ∈ D
  ·exact virt _ v hD
  have hRC:∀ e ∈ RC,Act0 ops L e.2.1->Has w e.2.2.1 e.2.2.2.1 e.2.2.2.2:=fun e he=>by obtain ⟨_,_,_,_,_,_,_,_,_,_,_,q⟩:=v.rc e he;exact q
  have hSDx:∀ w',Ext w w' (fun _ _=>0)->∀ (l':Array Bool),(∀ k,l'.getD k false=false->L.getD k false=false)->((∀ d,dirty E ops d=true->l'.getD d false=false)->Ext w0 w' (fun _ _=>0))->SD E ops w0 C RC l' w':=fun w' hw' l' hl' hh=>⟨hh,(fun b i ha u hu=>by
   have:=v.h.ext.cell b i (ce_lt hu) (hC b i ha) u hu
   exact hw'.cell b i (ce_lt this) rfl u this),fun e he hu=>(hRC e he (hu.imp id (hl' _))).ext hw'⟩
  have hearly:∀ j,j ∈ pd->j ∈ Region.ready .any ops L->wpOp P ops Q j (fun a' w'=>SD E ops w0 C RC (L.setIfInBounds j true) w'/\wpAnyL P .any ops Q (SD E ops w0 C RC) fuel (L.setIfInBounds j true) a' w') a w:=fun j hj hr=>
   v.early hE hps hpd hes hall hC hj hr (fun w' hw' hh=>hSDx w' hw' _ (fun k hk=>unl (by rw[v.szL];obtain ⟨_,oj,hoj,_⟩:=mem_ready.1 hr;exact (Array.getElem?_eq_some_iff.1 hoj).1) hk) hh) (fun a' w' X' v'=>ihf v')
  have hSD0:SD E ops w0 C RC L w:=⟨v.hS,(fun b i ha u hu=>v.h.ext.cell b i (ce_lt hu) (hC b i ha) u hu),hRC⟩
  cases hpi:pd.any (Nat.beq i) with
  | true=>
   rw[hpi] at hg
   simp only[Bool.and_eq_true,Bool.not_eq_true',List.all_eq_true] at hg
   obtain ⟨⟨⟨his,hrd⟩,hchk⟩,hg⟩:=hg
   have hrdy:i ∈ Region.ready .any ops L:=v.ready_in (by simpa using hrd) hD
   refine ⟨fun h0=>(by rw[h0] at hrdy;cases hrdy),fun j hj=>hearly j ?_ hj⟩
   by_cases hjS:j ∈ pd.filter (fun j=>!Nat.beq i j)
   ·exact (List.mem_filter.1 hjS).1
   ·refine mem_any.1 (hchk j (v.ready_out (fun k hk=>List.mem_filter.2 ⟨v.dpd k hk,?_⟩) hj hjS))
    cases hb:Nat.beq i k with
    | false=>rfl
    | true=>rw[Nat.eq_of_beq_eq_true hb] at hD;exact absurd hk hD
  | false=>
  rw[hpi] at hg
  simp only at hg
  have hipd:i ∉ pd:=fun hm=>by rw[mem_any.2 hm] at hpi;cases hpi
  have hdst:∀ j ∈ D,∀ o' d,ops[j]?=some o'->o'.dst=some d->o.dst≠some d:=fun j hj o' d ho' hd'=>by
   obtain ⟨o2,d2,s2,g1,_,g2,_,g3⟩:=pdStat_spec hps (v.dpd j hj)
   rw[ho'] at g1;injection g1 with g1;subst g1
   rw[hd'] at g2;injection g2 with g2;subst g2
   exact g3 i o hi (fun e=>by subst e;exact hD hj)
  obtain ⟨b,σ1,hk,h1,hw⟩:=guard_ok v.h hk
  have hk':(match (generalizing:=false) b with
    | true=>stepK E rid i o σ1 fun σ=>match erChk E rid ops.toList i o is σ with
     | true=>ordK E rid ops.toList is σ K
     | false=>none
    | false=>ordK E rid ops.toList is (σ1.putD o.dst (.tup [])) K)=some x/\(b=true->arIn E rid i=true->arOk σ1 o=true):=by
   cases b with
   | true=>
    simp only at hk
    cases hn:(arIn E rid i&&!arOk σ1 o) with
    | true=>rw[hn] at hk;cases hk
    | false=>
     rw[hn] at hk
     exact ⟨hk,fun _ har=>by rw[har] at hn;simpa using hn⟩
   | false=>exact ⟨hk,fun e=>by cases e⟩
  obtain ⟨hk,hark⟩:=hk'
  have hput:∀ (val:Value),∀ j ∈ D,∀ o' d,ops[j]?=some o'->o'.dst=some d->tmp (a.put o.dst val) d=tmp a d:=fun val j hj o' d ho' hd'=>by
   have:=hdst j hj o' d ho' hd'
   cases hod:o.dst with
   | none=>rfl
   | some e=>rw[tmp_put,if_neg (fun h=>this (by rw[hod,h.1]))]
  split at hg
  ·rename_i hcond
   simp only[Bool.and_eq_true,Bool.or_eq_true,Bool.not_eq_true',List.all_eq_true,List.mem_range] at hcond
   obtain ⟨htk,⟨hfree,hready⟩,hrd⟩:=hcond
   have hrdy:i ∈ Region.ready .any ops L:=v.ready_in (by simpa using hready) hD
   have hfreeL:∀ j oj,ops[j]?=some oj->j≠i->L.getD j true=false->(∀ e ∈ oj.after,Region.binds .any e=true->e.on≠i)->o.apart ops oj=true:=fun j oj hoj hji hun hno=>Region.free_spec hi hfree j oj hoj hji (v.not_listed hun).2.2 hno
   have hnd:dirty E ops i=false:=by simp[dirty,hi,htk]
   have hdd:∀ (l':Array Bool),(∀ d,dirty E ops d=true->(l'.setIfInBounds i true).getD d false=false)↔∀ d,dirty E ops d=true->l'.getD d false=false:=fun l'=>by
    constructor
    ·intro hh d hd
     have:=hh d hd
     rw[getD_set_ne false (fun e=>by subst e;rw[hnd] at hd;cases hd)] at this
     exact this
    ·intro hh d hd
     rw[getD_set_ne false (fun e=>by subst e;rw[hnd] at hd;cases hd)]
     exact hh d hd
   have hSD:∀ (C:Ctx) (RC:List (Nat×Nat×Nat×Nat×List Value)),(∀ e ∈ RC,(e.1,e.2.1) ∈ er)->∀ l w,SD E ops w0 C RC (l.setIfInBounds i true) w↔SD E ops w0 C RC l w:=fun C RC hin l' w'=>by
    unfold SD
    rw[hdd]
    refine and_congr Iff.rfl (and_congr Iff.rfl (forall_congr' fun e=>forall_congr' fun he=>?_))
    have hne:i≠e.2.1:=fun e'=>by
     rcases (erStat_spec hes (hin e he)).2.1 with h | ⟨h,_⟩
     ·omega
     ·rw[<-e',hnd] at h;cases h
    unfold Act0
    rw[getD_set_ne false hne]
   have hin:∀ e ∈ RC,(e.1,e.2.1) ∈ er:=fun e he=>(v.rc e he).1
   have hActS:∀ {l':Array Bool} {u:Nat},(∃ j,(j,u) ∈ er)->(Act0 ops (l'.setIfInBounds i true) u->Act0 ops l' u):=fun {l' u} ⟨j,hj⟩ hu=>by
    have hne:i≠u:=fun e'=>by
     rcases (erStat_spec hes hj).2.1 with h | ⟨h,_⟩
     ·omega
     ·rw[<-e',hnd] at h;cases h
    unfold Act0 at hu ⊢
    rwa [getD_set_ne false hne] at hu
   have hS1:(∀ d,dirty E ops d=true->(L.setIfInBounds i true).getD d false=false)->Ext w0 w (fun _ _=>0):=fun hd=>v.hS ((hdd L).1 hd)
   have hunL:L.getD i false=false:=by
    have h0:=(mem_ready.1 hrdy).1
    rw[getD_tf (by rw[v.szL];exact hilt)] at h0
    exact h0
   have hkeep:∀ (val:Value),∀ e ∈ RC,RE ops er (L.setIfInBounds i true) (a.put o.dst val) w e:=fun val=>v.keep hes hi hunL (fun d hd=>by
    cases ho:o.dst with
    | none=>rfl
    | some d'=>rw[tmp_put,if_neg (fun e=>hd (by rw[ho,e.1]))]) (fun e he hu=>hRC e he (hActS ⟨_,hin e he⟩ hu))
   cases b with
   | true=>
    simp only at hk
    cases hari:arIn E rid i with
    | true=>
     obtain ⟨C',c1,c2,c3,c4,c5⟩:=h1.rebaseX
     obtain ⟨C1,f1,f2⟩:=c4.frame
     obtain ⟨val,hrun,σ2,hk2,A2,F2,h2⟩:=take_ar f1 hE (hst o hmem) htk (hark rfl hari) hk
     simp only at hk2
     split at hk2
     rotate_left
     ·cases hk2
     have hC':∀ b i,C'.A0 b i->C'.F0 b i=0:=fun b i ha=>c3 b i (by rw[<-c2];exact ha)
     obtain ⟨e1,e2,e3,e4,e5⟩:=f2 h2
     refine wpAnyL_mono (S:=SD E ops w0 C' RC) (fun l' w' hs=>⟨hs.1,(fun b i ha u hu=>hs.2.1 b i (by rw[c2];exact h1.a0 b i ha) u (by rw[c1];exact h1.ext.cell b i (ce_lt hu) (hC b i ha) u hu)),hs.2.2⟩) _ _ _ _
      (wpAnyL_first hi (Region.noSelect_spec hsel) (fun c a w hq=>(hP c _ _ hq).elim) (hSD C' RC hin) fuel L a w hfreeL hrdy v.cl (.inl ⟨hw,fun w' hS'=>hrun w' fun b i ha u hu=>?_⟩) ⟨v.hS,(fun b i ha u hu=>by rw[c1] at hu;exact hu),hRC⟩
      (ih _ f (fun a w ⟨σ3,q1,A3,F3,q2⟩=>hQ a w ⟨σ3,q1,A3,F3,c5 q2⟩) hC' hg hk2 fuel (v.next hD hrdy e1 (PF.pres e2 e3 e4 D (hput val) e5 v.pf) hS1 v.hf (hkeep val))))
     obtain ⟨l',hc',hun,hS'⟩:=hS'
     exact hS'.2.1 b i (by rw[c2];exact ha) u (by rw[c1];exact hu)
    | false=>
    cases heri:erIn E rid i with
    | true=>
     obtain ⟨u,himem⟩:∃ u,(i,u) ∈ er:=by
      unfold erIn at heri
      rw[her] at heri
      obtain ⟨e,he1,he2⟩:=List.any_eq_true.1 heri
      rw[Nat.eq_of_beq_eq_true he2]
      exact ⟨e.2,he1⟩
     obtain ⟨_,hu0,o1,t1,x1,d1,g1,_,g2,g3,g4,_⟩:=erStat_spec hes himem
     rw[hi] at g1
     injection g1 with g1
     subst g1
     obtain ⟨C1,f1,f2⟩:=h1.frame
     obtain ⟨b0,off,val0,cs,q1,q2,q3,q4⟩:=take_er f1 hE (hst o hmem) g2 hk
     obtain ⟨val,hrun,σ2,hk2,A2,F2,h2⟩:=tk_ok hE f1 (hst o hmem) htk hk
     have hval:val=val0:=by
      have r1:=hrun w fun _=>Ext.refl _ _
      have r2:=q4 w q2
      rw[r1] at r2
      injection r2 with r2 _
      injection r2
     subst hval
     simp only at hk2
     split at hk2
     rotate_left
     ·cases hk2
     rename_i hchk2
     obtain ⟨e1,e2,e3,e4,e5⟩:=f2 h2
     have hnew:RE ops er (L.setIfInBounds i true) (a.put o.dst val) w (i,u,b0,off,cs):=by
      refine ⟨himem,(getD_set_iff (by rw[v.szL];exact hilt)).2 (.inl rfl),o,t1,x1,d1,hi,g2,g3,?_,?_,fun _=>q2⟩
      ·rw[g3,tmp_put,if_neg (fun e=>g4 e.1.symm)];exact q1
      ·simp only[erChk,heri,Bool.or_true,Bool.not_true,Bool.false_or,erAll,her,List.all_eq_true] at hchk2
       have h9:=hchk2 _ himem
       have hnis:is.any (Nat.beq i)=false:=by
        cases hb:is.any (Nat.beq i) with
        | false=>rfl
        | true=>exact absurd (mem_any.1 hb) (List.nodup_cons.1 v.isn).1
       have hact:(is.any (Nat.beq u)||Nat.ble ops.toList.length u)=true:=by
        rcases Nat.lt_or_ge u ops.size with k1 | k1
        ·obtain ⟨k2,_,k3⟩:=hu0.resolve_left (by omega)
         rcases v.cva u k1 with k4 | k4
         ·have k5:=(v.hL u).2 (.inl k4)
          have:=anc_closed v.cl _ _ _ k3 k5
          rw[hunL] at this;cases this
         ·rcases List.mem_cons.1 k4 with k5 | k5
          ·rw[k5,hnd] at k2;cases k2
          ·rw[mem_any.2 k5,Bool.true_or]
        ·have:Nat.ble ops.toList.length u=true:=by simpa using k1
         rw[this,Bool.or_true]
       rw[hnis,hact,Bool.not_true,Bool.false_or,Bool.false_or,Array.getElem?_toList,hi] at h9
       simp only at h9
       have h10:=(er_has h2 h9 g2 g3 (b:=b0) (off:=off) (by rw[g3,tmp_put,if_neg (fun e=>g4 e.1.symm)];exact q1)).2
       rw[g3] at h10 ⊢
       rw[tmp_put,if_pos ⟨rfl,by simpa [Act.put] using h10⟩];exact q3
     refine wpAnyL_mono (S:=SD E ops w0 C ((i,u,b0,off,cs)::RC)) (fun l' w' hs=>⟨hs.1,hs.2.1,fun e he=>hs.2.2 e (List.mem_cons_of_mem _ he)⟩) _ _ _ _
      (wpAnyL_first hi (Region.noSelect_spec hsel) (fun c a w hq=>(hP c _ _ hq).elim) (hSD C _ (fun e he=>by rcases List.mem_cons.1 he with rfl | he;exact himem;exact hin e he)) fuel L a w hfreeL hrdy v.cl (.inl ⟨hw,fun w' hS'=>?_⟩) ⟨hSD0.1,hSD0.2.1,fun e he hu=>?_⟩
      (ih _ f hQ hC hg hk2 fuel (v.next hD hrdy e1 (PF.pres e2 e3 e4 D (hput val) e5 v.pf) hS1 v.hf (fun e he=>?_))))
     ·obtain ⟨l',hc',hun,hS'⟩:=hS'
      refine q4 w' (hS'.2.2 _ List.mem_cons_self ?_)
      rcases hu0 with k1 | ⟨_,_,k3⟩
      ·exact .inl k1
      ·right
       show l'.getD u false=false
       cases hld:l'.getD u false with
       | false=>rfl
       | true=>
        have:=anc_closed hc' _ _ _ k3 hld
        rcases Nat.lt_or_ge i l'.size with h' | h'
        ·simp[h'] at this hun;rw[hun] at this;cases this
        ·simp[Array.getElem?_eq_none h'] at this
     ·rcases List.mem_cons.1 he with rfl | he
      ·exact q2
      ·exact hRC e he hu
     ·rcases List.mem_cons.1 he with rfl | he
      ·exact hnew
      ·exact hkeep val e he
    | false=>
    obtain ⟨C1,f1,f2⟩:=h1.frame
    obtain ⟨val,hrun,σ2,hk2,A2,F2,h2⟩:=tk_ok hE f1 (hst o hmem) htk hk
    simp only at hk2
    split at hk2
    rotate_left
    ·cases hk2
    obtain ⟨e1,e2,e3,e4,e5⟩:=f2 h2
    refine wpAnyL_first hi (Region.noSelect_spec hsel) (fun c a w hq=>(hP c _ _ hq).elim) (hSD C RC hin) fuel L a w hfreeL hrdy v.cl (.inl ⟨hw,fun w' hS'=>hrun w' fun hr=>?_⟩) hSD0 (ih _ f hQ hC hg hk2 fuel (v.next hD hrdy e1 (PF.pres e2 e3 e4 D (hput val) e5 v.pf) hS1 v.hf (hkeep val)))
    rcases hrd with ((hrd | hrd) | hrd) | ⟨hfr,hanc⟩
    ·rw[hr] at hrd;cases hrd
    ·rw[hari] at hrd;cases hrd
    ·rw[heri] at hrd;cases hrd
    ·rw[(v.hf hfr).1]
     obtain ⟨l',hc',hun,hS'⟩:=hS'
     refine hS'.1 fun d hd=>?_
     have hdl:d < ops.size:=by
      unfold dirty at hd
      split at hd
      ·rename_i od hod;exact (Array.getElem?_eq_some_iff.1 hod).1
      ·cases hd
     rcases hanc d hdl with hh | hh
     ·rw[hd] at hh;cases hh
     ·cases hld:l'.getD d false with
      | false=>rfl
      | true=>
       have:=anc_closed hc' _ _ _ hh hld
       rcases Nat.lt_or_ge i l'.size with h' | h'
       ·simp[h'] at this hun;rw[hun] at this;cases this
       ·simp[Array.getElem?_eq_none h'] at this
   | false=>
    obtain ⟨F2,h2⟩:=skip_ok h1 o
    exact wpAnyL_first hi (Region.noSelect_spec hsel) (fun c a w hq=>(hP c _ _ hq).elim) (hSD C RC hin) fuel L a w hfreeL hrdy v.cl (v:=undef) (.inr ⟨hw,rfl⟩) hSD0 (ih _ f hQ hC hg hk fuel (v.next hD hrdy h2 (PF.pres (fun _ _ h=>h) (fun _ _ _ _ h=>h) (fun _ _ h=>h) D (hput undef) (fun _ _ _=>⟨fun _ h=>h,rfl⟩) v.pf) hS1 v.hf (hkeep undef)))
  ·simp only[Bool.and_eq_true,List.all_eq_true] at hg
   obtain ⟨⟨hready,hchk⟩,hg⟩:=hg
   have hrdy:i ∈ Region.ready .any ops L:=v.ready_in (by simpa using hready) hD
   have hiltL:i < L.size:=by rw[v.szL];exact hilt
   have hunL:L.getD i false=false:=by
    have h0:=(mem_ready.1 hrdy).1
    rw[getD_tf hiltL] at h0
    exact h0
   refine ⟨fun h0=>(by rw[h0] at hrdy;cases hrdy),fun j hj=>?_⟩
   by_cases hjp:j ∈ pd
   ·exact hearly j hjp hj
   have hij:i=j:=Nat.eq_of_beq_eq_true (hchk j (v.ready_out v.dpd hj hjp))
   subst hij
   unfold wpOp
   simp only[hi,hw]
   have hold:∀ {d},(L.setIfInBounds i true).getD d false=false->L.getD d false=false:=fun {d} hh=>by
    cases hl:L.getD d false with
    | false=>rfl
    | true=>rw[(getD_set_iff hiltL).2 (.inr hl)] at hh;cases hh
   have hset:(L.setIfInBounds i true).getD i false=true:=(getD_set_iff hiltL).2 (.inl rfl)
   cases b with
   | true=>
    simp only[if_true]
    obtain ⟨C1,f1,f2⟩:=h1.frame
    have hsd:∀ w',(∀ b i,A b i->∀ u,ce w b i=some u->ce w' b i=some u)->∀ b i,C.A0 b i->∀ u,ce C.w0 b i=some u->ce w' b i=some u:=fun w' he b i ha u hu=>he b i (v.h.a0 b i ha) u (v.h.ext.cell b i (ce_lt hu) (hC b i ha) u hu)
    cases htk:tkOp E o.op with
    | true=>
     refine .inl (Oper.wp_mono (fun a' w' hn=>?_) (wp_put (wp_same (tk_ok hE f1 (hst o hmem) htk hk))))
     obtain ⟨ht,hww,σ2,hk2,A2,F2,h2⟩:=hn
     subst hww
     simp only at hk2
     split at hk2
     rotate_left
     ·cases hk2
     obtain ⟨e1,e2,e3,e4,e5⟩:=f2 h2
     have hS':(∀ d,dirty E ops d=true->(L.setIfInBounds i true).getD d false=false)->Ext w0 w (fun _ _=>0):=fun hd=>v.hS fun d hdd=>hold (hd d hdd)
     exact ⟨⟨hS',hsd _ e3,fun e he hu=>hRC e he (hu.imp id hold)⟩,ih _ false hQ hC hg hk2 fuel (v.next hD hrdy e1 (PF.pres e2 e3 e4 D (fun j hj o' d ho' hd'=>ht d (hdst j hj o' d ho' hd')) e5 v.pf) hS' (fun e=>by cases e) (v.keep hes hi hunL ht fun e he hu=>hRC e he (hu.imp id hold)))⟩
    | false=>
    refine .inl (Oper.wp_mono (fun a' w' hn=>?_) (wp_put (not_tk hE f1 (hst o hmem) htk hk)))
    obtain ⟨ht,⟨σ2,hk2,A2,F2,h2⟩,hq⟩:=hn
    simp only at hk2
    split at hk2
    rotate_left
    ·cases hk2
    rename_i hchk2
    obtain ⟨e1,e2,e3,e4,e5⟩:=f2 h2
    have hS':(∀ d,dirty E ops d=true->(L.setIfInBounds i true).getD d false=false)->Ext w0 w' (fun _ _=>0):=fun hd=>by
     have hqq:quiet E o.op=true:=by
      cases hqq:quiet E o.op with
      | true=>rfl
      | false=>
       have hdj:dirty E ops i=true:=by simp[dirty,hi,htk,hqq]
       have:=hd i hdj
       rw[hset] at this;cases this
     exact (v.hS fun d hdd=>hold (hd d hdd)).trans (hq hqq) (fun _ _ _ _=>rfl)
    have hst':=v.still hes her hi hunL h2 ht (fun hm=>hq (quiet_of hk hm htk)) hchk2
    exact ⟨⟨hS',hsd _ e3,hst'⟩,ih _ false hQ hC hg hk2 fuel (v.next hD hrdy e1 (PF.pres e2 e3 e4 D (fun j hj o' d ho' hd'=>ht d (hdst j hj o' d ho' hd')) e5 v.pf) hS' (fun e=>by cases e) (v.keep hes hi hunL ht hst'))⟩
   | false=>
    simp only[Bool.false_eq_true,if_false]
    obtain ⟨F2,h2⟩:=skip_ok h1 o
    have hS':(∀ d,dirty E ops d=true->(L.setIfInBounds i true).getD d false=false)->Ext w0 w (fun _ _=>0):=fun hd=>v.hS fun d hdd=>hold (hd d hdd)
    exact ⟨⟨hS',hSD0.2.1,fun e he hu=>hRC e he (hu.imp id hold)⟩,ih _ false hQ hC hg hk fuel (v.next hD hrdy h2 (PF.pres (fun _ _ h=>h) (fun _ _ _ _ h=>h) (fun _ _ h=>h) D (hput undef) (fun _ _ _=>⟨fun _ h=>h,rfl⟩) v.pf) hS' (fun e=>by cases e) (v.keep hes hi hunL (fun d hd=>by
     cases ho:o.dst with
     | none=>rfl
     | some d'=>rw[tmp_put,if_neg (fun e=>hd (by rw[ho,e.1]))]) fun e he hu=>hRC e he (hu.imp id hold)))⟩
end
theorem draw_ok (hE:EnvOk P E) (hm:P.follows .mixedOrders=true) {rid id:Nat} {ops:Array Oper} (hst:∀ o ∈ ops.toList,opOk P o.op=true) {is bx:List Nat} (hd:drawOk E rid ops is=true) (h:Rel0 P C A σ a w F) {K:St->Option R} (hk:bxK σ bx (fun σ=>pdK ops.toList σ (liveOf E.pd rid) fun σ=>ordK E rid ops.toList is σ K)=some x)
  (hQ:∀ a w,Nx P C K x a w->Q .normal a w) (hP:∀ c a w,¬ Q (.panic c) a w):(Code.region id ops true).wp P Q a w:=by
 simp only[drawOk,Bool.and_eq_true,Nat.ble_eq] at hd
 obtain ⟨⟨⟨⟨hsel,hlen⟩,hps,hcov⟩,⟨hnd,hcva⟩,hes⟩,hg⟩:=hd
 have h0:=h.drew
 obtain ⟨A1,σ1,F1,hk,h1⟩:=bx_ok bx h0 hk
 obtain ⟨σ2,F2,hk,h1⟩:=pd_ok (liveOf E.pd rid) h1 hk
 obtain ⟨C',c1,c2,c3,c4,c5⟩:=h1.rebase
 have hC':∀ b i,C'.A0 b i->C'.F0 b i=0:=fun b i ha=>c3 b i (by rw[<-c2];exact ha)
 have hnf:∀ k,(Array.replicate ops.size false).getD k false=false:=fun k=>by
  by_cases hk:k < ops.size <;> simp[hk]
 refine wp_region_any hm (wpAny_of_L _ _ _ _ (drawGo_ok hE hst hP hsel hps rfl rfl hes is _ _ (fun a w ⟨σ3,q1,A3,F3,q2⟩=>hQ a w ⟨σ3,q1,A3,F3,c5 q2⟩) hC' hg hk ops.size (w0:=w.drew) (D:=[]) (RC:=[]) ⟨c4,trivial,List.nodup_nil,(fun _ h=>by cases h),(fun _ h=>by cases h),(fun _ h=>by cases h),fun j hj=>.inr (mem_any.1 (List.all_eq_true.1 hcov j hj)),
  Nat.le_trans (List.length_filter_le _ _) hlen,fun j o hj hl=>?_,fun _=>Ext.refl _ _,fun hf=>⟨rfl,?_⟩,by simp,by simp,(fun k=>by simp),nodupB_spec hnd,fun k hk=>.inr (mem_any.1 (List.all_eq_true.1 hcva k (List.mem_range.2 hk))),fun k _=>hnf k,fun e he=>by cases he⟩))
 ·rw[hnf] at hl;cases hl
 ·split at hf
  ·assumption
  ·cases hf
end
end OT
set_option linter.unusedVariables false
set_option linter.unusedSimpArgs false
namespace OT
open Go
section
variable {P:Program} {C:Ctx} {A:Cells} {X:FP} {σ:St} {a:Act} {w:World} {F:Nat->FP} {R:Type} {x:R} {E:Env}
theorem look_map (f:Nat->Slot):∀ (live:List Nat) (i:Nat),lookN (live.map fun j=>(j,f j)) i=if live.any (Nat.beq i) then some (f i) else none
 | [],i=>rfl
 | j::live,i=>by
  simp only[List.map_cons,lookN,List.any_cons]
  by_cases hij:i=j
  ·simp_all
  ·have h1:Nat.beq j i=false:=by
    grind [Nat.eq_of_beq_eq_true]
   have h2:Nat.beq i j=false:=by
    grind [Nat.eq_of_beq_eq_true]
   simp only[h1,h2,Bool.false_eq_true,if_false,Bool.false_or,look_map f live i]
theorem get_keep (live:List Nat) (fr:List (Nat×Md)) (σ:St) (i:Nat):(keepF live fr σ).get i=if i < σ.n/\live.any (Nat.beq i)=true then fro fr i (keepSlot live fr σ i) else .dead:=by
 unfold St.get keepF
 simp only[look_map]
 grind [Nat.blt_eq]
theorem ver_keep (live:List Nat) (fr:List (Nat×Md)) (σ:St) (i:Nat):(keepF live fr σ).ver i=[0,0,0,0,0]:=rfl
theorem zero_below {s:List Nat} (h:s.length<=5):Below (s.map fun _=>0) [0,0,0,0,0]:=by
 intro j y hj
 grind
theorem place_keep {live:List Nat} {fr:List (Nat×Md)} {r:Nat} (hr:rootIn live fr r=true) {p:Path} {pl:Pl} (hp:place σ a w r p=some pl):place (keepF live fr σ) a w r p=some pl:=by
 grind [place_lt,rootIn,place,get_keep,fro,keepSlot,rootPl]
theorem slot_keep {live:List Nat} {fr:List (Nat×Md)} {i:Nat} {G:FP} (hs:SlotRel P A σ a w (tmp a i) (σ.get i) G) (hG:∀ b k,G b k<=1) :
  ∃ G':FP,(∀ b k,G' b k<=G b k)/\∀ A':Cells,(∀ b k,A b k->A' b k)->(∀ b k,1<=G b k->G' b k=0->A' b k)->SlotRel P A' (keepF live fr σ) a w (tmp a i) (fro fr i (keepSlot live fr σ i)) G':=by
 have same:∀ b k,A b k->∀ u,ce w b k=some u->ce w b k=some u:=fun _ _ _ _ h=>h
 have dead:fro fr i .dead=.dead:=by grind [fro]
 have none0:∀ {s:Slot},(∀ t m H v,s≠.own t m H v)->(∀ t m H v,s≠.box t m H v)->fro fr i s=s:=fun {s} h1 h2=>by
  grind [fro]
 cases hg:σ.get i with
 | dead=>exact ⟨fun _ _=>0,fun _ _=>Nat.zero_le _,fun A' _ _=>by simp only[keepSlot,hg,dead];trivial⟩
 | nils=>
  rw[hg] at hs
  exact ⟨fun _ _=>0,fun _ _=>Nat.zero_le _,fun A' _ _=>by simp only[keepSlot,hg];rw[none0 (by intros;simp) (by intros;simp)];exact hs⟩
 | val t v=>
  rw[hg] at hs
  obtain ⟨cs,h1,h2⟩:=hs
  exact ⟨fun _ _=>0,fun _ _=>Nat.zero_le _,fun A' hA _=>by simp only[keepSlot,hg];rw[none0 (by intros;simp) (by intros;simp)];exact ⟨cs,h1,Ro.mono same hA t h2⟩⟩
 | cp t v=>
  rw[hg] at hs
  exact ⟨fun _ _=>0,fun _ _=>Nat.zero_le _,fun A' hA _=>by simp only[keepSlot,hg];rw[none0 (by intros;simp) (by intros;simp)];exact Ro.mono same hA (.ptr t) hs⟩
 | own t m H v=>
  rw[hg] at hs
  obtain ⟨cs,h1,h2⟩:=hs
  have hk:keepSlot live fr σ i=.own t m H v:=by grind [keepSlot]
  rw[hk]
  unfold fro
  split
  ·exact ⟨G,fun _ _=>Nat.le_refl _,fun A' hA _=>⟨cs,h1,Rep.mono hA same (fun _ _ h=>h) t h2 (fun _ _=>Nat.le_refl _) (fun _ _ _ _ h=>h)⟩⟩
  ·rename_i m1 hm
   simp only
   split
   ·rename_i hc
    simp only[Bool.and_eq_true,List.isEmpty_iff] at hc
    obtain ⟨hH,hf⟩:=hc
    subst hH
    obtain ⟨G1,g1,g2⟩:=Rep.fits t hf h2 hG
    refine ⟨G1,g1,fun A' hA hgv=>?_⟩
    have hr:=g2 A' hA hgv
    split
    ·rename_i e;subst e;exact ⟨cs,h1,Rep.ro t (roMd_noOwn t) hr⟩
    ·exact ⟨cs,h1,hr⟩
   ·exact ⟨fun _ _=>0,fun _ _=>Nat.zero_le _,fun A' _ _=>trivial⟩
 | box t m H v=>
  rw[hg] at hs
  obtain ⟨b,o,L,F1,s1,s2,s3,s4,s5,s6⟩:=hs
  have hk:keepSlot live fr σ i=.box t m H v:=by grind [keepSlot]
  rw[hk]
  unfold fro
  split
  ·exact ⟨G,fun _ _=>Nat.le_refl _,fun A' hA _=>⟨b,o,L,F1,s1,s2,s3,s4,s5,Rep.mono hA same (fun _ _ h=>h) t s6 (fun _ _=>Nat.le_refl _) (fun _ _ _ _ h=>h)⟩⟩
  ·rename_i m1 hm
   simp only
   split
   ·rename_i hc
    simp only[Bool.and_eq_true,List.isEmpty_iff] at hc
    obtain ⟨hH,hf⟩:=hc
    subst hH
    obtain ⟨G1,g1,g2⟩:=Rep.fits t hf s6 (fun b' k=>by grind)
    refine ⟨fun b' k=>rng b o t.sz b' k+G1 b' k,fun b' k=>by grind,fun A' hA hgv=>⟨b,o,L,G1,s1,s2,s3,s4,fun _ _=>Nat.le_refl _,g2 A' hA fun b' k hp hz=>?_⟩⟩
    grind
   ·exact ⟨fun _ _=>0,fun _ _=>Nat.zero_le _,fun A' _ _=>trivial⟩
 | ref r p snap=>
  rw[hg] at hs
  refine ⟨fun _ _=>0,fun _ _=>Nat.zero_le _,fun A' _ _=>?_⟩
  simp only[keepSlot,hg]
  split
  ·rename_i hc
   simp only[Bool.and_eq_true] at hc
   rw[none0 (by intros;simp) (by intros;simp)]
   obtain ⟨pl,h1,h2,h3⟩:=hs.2 hc.1
   have hl:snap.length<=5:=by grind
   exact ⟨by grind [ver_keep,zero_below],fun _=>⟨pl,place_keep hc.2 h1,h2,by simpa using h3⟩⟩
  ·rw[dead];trivial
 | ptr r p snap=>
  rw[hg] at hs
  refine ⟨fun _ _=>0,fun _ _=>Nat.zero_le _,fun A' _ _=>?_⟩
  simp only[keepSlot,hg]
  split
  ·rename_i hc
   simp only[Bool.and_eq_true] at hc
   rw[none0 (by intros;simp) (by intros;simp)]
   obtain ⟨pl,b,o,h1,h2,h3,h4⟩:=hs.2 hc.1
   have hl:snap.length<=5:=by omega
   exact ⟨by grind [ver_keep,zero_below],fun _=>⟨pl,b,o,place_keep hc.2 h1,h2,h3,by simpa using h4⟩⟩
  ·rw[dead];trivial
 | sub r p snap lo hi=>
  rw[hg] at hs
  refine ⟨fun _ _=>0,fun _ _=>Nat.zero_le _,fun A' _ _=>?_⟩
  simp only[keepSlot,hg]
  split
  ·rename_i hc
   simp only[Bool.and_eq_true] at hc
   rw[none0 (by intros;simp) (by intros;simp)]
   obtain ⟨pl,e,xa,n,cap,xa',cap',h1,h2,h3,h4,h5,h6,h7,h8,h9,h10,h11⟩:=hs.2 hc.1
   have hl:snap.length<=5:=by grind
   exact ⟨by grind [ver_keep,zero_below],fun _=>⟨pl,e,xa,n,cap,xa',cap',place_keep hc.2 h1,h2,h3,h4,h5,h6,h7,h8,h9,h10,by simpa using h11⟩⟩
  ·rw[dead];trivial
 | tup xs=>
  rw[hg] at hs
  obtain ⟨vs,Fi,h1,h2,h3⟩:=hs
  refine ⟨G,fun _ _=>Nat.le_refl _,fun A' hA _=>?_⟩
  simp only[keepSlot,hg]
  rw[none0 (by intros;simp) (by intros;simp)]
  exact ⟨vs,Fi,h1,h2,fun j y hy=>by
   obtain ⟨v,g1,g2⟩:=h3 j y hy
   exact ⟨v,g1,g2.imp id fun ⟨cs,g3,g4⟩=>⟨cs,g3,Rep.mono hA same (fun _ _ h=>h) _ g4 (fun _ _=>Nat.le_refl _) (fun _ _ _ _ h=>h)⟩⟩⟩
theorem keepF_ok (h:Rel0 P C A σ a w F) (live:List Nat) (fr:List (Nat×Md)):RelE P C (keepF live fr σ) a w:=by
 have hle:∀ i,i < σ.n->∀ b k,F i b k<=1:=fun i hi b k=>by have:=h.tot b k;grind [le_sumF]
 have each:∀ i,∃ G':FP,(∀ b k,i < σ.n->G' b k<=F i b k)/\(¬ i < σ.n->∀ b k,G' b k=0)/\∀ A':Cells,(∀ b k,A b k->A' b k)->(∀ b k,1<=F i b k->G' b k=0->A' b k)->i < σ.n->SlotRel P A' (keepF live fr σ) a w (tmp a i) ((keepF live fr σ).get i) G':=by
  intro i
  by_cases hi:i < σ.n
  ·by_cases hl:live.any (Nat.beq i)=true
   ·obtain ⟨G',g1,g2⟩:=slot_keep (live:=live) (fr:=fr) (h.slots i hi) (hle i hi)
    exact ⟨G',fun b k _=>g1 b k,fun hn=>absurd hi hn,fun A' hA hgv _=>by grind [get_keep]⟩
   ·exact ⟨fun _ _=>0,fun _ _ _=>Nat.zero_le _,fun _ _ _=>rfl,fun A' _ _ _=>by rw[get_keep,if_neg (fun hc=>hl hc.2)];trivial⟩
  ·exact ⟨fun _ _=>0,fun _ _ _=>Nat.zero_le _,fun _ _ _=>rfl,fun A' _ _ hi'=>absurd hi' hi⟩
 obtain ⟨F',hF'⟩:=Classical.axiomOfChoice each
 have hsum:∀ b k,sumF σ.n F' b k<=sumF σ.n F b k:=fun b k=>sumF_le b k fun j hj=>(hF' j).1 b k hj
 refine ⟨fun b k=>A b k\/∃ j,j < σ.n/\1<=F j b k/\F' j b k=0,F',?_⟩
 have hold:∀ {b k j},j < σ.n->1<=F j b k->1<=0+sumF σ.n F b k:=fun {b k j} hj hp=>by grind [le_sumF]
 refine ⟨h.size,h.defers,fun i hi=>(hF' i).2.2 _ (fun _ _ h=>.inl h) (fun b k hp hz=>.inr ⟨i,hi,hp,hz⟩) hi,(fun d r p snap hm=>by cases hm),fun b k=>by have:=h.tot b k;have:=hsum b k;show 0+sumF σ.n F' b k<=1;omega,fun b k hp ha=>?_,fun b k hp=>?_,
  fun i=>by rw[ver_keep];rfl,h.ext,fun b k hp=>h.own b k (by have:=hsum b k;have hp:1<=0+sumF σ.n F' b k:=hp;grind),fun b k ha=>.inl (h.a0 b k ha),fun b k ha=>?_,h.lentP,fun r t m H v hg hl=>?_,fun j k hm R' hR'=>?_,h.tab⟩
 ·have hp:1<=0+sumF σ.n F' b k:=hp
  rcases ha with ha | ⟨j,hj,h1,h2⟩
  ·exact h.dis b k (by grind) ha
  ·obtain ⟨i,hi,hpi⟩:=sumF_pos (show 1<=sumF σ.n F' b k by omega)
   have hne:i≠j:=fun e=>by grind
   have:=le_sumF2 F hi hj hne b k
   have:=(hF' i).1 b k hi
   have:=h.tot b k
   omega
 ·rcases hp with hp | (ha | ⟨j,hj,h1,_⟩)
  ·exact h.bnd b k (.inl (by have:=hsum b k;have hp:1<=0+sumF σ.n F' b k:=hp;grind))
  ·exact h.bnd b k (.inr ha)
  ·exact h.bnd b k (.inl (hold hj h1))
 ·rcases ha with ha | ⟨j,hj,h1,_⟩
  ·exact h.a1 b k ha
  ·exact .inr (h.own b k (hold hj h1))
 ·rw[get_keep] at hg
  split at hg
  ·have:∃ m0 H0 v0,σ.get r=.box t m0 H0 v0:=by
    grind [fro,keepSlot]
   obtain ⟨m0,H0,v0,hg0⟩:=this
   exact h.whole r t m0 H0 v0 hg0 hl
  ·cases hg
 ·have hroot:rootPl w (tmp a j) (σ.get j)=some R'\/∃ H0,rootPl w (tmp a j) (σ.get j)=some { R' with H:=H0 }:=by
   rw[get_keep] at hR'
   split at hR'
   ·unfold fro at hR'
    split at hR'
    ·grind [keepSlot,rootPl]
    ·split at hR'
     ·grind [keepSlot,rootPl]
     ·rename_i t0 m0 H0 v0 hk
      have hgr:σ.get j=.box t0 m0 H0 v0:=by
       grind [keepSlot]
      split at hR'
      all_goals simp_all [rootPl]
     grind [rootPl]
   grind [rootPl]
  rcases hroot with hr | ⟨H0,hr⟩
  ·exact h.lentS j k hm R' hr
  ·have:=h.lentS j k hm _ hr
   exact this
theorem keep_eq (live:List Nat) (σ:St):keep live σ=keepF live [] σ:=rfl
theorem keep_ok (h:Rel0 P C A σ a w F) (live:List Nat):RelE P C (keep live σ) a w:=by grind [keep_eq,keepF_ok]
end
end OT
set_option linter.unusedVariables false
set_option linter.unusedSimpArgs false
namespace OT
open Go
def QK (P:Program) (C:Ctx) {R:Type} (K:Ex->St->Option R) (fin:St->Option R) (x:R):Exit->Act->World->Prop
 | .normal,a,w=>∃ σ,K .normal σ=some x/\RelE P C σ a w
 | .exit id,a,w=>∃ σ,K (.exit id) σ=some x/\RelE P C σ a w
 | .ret,a,w=>∃ σ,fin σ=some x/\RelE P C σ a w
 | _,_,_=>False
noncomputable def codeOk (P:Program) (E:Env):Code->Bool
 | .skip=>true
 | .region id ops d=>ops.toList.all (fun o=>opOk P o.op)&&(match d with
  | false=>true
  | true=>P.follows .mixedOrders&&drawOk E id ops (liveOf E.od id))
 | .seq a b=>codeOk P E a&&codeOk P E b
 | .cond c a b=>opdOk P c&&codeOk P E a&&codeOk P E b
 | .block _ b=>codeOk P E b
 | .loop b=>codeOk P E b
 | .scope b=>codeOk P E b
 | .exit _=>true
 | .ret=>true
 | _=>true
section
variable {P:Program} {C:Ctx} {R:Type} {x:R} {E:Env} {fin:St->Option R} {n:Nat}
theorem code_ok (hE:EnvOk P E):∀ (c:Code),codeOk P E c=true->∀ {σ:St} {A:Cells} {a:Act} {w:World} {F:Nat->FP} {K:Ex->St->Option R},Rel0 P C A σ a w F->codeK E n fin c σ K=some x->c.wp P (QK P C K fin x) a w:=by
 intro c
 induction c with
 | skip=>intro _ σ A a w F K h hk;exact wp_skip ⟨σ,hk,A,F,h⟩
 | region id ops d=>
  intro hc σ A a w F K h hk
  simp only[codeOk,Bool.and_eq_true] at hc
  have hst:∀ o ∈ ops.toList,opOk P o.op=true:=fun o ho=>List.all_eq_true.1 hc.1 o ho
  cases d with
  | false=>exact region_ok hE hst h hk (fun a w ⟨σ',h1,A',F',h2⟩=>by
    obtain ⟨A2,σ2,F2,h3,h4⟩:=bx_ok _ h2 h1
    exact ⟨σ2,h3,A2,F2,h4⟩)
  | true=>
   have h2:=hc.2
   simp only[Bool.and_eq_true] at h2
   exact draw_ok hE h2.1 hst h2.2 h hk (fun a w ⟨σ',h1,h2⟩=>⟨σ',h1,h2⟩) (fun c a w hq=>hq)
 | seq a b iha ihb=>
  intro hc σ A ac w F K h hk
  simp only[codeOk,Bool.and_eq_true] at hc
  refine wp_seq (wp_mono (iha hc.1 h hk) fun e a' w' hq=>?_)
  cases e with
  | normal=>obtain ⟨σ',h1,A',F',h2⟩:=hq;exact ihb hc.2 h2 h1
  | exit j=>obtain ⟨σ',h1,h2⟩:=hq;exact ⟨σ',h1,h2⟩
  | ret=>exact hq
  | _=>exact hq.elim
 | cond c a b iha ihb=>
  intro hc σ A ac w F K h hk
  simp only[codeOk,Bool.and_eq_true] at hc
  simp only[codeK] at hk
  rcases opd_ok h hc.1.1 with hs | ⟨xs,e⟩
  rotate_left
  ·rw[e] at hk;cases hk
  grind [boolK_some,wp_cond_true,wp_cond_false]
 | block id b ih=>
  intro hc σ A ac w F K h hk
  refine wp_block (wp_mono (ih hc h hk) fun e a' w' hq=>?_)
  cases e with
  | normal=>exact hq
  | exit j=>
   obtain ⟨σ',h1,h2⟩:=hq
   simp only[blockC] at h1
   simp only[Exit.inBlock]
   by_cases hj:j=id
   ·subst hj
    rw[if_pos (by simp)] at h1
    rw[if_pos rfl]
    exact ⟨σ',h1,h2⟩
   ·have:Nat.beq j id=false:=by
     grind [Nat.eq_of_beq_eq_true]
    rw[this,if_neg (by simp)] at h1
    rw[if_neg hj]
    exact ⟨σ',h1,h2⟩
  | ret=>exact hq
  | _=>exact hq.elim
 | loop b ih=>
  intro hc σ A ac w F K h hk
  simp only[codeK] at hk
  have key:∀ (m:Nat) (σ:St) (ac:Act) (w:World),RelE P C σ ac w->iterK (codeK E n fin b) (keepF (liveOf E.lv (firstReg b)) (froOf E.lf (firstReg b))) K m σ=some x->Code.rounds P b (QK P C K fin x) m ac w:=by
   intro m
   induction m with
   | zero=>intro σ ac w h hk;cases hk
   | succ m ihm=>
    intro σ ac w h hk
    obtain ⟨A',F',h⟩:=h
    rw[rounds_succ]
    refine wp_mono (ih hc h hk) fun e a' w' hq=>?_
    cases e with
    | normal=>
     obtain ⟨σ',h1,A2,F2,h2⟩:=hq
     exact ihm _ a' w' (keepF_ok h2 _ _) h1
    | exit j=>exact hq
    | ret=>exact hq
    | _=>exact hq.elim
  exact wp_loop_rounds n (key n _ ac w (keepF_ok h _ _) hk)
 | scope b ih=>
  intro hc σ A ac w F K h hk
  refine wp_scope_straight (wp_mono (ih hc h hk) fun e a' w' hq=>?_)
  cases e with
  | normal=>exact hq
  | exit j=>exact hq
  | ret=>exact hq
  | _=>exact hq.elim
 | exit id=>
  intro hc σ A ac w F K h hk
  exact wp_exit ⟨_,hk,keep_ok h _⟩
 | ret=>
  intro hc σ A ac w F K h hk
  exact wp_ret ⟨σ,hk,A,F,h⟩
 | _=>grind [codeK]
end
end OT
set_option linter.unusedVariables false
set_option linter.unusedSimpArgs false
namespace OT
open Go
section
variable {P:Program} {C:Ctx} {A:Cells} {X:FP} {σ:St} {a:Act} {w:World} {F:Nat->FP} {R:Type} {x:R} {E:Env}
def rvRun (tmps:Array Value):ResultVar->Sem Value
 | .tmp t=>pure (tmps.getD t undef)
 | .cell a t=>do loadVar t (<- asAddr (tmps.getD a undef))
theorem mapM_run {α:Type} (f:α->Sem Value):∀ (l:List α) (vs:List Value),l.length=vs.length->(∀ (j:Nat) (y:α) (v:Value),l[j]?=some y->vs[j]?=some v->(f y).run P w=.ok v w)->(l.mapM f).run P w=.ok vs w
 | [],[],_,_=>rfl
 | y::l,v::vs,hl,h=>by
  have h0:=h 0 y v rfl rfl
  have ih:=mapM_run f l vs (by simpa using hl) (fun j y v hy hv=>h (j+1) y v hy hv)
  simp_all
 | [],_::_,h,_=>by simp at h
 | _::_,[],h,_=>by simp at h
theorem results_run {fn:Func} {tmps:Array Value} {vs:List Value} (hl:fn.results.toList.length=vs.length) (h:∀ (j:Nat) (y:ResultVar) (v:Value),fn.results.toList[j]?=some y->vs[j]?=some v->(rvRun tmps y).run P w=.ok v w) :
  (results fn tmps).run P w=.ok (if h:vs.toArray.size=1 then vs.toArray[0] else .tuple vs.toArray) w:=by
 have h1:=mapM_run (P:=P) (w:=w) (rvRun tmps) fn.results.toList vs hl h
 have h2:(fn.results.mapM (rvRun tmps)).run P w=.ok vs.toArray w:=by
  have e:fn.results=fn.results.toList.toArray:=by simp
  rw[e,List.mapM_toArray,map_eq_pure_bind,Sem.run_bind,h1,Result.andThen_ok,Sem.run_pure]
 have e:results fn tmps=(do
  let vs <- fn.results.mapM (rvRun tmps)
  pure (if h:vs.size=1 then vs[0] else .tuple vs)):=by
  unfold results
  congr 1
 simp_all
def rvOk (E:Env):List (Ty×Md)->List ResultVar->Bool
 | [],[]=>true
 | _::rs,.tmp _::xs=>rvOk E rs xs
 | (t,_)::rs,.cell _ ty::xs=>(match E.TI ty with
  | some T=>decide (T=t)
  | none=>false)&&rvOk E rs xs
 | _,_=>false
theorem rv_ok (hE:EnvOk P E) (h:Rel P C A X σ a w F) {rv:ResultVar} {t:Ty} (hty:∀ b ty,rv=.cell b ty->E.TI ty=some t) {mv:Bool} {K:Md->t.den->St->Option R} (hk:useK σ (rvSlot σ rv) mv t K=some x) :
  ∃ (tv:Value),(rvRun a.tmps rv).run P w=.ok tv w/\∃ (A':Cells) (σ':St) (F':Nat->FP) (m:Md) (v:t.den) (cs:List Value) (Fv:FP),K m v σ'=some x/\(∀ b i,A b i->A' b i)/\Rel P C A' (fun b i=>X b i+Fv b i) σ' a w F'/\tv=mkV t cs/\Rep P w A' t m [] v cs Fv:=by
 cases rv with
 | tmp i=>
  rcases opd_ok h (o:=.tmp i) rfl with hs | ⟨xs,e⟩
  rotate_left
  ·grind [rvSlot,useK]
  obtain ⟨A',σ',F',m,v,cs,Fv,k1,k2,k3,k4,kr,k5,k6⟩:=use_ok h hs hk
  exact ⟨_,rfl,A',σ',F',m,v,cs,Fv,k1,k2,k3,k5,k6⟩
 | cell i ty=>
  have hT:=hty i ty rfl
  have hlay:=hE.ti _ _ hT
  simp only[rvSlot] at hk
  split at hk
  ·rename_i t0 m0 H0 v0 hg
   have hi:i < σ.n:=by
    grind [get_out]
   have hs:=h.slots i hi
   rw[hg] at hs
   obtain ⟨b,o,L,F1,s1,s2,s3,s4,s5,s6⟩:=hs
   have hpl:place σ a w i []=some ⟨t0,H0,L,some (b,o)⟩:=by
    grind [place,rootPl,rd_of_has,plc]
   have hslot:SlotRel P A σ a w (mkV t0 L) (.ref i [] (σ.ver i)) (fun _ _=>0):=⟨Below.refl _,fun _=>⟨_,hpl,rfl,.inr (h.vlen i)⟩⟩
   have ht:t0=t:=by
    grind [useK,at_ok,castK_some]
   subst ht
   obtain ⟨A',σ',F',m,v,cs,Fv,k1,k2,k3,k4,kr,k5,k6⟩:=use_ok h hslot hk
   refine ⟨mkV t0 L,?_,A',σ',F',m,v,cs,Fv,k1,k2,k3,k5,k6⟩
   have e:a.tmps.getD i undef=.pointer (some ⟨b,o,none⟩):=s1
   grind [run_loadVar,Rep.one,rvRun,asAddr]
  grind [useK]
theorem res_ok (hE:EnvOk P E) {ts:List Ty} {mv:Nat->Bool} {fin:St->((tupT ts).den->Option R)->Option R}:∀ (rs:List (Ty×Md)) (rvs:List ResultVar) (j:Nat) {σ:St} {A:Cells} {X:FP} {F:Nat->FP} {K:(tupT (rs.map (·.1)++ts)).den->Option R},
  rvOk E rs rvs=true->Rel P C A X σ a w F->resK σ ts mv fin rs rvs j K=some x ->
  ∃ (A':Cells) (σ':St) (X':FP) (F':Nat->FP) (vals:List Value) (L:List Res) (Fi:Nat->FP) (pre:(tupT ts).den->(tupT (rs.map (·.1)++ts)).den),(∀ b i,A b i->A' b i)/\Rel P C A' X' σ' a w F'/\fin σ' (fun y=>K (pre y))=some x/\(∀ y,splitR rs (pre y)=(L,y)) /\
   vals.length=L.length/\vals.length=rvs.length/\(∀ (k:Nat) (y:ResultVar) (v:Value),rvs[k]?=some y->vals[k]?=some v->(rvRun a.tmps y).run P w=.ok v w)/\(∀ b i,X b i+sumF L.length Fi b i<=X' b i) /\
   ∀ A2:Cells,(∀ b i,A' b i->A2 b i)->(∀ b i,1<=X' b i->X b i=0->sumF L.length Fi b i=0->A2 b i)->∀ k y,L[k]?=some y->∃ v cs,vals[k]?=some v/\v=mkV y.t cs/\Rep P w A2 y.t y.m [] y.v cs (Fi k):=by
 intro rs
 induction rs with
 | nil=>
  intro rvs j σ A X F K hrv h hk
  cases rvs with
  | nil=>exact ⟨A,σ,X,F,[],[],fun _ _ _=>0,id,fun _ _ h=>h,h,hk,fun y=>rfl,rfl,rfl,(fun k y v hy=>by cases hy),(fun b i=>by simp[sumF]),fun A2 _ _ k y hy=>by cases hy⟩
  | cons _ _=>cases hrv
 | cons p rs ih=>
  intro rvs j σ A X F K hrv h hk
  obtain ⟨t,m⟩:=p
  cases rvs with
  | nil=>cases hk
  | cons rv rvs=>
   simp only[resK] at hk
   have hty:∀ b ty,rv=.cell b ty->E.TI ty=some t:=fun b ty e=>by
    grind [rvOk]
   have hrv':rvOk E rs rvs=true:=by
    cases rv <;> grind [rvOk]
   obtain ⟨tv,hrun,A1,σ1,F1,m1,v1,cs,Fv,k1,k2,k3,k4,k5⟩:=rv_ok hE h hty hk
   split at k1
   ·rename_i hm
    obtain ⟨A',σ',X',F',vals,L,Fi,pre,g1,g2,g3,g4,g5,g6,g7,g8,g9⟩:=ih rvs (j+1) hrv' k3 k1
    have htot:∀ b i,X' b i<=1:=fun b i=>by have:=g2.tot b i;omega
    have hfit:∃ G:FP,(∀ b i,G b i<=Fv b i)/\∀ A2:Cells,(∀ b i,A1 b i->A2 b i)->(∀ b i,1<=Fv b i->G b i=0->A2 b i)->Rep P w A2 t m [] v1 cs G:=by
     by_cases hmm:m1=m
     ·subst hmm
      exact ⟨Fv,fun _ _=>Nat.le_refl _,fun A2 hA _=>Rep.mono hA (fun _ _ _ _ h=>h) (fun _ _ h=>h) t k5 (fun _ _=>Nat.le_refl _) (fun _ _ _ _ h=>h)⟩
     ·rcases hm with hm | hm
      ·grind
      ·exact Rep.fits t hm k5 (fun b i=>by grind)
    obtain ⟨G,G1,G2⟩:=hfit
    have hsum:∀ b i,sumF (L.length+1) (fun k=>match k with | 0=>G | k+1=>Fi k) b i=G b i+sumF L.length Fi b i:=fun b i=>by
     rw[Nat.add_comm,sumF_add]
     congr 1
     ·simp[sumF]
     grind
    refine ⟨A',σ',X',F',tv::vals,⟨t,m,v1⟩::L,fun k=>match k with | 0=>G | k+1=>Fi k,fun y=>(v1,pre y),fun b i ha=>g1 b i (k2 b i ha),g2,g3,fun y=>by grind [splitR],by simp[g5],by simp[g6],fun k y v hy hv=>?_,fun b i=>?_,fun A2 hA hgv k y hy=>?_⟩
    ·grind
    ·grind
    ·have hgv':∀ b i,1<=X' b i->X b i=0->G b i+sumF L.length Fi b i=0->A2 b i:=fun b i h1 h2 h3=>hgv b i h1 h2 (by grind)
     cases k with
     | zero=>
      grind
     | succ k=>
      refine g9 A2 hA (fun b i h1 h2 h3=>hgv' b i h1 (by omega) (by grind)) k y hy
   ·cases k1
theorem lent_mem {l:List (Nat×Nat×Bool)} {i j:Nat} {c:Bool} (h:isLent l i j c=true):(i,j,c) ∈ l:=by
 induction l <;> grind [isLent,Nat.beq_eq]
def sumL (F:Nat->FP):List Nat->FP
 | []=>fun _ _=>0
 | i::l=>fun b k=>F i b k+sumL F l b k
theorem sumL_upd (F:Nat->FP) (i:Nat) (G:FP) (b k:Nat):∀ (l:List Nat),i ∉ l->sumL (updF F i G) l b k=sumL F l b k
 | [],_=>rfl
 | j::l,hj=>by
  simp only[List.mem_cons,not_or] at hj
  simp only[sumL,sumL_upd F i G b k l hj.2]
  rw[show updF F i G j=F j by grind [updF]]
theorem sumL_le:∀ (l:List Nat) {n:Nat} (F:Nat->FP),l.Nodup->(∀ i ∈ l,i < n)->∀ b k,sumL F l b k<=sumF n F b k
 | [],n,F,_,_,b,k=>Nat.zero_le _
 | i::l,n,F,hn,hl,b,k=>by
  have hn':=List.nodup_cons.1 hn
  have h1:=sumL_le l (updF F i fun _ _=>0) hn'.2 (fun j hj=>hl j (List.mem_cons_of_mem _ hj)) b k
  grind [sumL_upd,sumF_upd,sumL]
theorem sumL_pos {F:Nat->FP} {b k:Nat}:∀ {l:List Nat},1<=sumL F l b k->∃ i ∈ l,1<=F i b k
 | [],h=>by simp[sumL] at h
 | i::l,h=>by
  simp only[sumL] at h
  rcases Nat.eq_zero_or_pos (F i b k) with h0 | h0
  ·obtain ⟨j,hj,hp⟩:=sumL_pos (F:=F) (b:=b) (k:=k) (l:=l) (by omega)
   grind
  grind
def psOk:List (PM×Ty)->Bool
 | []=>true
 | _::ps=>psOk ps
theorem muts_ok (h:Rel P C A X σ a w F):∀ (j:Nat) (ps:List (PM×Ty)) (es:List Nat) {K:(tupT (mutTys ps)).den->Option R},psOk ps=true->es.Nodup->j+ps.length<=C.args.size->mutsK σ j ps es K=some x ->
  ∃ (vs:(tupT (mutTys ps)).den) (us:List Nat) (Gi:Nat->FP),K vs=some x/\(∀ i ∈ us,i ∈ es)/\us.Nodup/\(∀ i ∈ us,i < σ.n)/\(∀ i b k,i ∈ us->Gi i b k<=F i b k) /\
   ∀ A2:Cells,(∀ b k,A b k->A2 b k)->(∀ i b k,i ∈ us->1<=F i b k->Gi i b k=0->A2 b k)->MutsRel P w A2 ps vs (C.args.toList.drop j) (sumL Gi us):=by
 intro j ps
 induction ps generalizing j with
 | nil=>intro es K _ _ _ hk;exact ⟨(),[],fun _ _ _=>0,by cases es <;> exact hk,(fun i hi=>by cases hi),List.nodup_nil,(fun i hi=>by cases hi),(fun i b k hi=>by cases hi),fun _ _ _=>trivial⟩
 | cons p ps ih=>
  intro es K hp hnd hj hk
  obtain ⟨pm,t⟩:=p
  have hj':j+1+ps.length<=C.args.size:=by grind
  have htail:(C.args.toList.drop j).tail=C.args.toList.drop (j+1):=by rw[List.tail_drop]
  have hhead:(C.args.toList.drop j).head?=some (C.args.getD j undef):=by
   simp only[List.length_cons] at hj
   rw[List.head?_drop,Array.getElem?_toList,Array.getElem?_eq_getElem (by omega)]
   simp[show j < C.args.size by omega]
  have hF1:∀ i,i < σ.n->∀ b k,F i b k<=1:=fun i hi b k=>by have:=h.tot b k;grind [le_sumF]
  cases pm with
  | ro=>
   obtain ⟨vs,us,Gi,g1,g2,g3,g4,g5,g6⟩:=ih (j+1) es hp hnd hj' hk
   exact ⟨vs,us,Gi,g1,g2,g3,g4,g5,fun A2 hA hgv=>by grind [MutsRel]⟩
  | fix f=>
   obtain ⟨vs,us,Gi,g1,g2,g3,g4,g5,g6⟩:=ih (j+1) es hp hnd hj' hk
   exact ⟨vs,us,Gi,g1,g2,g3,g4,g5,fun A2 hA hgv=>by grind [MutsRel]⟩
  | eat f=>
   obtain ⟨vs,us,Gi,g1,g2,g3,g4,g5,g6⟩:=ih (j+1) es hp hnd hj' hk
   exact ⟨vs,us,Gi,g1,g2,g3,g4,g5,fun A2 hA hgv=>by grind [MutsRel]⟩
  | eatv f=>
   obtain ⟨vs,us,Gi,g1,g2,g3,g4,g5,g6⟩:=ih (j+1) es hp hnd hj' hk
   exact ⟨vs,us,Gi,g1,g2,g3,g4,g5,fun A2 hA hgv=>by grind [MutsRel]⟩
  | mutp m0 m=>
   cases es with
   | nil=>cases hk
   | cons i es=>
    have hnd':=List.nodup_cons.1 hnd
    simp only[mutsK] at hk
    split at hk
    ·rename_i t' m' H v hg
     split at hk
     ·rename_i hc
      simp only[Bool.and_eq_true,List.isEmpty_iff,Bool.or_eq_true,decide_eq_true_eq] at hc
      obtain ⟨⟨hH,hm⟩,hlent⟩:=hc
      subst hH
      obtain ⟨e,hk⟩:=castK_some hk
      subst e
      obtain ⟨vs,us,Gi,g1,g2,g3,g4,g5,g6⟩:=ih (j+1) es hp hnd'.2 hj' hk
      have hi:i < σ.n:=by
       grind [get_out]
      have hs:=h.slots i hi
      rw[hg] at hs
      obtain ⟨b,o,L,F1,s1,s2,s3,s4,s5,s6⟩:=hs
      have hptr:=h.lentP i j (lent_mem hlent)
      have hiu:i ∉ us:=fun hu=>hnd'.1 (g2 i hu)
      have hfit:∃ G:FP,(∀ b k,G b k<=F1 b k)/\∀ A2:Cells,(∀ b i,A b i->A2 b i)->(∀ b i,1<=F1 b i->G b i=0->A2 b i)->Rep P w A2 t' m [] v L G:=by
       rcases hm with hm | hm
       ·subst hm
        exact ⟨F1,fun _ _=>Nat.le_refl _,fun A2 hA _=>Rep.mono hA (fun _ _ _ _ h=>h) (fun _ _ h=>h) t' s6 (fun _ _=>Nat.le_refl _) (fun _ _ _ _ h=>h)⟩
       ·exact Rep.fits t' hm s6 (fun b' k=>by grind)
      obtain ⟨G,G1,G2⟩:=hfit
      refine ⟨(v,vs),i::us,updF Gi i fun b' k=>rng b o t'.sz b' k+G b' k,g1,fun i' hi'=>?_,List.nodup_cons.2 ⟨hiu,g3⟩,fun i' hi'=>?_,fun i' b' k hi'=>?_,fun A2 hA hgv=>?_⟩
      ·grind
      ·grind
      ·by_cases hii:i'=i
       ·grind [updF]
       ·simp only[updF,if_neg hii]
        grind
      ·refine ⟨fun b' k=>rng b o t'.sz b' k+G b' k,sumL Gi us,fun b' k=>?_,⟨b,o,L,G,by grind,s2,s3,fun _ _=>Nat.le_refl _,G2 A2 hA fun b' k hp hz=>?_⟩,?_⟩
       ·grind [sumL,sumL_upd,updF]
       ·grind [updF]
       ·rw[htail]
        refine g6 A2 hA fun i' b' k hi' hp hz=>hgv i' b' k (List.mem_cons_of_mem _ hi') hp ?_
        have hne:i'≠i:=fun e=>by grind
        simp only[updF,if_neg hne];exact hz
     ·cases hk
    ·cases hk
  | muts m=>
   cases es with
   | nil=>cases hk
   | cons i es=>
    have hnd':=List.nodup_cons.1 hnd
    simp only[mutsK] at hk
    have main:∀ (t':Ty) (m':Md) (H:List Path) (v:t'.den),(σ.get i=.own t' m' H v\/σ.get i=.box t' m' H v)->(if H.isEmpty&&(decide (m'=m)||fits m' m)&&isLent σ.lent i j true then castK t' t v fun v=>mutsK σ (j+1) ps es fun vs=>K (v,vs) else none)=some x ->
      ∃ (vs:(tupT (mutTys ((PM.muts m,t)::ps))).den) (us:List Nat) (Gi:Nat->FP),K vs=some x/\(∀ i' ∈ us,i' ∈ i::es)/\us.Nodup/\(∀ i ∈ us,i < σ.n)/\(∀ i b k,i ∈ us->Gi i b k<=F i b k) /\
       ∀ A2:Cells,(∀ b k,A b k->A2 b k)->(∀ i b k,i ∈ us->1<=F i b k->Gi i b k=0->A2 b k)->MutsRel P w A2 ((PM.muts m,t)::ps) vs (C.args.toList.drop j) (sumL Gi us):=by
     intro t' m' H v hg hk
     split at hk
     ·rename_i hc
      simp only[Bool.and_eq_true,List.isEmpty_iff,Bool.or_eq_true,decide_eq_true_eq] at hc
      obtain ⟨⟨hH,hm⟩,hlent⟩:=hc
      subst hH
      obtain ⟨e,hk⟩:=castK_some hk
      subst e
      obtain ⟨vs,us,Gi,g1,g2,g3,g4,g5,g6⟩:=ih (j+1) es hp hnd'.2 hj' hk
      have hi:i < σ.n:=by
       grind [get_out]
      have hs:=h.slots i hi
      have hrep:∃ (cs:List Value) (F1:FP),mkV t' cs=C.args.getD j undef/\(∀ b k,F1 b k<=F i b k)/\Rep P w A t' m' [] v cs F1:=by
       have hl:=h.lentS i j (lent_mem hlent)
       rcases hg with hg | hg
       ·rw[hg] at hs hl
        obtain ⟨cs,h1,h2⟩:=hs
        have:=hl _ rfl
        grind [mkV_cells,Rep.length,Rep.one]
       ·rw[hg] at hs hl
        obtain ⟨b,o,L,F1,s1,s2,s3,s4,s5,s6⟩:=hs
        rw[s1] at hl
        have:=hl _ rfl
        grind [rd_of_has]
      obtain ⟨cs1,F1,hcs1,hF,s6⟩:=hrep
      have hiu:i ∉ us:=fun hu=>hnd'.1 (g2 i hu)
      have hfit:∃ G:FP,(∀ b k,G b k<=F1 b k)/\∀ A2:Cells,(∀ b i,A b i->A2 b i)->(∀ b i,1<=F1 b i->G b i=0->A2 b i)->Rep P w A2 t' m [] v cs1 G:=by
       rcases hm with hm | hm
       ·subst hm
        exact ⟨F1,fun _ _=>Nat.le_refl _,fun A2 hA _=>Rep.mono hA (fun _ _ _ _ h=>h) (fun _ _ h=>h) t' s6 (fun _ _=>Nat.le_refl _) (fun _ _ _ _ h=>h)⟩
       ·exact Rep.fits t' hm s6 (fun b' k=>by grind)
      obtain ⟨G,G1,G2⟩:=hfit
      refine ⟨(v,vs),i::us,updF Gi i G,g1,fun i' hi'=>?_,List.nodup_cons.2 ⟨hiu,g3⟩,fun i' hi'=>?_,fun i' b' k hi'=>?_,fun A2 hA hgv=>?_⟩
      ·grind
      ·grind
      ·by_cases hii:i'=i
       ·subst hii
        simp only[updF,if_true]
        grind
       ·simp only[updF,if_neg hii]
        grind
      ·refine ⟨G,sumL Gi us,fun b' k=>?_,⟨cs1,by rw[hhead,hcs1],G2 A2 hA fun b' k hp hz=>?_⟩,?_⟩
       ·simp only[sumL,sumL_upd Gi i _ b' k us hiu]
        simp only[updF,if_true];exact Nat.le_refl _
       ·refine hgv i b' k List.mem_cons_self (by grind) ?_
        simp only[updF,if_true];exact hz
       ·rw[htail]
        refine g6 A2 hA fun i' b' k hi' hp hz=>hgv i' b' k (List.mem_cons_of_mem _ hi') hp ?_
        have hne:i'≠i:=fun e=>by grind
        simp only[updF,if_neg hne];exact hz
     ·cases hk
    split at hk
    ·rename_i t' m' H v hg;exact main t' m' H v (.inl hg) hk
    ·rename_i t' m' H v hg;exact main t' m' H v (.inr hg) hk
    ·cases hk
end
end OT
set_option linter.unusedVariables false
set_option linter.unusedSimpArgs false
namespace OT
open Go
section
variable {P:Program} {w:World} {A:Cells} {R:Type} {x:R} {E:Env}
theorem init_len:∀ (ps:List (PM×Ty)) (v:(tupT (ps.map (·.2))).den),(initSlots ps v).length=ps.length
 | [],_=>rfl
 | (.ro,t)::ps,v=>by cases t <;> simp[initSlots,init_len ps v.2]
 | (.fix f,t)::ps,v=>by cases t <;> simp[initSlots,init_len ps v.2]
 | (.mutp m m',t)::ps,v=>by simp[initSlots,init_len ps v.2]
 | (.muts m,t)::ps,v=>by simp[initSlots,init_len ps v.2]
 | (.eat m,t)::ps,v=>by simp[initSlots,init_len ps v.2]
 | (.eatv m,t)::ps,v=>by simp[initSlots,init_len ps v.2]
theorem args_len:∀ (ps:List (PM×Ty)) {v:(tupT (ps.map (·.2))).den} {xs:List Value} {G:FP},ArgsRel P w A noH ps v xs G->xs.length=ps.length
 | [],_,_,_,h=>by have h:_=[]:=h;rw[h];rfl
 | (pm,t)::ps,_,_,_,h=>by
  obtain ⟨y,ys,F1,F2,rfl,_,_,h2⟩:=h
  simp[args_len ps h2]
theorem init_ok:∀ (ps:List (PM×Ty)) {v:(tupT (ps.map (·.2))).den} {xs:List Value} {G:FP},ArgsRel P w A noH ps v xs G->psOk ps=true ->
  ∃ Fi:Nat->FP,(∀ b k,sumF ps.length Fi b k<=G b k)/\∀ i s,(initSlots ps v)[i]?=some s->∃ y,xs[i]?=some y/\(∀ σ a,SlotRel P A σ a w y s (Fi i))/\(∀ t m H v,s=.box t m H v->(i,i,false) ∈ lentOf 0 ps) /\
   ((i,i,true) ∈ lentOf 0 ps->∃ t m H v,s=.own t m H v):=by
 have main:∀ (ps:List (PM×Ty)) (n:Nat) {v:(tupT (ps.map (·.2))).den} {xs:List Value} {G:FP},ArgsRel P w A noH ps v xs G->psOk ps=true ->
   ∃ Fi:Nat->FP,(∀ b k,sumF ps.length Fi b k<=G b k)/\∀ i s,(initSlots ps v)[i]?=some s->∃ y,xs[i]?=some y/\(∀ σ a,SlotRel P A σ a w y s (Fi i))/\(∀ t m H v,s=.box t m H v->(n+i,n+i,false) ∈ lentOf n ps) /\
    ((n+i,n+i,true) ∈ lentOf n ps->∃ t m H v,s=.own t m H v):=by
  have hlt:∀ (ps:List (PM×Ty)) (n j k:Nat) (c:Bool),(j,k,c) ∈ lentOf n ps->n<=j/\j=k:=by
   intro ps
   induction ps with
   | nil=>intro n j k c h;cases h
   | cons p ps ih=>
    intro n j k c h
    obtain ⟨pm,t⟩:=p
    cases pm with
    | ro=>have:=ih (n+1) j k c h;omega
    | fix f=>have:=ih (n+1) j k c h;omega
    | eatv m=>have:=ih (n+1) j k c h;omega
    | mutp m m'=>
     rcases List.mem_cons.1 h with e | h
     all_goals grind
    | eat m=>
     rcases List.mem_cons.1 h with e | h
     all_goals grind
    | muts m=>
     rcases List.mem_cons.1 h with e | h
     all_goals grind
  intro ps
  induction ps with
  | nil=>intro n v xs G h _;exact ⟨fun _ _ _=>0,fun b k=>Nat.zero_le _,fun i s hs=>by cases hs⟩
  | cons p ps ih=>
   intro n v xs G h hp
   obtain ⟨pm,t⟩:=p
   obtain ⟨y,ys,F1,F2,rfl,hs,ha,hr⟩:=h
   have hp':psOk ps=true:=hp
   obtain ⟨Fi,g1,g2⟩:=ih (n+1) hr hp'
   obtain ⟨s0,hs0,hrel,hbox,hown⟩:∃ s0,initSlots ((pm,t)::ps) v=s0::initSlots ps v.2/\(∀ σ a,SlotRel P A σ a w y s0 F1)/\(∀ t' m' H' v',s0=.box t' m' H' v'->∃ m,(∃ m',pm=.mutp m m')\/pm=.eat m)/\((∃ m,pm=.muts m)->∃ t' m H v,s0=.own t' m H v):=by
    cases pm with
    | ro=>
     obtain ⟨cs,h1,h2⟩:=ha
     cases t with
     | ptr e=>
      refine ⟨.cp e v.1,rfl,fun σ a=>?_,(fun _ _ _ _ e=>by cases e),fun ⟨m,e⟩=>by cases e⟩
      have hl:=Ro.length _ h2
      match cs,hl with
      | [u],_=>
       rw[mkV_one _ _ rfl] at h1
       subst h1
       exact h2
     | _=>exact ⟨.val _ v.1,rfl,fun σ a=>⟨cs,h1,h2⟩,(fun _ _ _ _ e=>by cases e),fun ⟨m,e⟩=>by cases e⟩
    | fix f=>
     obtain ⟨⟨cs,h1,h2⟩,h3⟩:=ha
     cases t with
     | fn=>
      refine ⟨.val .fn (f,v.1.2),rfl,fun σ a=>⟨cs,h1,?_⟩,(fun _ _ _ _ e=>by cases e),fun ⟨m,e⟩=>by cases e⟩
      grind
     | _=>exact ⟨.dead,rfl,fun σ a=>trivial,(fun _ _ _ _ e=>by cases e),fun ⟨m,e⟩=>by cases e⟩
    | mutp m m'=>
     obtain ⟨b,o,L,F3,h1,h2,h3,h4,h5,h6⟩:=ha
     exact ⟨.box t m [] v.1,rfl,fun σ a=>⟨b,o,L,F3,h1,h2,h3,h4,h5,h6⟩,fun _ _ _ _ _=>⟨m,.inl ⟨m',rfl⟩⟩,fun ⟨m,e⟩=>by cases e⟩
    | eat m=>
     obtain ⟨b,o,L,F3,h1,h2,h3,h4,h5,h6⟩:=ha
     exact ⟨.box t m [] v.1,rfl,fun σ a=>⟨b,o,L,F3,h1,h2,h3,h4,h5,h6⟩,fun _ _ _ _ _=>⟨m,.inr rfl⟩,fun ⟨m,e⟩=>by cases e⟩
    | muts m=>
     obtain ⟨cs,h1,h2⟩:=ha
     exact ⟨.own t m [] v.1,rfl,fun σ a=>⟨cs,h1,h2⟩,(fun _ _ _ _ e=>by cases e),fun _=>⟨_,_,_,_,rfl⟩⟩
    | eatv m=>
     obtain ⟨H,cs,hH,h1,h2⟩:=ha
     obtain rfl:=List.isEmpty_iff.1 hH
     exact ⟨.own t m [] v.1,rfl,fun σ a=>⟨cs,h1,h2⟩,(fun _ _ _ _ e=>by cases e),fun _=>⟨_,_,_,_,rfl⟩⟩
   refine ⟨fun k=>match k with | 0=>F1 | k+1=>Fi k,fun b k=>?_,fun i s hi=>?_⟩
   ·have:sumF (ps.length+1) (fun k=>match k with | 0=>F1 | k+1=>Fi k) b k=F1 b k+sumF ps.length Fi b k:=by
     rw[Nat.add_comm,sumF_add]
     grind [sumF]
    grind
   ·rw[hs0] at hi
    cases i with
    | zero=>
     injection hi with hi
     subst hi
     refine ⟨y,rfl,hrel,fun t' m' H' v' e=>?_,fun hm=>?_⟩
     ·obtain ⟨m,⟨_,rfl⟩ | rfl⟩:=hbox t' m' H' v' e
      ·exact List.mem_cons_self
      ·exact List.mem_cons_self
     ·refine hown ?_
      cases pm with
      | muts m=>exact ⟨m,rfl⟩
      | ro=>have:=hlt ps (n+1) _ _ _ hm;omega
      | fix f=>have:=hlt ps (n+1) _ _ _ hm;omega
      | eatv m=>have:=hlt ps (n+1) _ _ _ hm;omega
      | mutp m m'=>
       rcases List.mem_cons.1 hm with e | hm
       all_goals grind
      | eat m=>
       rcases List.mem_cons.1 hm with e | hm
       all_goals grind
    | succ i=>
     obtain ⟨y',q1,q2,q3,q4⟩:=g2 i s hi
     have hidx:n+1+i=n+(i+1):=by omega
     rw[hidx] at q3 q4
     refine ⟨y',q1,q2,fun t' m' H' v' e=>?_,fun hm=>q4 ?_⟩
     ·have:=q3 t' m' H' v' e
      cases pm with
      | ro=>exact this
      | fix f=>exact this
      | eatv m=>exact this
      | mutp m m'=>exact List.mem_cons_of_mem _ this
      | eat m=>exact List.mem_cons_of_mem _ this
      | muts m=>exact List.mem_cons_of_mem _ this
     ·cases pm with
      | ro=>exact hm
      | fix f=>exact hm
      | eatv m=>exact hm
      | mutp m m'=>
       rcases List.mem_cons.1 hm with e | hm
       all_goals grind
      | eat m=>
       rcases List.mem_cons.1 hm with e | hm
       all_goals grind
      | muts m=>
       rcases List.mem_cons.1 hm with e | hm
       all_goals grind
 intro ps v xs G h hp
 obtain ⟨Fi,g1,g2⟩:=main ps 0 h hp
 exact ⟨Fi,g1,fun i s hi=>by grind⟩
theorem lent_idx:∀ (ps:List (PM×Ty)) (n j k:Nat) (c:Bool),(j,k,c) ∈ lentOf n ps->n<=j/\j=k/\j < n+ps.length:=by
 intro ps
 induction ps with
 | nil=>intro n j k c h;cases h
 | cons p ps ih=>
  intro n j k c h
  obtain ⟨pm,t⟩:=p
  simp only[List.length_cons]
  cases pm with
  | ro=>have:=ih (n+1) j k c h;omega
  | fix f=>have:=ih (n+1) j k c h;omega
  | eatv m=>have:=ih (n+1) j k c h;omega
  | mutp m m'=>
   rcases List.mem_cons.1 h with e | h
   all_goals grind
  | eat m=>
   rcases List.mem_cons.1 h with e | h
   all_goals grind
  | muts m=>
   rcases List.mem_cons.1 h with e | h
   all_goals grind
theorem look_num:∀ (ss:List Slot) (n i:Nat),lookN (numbered n ss) i=if n<=i then ss[i - n]? else none
 | [],n,i=>by simp[numbered,lookN]
 | s::ss,n,i=>by
  simp only[numbered,lookN,look_num ss (n+1) i]
  by_cases hi:n=i
  ·simp_all
  grind [Nat.eq_of_beq_eq_true]
theorem begin_ok {g:Sig} {v:(tupT (g.ps.map (·.2))).den} {xs:List Value} {F0:FP} {n:Nat} (h:ArgsRel P w A noH g.ps v xs F0) (hp:psOk g.ps=true) (hn:g.ps.length<=n) (h1:∀ b i,F0 b i<=1) (h2:∀ b i,1<=F0 b i->¬ A b i) (h3:∀ b i,1<=F0 b i\/A b i->b < w.heap.size) (htab:TabAt P w F0) :
  ∃ F,Rel0 P { w0:=w,A0:=A,F0:=F0,args:=xs.toArray } A (initSt g.ps v n) { tmps:=xs.toArray++Array.replicate (n - xs.toArray.size) undef,defers:=[] } w F:=by
 obtain ⟨Fi,g1,g2⟩:=init_ok g.ps h hp
 have hlen:=args_len g.ps h
 have hil:=init_len g.ps v
 have hget:∀ i,(initSt g.ps v n).get i=if i < n then (match (initSlots g.ps v)[i]? with | some s=>s | none=>.dead) else .dead:=fun i=>by
  grind [St.get,initSt,look_num,Nat.blt_eq]
 have htmp:∀ i (y:Value),xs[i]?=some y->tmp { tmps:=xs.toArray++Array.replicate (n - xs.toArray.size) undef,defers:=[] } i=y:=fun i y hy=>by
  have hi:=(List.getElem?_eq_some_iff.1 hy).1
  simp_all [tmp,Array.getElem?_append_left]
 have hsum:∀ b k,sumF n (fun i=>if i < g.ps.length then Fi i else fun _ _=>0) b k<=F0 b k:=fun b k=>by
  have e:n=g.ps.length+(n - g.ps.length):=by omega
  rw[e,sumF_add]
  have e1:=congrFun (congrFun (sumF_congr (n:=g.ps.length) (f:=fun i=>if i < g.ps.length then Fi i else fun _ _=>0) (g:=Fi) (fun j hj=>by grind)) b) k
  grind [sumF_zero]
 refine ⟨fun i=>if i < g.ps.length then Fi i else fun _ _=>0,?_,rfl,fun i hi=>?_,(fun d r p snap hm=>by cases hm),fun b k=>?_,fun b k hp=>?_,fun b k hp=>?_,fun i=>rfl,Ext.refl _ _,fun b k hp=>?_,fun _ _ h=>h,fun _ _ h=>.inl h,fun j k hm=>?_,fun r t m H v' hg hl=>?_,fun j k hm R hR=>?_,htab⟩
 ·grind [initSt]
 ·rw[hget]
  have hi:i < n:=hi
  rw[if_pos hi]
  cases hs:(initSlots g.ps v)[i]? with
  | none=>trivial
  | some s=>
   grind
 ·have:=hsum b k;have:=h1 b k;show 0+sumF n _ b k<=1;omega
 ·have hp:1<=0+sumF n (fun i=>if i < g.ps.length then Fi i else fun _ _=>0) b k:=hp
  grind
 ·refine h3 b k (hp.imp (fun hp=>?_) id)
  have hp:1<=0+sumF n (fun i=>if i < g.ps.length then Fi i else fun _ _=>0) b k:=hp
  grind
 ·have hp:1<=0+sumF n (fun i=>if i < g.ps.length then Fi i else fun _ _=>0) b k:=hp
  grind
 ·obtain ⟨_,rfl,hj⟩:=lent_idx g.ps 0 j k false hm
  simp_all
 ·exfalso
  rw[hget] at hg
  split at hg
  ·cases hs:(initSlots g.ps v)[r]? with
   | none=>grind
   | some s=>
    rw[hs] at hg
    obtain ⟨y,_,_,q3,_⟩:=g2 r s hs
    exact hl r (q3 t m H v' hg)
  ·cases hg
 ·obtain ⟨_,rfl,hj⟩:=lent_idx g.ps 0 j k true hm
  have hj':j < (initSlots g.ps v).length:=by omega
  have hs:=List.getElem?_eq_getElem hj'
  obtain ⟨y,q1,q2,_,q4⟩:=g2 j _ hs
  obtain ⟨t,m,H,v',e⟩:=q4 hm
  have hjn:j < n:=by omega
  rw[hget,if_pos hjn,hs] at hR
  simp only[e,rootPl,Option.some.injEq] at hR
  subst hR
  rw[htmp j y q1]
  have h2:=q2 (initSt g.ps v n) { tmps:=#[],defers:=[] }
  rw[e] at h2
  obtain ⟨cs,c1,c2⟩:=h2
  have:=mkV_cells (Rep.length _ c2) (Rep.one _ c2)
  simp_all
noncomputable def funOk (P:Program) (E:Env) (fn:Func) (ps:List (PM×Ty)) (rs:List (Ty×Md)) (es:List Nat):Bool:=
 codeOk P E (bodyOf fn)&&rvOk E rs fn.results.toList&&psOk ps&&Nat.ble ps.length fn.ntmps&&decide es.Nodup
theorem sound_of_body (hE:EnvOk P E) {f:FuncId} {fn:Func} (hf:P.funcs[f]?=some fn) (hb:fn.body.isSome=true) {g:Sig} (hh:∀ v H,g.hol v H=true->H=[]) {es fr:List Nat} (hok:funOk P E fn g.ps g.rs es=true) (hF:∀ v out,g.F v=some out->∃ k,bodyK E k fn g.ps g.rs es fr v=some out):Sound P f g:=by
 intro w A F0 v xs hargs h1 h2 h3 htab out hout
 replace hargs:=hargs.none (hh v)
 obtain ⟨k,hk⟩:=hF v out hout
 simp only[funOk,Bool.and_eq_true,Nat.ble_eq,decide_eq_true_eq] at hok
 obtain ⟨⟨⟨⟨hcode,hrv⟩,hps⟩,hnt⟩,hnd⟩:=hok
 obtain ⟨c,hc⟩:=Option.isSome_iff_exists.1 hb
 have hbo:bodyOf fn=c:=by simp[bodyOf,hc]
 rw[hbo] at hcode
 obtain ⟨F,hrel⟩:=begin_ok hargs hps hnt h1 h2 h3 htab
 unfold bodyK at hk
 rw[hbo] at hk
 have hxl:=args_len g.ps hargs
 have hend:∀ (a':Act) (w':World) (σ':St),outK g.ps g.rs es fn.results.toList (mvs fr) σ'=some out->RelE P { w0:=w,A0:=A,F0:=F0,args:=xs.toArray } σ' a' w' ->
   a'.defers=[]/\∃ rv,(results fn a'.tmps).run P w'=.ok rv w'/\(∃ rv',Ending.returned rv=.returned rv'/\Ext w w' F0/\∃ (A':Cells) (G GR GM:FP),(∀ b i,A b i->A' b i)/\(∀ b i,A' b i->A b i\/1<=F0 b i\/w.heap.size<=b) /\
    (∀ b i,1<=G b i->1<=F0 b i\/w.heap.size<=b)/\(∀ b i,G b i<=1)/\(∀ b i,1<=G b i->¬ A' b i)/\(∀ b i,1<=G b i\/A' b i->b < w'.heap.size)/\(∀ b i,GR b i+GM b i<=G b i) /\
    RetRel P w' A' (splitR g.rs out).1 rv' GR/\MutsRel P w' A' g.ps (splitR g.rs out).2 xs GM):=by
  intro a' w' σ' ho hr
  obtain ⟨A1,F1,hr⟩:=hr
  unfold outK at ho
  obtain ⟨A2,σ2,X2,F2,vals,L,Fi,pre,r1,r2,r3,r4,r5,r6,r7,r8,r9⟩:=res_ok hE g.rs fn.results.toList 0 hrv hr ho
  obtain ⟨vs,us,Gi,m1,m2,m3,m4,m5,m6⟩:=muts_ok r2 0 g.ps es hps hnd (by simp[hxl]) r3
  have hpre:pre vs=out:=Option.some.inj m1
  have hsp:splitR g.rs out=(L,vs):=by rw[<-hpre,r4]
  have hGR:∀ b i,sumF L.length Fi b i<=X2 b i:=fun b i=>by grind
  have hGM0:∀ b i,sumL Gi us b i<=sumL F2 us b i:=fun b i=>by
   have:∀ l:List Nat,(∀ j ∈ l,j ∈ us)->sumL Gi l b i<=sumL F2 l b i:=by
    intro l
    induction l <;> grind [sumL]
   grind
  have hGM:∀ b i,sumL Gi us b i<=sumF σ2.n F2 b i:=fun b i=>Nat.le_trans (hGM0 b i) (sumL_le us F2 m3 m4 b i)
  refine ⟨r2.defers,_,results_run (by rw[r6]) r7,_,rfl,r2.ext,?_⟩
  obtain ⟨A3,hA3⟩:∃ A3:Cells,∀ b i,A3 b i↔(A2 b i\/(1<=X2 b i+sumF σ2.n F2 b i/\sumF L.length Fi b i+sumL Gi us b i=0)):=⟨fun b i=>A2 b i\/(1<=X2 b i+sumF σ2.n F2 b i/\sumF L.length Fi b i+sumL Gi us b i=0),fun _ _=>Iff.rfl⟩
  have hA23:∀ b i,A2 b i->A3 b i:=fun b i h=>(hA3 b i).2 (.inl h)
  have htot:∀ b i,X2 b i+sumF σ2.n F2 b i<=1:=fun b i=>r2.tot b i
  refine ⟨A3,fun b i=>sumF L.length Fi b i+sumL Gi us b i,sumF L.length Fi,sumL Gi us,fun b i ha=>hA23 b i (r2.a0 b i ha),fun b i ha=>?_,fun b i hp=>?_,fun b i=>?_,fun b i hp ha=>?_,fun b i hp=>?_,fun _ _=>Nat.le_refl _,?_,?_⟩
  ·rcases (hA3 b i).1 ha with ha | ⟨hp,_⟩
   ·exact r2.a1 b i ha
   ·exact .inr (r2.own b i hp)
  ·have hp:1<=sumF L.length Fi b i+sumL Gi us b i:=hp
   exact r2.own b i (by grind)
  ·grind
  ·have hp:1<=sumF L.length Fi b i+sumL Gi us b i:=hp
   rcases (hA3 b i).1 ha with ha | ⟨_,hz⟩
   ·exact r2.dis b i (by grind) ha
   ·omega
  ·rcases hp with hp | ha
   ·have hp:1<=sumF L.length Fi b i+sumL Gi us b i:=hp
    exact r2.bnd b i (.inl (by grind))
   ·rcases (hA3 b i).1 ha with ha | ⟨hp,_⟩
    ·exact r2.bnd b i (.inr ha)
    ·exact r2.bnd b i (.inl hp)
  ·rw[hsp]
   have hres:=r9 A3 hA23 (fun b i hx _ hz=>(hA3 b i).2 (.inr ⟨by omega,by
    grind⟩))
   show RetRel P w' A3 L _ _
   match L,r5,hres with
   | [],_,_=>trivial
   | [y],hl,hres=>
    match vals,hl with
    | [u],_=>
     obtain ⟨u',cs,e1,e2,e3⟩:=hres 0 y rfl
     injection e1 with e1
     subst e1
     refine ⟨cs,by simpa using e2,e3.le fun b i=>by simp[sumF]⟩
   | y::z::L,hl,hres=>
    refine ⟨vals.toArray,Fi,?_,fun _ _=>Nat.le_refl _,fun j q hq=>?_⟩
    all_goals grind
  grind [le_sumF,sumL_pos,le_sumF2]
 refine calls_of_wp hf hc (wp_mono (code_ok hE c hcode hrel hk) fun e a' w' hq=>?_)
 cases e with
 | normal=>obtain ⟨σ',h4,h5⟩:=hq;exact hend a' w' σ' h4 h5
 | ret=>obtain ⟨σ',h4,h5⟩:=hq;exact hend a' w' σ' h4 h5
 | exit j=>obtain ⟨σ',h4,h5⟩:=hq;cases h4
 | _=>exact hq.elim
end
end OT
set_option linter.unusedVariables false
set_option linter.unusedSimpArgs false
namespace OT
open Go
def OLD (w:World):Cells:=fun b _=>b < w.heap.size
def argT:Ty->Bool
 | .int _ | .bool | .str | .unit=>true
 | .pair a b=>argT a&&argT b
 | .slc e=>argT e
 | _=>false
def okD:(T:Ty)->T.den->Prop
 | .int k,n=>k.min<=toI k n/\toI k n<=k.max
 | .str,s=>List.length s<=maxLen
 | .pair a b,v=>okD a v.1/\okD b v.2
 | .slc e,v=>List.length v<=maxLen/\∀ x ∈ (v:List e.den),okD e x
 | _,_=>True
def okA:(ps:List (PM×Ty))->(tupT (ps.map (·.2))).den->Prop
 | [],_=>True
 | (_,T)::ps,v=>okD T v.1/\okA ps v.2
section
variable {P:Program} {w:World} {H:Type} {enc:TypeId×Value->H}
theorem cells_sz {T:Ty} {i:TypeId} (h:layB P T (.inl i)=true):P.cellsOf i=T.sz:=by
 obtain ⟨inf,h1,h2,_⟩:=infoOk_some (layB_info h)
 grind [Program.cellsOf]
theorem add_none {a:Addr} {k:Nat} {u:Value} (h:w.cell? (a.add k)=some u) (hk:k=0\/a.spot=none):a.spot=none:=by
 rcases hk with rfl | hk
 ·unfold Addr.add at h
  rw[if_pos rfl] at h
  unfold World.cell? at h
  split at h
  all_goals simp_all
 ·exact hk
theorem trod_ro:∀ (T:Ty),argT T=true ->
  (∀ i,layB P T (.inl i)=true->∀ fuel cs x,DataW.trod enc P w 0 (fun _=>true) true fuel i cs=some x->∃ v:T.den,okD T v/\Ro P w (OLD w) T v cs) /\
  (∀ fs off,layB P T (.inr (fs,off))=true->∀ n (cs:List Value),cs.length=off+T.sz->(∀ f ∈ fs,∃ x,DataW.trod enc P w 0 (fun _=>true) true n f.type ((cs.drop f.offset).take (P.cellsOf f.type))=some x)->∃ v:T.den,okD T v/\Ro P w (OLD w) T v (cs.drop off)):=by
 intro T
 induction T with
 | int k=>
  intro _
  refine ⟨fun i hl fuel cs x h=>?_,fun fs off hl=>by simp[layB] at hl⟩
  obtain ⟨n,rfl,_,hwf⟩:=DataW.trod_int (lay_int hl) h
  simp only[Lit.wf,Bool.and_eq_true,decide_eq_true_eq] at hwf
  cases k with
  | u8=>
   have h1:toI .u8 (UInt8.ofInt n)=n:=by
    have:=toI_inI .u8 n (fun _=>by
     have h1:(0:Int)<=n:=hwf.1
     have h2:n<=(255:Int):=hwf.2
     omega)
    exact this
   refine ⟨(UInt8.ofInt n:UInt8),?_,?_⟩
   ·show IntKind.u8.min<=toI .u8 (UInt8.ofInt n)/\toI .u8 (UInt8.ofInt n)<=IntKind.u8.max
    grind
   ·show [Value.int .u8 n]=[Value.int .u8 (toI .u8 (UInt8.ofInt n))]
    rw[h1]
  | _=>exact ⟨n,hwf,rfl⟩
 | bool=>
  intro _
  refine ⟨fun i hl fuel cs x h=>?_,fun fs off hl=>by simp[layB] at hl⟩
  have hu:P.underlying i=some .bool:=by
   grind [layB]
  obtain ⟨b,rfl,_⟩:=DataW.trod_bool hu h
  exact ⟨b,trivial,rfl⟩
 | str=>
  intro _
  refine ⟨fun i hl fuel cs x h=>?_,fun fs off hl=>by simp[layB] at hl⟩
  obtain ⟨s,rfl,_,hsm⟩:=DataW.trod_string (lay_str hl) h
  exact ⟨s.data.toList,(by show s.data.toList.length<=maxLen;simp_all),by simp only[Ro]⟩
 | unit=>
  intro _
  refine ⟨fun i hl fuel cs x h=>?_,fun fs off hl n cs hlen _=>⟨(),trivial,?_⟩⟩
  ·simp only[layB,Bool.and_eq_true] at hl
   have h2:=hl.2
   split at h2
   ·rename_i fs hu
    obtain ⟨xs,n,_,_,hlen,_⟩:=DataW.trod_struct hu h
    have hsz:P.cellsOf i=0:=by
     grind [infoOk_some,Program.cellsOf,Ty.sz]
    rw[hsz] at hlen
    exact ⟨(),trivial,by grind [Ro]⟩
   ·cases h2
  grind [Ro,List.drop_of_length_le,Ty.sz]
 | pair a b iha ihb=>
  intro ha
  simp only[argT,Bool.and_eq_true] at ha
  have hinr:∀ fs off,layB P (.pair a b) (.inr (fs,off))=true->∀ n (cs:List Value),cs.length=off+(Ty.pair a b).sz->(∀ f ∈ fs,∃ x,DataW.trod enc P w 0 (fun _=>true) true n f.type ((cs.drop f.offset).take (P.cellsOf f.type))=some x)->∃ v:(Ty.pair a b).den,okD (.pair a b) v/\Ro P w (OLD w) (.pair a b) v (cs.drop off):=by
   intro fs off hl n cs hlen hf
   cases fs with
   | nil=>simp[layB] at hl
   | cons f r=>
    simp only[layB,Bool.and_eq_true,Nat.beq_eq,Nat.ble_eq] at hl
    obtain ⟨⟨⟨ho,_⟩,h1⟩,h2⟩:=hl
    simp only[Ty.sz] at hlen
    obtain ⟨x,hx⟩:=hf f List.mem_cons_self
    rw[ho,cells_sz h1] at hx
    obtain ⟨v1,o1,r1⟩:=(iha ha.1).1 _ h1 _ _ _ hx
    obtain ⟨v2,o2,r2⟩:=(ihb ha.2).2 r (off+a.sz) h2 n cs (by omega) (fun f' hf'=>hf f' (List.mem_cons_of_mem _ hf'))
    exact ⟨(v1,v2),⟨o1,o2⟩,r1,by simp_all⟩
  refine ⟨fun i hl fuel cs x h=>?_,hinr⟩
  have hl0:=hl
  simp only[layB,Bool.and_eq_true] at hl
  have h2:=hl.2
  split at h2
  ·rename_i fs hu
   split at h2
   ·rename_i f r hfs
    have h3:layB P (.pair a b) (.inr (f::r,0))=true:=by
     grind [layB]
    obtain ⟨xs,n,_,_,hlen,hxl,hfields⟩:=DataW.trod_struct hu h
    rw[cells_sz hl0] at hlen
    have:=hinr (f::r) 0 h3 n cs (by omega) (fun f' hf'=>by
     rw[<-hfs] at hf'
     obtain ⟨j,hj,e⟩:=List.mem_iff_getElem.1 hf'
     have hj':j < fs.size:=by simpa using hj
     have:=hfields j f' (by grind)
     grind)
    simpa using this
   ·cases h2
  ·cases h2
 | slc e ih=>
  intro ha
  simp only[argT] at ha
  refine ⟨fun i hl fuel cs x h=>?_,fun fs off hl=>by simp[layB] at hl⟩
  obtain ⟨el,hu,hsz,hle⟩:=lay_slc hl
  rcases DataW.trod_slice hu h with ⟨rfl,_⟩ | ⟨a,len,cap,elems,rest,n,_,rfl,_,_,hlc,hcm,hel,hels,hrest,_⟩
  ·exact ⟨[],⟨Nat.zero_le _,fun x hx=>by cases hx⟩,none,0,rfl,Nat.le_refl _,fun _=>rfl,fun ad e=>by cases e⟩
  ·rw[cells_sz hle] at hels hrest
   have hcell:∀ k y,(w.cells? 0 (a.add (k*e.sz)) e.sz).bind (DataW.trod enc P w 0 (fun _=>true) true n el)=some y->∃ cs',w.cells? 0 (a.add (k*e.sz)) e.sz=some cs'/\DataW.trod enc P w 0 (fun _=>true) true n el cs'=some y:=fun k y hk=>by
    cases hc:w.cells? 0 (a.add (k*e.sz)) e.sz <;> grind
   have hspot:0 < cap->a.spot=none:=fun hpos=>by
    have hfirst:∃ cs',w.cells? 0 (a.add (0*e.sz)) e.sz=some cs':=by
     by_cases hlen:0 < len
     ·have h0:=hels 0 hlen
      rw[List.getElem?_eq_getElem (by omega)] at h0
      obtain ⟨cs',h1,_⟩:=hcell 0 _ h0
      grind
     ·obtain rfl:len=0:=by omega
      obtain ⟨hr1,hr2⟩:=hrest rfl
      have h0:=hr2 0 (by omega)
      rw[List.getElem?_eq_getElem (by omega)] at h0
      obtain ⟨cs',h1,_⟩:=hcell (0+0) _ h0
      grind
    obtain ⟨cs',h1⟩:=hfirst
    obtain ⟨_,hl1,h2⟩:=World.cells?_some h1
    grind [Addr.add,add_none]
   have each:∀ k:Fin len,∃ v:e.den,okD e v/\∃ L:List Value,L.length=e.sz/\(∀ j u,L[j]?=some u->ce w a.block (a.off+k.val*e.sz+j)=some u/\OLD w a.block (a.off+k.val*e.sz+j))/\Ro P w (OLD w) e v L:=fun k=>by
    have h0:=hels k.val k.isLt
    rw[List.getElem?_eq_getElem (by grind)] at h0
    obtain ⟨cs',h1,h2⟩:=hcell k.val _ h0
    obtain ⟨v,ho,hv⟩:=(ih ha).1 _ hle _ _ _ h2
    obtain ⟨_,hl1,h3⟩:=World.cells?_some h1
    refine ⟨v,ho,cs',hl1,fun j u hu=>?_,hv⟩
    have hj:=(List.getElem?_eq_some_iff.1 hu).1
    have h4:=h3 j (by omega)
    rw[hu] at h4
    have hsp:=hspot (by grind)
    obtain ⟨b,off,sp⟩:=a
    simp only at hsp
    subst hsp
    rw[addr_add,addr_add] at h4
    have h5:ce w b (off+k.val*e.sz+j)=some u:=cell_ce h4 (Ro.one e hv u (List.mem_of_getElem? hu))
    exact ⟨h5,ce_lt h5⟩
   obtain ⟨f,hf⟩:=Classical.axiomOfChoice each
   refine ⟨List.ofFn f,⟨by simp;omega,fun x hx=>?_⟩,some a,cap,by simp,by simpa using hlc,(fun e=>by cases e),fun ad e=>?_⟩
   ·grind
   injection e with e
   subst e
   refine ⟨hspot,fun k y hk=>?_⟩
   rw[List.getElem?_ofFn] at hk
   split at hk
   ·rename_i hlt
    injection hk with hk
    subst hk
    exact (hf ⟨k,hlt⟩).2
   ·cases hk
 | _=>grind [argT]
theorem arg_val {T:Ty} (ha:argT T=true) {i:TypeId} (hl:layB P T (.inl i)=true) {r:Reach} {b0:Nat} {v:Value} (h:Value.okWide P w r b0 i v):v=mkV T v.cells.toList:=by
 cases T with
 | int k=>
  have hu:=lay_int hl
  cases v <;> simp[Value.okWide,Cell.okWide,Cell.ok,hu] at h <;> simp[mkV,isAgg,Value.cells]
 | bool=>
  have hu:P.underlying i=some .bool:=by
   grind [layB]
  cases v <;> simp[Value.okWide,Cell.okWide,Cell.ok,hu] at h <;> simp[mkV,isAgg,Value.cells]
 | str=>
  have hu:=lay_str hl
  cases v <;> simp[Value.okWide,Cell.okWide,Cell.ok,hu] at h <;> simp[mkV,isAgg,Value.cells]
 | slc e=>
  obtain ⟨el,hu,_⟩:=lay_slc hl
  cases v <;> simp[Value.okWide,Cell.okWide,Cell.ok,hu] at h <;> simp[mkV,isAgg,Value.cells]
 | unit=>
  simp only[layB,Bool.and_eq_true] at hl
  have h2:=hl.2
  split at h2
  ·rename_i fs hu
   simp only[Value.okWide,hu] at h
   obtain ⟨cs,rfl,_⟩:=h
   simp[mkV,isAgg,Value.cells]
  ·cases h2
 | pair a b=>
  simp only[layB,Bool.and_eq_true] at hl
  have h2:=hl.2
  split at h2
  ·rename_i fs hu
   simp only[Value.okWide,hu] at h
   obtain ⟨cs,rfl,_⟩:=h
   simp[mkV,isAgg,Value.cells]
  ·cases h2
 | _=>simp[argT] at ha
def roLay (P:Program):List (PM×Ty)->List TypeId->Bool
 | [],[]=>true
 | (.ro,T)::ps,t::ts=>argT T&&layB P T (.inl t)&&P.readableRec t&&Nat.blt t P.types.size&&roLay P ps ts
 | _,_=>false
theorem args_ro:∀ (ps:List (PM×Ty)) (ts:List TypeId) (args:List Value) (ds:List (DataW H)) (p:List MemPlace) {b0:Nat},roLay P ps ts=true->DataW.TrodAll enc P w 0 (fun _=>true) true ts args ds p ->
  (∀ (j:Nat) t v,ts[j]?=some t->args[j]?=some v->Value.okWide P w .any b0 t v)->∃ v,okA ps v/\ArgsRel P w (OLD w) noH ps v args (fun _ _=>0)
 | [],[],args,ds,p,b0,_,h,_=>by
  cases args with
  | nil=>exact ⟨(),trivial,rfl⟩
  | cons _ _=>simp[DataW.TrodAll] at h
 | (.ro,T)::ps,t::ts,args,ds,p,b0,hl,h,hok=>by
  simp only[roLay,Bool.and_eq_true] at hl
  cases args with
  | nil=>simp[DataW.TrodAll] at h
  | cons v args=>
   cases ds with
   | nil=>simp[DataW.TrodAll] at h
   | cons d ds=>
    obtain ⟨p1,q1,⟨fuel,h1⟩,h2,_⟩:=h
    obtain ⟨x,hox,hx⟩:=(trod_ro T hl.1.1.1.1).1 t hl.1.1.1.2 _ _ _ h1
    obtain ⟨xs,hoxs,hxs⟩:=args_ro ps ts args ds q1 (b0:=b0) hl.2 h2 (fun j t' v' ht hv=>hok (j+1) t' v' ht hv)
    exact ⟨(x,xs),⟨hox,hoxs⟩,v,args,fun _ _=>0,fun _ _=>0,rfl,fun _ _=>Nat.le_refl _,⟨_,arg_val hl.1.1.1.1 hl.1.1.1.2 (hok 0 t v rfl rfl),hx⟩,hxs⟩
theorem args_stay (hlo:laidOutB P=true) {W W':World} (hb:RowKit.Below W.heap.size W W') {sp:Nat->Bool}:∀ (ps:List (PM×Ty)) (ts:List TypeId) (args:List Value) (ds:List (DataW H)) (p:List MemPlace),roLay P ps ts=true->DataW.TrodAll enc P W 0 (fun _=>true) true ts args ds p ->
  (∀ x ∈ p,x.block < W.heap.size)->(∀ x ∈ p,sp x.block=true)->DataW.TrodAll enc P W' 0 sp true ts args ds p
 | [],[],args,ds,p,_,h,_,_=>by
  grind [DataW.TrodAll]
 | (.ro,T)::ps,t::ts,args,ds,p,hl,h,hlt,hsp=>by
  simp only[roLay,Bool.and_eq_true] at hl
  cases args with
  | nil=>simp[DataW.TrodAll] at h
  | cons v args=>
   cases ds with
   | nil=>simp[DataW.TrodAll] at h
   | cons d ds=>
    obtain ⟨p1,q1,h1,h2,rfl⟩:=h
    have ht:t < P.types.size:=by simp_all
    exact ⟨p1,q1,WideElems.Trod_stays hlo hl.1.1.2 ht h1 (fun x hx=>hb.same (hlt x (List.mem_append_left _ hx))) (fun x hx=>hsp x (List.mem_append_left _ hx)),
     args_stay hlo hb ps ts args ds q1 hl.2 h2 (fun x hx=>hlt x (List.mem_append_right _ hx)) (fun x hx=>hsp x (List.mem_append_right _ hx)),rfl⟩
theorem law_calls {f:FuncId} {cap:Bool} {ps:List (PM×Ty)} {Fn:(tupT (ps.map (·.2))).den->Option (tupT ([((Ty.bool,roMd .bool):Ty×Md)].map (·.1)++mutTys ps)).den} (hs:Sound P f { cap:=cap,ps:=ps,rs:=[(.bool,roMd .bool)],F:=Fn }) (htrue:∀ v,okA ps v->∃ u,Fn v=some (true,u))
  {ts:List TypeId} (hl:roLay P ps ts=true) {args:List Value} {ds:List (DataW H)} {p:List MemPlace} (hA:DataW.TrodAll enc P w 0 (fun _=>true) true ts args ds p) {b0:Nat} (hok:∀ (j:Nat) t v,ts[j]?=some t->args[j]?=some v->Value.okWide P w .any b0 t v) (ht:TabAt P w fun _ _=>0) :
  Calls P f args.toArray w fun e W'=>e=.returned (.bool true)/\RowKit.Below w.heap.size w W':=by
 obtain ⟨v,hov,hv⟩:=args_ro ps ts args ds p hl hA hok
 obtain ⟨u,hu⟩:=htrue v hov
 refine (hs w (OLD w) (fun _ _=>0) v args hv (fun _ _=>Nat.zero_le _) (fun b i h=>by omega) (fun b i h=>?_) ht _ hu).mono fun e W' h=>?_
 ·rcases h with h | h
  ·omega
  ·exact h
 ·obtain ⟨rv,rfl,hext,A',G,GR,GM,_,_,_,_,_,_,_,hret,_⟩:=h
  obtain ⟨cs,h1,h2⟩:=hret
  simp only[splitR] at h1 h2
  have h2:cs=[.bool true]:=h2
  subst h2
  exact ⟨by rw[h1];rfl,hext.os,hext.tape,hext.output,hext.size,fun b hb=>hext.obj b hb fun _=>rfl⟩
theorem law_post {C:Checked} {f:Func} {s:ChangeSpec} {W W':World} {args:Array Value} {ds:List (DataW H)} {p:List MemPlace} {apart fresh handsOn:Bool} (hlo:laidOutB P=true) {ps:List (PM×Ty)} {ts:List TypeId} (hts:f.params.toList=ts) (hl:roLay P ps ts=true) {tb:TypeId} (hr:f.resultTypes=#[tb]) (hu:P.underlying tb=some .bool)
  (hvars:s.vars=[]) (hW:DataW.Whole enc P f.params.toList s.vars apart W args.toList ds [] p) (hA:DataW.TrodAll enc P W 0 (fun _=>true) true ts args.toList ds p) (hfn:s.fn H (ds++[])={ results:=[.lit (.bool true)],args:=ds }) (hb:RowKit.Below W.heap.size W W') :
  s.post enc P f apart fresh handsOn false W args (.bool true) W':=by
 have hlt:∀ x ∈ p,x.block < W.heap.size:=fun x hx=>by simpa using hW.lt x hx
 refine ⟨ds,[],p,[],p,[],hW,?_,?_,?_,World.keptBut_mono (fun x hx=>⟨hx,.inr (.inl hx)⟩) (hb.frame (· ∈ p)),fun e=>by cases e⟩
 ·rw[hfn,hr]
  exact ⟨[],[],RowKit.shut_bool hu true,rfl,rfl⟩
 ·grind [args_stay]
 ·rw[hfn,hvars]
  rfl
end
end OT
namespace OT
open Go
def tiOk (P:Program) (l:List (Nat×Ty)):Bool:=l.all fun p=>layB P p.2 (.inl p.1)
def eqOkL (P:Program) (l:List (Nat×Ty)):Bool:=l.all fun p=>!(p.2.eqOk&&isAgg p.2)||(eqB P p.2 (.inl p.1)&&(P.eqGuardType P.depth p.1 == false)&&Nat.ble (dep p.2) 10000)
theorem look_mem {α:Type}:∀ {l:List (Nat×α)} {i:Nat} {x:α},lookN l i=some x->(i,x) ∈ l
 | (k,y)::l,i,x,h=>by
  simp only[lookN] at h
  split at h
  ·simp_all
  ·exact List.mem_cons_of_mem _ (look_mem h)
def FnOk (P:Program) (l:List (Nat×Sig)):Prop:=∀ f g,lookN l f=some g->Sound P f g/\EnterOk P f g.cap
theorem fn_nil (P:Program):FnOk P []:=fun f g h=>by cases h
theorem fn_cons {P:Program} {f:Nat} {g:Sig} {l:List (Nat×Sig)} (h1:Sound P f g) (h2:EnterOk P f g.cap) (h3:FnOk P l):FnOk P ((f,g)::l):=fun f' g' h=>by
 simp only[lookN] at h
 split at h
 ·simp_all
 ·exact h3 f' g' h
theorem env_ok {P:Program} {E:Env} {tl:List (Nat×Ty)} {gl:List (Nat×Sig)} (h1:E.TI=lookN tl) (h2:E.G=lookN gl) (h3:tiOk P tl=true) (h4:eqOkL P tl=true) (h5:FnOk P gl):EnvOk P E where
 ti i T h:=by rw[h1] at h;exact List.all_eq_true.1 h3 _ (look_mem h)
 eq i T h hq ha:=by
  rw[h1] at h
  have:=List.all_eq_true.1 h4 _ (look_mem h)
  simp_all
 fn f g h:=by rw[h2] at h;exact h5 f g h
def Ok (P:Program) (f:FuncId) (g:Sig):Prop:=Sound P f g/\EnterOk P f g.cap
theorem fc {P:Program} {f:Nat} {g:Sig} {l:List (Nat×Sig)} (h:Ok P f g) (h3:FnOk P l):FnOk P ((f,g)::l):=fn_cons h.1 h.2 h3
def enterB (fn:Func) (cap:Bool):Bool:=!(fn.name == "runtime.NumGoroutine")&&!fn.body.isNone&&Nat.beq fn.nfree (match cap with | true=>1 | false=>0)
noncomputable def okB (P:Program) (E:Env) (fn:Func) (ps:PQ) (rs:RQ) (es:List Nat) (cap:Bool) (tl:TL):Bool:=(tiOk P tl&&eqOkL P tl)&&(enterB fn cap&&funOk P E fn ps rs es)
theorem fn_ok {P:Program} {E:Env} {f:FuncId} {fn:Func} (hf:P.funcs[f]?=some fn) {g:Sig} (hh:∀ v H,g.hol v H=true->H=[]) {es fr:List Nat} {tl:TL} {gl:GL} (h1:E.TI=lookN tl) (h2:E.G=lookN gl) (hok:okB P E fn g.ps g.rs es g.cap tl=true) (hg:FnOk P gl) (hF:∀ v,g.F v=lift fun k=>bodyK E k fn g.ps g.rs es fr v):Ok P f g:=by
 simp only[okB,enterB,Bool.and_eq_true,Bool.not_eq_true',Nat.beq_eq] at hok
 obtain ⟨⟨a1,a2⟩,⟨⟨b1,b2⟩,b3⟩,c⟩:=hok
 have hb:fn.body.isSome=true:=by
  simp_all
 exact ⟨sound_of_body (env_ok h1 h2 a1 a2 hg) hf hb hh c fun v out h=>lift_some (by rw[<-hF];exact h),fn,hf,b1,b2,b3⟩
structure FD where
 fn:Func
 tl:TL
 ps:PQ
 rs:RQ
 gl:GL:=[]
 es:List Nat:=[]
 fr:List Nat:=[]
 cap:Bool:=false
 fz:List (Nat×Nat×Nat):=[]
 lv:List (Nat×List Nat):=[]
 lx:List (Nat×List Nat):=[]
 lf:List (Nat×List (Nat×Md)):=[]
 od:List (Nat×List Nat):=[]
 ar:List (Nat×List Nat):=[]
 bx:List (Nat×List Nat):=[]
 pd:List (Nat×List Nat):=[]
 er:List (Nat×List (Nat×Nat)):=[]
noncomputable def FD.E (D:FD):Env:={ TI:=lookN D.tl,G:=lookN D.gl,fz:=D.fz,lv:=D.lv,lx:=D.lx,lf:=D.lf,od:=D.od,ar:=D.ar,bx:=D.bx,pd:=D.pd,er:=D.er }
noncomputable def FD.W (D:FD) (k:Nat) (a:(tupT (D.ps.map (·.2))).den):Option (tupT (D.rs.map (·.1)++mutTys D.ps)).den:=bodyK D.E k D.fn D.ps D.rs D.es D.fr a
noncomputable def FD.F (D:FD) (a:(tupT (D.ps.map (·.2))).den):Option (tupT (D.rs.map (·.1)++mutTys D.ps)).den:=lift fun k=>D.W k a
noncomputable def FD.sig (D:FD):Sig:={ cap:=D.cap,ps:=D.ps,rs:=D.rs,F:=D.F }
noncomputable def FD.fin (D:FD):St->Option (tupT (D.rs.map (·.1)++mutTys D.ps)).den:=outK D.ps D.rs D.es D.fn.results.toList (mvs D.fr)
noncomputable def FD.K0 (D:FD):KT (tupT (D.rs.map (·.1)++mutTys D.ps)).den:=endK D.fin
noncomputable def FD.N (D:FD) (k:Nat) (p:List Nat):St->KT (tupT (D.rs.map (·.1)++mutTys D.ps)).den->Option (tupT (D.rs.map (·.1)++mutTys D.ps)).den:=codeK D.E k D.fin (sub p (bodyOf D.fn))
noncomputable def FD.L (D:FD) (k:Nat) (p live:List Nat) (fro:List (Nat×Md)) (K:KT (tupT (D.rs.map (·.1)++mutTys D.ps)).den) (σ:St):Option (tupT (D.rs.map (·.1)++mutTys D.ps)).den:=iterK (D.N k p) (keepF live fro) K k σ
theorem fd_ok {P:Program} {D:FD} {f:FuncId} (hf:P.funcs[f]?=some D.fn) (ht:(tiOk P D.tl&&eqOkL P D.tl)=true) (hok:(enterB D.fn D.cap&&funOk P D.E D.fn D.ps D.rs D.es)=true) (hg:FnOk P D.gl):Ok P f D.sig:=
 fn_ok (hh:=fun _ _ h=>List.isEmpty_iff.1 h) (es:=D.es) (fr:=D.fr) (tl:=D.tl) (gl:=D.gl) (E:=D.E) hf rfl rfl (by rw[okB,ht,Bool.true_and];exact hok) hg fun _=>rfl
end OT
namespace OT
open Go
theorem w64_in {n:Int} (h:-9223372036854775808<=n/\n<=9223372036854775807):w64 n=n:=by
 grind [w64,IntKind.wrap_i64]
theorem maxLen_val:maxLen=9223372036854775807:=by simp[maxLen]
theorem rawIter_eq {V R:Type} {B:(V->Option R)->V->Option R} (f:V->R) (I:V->Prop) (μ:V->Nat)
  (h:∀ v,I v->∀ self,B self v=some (f v)\/∃ v',B self v=self v'/\f v'=f v/\I v'/\μ v' < μ v):∀ (k:Nat) (v:V),I v->μ v < k->rawIter B k v=some (f v)
 | 0,v,_,hk=>by omega
 | k+1,v,hI,hk=>by
  show B (rawIter B k) v=some (f v)
  rcases h v hI (rawIter B k) with h1 | ⟨v',h1,h2,h3,h4⟩
  ·exact h1
  ·rw[h1,rawIter_eq f I μ h k v' h3 (by omega),h2]
def allB {α:Type} (e:α->α->Bool) (xs ys:List α):Bool:=(xs.zip ys).all fun p=>e p.1 p.2
theorem allB_drop {α:Type} (e:α->α->Bool) (xs ys:List α) (i:Nat) (hx:i < xs.length) (hy:i < ys.length):allB e (xs.drop i) (ys.drop i)=(e xs[i] ys[i]&&allB e (xs.drop (i+1)) (ys.drop (i+1))):=by
 grind [allB,List.drop_eq_getElem_cons,List.zip_cons_cons]
theorem all_loop {α:Type} {B:(Int->Option (Bool×Unit))->Int->Option (Bool×Unit)} {xs ys:List α} (e:α->α->Bool) (hlen:xs.length=ys.length) (hmax:xs.length<=maxLen)
  (hin:∀ (i:Nat) (hx:i < xs.length) (hy:i < ys.length) self,B self (i:Int)=if e xs[i] ys[i]=true then self (w64 ((i:Int)+1)) else some (false,()))
  (hout:∀ self,B self (xs.length:Int)=some (true,())):∀ k,xs.length < k->rawIter B k 0=some (allB e xs ys,()):=by
 intro k hk
 have h:=rawIter_eq (B:=B) (fun v=>(allB e (xs.drop v.toNat) (ys.drop v.toNat),())) (fun v=>0<=v/\v<=(xs.length:Int)) (fun v=>xs.length - v.toNat) (fun v hv self=>by
  obtain ⟨h0,h1⟩:=hv
  obtain ⟨i,rfl⟩:=Int.eq_ofNat_of_zero_le h0
  simp only[Int.toNat_natCast]
  by_cases hi:i < xs.length
  ·have hy:i < ys.length:=by omega
   rw[allB_drop e xs ys i hi hy,hin i hi hy]
   cases he:e xs[i] ys[i] <;> grind [w64_in,maxLen_val]
  ·have hi':i=xs.length:=by omega
   simp_all [allB]) k 0 ⟨by omega,by omega⟩ (by simpa using hk)
 simpa using h
end OT
set_option linter.unusedVariables false
set_option linter.unusedSimpArgs false
namespace OT
open Go
theorem rawIter_succ {V R:Type} (B:(V->Option R)->V->Option R) (k:Nat) (v:V):rawIter B (k+1) v=B (rawIter B k) v:=rfl
def sumW {α:Type} (f:α->Nat):List α->Nat
 | []=>0
 | x::xs=>f x+sumW f xs
theorem sumW_mem {α:Type} (f:α->Nat):∀ (xs:List α) (x:α),x ∈ xs->f x<=sumW f xs
 | y::xs,x,h=>by
  simp only[sumW]
  rcases List.mem_cons.1 h with rfl | h
  ·omega
  ·have:=sumW_mem f xs x h;omega
 | [],_,h=>by cases h
theorem sumW_32 {α:Type} (f:α->Nat):∀ (xs:List α),sumW (fun x=>32*(f x+1)) xs=32*(xs.length+sumW f xs)
 | []=>rfl
 | x::xs=>by simp only[sumW,sumW_32 f xs,List.length_cons];omega
def zz:(t:Ty)->t.den->Nat
 | .str,v=>List.length v
 | .pair a b,v=>zz a v.1+zz b v.2
 | .slc e,v=>List.length v+sumW (zz e) v
 | _,_=>0
theorem zz_mem {e:Ty} {xs:List e.den} {x:e.den} (h:x ∈ xs):zz e x+1<=zz (.slc e) xs:=by
 have:=sumW_mem (zz e) xs x h
 have:1<=xs.length:=List.length_pos_of_mem h
 show _<=List.length xs+_
 omega
theorem zz_len {e:Ty} (xs:List e.den):xs.length<=zz (.slc e) xs:=Nat.le_add_right _ _
theorem zz_cons {e:Ty} (x:e.den) (xs:List e.den):zz (.slc e) (x::xs)=zz e x+1+zz (.slc e) xs:=by
 grind [zz,sumW]
theorem get_self_set {α:Type} (xs:List α) (i:Nat) (a:α) (h:i < xs.length):(xs.set i a)[i]?=some a:=by simp[h]
def BIG:Int:=4611686018427387904
def chain {α:Type} (E:α->Int->α->Int->Prop) (W:α->Nat):List α->Int->List α->Int->Prop
 | [],k,ys,k'=>ys=[]/\k'=k
 | x::xs,k,ys,k'=>∃ y ys' k1,ys=y::ys'/\0<=k/\k+W x<=BIG/\k<=k1/\k1<=k+W x/\E x k y k1/\chain E W xs k1 ys' k'
theorem mark_loop {α:Type} {B:((List α×Int×Int)->Option (Int×List α×Unit))->(List α×Int×Int)->Option (Int×List α×Unit)} {xs:List α} (hmax:xs.length<=maxLen) (E:α->Int->α->Int->Prop) (W:α->Nat)
  (hE:∀ x ∈ xs,∀ k:Int,0<=k->k+W x<=BIG->∃ y k',k<=k'/\k'<=k+W x/\E x k y k')
  (hin:∀ (i:Nat) (acc:List α) (k:Int) self (x y:α) (k':Int),i < acc.length->acc[i]?=some x->0<=k->k+W x<=BIG->k<=k'->k'<=k+W x->E x k y k'->B self (acc,k,(i:Int))=self (acc.set i y,k',w64 ((i:Int)+1)))
  (hout:∀ (acc:List α) (k:Int) self,B self (acc,k,(acc.length:Int))=some (k,acc,())) (k:Int) (h0:0<=k) (h1:k+sumW W xs<=BIG) :
  ∃ ys k',k<=k'/\k'<=k+sumW W xs/\ys.length=xs.length/\chain E W xs k ys k'/\∀ f,xs.length < f->rawIter B f (xs,k,0)=some (k',ys,()):=by
 have main:∀ (rest pre:List α) (k:Int),(pre++rest).length<=maxLen->(∀ x ∈ rest,x ∈ xs)->0<=k->k+sumW W rest<=BIG ->
   ∃ ys k',k<=k'/\k'<=k+sumW W rest/\ys.length=rest.length/\chain E W rest k ys k'/\∀ f,rest.length < f->rawIter B f (pre++rest,k,(pre.length:Int))=some (k',pre++ys,()):=by
  intro rest
  induction rest with
  | nil=>
   intro pre k hm _ h0 h1
   refine ⟨[],k,Int.le_refl _,by simp[sumW],rfl,⟨rfl,rfl⟩,fun f hf=>?_⟩
   cases f with
   | zero=>simp at hf
   | succ f=>
    simp only[List.append_nil]
    exact hout pre k _
  | cons x rest ih=>
   intro pre k hm hx h0 h1
   simp only[sumW] at h1
   obtain ⟨y,k1,g1,g2,g3⟩:=hE x (hx x List.mem_cons_self) k h0 (by omega)
   obtain ⟨ys,k',i1,i2,i3,i4,i5⟩:=ih (pre++[y]) k1 (by simpa using hm) (fun z hz=>hx z (List.mem_cons_of_mem _ hz)) (by omega) (by omega)
   refine ⟨y::ys,k',by omega,by grind [sumW],by simp[i3],⟨y,ys,k1,rfl,h0,by omega,g1,g2,g3,i4⟩,fun f hf=>?_⟩
   cases f with
   | zero=>omega
   | succ f=>
    show B (rawIter B f) _=_
    have hlen:pre.length < (pre++x::rest).length:=by simp
    rw[hin pre.length (pre++x::rest) k _ x y k1 hlen (by simp) h0 (by omega) g1 g2 g3]
    grind [maxLen_val,w64_in]
 obtain ⟨ys,k',i1,i2,i3,i4,i5⟩:=main xs [] k (by simpa using hmax) (fun x h=>h) h0 h1
 grind
theorem held_loop {α:Type} {ys:List α} {B:((Int×Int)->Option (Int×Unit))->(Int×Int)->Option (Int×Unit)} {xs:List α} {k k':Int} (hmax:ys.length<=maxLen) {E:α->Int->α->Int->Prop} {W:α->Nat} (hc:chain E W xs k ys k')
  (hin:∀ (i:Nat) (k:Int) self (x y:α) (k':Int),i < ys.length->ys[i]?=some y->0<=k->k+W x<=BIG->k<=k'->k'<=k+W x->E x k y k'->B self (k,(i:Int))=self (k',w64 ((i:Int)+1)))
  (hout:∀ (k:Int) self,B self (k,(ys.length:Int))=some (k,())):∀ f,ys.length < f->rawIter B f (k,0)=some (k',()):=by
 have main:∀ (xs ys' pre:List α) (k:Int),pre++ys'=ys->chain E W xs k ys' k'->∀ f,ys'.length < f->rawIter B f (k,(pre.length:Int))=some (k',()):=by
  intro xs
  induction xs with
  | nil=>
   intro ys' pre k hp hc f hf
   obtain ⟨rfl,rfl⟩:=hc
   cases f <;> grind [rawIter]
  | cons x xs ih=>
   intro ys' pre k hp hc f hf
   obtain ⟨y,ys2,k1,rfl,c1,c2,c3,c4,c5,c6⟩:=hc
   cases f with
   | zero=>omega
   | succ f=>
    show B (rawIter B f) _=_
    have hl:pre.length < ys.length:=by grind
    rw[hin pre.length k _ x y k1 hl (by grind) c1 c2 c3 c4 c5]
    have hw:w64 ((pre.length:Int)+1)=(((pre++[y]).length:Nat):Int):=by
     grind [maxLen_val,w64_in]
    grind
 intro f hf
 simpa using main xs ys [] k rfl hc f hf
end OT
set_option linter.unusedVariables false
set_option linter.unusedSimpArgs false
namespace OT
open Go
theorem eqG {e:Ty} {W:List e.den->Nat->Option (Bool×Unit)} {f:e.den->e.den->Option (Bool×Unit)}
  (hW:∀ x k,W x k=bif !decide ((x.length:Int)=(x.length:Int)) then some (false,()) else rawIter (fun (self:Int->Option (Bool×Unit)) v=>bif decide (v < (x.length:Int)) then (if 0<=v then ((x[v.toNat]?).bind fun a=>if 0<=v then ((x[v.toNat]?).bind fun b=>(f a b).bind fun r=>bif !r.1 then some (false,()) else self (w64 (v+(1:Int)))) else none) else none) else some (true,())) k (0:Int))
  (hf:∀ a,zz e a<=4611686018427387904->f a a=some (true,())) (x:List e.den) (h:zz (.slc e) x<=4611686018427387904):lift (W x)=some (true,()):=by
 have hl:x.length<=4611686018427387904:=Nat.le_trans (zz_len (e:=e) x) h
 refine lift_eq (k:=x.length+1) fun k hk=>(hW x k).trans ?_
 simp only[decide_true,Bool.not_true,cond_false]
 have:=fun B h1 h2=>all_loop (B:=B) (xs:=x) (ys:=x) (fun _ _=>true) rfl (by rw[maxLen_val];omega) h1 h2 k (by omega)
 rw[show allB (fun _ _=>true) x x=true by simp[allB]] at this
 refine this _ (fun i hi hj self=>?_) (fun self=>?_)
 ·have hlt:(i:Int) < (x.length:Int):=by omega
  simp only[hlt,decide_true,cond_true,Int.natCast_nonneg,if_true,Int.toNat_natCast,List.getElem?_eq_getElem hi,Option.bind_some,Bool.not_true,cond_false,hf x[i] (by have:=zz_mem (e:=e) (List.getElem_mem hi);omega)]
 ·simp
theorem mkC {α:Type} (z:α->Nat) {W:List α->Int->Nat->Option (Int×List α×Unit)} (E:α->Int->α->Int->Prop) {S:(List α×Int×Int->Option (Int×List α×Unit))->List α×Int×Int->Option (Int×List α×Unit)}
  (hW:∀ x k f,W x k f=rawIter (fun self v=>bif decide (v.2.2 < (v.1.length:Int)) then S self v else some (v.2.1,v.1,())) f (x,k,(0:Int)))
  (hE:∀ (x:α) (k:Int),0<=k->k+32*(((z x:Nat):Int)+1)<=BIG->∃ y k',k<=k'/\k'<=k+32*(((z x:Nat):Int)+1)/\E x k y k')
  (hin:∀ (i:Nat) (acc:List α) (k:Int) self (x y:α) (k':Int),i < acc.length->acc[i]?=some x->0<=k->k+32*(((z x:Nat):Int)+1)<=BIG->k<=k'->k'<=k+32*(((z x:Nat):Int)+1)->E x k y k'->(i:Int) < (acc.length:Int)->S self (acc,k,(i:Int))=self (acc.set i y,k',w64 ((i:Int)+1)))
  (x:List α) (k:Int) (h0:0<=k) (h1:k+32*((x.length+sumW z x:Nat):Int)<=BIG):∃ (k':Int) (y:List α),lift (W x k)=some (k',y,())/\y.length<=4611686018427387904/\chain E (fun x=>32*(z x+1)) x k y k'/\k<=k'/\k'<=k+32*((x.length+sumW z x:Nat):Int):=by
 have hB:BIG=4611686018427387904:=rfl
 have hs:sumW (fun x:α=>32*(z x+1)) x=32*(x.length+sumW z x):=sumW_32 z x
 obtain ⟨ys,k',g1,g2,g3,g4,g5⟩:=mark_loop (B:=fun self v=>bif decide (v.2.2 < (v.1.length:Int)) then S self v else some (v.2.1,v.1,())) (xs:=x) (by rw[maxLen_val];omega) E (fun x:α=>32*(z x+1)) (fun x hx k h0 h1=>by
   grind) (fun i acc k self x y k' hi hx h0 h1 h2 h3 hE=>by
   grind) (fun acc k self=>by simp) k h0 (by rw[hs];omega)
 exact ⟨k',ys,lift_eq (k:=x.length+1) fun f hf=>(hW x k f).trans (g5 f (by omega)),by omega,g4,g1,by grind⟩
theorem mhG {α:Type} (z:α->Nat) {W:List α->Int->Nat->Option (Int×List α×Unit)} {W2:List α->Int->Nat->Option (Int×Unit)} (E:α->Int->α->Int->Prop) {S:(List α×Int×Int->Option (Int×List α×Unit))->List α×Int×Int->Option (Int×List α×Unit)} {S2:List α->Int->(Int×Int->Option (Int×Unit))->Int×Int->Option (Int×Unit)}
  (hW:∀ x k f,W x k f=rawIter (fun self v=>bif decide (v.2.2 < (v.1.length:Int)) then S self v else some (v.2.1,v.1,())) f (x,k,(0:Int)))
  (hW2:∀ y k f,W2 y k f=rawIter (fun self v=>bif decide (v.2 < (y.length:Int)) then S2 y k self v else some (v.1,())) f (k,(0:Int)))
  (hE:∀ (x:α) (k:Int),0<=k->k+32*(((z x:Nat):Int)+1)<=BIG->∃ y k',k<=k'/\k'<=k+32*(((z x:Nat):Int)+1)/\E x k y k')
  (hin:∀ (i:Nat) (acc:List α) (k:Int) self (x y:α) (k':Int),i < acc.length->acc[i]?=some x->0<=k->k+32*(((z x:Nat):Int)+1)<=BIG->k<=k'->k'<=k+32*(((z x:Nat):Int)+1)->E x k y k'->(i:Int) < (acc.length:Int)->S self (acc,k,(i:Int))=self (acc.set i y,k',w64 ((i:Int)+1)))
  (hin2:∀ (k0:Int) (i:Nat) (ys:List α) (k:Int) self (x y:α) (k':Int),i < ys.length->ys[i]?=some y->0<=k->k+32*(((z x:Nat):Int)+1)<=BIG->k<=k'->k'<=k+32*(((z x:Nat):Int)+1)->E x k y k'->(i:Int) < (ys.length:Int)->S2 ys k0 self (k,(i:Int))=self (k',w64 ((i:Int)+1)))
  (x:List α) (k:Int) (h0:0<=k) (h1:k+32*((x.length+sumW z x:Nat):Int)<=BIG):∃ (k':Int) (y:List α),lift (W x k)=some (k',y,())/\lift (W2 y k)=some (k',())/\k<=k'/\k'<=k+32*((x.length+sumW z x:Nat):Int):=by
 obtain ⟨k',y,a,b,c,d⟩:=mkC z E hW hE hin x k h0 h1
 refine ⟨k',y,a,lift_eq (k:=y.length+1) fun f hf=>(hW2 y k f).trans ?_,d⟩
 exact held_loop (B:=fun self v=>bif decide (v.2 < (y.length:Int)) then S2 y k self v else some (v.1,())) (by rw[maxLen_val];omega) c (fun i k self x y' k' hi hx h0 h1 h2 h3 hE=>by
   grind) (fun k self=>by simp) f (by omega)
end OT
set_option linter.unusedVariables false
set_option linter.unusedSimpArgs false
namespace OT
open Go
def forI {S O α:Type} (f:Nat->S->α->Sum O S) (fin:S->O):Nat->List α->S->O
 | _,[],s=>fin s
 | i,x::xs,s=>match f i s x with
  | .inl o=>o
  | .inr s'=>forI f fin (i+1) xs s'
theorem for_loop {V S O α:Type} {B:(V->Option O)->V->Option O} (xs:List α) (enc:S->Int->V) (f:Nat->S->α->Sum O S) (fin:S->O) (I:Nat->S->Prop) (hmax:xs.length<=maxLen)
  (hin:∀ (i:Nat) (hi:i < xs.length) (s:S) self,I i s->B self (enc s (i:Int))=match f i s xs[i] with | .inl o=>some o | .inr s'=>self (enc s' (w64 ((i:Int)+1))))
  (hI:∀ (i:Nat) (hi:i < xs.length) (s s':S),I i s->f i s xs[i]=.inr s'->I (i+1) s')
  (hout:∀ (s:S) self,I xs.length s->B self (enc s (xs.length:Int))=some (fin s)) (s:S) (h0:I 0 s):∀ k,xs.length < k->rawIter B k (enc s 0)=some (forI f fin 0 xs s):=by
 have main:∀ (m i:Nat) (s:S),xs.length - i=m->i<=xs.length->I i s->∀ k,m < k->rawIter B k (enc s (i:Int))=some (forI f fin i (xs.drop i) s):=by
  intro m
  induction m with
  | zero=>
   intro i s hm hi hs k hk
   have hi':i=xs.length:=by omega
   subst hi'
   cases k <;> grind [rawIter,forI]
  | succ m ih=>
   intro i s hm hi hs k hk
   have hlt:i < xs.length:=by omega
   cases k <;> grind [rawIter,List.drop_eq_getElem_cons,forI,w64_in,maxLen_val]
 intro k hk
 simpa using main xs.length 0 s (by omega) (by omega) h0 k hk
theorem cap_ok {n:Nat} (h:n<=200000000000):n<=CAP:=by grind [CAP]
end OT
