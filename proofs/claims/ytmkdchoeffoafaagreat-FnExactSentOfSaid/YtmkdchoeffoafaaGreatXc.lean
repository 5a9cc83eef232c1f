/- The proof's parts, merged: Calls, second part  arguments.. No conditions but those that each states. -/
import Derived.Test.YtmkdchoeffoafaaGreatXb
import Derived.MapKept
import Derived.WideMake
import Derived.OrdersHeld
import Derived.LoopN
import Derived.Scope
set_option linter.unusedVariables false
set_option linter.unusedSimpArgs false
namespace OT
open Go
section
variable {P:Program} {C:Ctx} {A:Cells} {X:FP} {σ:St} {a:Act} {w:World} {F:Nat->FP} {R:Type} {x:R}
theorem W_ {K:St->Option R}:∀ (ps:List (PM×Ty)) (xs:List Operand) {σ:St} {A:Cells} {F:Nat->FP},dt P C A σ a w F->rL σ ps xs K=some x ->
  ∃ (A':Cells) (σ':St) (F':Nat->FP),K σ'=some x/\(∀ b i,A b i->A' b i)/\dt P C A' σ' a w F'/\σ'.n=σ.n:=by
 intro ps
 induction ps with
 | nil=>intro xs σ A F h hk;exact ⟨A,σ,F,by cases xs <;> exact hk,λ_ _ h=>h,h,rfl⟩
 | cons p ps ih=>
  intro xs σ A F h hk
  cases xs with
  | nil=>obtain ⟨pm,t⟩:=p;exact ⟨A,σ,F,by cases pm <;> exact hk,λ_ _ h=>h,h,rfl⟩
  | cons y xs=>
   obtain ⟨pm,t⟩:=p
   have fin:∀ {m' m:Md} {r:Nat} {p:Path},(if m'=m then rL σ ps xs K else vX σ r p m λσ=>rL σ ps xs K)=some x ->
     ∃ (A':Cells) (σ':St) (F':Nat->FP),K σ'=some x/\(∀ b i,A b i->A' b i)/\dt P C A' σ' a w F'/\σ'.n=σ.n:=λhk=>by
    split at hk
    ·exact ih xs h hk
    ·obtain ⟨A1,ov,F1,k1,k2,k3,k4,_⟩:=M2 h hk;obtain ⟨A2,kW,F2,q1,q2,q3,q4⟩:=ih xs k3 k1;exact ⟨A2,kW,F2,q1,λb i ha=>q2 b i (k2 b i ha),q3,q4.trans k4⟩
   cases pm with
   | ro=>exact ih xs h hk
   | fix f=>exact ih xs h hk
   | pt m m'=>
    simp only[rL] at hk;split at hk
    ·split at hk
     ·obtain ⟨hr,t',m',H',v',br,cr,F',h1,_⟩:=lK h hk;exact fin h1
     ·cases hk
    ·cases hk
   | sP m=>
    simp only[rL] at hk;split at hk
    ·split at hk
     ·obtain ⟨hr,t',m',H',v',br,cr,F',h1,_⟩:=lK h hk;exact fin h1
     ·cases hk
    ·cases hk
   | kY m=>
    simp only[rL] at hk;split at hk
    ·split at hk
     ·obtain ⟨hr,t',m',H',v',br,cr,F',h1,_⟩:=lK h hk;exact fin h1
     ·cases hk
    ·cases hk
   | nc m=>
    simp only[rL] at hk;split at hk
    ·split at hk
     ·obtain ⟨hr,t',m',H',v',br,cr,F',h1,_⟩:=lK h hk;exact fin h1
     ·cases hk
    ·cases hk
theorem RW (h:dt P C A σ a w F) {r:Nat} {t:Ty} {m:Md} {v:t.den} (hg:σ.get r=.box t m [] v):∃ (A':Cells) (F':Nat->FP),(∀ b i,A b i->A' b i)/\dt P C A' ((σ.put r .dead).put r (.cp t v)) a w F'/\Ro P w A' (.ptr t) v [tmp a r]/\r < σ.n:=by
 have hi:r < σ.n:=by
  rcases bZ r σ.n with hi | hi
  ·exact hi
  ·rw[lQ (dN.2 hi)] at hg;cases hg
 have hs:=h.g_ r hi;rw[hg] at hs;obtain ⟨b,off,L,F1,s1,s2,s3,s4,s5,s6⟩:=hs;have h1:=h.put hi (s:=.dead) (v:=tmp a r) (Fd:=λ_ _=>0) (X':=F r) trivial (λb k=>by omega) (λ_ _ _ _ e=>by cases e);rw[rf] at h1;have h2:=h1.giveUp (A1:=λb' i'=>A b' i'\/1<=F r b' i') (X1:=λ_ _=>0) (λ_ _ h=>.inl h) (λb' i' ha=>ha.imp id λhp=>⟨hp,rfl⟩) (λ_ _=>aY _)
 have sB:Ro P w (λb' i'=>A b' i'\/1<=F r b' i') (.ptr t) v [tmp a r]:=
  ⟨⟨b,off,none⟩,by rw[s1],rfl,L,s2,(λj u hu=>⟨s3 j u hu,.inr (by
   have hj:=(aM.1 hu).1;have h9:b_ b off t.sz b (off+j)=1:=by simp only[b_];rw[aV ⟨trivial,by omega,by omega⟩]
   have:=s5 b (off+j);show 1<=F r b (off+j)
   omega)⟩),ap.wA (λ_ _ h=>.inl h) t s6 (λb' i' hp=>.inr (by have:=s5 b' i';omega))⟩
 have h3:=h2.put (d:=r) hi (s:=.cp t v) (v:=tmp a r) (Fd:=λ_ _=>0) (X':=λ_ _=>0) sB (λb k=>by omega) (λ_ _ _ _ e=>by cases e);rw[rf] at h3;exact ⟨_,_,λb i ha=>.inl ha,h3,sB,hi⟩
theorem Xa (h:dt P C A σ a w F) {i:Nat} (hi:i < σ.n) {t:Ty} {v:t.den} (sB:Ro P w A (.ptr t) v [tmp a i]):∃ F':Nat->FP,dt P C A ((σ.put i .dead).put i (.cp t v)) a w F':=by
 have h1:=h.put hi (s:=.dead) (v:=tmp a i) (Fd:=λ_ _=>0) (X':=F i) trivial (λb k=>by omega) (λ_ _ _ _ e=>by cases e);rw[rf] at h1;have h2:=h1.giveUp (A1:=A) (X1:=λ_ _=>0) (λ_ _ h=>h) (λb' i' ha=>.inl ha) (λ_ _=>aY _);have h3:=h2.put (d:=i) hi (s:=.cp t v) (v:=tmp a i) (Fd:=λ_ _=>0) (X':=λ_ _=>0) sB (λb k=>by omega) (λ_ _ _ _ e=>by cases e);rw[rf] at h3;exact ⟨_,h3⟩
theorem TZ (h:dt P C A σ a w F) {i r:Nat} {snap:List Nat} {t:Ty} {m:Md} {H:List Path} {v:t.den} (hi:i < σ.n) (hs:σ.get i=.ptr r [] snap) (bc:σ.ok r snap=true) (hg:σ.get r=.box t m H v):tmp a i=tmp a r:=by
 have h1:=h.g_ i hi;rw[hs] at h1;obtain ⟨pl,b,o,p1,p2,p3,p4⟩:=h1.2 bc
 have hr:r < σ.n:=by
  rcases bZ r σ.n with hr | hr
  ·exact hr
  ·rw[lQ (dN.2 hr)] at hg;cases hg
 have h2:=h.g_ r hr;rw[hg] at h2;obtain ⟨b2,off,L,F1,s1,_⟩:=h2;rw[p3,s1];unfold place at p1;rw[hg,s1] at p1;simp only[c9,aA,bk] at p1;injection p1 with p1;subst p1;injection p2 with p2;injection p2 with p2 p5;subst p2;subst p5;rfl
theorem Yp {K:St->Option R}:∀ (ps:List (PM×Ty)) (xs:List Operand) {σ:St} {A:Cells} {F:Nat->FP},dt P C A σ a w F->zu σ ps xs K=some x ->
  ∃ (A':Cells) (σ':St) (F':Nat->FP),K σ'=some x/\(∀ b i,A b i->A' b i)/\dt P C A' σ' a w F'/\σ'.n=σ.n:=by
 intro ps
 induction ps with
 | nil=>intro xs σ A F h hk;exact ⟨A,σ,F,by cases xs <;> exact hk,λ_ _ h=>h,h,rfl⟩
 | cons p ps ih=>
  intro xs σ A F h hk
  cases xs with
  | nil=>obtain ⟨pm,t⟩:=p;exact ⟨A,σ,F,by cases pm <;> exact hk,λ_ _ h=>h,h,rfl⟩
  | cons y xs=>
   obtain ⟨pm,t⟩:=p
   have fin:∀ {r:Nat} {p:Path},(xq σ r p λσ=>zu σ ps xs K)=some x ->
     ∃ (A':Cells) (σ':St) (F':Nat->FP),K σ'=some x/\(∀ b i,A b i->A' b i)/\dt P C A' σ' a w F'/\σ'.n=σ.n:=λhk=>by
    obtain ⟨A1,ov,F1,_,_,_,_,_,k1,k2,k3,k4,_⟩:=x9 h hk;obtain ⟨A2,kW,F2,q1,q2,q3,q4⟩:=ih xs k3 k1;exact ⟨A2,kW,F2,q1,λb i ha=>q2 b i (k2 b i ha),q3,q4.trans k4⟩
   cases pm with
   | fix f=>exact ih xs h hk
   | pt m m'=>exact ih xs h hk
   | sP m=>exact ih xs h hk
   | kY m=>exact ih xs h hk
   | nc m=>exact ih xs h hk
   | ro=>
    simp only[zu] at hk;split at hk
    ·exact ih xs h hk
    ·split at hk
     ·split at hk
      ·exact fin hk
      ·cases hk
     ·split at hk
      ·exact fin hk
      ·cases hk
     ·rename_i r p snap KX;split at hk
      ·rename_i bc;split at hk
       ·rename_i t m H v hg;split at hk
        ·rename_i hc;simp only[aE,bN] at hc;obtain ⟨hH,zS⟩:=hc;subst hH;obtain ⟨A1,F1,DC,h3,h4,h5⟩:=RW h hg
         have go:∀ {kW:St} {F2:Nat->FP},dt P C A1 kW a w F2->zu kW ps xs K=some x->kW.n=σ.n->∃ (A':Cells) (σ':St) (F':Nat->FP),K σ'=some x/\(∀ b i,A b i->A' b i)/\dt P C A' σ' a w F'/\σ'.n=σ.n:=λh3 hk hn=>by
          obtain ⟨A2,kW,F2,q1,q2,q3,q4⟩:=ih xs h3 hk;exact ⟨A2,kW,F2,q1,λb i ha=>q2 b i (DC b i ha),q3,q4.trans hn⟩
         cases y with
         | tmp i=>
          simp only[XT] at hk;split at hk
          ·exact go h3 hk rfl
          ·rename_i we;simp only[iS,Bool.not_eq_false',gU] at we;obtain ⟨g1,g2⟩:=we;have hi:i < σ.n:=g2;have GA:i≠r:=λe=>by subst e;rw[jD] at g1;cases g1
           have hs:σ.get i=.ptr r [] snap:=by
            have K7:=KX;simp only[dq] at K7;split at K7
            ·cases K7
            ·injection K7 with e1;exact absurd e1 GA
            ·exact K7
           have he:=TZ h hi hs bc hg;rw[<-he] at h4;obtain ⟨F3,h6⟩:=Xa h3 (i:=i) g2 h4;exact go h6 hk rfl
         | const c=>exact go h3 hk rfl
         | func f=>exact go h3 hk rfl
         | global g=>exact go h3 hk rfl
        ·cases hk
       ·cases hk
      ·cases hk
     ·exact ih xs h hk
def AX (A:Cells) (F:Nat->FP) (n r0:Nat) (ow:Bool):Cells:=λb i=>A b i\/(ow=true/\∃ j,j < n/\j≠r0/\1<=F j b i)
def V7 (P:Program) (A:Cells) (σ:St) (a:Act) (w:World) (F:Nat->FP) (ow:Bool) (pm:PM) (t:Ty) (v:t.den) (s:Slot) (tv:Value) (wp:Option (Nat×Path)):Prop:=
 match pm with
 | .ro=>wp=none/\∃ cs,tv=ci t cs/\Ro P w (λb i=>A b i\/(ow=true/\∃ r ∈ ne s,r < σ.n/\1<=F r b i)) t v cs
 | .fix f=>wp=none/\(∃ cs,tv=ci t cs/\Ro P w A t v cs)/\∀ e:t=.fn,(e ▸ v:Ty.fn.den).1=f
 | .pt m _=>∃ r p snap b o cs,s=.ptr r p snap/\wp=some (r,p)/\At σ r p t m [] v/\tv=.pointer (some ⟨b,o,none⟩)/\place σ a w r p=some ⟨t,[],cs,some (b,o)⟩
 | .kY m=>∃ r p snap cs ad,s=.ref r p snap/\wp=some (r,p)/\At σ r p t m [] v/\tv=ci t cs/\place σ a w r p=some ⟨t,[],cs,ad⟩
 | .nc m=>∃ H r p snap cs ad,s=.ref r p snap/\wp=some (r,p)/\At σ r p t m H v/\tv=ci t cs/\place σ a w r p=some ⟨t,H,cs,ad⟩
 | .sP m=>∃ r p snap b o cs,s=.ptr r p snap/\wp=some (r,p)/\At σ r p t m [] v/\tv=.pointer (some ⟨b,o,none⟩)/\place σ a w r p=some ⟨t,[],cs,some (b,o)⟩
def DL (P:Program) (A:Cells) (σ:St) (a:Act) (w:World) (F:Nat->FP) (ow:Bool):(ps:List (PM×Ty))->(dn (ps.map (·.2))).den->List Slot->List Value->List (Nat×Path)->Prop
 | [],_,ss,pJ,ws=>ss=[]/\pJ=[]/\ws=[]
 | (pm,t)::ps,v,ss,pJ,ws=>∃ s RX tv xx wp zT,ss=s::RX/\pJ=tv::xx/\ws=(match (generalizing:=false) wp with | some x=>x::zT | none=>zT)/\V7 P A σ a w F ow pm t v.1 s tv wp/\DL P A σ a w F ow ps v.2 RX xx zT
def vQ (P:Program) (A:Cells) (σ:St) (a:Act) (w:World):List Slot->List Value->Prop
 | [],[]=>True
 | s::ss,tv::pJ=>(cv P A σ a w tv s (λ_ _=>0)\/∃ xs,s=.rB xs)/\vQ P A σ a w ss pJ
 | _,_=>False
theorem GV (h:dt P C A σ a w F):∀ (xs:List Operand) {ss:List Slot} {pJ:List Value},xs.all (dm P)=true->vQ P A σ a w ss pJ->vQ P A σ a w (xs.map (dq σ)++ss) (xs.map a.eval++pJ)
 | [],_,_,_,h2=>h2
 | y::xs,_,_,bc,h2=>by
  simp only[eH,aE] at bc;exact ⟨eu h bc.1,GV h xs bc.2 h2⟩
theorem Z9 (h:dt P C A σ a w F) {s:Slot} {tv:Value} {G:FP} (hs:cv P A σ a w tv s G) {t:Ty} {K:t.den->Option R} (hk:Ks σ s t K=some x) :
  ∃ (v:t.den) (cs:List Value),K v=some x/\tv=ci t cs/\Ro P w A t v cs:=by
 cases s with
 | val t' v=>
  obtain ⟨e,hk⟩:=ct hk;subst e;obtain ⟨cs,h1,h2⟩:=hs;exact ⟨v,cs,hk,h1,h2⟩
 | cp t' v=>
  obtain ⟨e,hk⟩:=ct hk;subst e;exact ⟨v,[tv],hk,(db _ _ rfl).symm,hs⟩
 | wv=>
  simp only[Ks] at hk;split at hk
  ·rename_i t e;have hs:tv=.slice none 0 0:=hs;subst hs;exact ⟨[],_,hk,(db _ _ rfl).symm,none,0,rfl,aN _,λ_=>rfl,λad fk=>by cases fk⟩
  ·cases hk
 | ref r p snap=>
  simp only[Ks] at hk;split at hk
  ·rename_i bc;obtain ⟨hr,t',m',H',v',br,cr,F',h1,h2,h3,h4,h5,h6⟩:=lK h hk;obtain ⟨pl,g1,g2,g3⟩:=hs.2 bc;rw[h3] at g1;injection g1 with g1;subst g1;split at h1
   ·rename_i hc;simp only[aE,bN,cY,bM] at hc;obtain ⟨hH,hm⟩:=hc;subst hH;obtain ⟨e,h1⟩:=ct h1;subst e;refine ⟨v',br,h1,g2,?_⟩
    rcases hm with hm | hm
    ·exact ap.flat _ hm h4
    ·subst hm;exact ap.ro _ (f_ _) h4
   ·cases h1
  ·cases hk
 | sub r p snap lo hi=>
  simp only[Ks] at hk;split at hk
  ·rename_i bc;obtain ⟨hr,t',m',H',v',br,cr,F',h1,h2,h3,h4,h5,h6⟩:=lK h hk;obtain ⟨pl,e,xa,n,cap,vh,cap',g1,g2,g3,g4,g5,g6,g7,KM,g8,g9,g10⟩:=hs.2 bc;rw[h3] at g1;injection g1 with g1;subst g1;simp only at g2 g3;subst g2;subst g3;split at h1
   ·rename_i hc;simp only[aE,bN,bM] at hc;obtain ⟨hH,hm⟩:=hc;subst hH;subst hm;obtain ⟨e',h1⟩:=ct h1;subst e';exact ⟨_,_,h1,by rw[db _ _ rfl];exact g6,Ro.piece (ap.ro _ (f_ _) h4) g4 g5 g7 g8 g9⟩
   ·cases h1
  ·cases hk
 | _=>simp[Ks] at hk
theorem Yq (h:dt P C A σ a w F) {ow:Bool} {pm:PM} {t:Ty} {s:Slot} {tv:Value} (hs:cv P A σ a w tv s (λ_ _=>0)\/∃ xs,s=.rB xs) {K:t.den->Option (Nat×Path)->Option R} (hk:zt σ ow pm t s K=some x) :
  ∃ v wp,K v wp=some x/\V7 P A σ a w F ow pm t v s tv wp:=by
 rcases hs with hs | ⟨xs,rfl⟩
 rotate_left
 ·cases pm with
  | ro=>cases ow <;> simp[zt,rx,Ks] at hk
  | _=>simp[zt] at hk
 cases pm with
 | ro=>
  cases ow with
  | true=>
   simp only[zt] at hk;have am:=DD h hk;obtain ⟨v,cs,h1,h2,h3⟩:=I3 h hs hk;exact ⟨v,none,h1,rfl,cs,h2,Ro.mono (λ_ _ _ _ h=>h) (λb i ha=>ha.imp id λ⟨r,hr,hp⟩=>⟨rfl,r,hr,am r hr,hp⟩) t h3⟩
  | false=>
   simp only[zt] at hk;obtain ⟨v,cs,h1,h2,h3⟩:=Z9 h hs hk;exact ⟨v,none,h1,rfl,cs,h2,Ro.mono (λ_ _ _ _ h=>h) (λb i ha=>.inl ha) t h3⟩
 | fix f=>
  simp only[zt] at hk;split at hk
  ·rename_i v;split at hk
   ·rename_i hf;obtain ⟨e,hk⟩:=ct hk;subst e;obtain ⟨cs,h1,h2⟩:=hs;exact ⟨v,none,hk,rfl,⟨cs,h1,h2⟩,λe=>by simpa using hf⟩
   ·cases hk
  ·cases hk
 | pt m m'=>
  simp only[zt] at hk;split at hk
  ·rename_i r p snap;split at hk
   ·rename_i bc;obtain ⟨hr,t',m',H',v',br,cr,F',h1,h2,h3,h4,h5,h6⟩:=lK h hk;obtain ⟨pl,b,o,g1,g2,g3,g4⟩:=hs.2 bc;rw[h3] at g1;injection g1 with g1;subst g1;simp only at g2;subst g2;split at h1
    ·rename_i hc;simp only[aE,bN,bM] at hc;obtain ⟨hH,hm⟩:=hc;subst hH;subst hm;obtain ⟨e,h1⟩:=ct h1;subst e;exact ⟨v',_,h1,r,p,snap,b,o,br,rfl,rfl,⟨h2⟩,g3,h3⟩
    ·cases h1
   ·cases hk
  ·cases hk
 | sP m=>
  simp only[zt] at hk;split at hk
  ·rename_i r p snap;split at hk
   ·rename_i bc;obtain ⟨hr,t',m',H',v',br,cr,F',h1,h2,h3,h4,h5,h6⟩:=lK h hk;obtain ⟨pl,b,o,g1,g2,g3,g4⟩:=hs.2 bc;rw[h3] at g1;injection g1 with g1;subst g1;simp only at g2;subst g2;split at h1
    ·rename_i hc;simp only[aE,bN,bM] at hc;obtain ⟨hH,hm⟩:=hc;subst hH;subst hm;obtain ⟨e,h1⟩:=ct h1;subst e;exact ⟨v',_,h1,r,p,snap,b,o,br,rfl,rfl,⟨h2⟩,g3,h3⟩
    ·cases h1
   ·cases hk
  ·cases hk
 | kY m=>
  simp only[zt] at hk;split at hk
  ·rename_i r p snap;split at hk
   ·rename_i bc;obtain ⟨hr,t',m',H',v',br,cr,F',h1,h2,h3,h4,h5,h6⟩:=lK h hk;obtain ⟨pl,g1,g2,g3⟩:=hs.2 bc;rw[h3] at g1;injection g1 with g1;subst g1;split at h1
    ·rename_i hc;simp only[aE,bN,bM] at hc;obtain ⟨hH,hm⟩:=hc;subst hH;subst hm;obtain ⟨e,h1⟩:=ct h1;subst e;exact ⟨v',_,h1,r,p,snap,br,cr,rfl,rfl,⟨h2⟩,g2,h3⟩
    ·cases h1
   ·cases hk
  ·cases hk
 | nc m=>
  simp only[zt] at hk;split at hk
  ·rename_i r p snap;split at hk
   ·rename_i bc;obtain ⟨hr,t',m',H',v',br,cr,F',h1,h2,h3,h4,h5,h6⟩:=lK h hk;obtain ⟨pl,g1,g2,g3⟩:=hs.2 bc;rw[h3] at g1;injection g1 with g1;subst g1;split at h1
    ·rename_i hm;subst hm;obtain ⟨e,h1⟩:=ct h1;subst e;exact ⟨v',_,h1,H',r,p,snap,br,cr,rfl,rfl,⟨h2⟩,g2,h3⟩
    ·cases h1
   ·cases hk
  ·cases hk
theorem Xb (h:dt P C A σ a w F) {ow:Bool}:∀ (ps:List (PM×Ty)) {ss:List Slot} {pJ:List Value} {K:(dn (ps.map (·.2))).den->List (Nat×Path)->Option R},vQ P A σ a w ss pJ->J2 σ ow ps ss K=some x ->
  ∃ v ws,K v ws=some x/\DL P A σ a w F ow ps v ss pJ ws:=by
 intro ps
 induction ps with
 | nil=>
  intro ss pJ K hs hk
  cases ss with
  | nil=>
   cases pJ with
   | nil=>exact ⟨(),[],hk,rfl,rfl,rfl⟩
   | cons _ _=>exact hs.elim
  | cons _ _=>cases hk
 | cons p ps ih=>
  intro ss pJ K hs hk;obtain ⟨pm,t⟩:=p
  cases ss with
  | nil=>cases hk
  | cons s ss=>
   cases pJ with
   | nil=>exact hs.elim
   | cons tv pJ=>
    simp only[J2] at hk;obtain ⟨v,wp,h1,h2⟩:=Yq h hs.1 hk;obtain ⟨vs,ws,h3,h4⟩:=ih hs.2 h1;exact ⟨(v,vs),_,h3,s,ss,tv,pJ,wp,ws,rfl,rfl,rfl,h2,h4⟩
theorem pL {ow:Bool} {A0:Cells} (hA:∀ b i,A b i->A0 b i) {r0:Nat} (hX:ow=true->∀ b i j,j < σ.n->j≠r0->1<=F j b i->A0 b i):∀ (ps:List (PM×Ty)) {v:(dn (ps.map (·.2))).den} {ss:List Slot} {pJ:List Value},
  DL P A σ a w F ow ps v ss pJ []->(∀ r ∈ ss.flatMap ne,r < σ.n->r≠r0)->(∀ ho,oZ P w A0 ho ps v pJ (λ_ _=>0))/\(∀ (σ':St) (K:St->Option R) (out:(dn (lC ps)).den),rM σ' ps [] out K=K σ'):=by
 intro ps
 induction ps with
 | nil=>intro v ss pJ h hr;exact ⟨λ_=>h.2.1,λσ' K out=>rfl⟩
 | cons p ps ih=>
  intro v ss pJ h hr;obtain ⟨pm,t⟩:=p;obtain ⟨s,RX,tv,xx,wp,zT,rfl,rfl,hw,mu,qi⟩:=h;have oH:∀ b i,A b i->∀ u,ce w b i=some u->ce w b i=some u:=λ_ _ _ _ h=>h
  cases wp with
  | some y=>cases hw
  | none=>
   have hw:[]=zT:=hw;subst hw;obtain ⟨i1,i2⟩:=ih qi (λr hm=>hr r (by simp only[eL,cJ];exact .inr hm))
   cases pm with
   | ro=>
    obtain ⟨_,cs,h1,h2⟩:=mu;refine ⟨λho=>⟨tv,xx,λ_ _=>0,λ_ _=>0,rfl,λ_ _=>aN _,⟨cs,h1,Ro.mono (λ_ _ _ _ h=>h) (λb i ha=>?_) t h2⟩,i1 ho⟩,λσ' K out=>i2 σ' K out⟩
    rcases ha with ha | ⟨wg,r,hm,am,hp⟩
    ·exact hA b i ha
    ·exact hX wg b i r am (hr r (by simp only[eL,cJ];exact .inl hm) am) hp
   | fix f=>
    obtain ⟨_,⟨cs,h1,h2⟩,h3⟩:=mu;exact ⟨λho=>⟨tv,xx,λ_ _=>0,λ_ _=>0,rfl,λ_ _=>aN _,⟨⟨cs,h1,Ro.mono (λ_ _ _ _ h=>h) hA t h2⟩,h3⟩,i1 ho⟩,λσ' K out=>i2 σ' K out⟩
   | pt m m'=>obtain ⟨r,p,snap,b,o,cs,_,e,_⟩:=mu;cases e
   | sP m=>obtain ⟨r,p,snap,b,o,cs,_,e,_⟩:=mu;cases e
   | kY m=>obtain ⟨r,p,snap,cs,ad,_,e,_⟩:=mu;cases e
   | nc m=>obtain ⟨H,r,p,snap,cs,ad,_,e,_⟩:=mu;cases e
theorem Xc {t:Ty} {cs br:List Value} (h1:cs.length=t.sz) (h2:∀ x ∈ cs,x.oneCell'=true) (h3:br.length=t.sz) (h4:∀ x ∈ br,x.oneCell'=true) (h:ci t cs=ci t br):cs=br:=by
 rw[<-lh h1 h2,<- lh h3 h4,h]
theorem PE {ow:Bool} {r:Nat} {p:Path}:∀ (ps:List (PM×Ty)) {v:(dn (ps.map (·.2))).den} {ss:List Slot} {pJ:List Value},
  DL P A σ a w F ow ps v ss pJ [(r,p)]->(ss.flatMap ne).count r<=1 ->
  1<=(ss.flatMap ne).count r/\∃ (GW qO C9:Bool) (t:Ty) (m:Md) (H:List Path) (v1:t.den) (cs:List Value) (ad:Option (Nat×Nat)),((C9=false->H=[])/\(C9=true->O_ ps=true))/\At σ r p t m H v1/\place σ a w r p=some ⟨t,H,cs,ad⟩/\(qO=true->∃ b o,ad=some (b,o)) /\
   (ol ps=true->(t.flat||decide (m=an t))=true/\t.rC=true) /\
   (∀ (A0:Cells) (F0 Fp:FP),(∀ b i,A b i->A0 b i)->(ow=true->∀ b i j,j < σ.n->j≠r->1<=F j b i->A0 b i)->ap P w A0 t m H v1 cs Fp ->
    (qO=true->∀ b o,ad=some (b,o)->Has w b o cs/\(∀ j,j < t.sz->w.frozen? ⟨b,o+j,none⟩=false)/\∀ b' i,b_ b o t.sz b' i+Fp b' i<=F0 b' i)->(qO=false->∀ b i,Fp b i<=F0 b i)->∀ ho,(C9=true->ho H=true)->oZ P w A0 ho ps v pJ F0) /\
   (C9=true->GW=true/\qO=false/\∀ (σ':St) (K:St->Option R) (out:(dn (lC ps)).den),rM σ' ps [(r,p)] out K=yR σ' r p K) /\
   (GW=true->C9=false->∀ (σ':St) (K:St->Option R) (out:(dn (lC ps)).den),rM σ' ps [(r,p)] out K=match vj σ' r p t m t.zero (λ_=>some ()) with | some _=>K (σ'.put r .dead) | none=>none) /\
   (GW=false->∀ out:(dn (lC ps)).den,∃ (m2:Md) (o1:t.den),(ol ps=true->(t.flat||decide (m2=an t))=true) /\
    (∀ (σ':St) (K:St->Option R),rM σ' ps [(r,p)] out K=vj σ' r p t m2 o1 λxw=>K (match qO with | true=>xw | false=>{ xw with vr:=(σ'.lP r (tD (dj p+1))).vr,az:=σ'.az })) /\
    ∀ (w':World) (A':Cells) (GM:FP),m8 P w' A' ps out pJ GM->∃ br F3,ap P w' A' t m2 [] o1 br F3/\(∀ b i,F3 b i<=GM b i)/\(qO=true->∀ b o,ad=some (b,o)->Has w' b o br/\∀ b' i,b_ b o t.sz b' i+F3 b' i<=GM b' i) /\
     (qO=false->ci t br=ci t cs)):=by
 intro ps
 induction ps with
 | nil=>intro v ss pJ h hc;cases h.2.2
 | cons p0 ps ih=>
  intro v ss pJ h hc;obtain ⟨pm,t⟩:=p0;obtain ⟨s,RX,tv,xx,wp,zT,rfl,rfl,hw,mu,qi⟩:=h;simp only[eL,List.count_append] at hc ⊢
  cases pm with
  | ro=>
   obtain ⟨zU,cs,h1,h2⟩:=mu;subst zU;have hw:[(r,p)]=zT:=hw;subst hw;obtain ⟨c1,GW,qO,C9,t1,m1,H1,v1,oF,Av,q0,q1,q2,q3,q4,q5,q8,q7,q6⟩:=ih qi (by omega);refine ⟨by omega,GW,qO,C9,t1,m1,H1,v1,oF,Av,q0,q1,q2,q3,q4,λA0 F0 Fp a1 a2 a3 a4 a5 ho a6=>⟨tv,xx,λ_ _=>0,F0,rfl,λb i=>by simp,⟨cs,h1,Ro.mono (λ_ _ _ _ h=>h) (λb i ha=>?_) t h2⟩,q5 A0 F0 Fp a1 a2 a3 a4 a5 ho a6⟩,λhV=>⟨(q8 hV).1,(q8 hV).2.1,λσ' K out=>(q8 hV).2.2 σ' K out⟩,λhE hV σ' K out=>q7 hE hV σ' K out,λhE out=>q6 hE out⟩
   rcases ha with ha | ⟨wg,r',hm,am,hp⟩
   ·exact a1 b i ha
   ·refine a2 wg b i r' am (λe=>?_) hp;subst e;have:=eR.2 hm;omega
  | fix f=>
   obtain ⟨zU,⟨cs,h1,h2⟩,h3⟩:=mu;subst zU;have hw:[(r,p)]=zT:=hw;subst hw;obtain ⟨c1,GW,qO,C9,t1,m1,H1,v1,oF,Av,q0,q1,q2,q3,q4,q5,q8,q7,q6⟩:=ih qi (by omega);exact ⟨by omega,GW,qO,C9,t1,m1,H1,v1,oF,Av,q0,q1,q2,q3,q4,λA0 F0 Fp a1 a2 a3 a4 a5 ho a6=>⟨tv,xx,λ_ _=>0,F0,rfl,λb i=>by simp,⟨⟨cs,h1,Ro.mono (λ_ _ _ _ h=>h) a1 t h2⟩,h3⟩,q5 A0 F0 Fp a1 a2 a3 a4 a5 ho a6⟩,λhV=>⟨(q8 hV).1,(q8 hV).2.1,λσ' K out=>(q8 hV).2.2 σ' K out⟩,λhE hV σ' K out=>q7 hE hV σ' K out,λhE out=>q6 hE out⟩
  | sP m=>
   obtain ⟨r1,p1,snap,b,o,cs,rfl,zU,ue,zJ,ir⟩:=mu;subst zU;have hw:[(r,p)]=(r1,p1)::zT:=hw;injection hw with wL wM;injection wL with wL K8;subst wL;subst wM;subst K8;have GX:(ne (.ptr r p snap)).count r=1:=by simp[ne]
   obtain ⟨n1,n2⟩:=pL (R:=R) (P:=P) (A0:=λb i=>True) (λ_ _ _=>trivial) (r0:=r) (λ_ _ _ _ _ _ _=>trivial) ps qi (λr' hm _ e=>by subst e;have:=eR.2 hm;omega);refine ⟨by omega,true,true,false,t,m,[],v.1,cs,some (b,o),⟨λ_=>rfl,λe=>by cases e⟩,ue,ir,λ_=>⟨b,o,rfl⟩,λho=>?_,λA0 F0 Fp a1 a2 a3 a4 a5 ho _=>?_,(λe=>by cases e),λ_ _ σ' K out=>?_,λe=>by cases e⟩
   ·simp only[ol,aE] at ho;exact ho.1
   ·obtain ⟨b1,b2,b3⟩:=a4 rfl b o rfl;obtain ⟨k1,_⟩:=pL (R:=R) (P:=P) a1 (r0:=r) a2 ps qi (λr' hm _ e=>by subst e;have:=eR.2 hm;omega);exact ⟨tv,xx,F0,λ_ _=>0,rfl,λb i=>aN _,⟨b,o,cs,Fp,zJ,ap.length _ a3,b1,b2,b3,a3⟩,k1 ho⟩
   ·show (match vj σ' r p t m t.zero (λ_=>some ()) with | some _=>rM (σ'.put r .dead) ps [] out K | none=>none)=_;split
    ·exact n2 _ K out
    ·rfl
  | pt m m'=>
   obtain ⟨r1,p1,snap,b,o,cs,rfl,zU,ue,zJ,ir⟩:=mu;subst zU;have hw:[(r,p)]=(r1,p1)::zT:=hw;injection hw with wL wM;injection wL with wL K8;subst wL;subst wM;subst K8;have GX:(ne (.ptr r p snap)).count r=1:=by simp[ne]
   obtain ⟨n1,n2⟩:=pL (R:=R) (P:=P) (A0:=λb i=>True) (λ_ _ _=>trivial) (r0:=r) (λ_ _ _ _ _ _ _=>trivial) ps qi (λr' hm _ e=>by subst e;have:=eR.2 hm;omega);refine ⟨by omega,false,true,false,t,m,[],v.1,cs,some (b,o),⟨λ_=>rfl,λe=>by cases e⟩,ue,ir,λ_=>⟨b,o,rfl⟩,λho=>?_,λA0 F0 Fp a1 a2 a3 a4 a5 ho _=>?_,(λe=>by cases e),(λe=>by cases e),λ_ out=>⟨m',out.1,λho=>?_,λσ' K=>?_,λw' A' GM hm=>?_⟩⟩
   ·simp only[ol,aE] at ho;exact ho.1
   ·obtain ⟨b1,b2,b3⟩:=a4 rfl b o rfl;obtain ⟨k1,_⟩:=pL (R:=R) (P:=P) a1 (r0:=r) a2 ps qi (λr' hm _ e=>by subst e;have:=eR.2 hm;omega);exact ⟨tv,xx,F0,λ_ _=>0,rfl,λb i=>aN _,⟨b,o,cs,Fp,zJ,ap.length _ a3,b1,b2,b3,a3⟩,k1 ho⟩
   ·simp only[ol,aE] at ho;exact ho.2.1
   ·show vj σ' r p t m' out.1 (λσ=>rM σ ps [] out.2 K)=_;congr 1;funext xw;exact n2 xw K out.2
   ·obtain ⟨F1,F2,h1,⟨b',o',L,F3,h2,h3,h4,h5,h6⟩,h7⟩:=hm;simp only[List.head?_cons,aP,zJ,Value.pointer.injEq,Addr.mk.injEq,eE] at h2;obtain ⟨rfl,rfl⟩:=h2;refine ⟨L,F3,h6,λb' i=>by have:=h5 b' i;have:=h1 b' i;omega,λ_ b2 o2 e=>?_,λe=>by cases e⟩
    simp only[aP,bS] at e;obtain ⟨rfl,rfl⟩:=e;exact ⟨h4,λb' i=>by have:=h5 b' i;have:=h1 b' i;omega⟩
  | kY m=>
   obtain ⟨r1,p1,snap,cs,ad,rfl,zU,ue,zJ,ir⟩:=mu;subst zU;have hw:[(r,p)]=(r1,p1)::zT:=hw;injection hw with wL wM;injection wL with wL K8;subst wL;subst wM;subst K8;have GX:(ne (.ref r p snap)).count r=1:=by simp[ne]
   obtain ⟨n1,n2⟩:=pL (R:=R) (P:=P) (A0:=λb i=>True) (λ_ _ _=>trivial) (r0:=r) (λ_ _ _ _ _ _ _=>trivial) ps qi (λr' hm _ e=>by subst e;have:=eR.2 hm;omega);refine ⟨by omega,false,false,false,t,m,[],v.1,cs,ad,⟨λ_=>rfl,λe=>by cases e⟩,ue,ir,(λe=>by cases e),λho=>?_,λA0 F0 Fp a1 a2 a3 a4 a5 ho _=>?_,(λe=>by cases e),(λe=>by cases e),λ_ out=>⟨m,out.1,λho=>?_,λσ' K=>?_,λw' A' GM hm=>?_⟩⟩
   ·simp only[ol,aE] at ho;exact ho.1
   ·obtain ⟨k1,_⟩:=pL (R:=R) (P:=P) a1 (r0:=r) a2 ps qi (λr' hm _ e=>by subst e;have:=eR.2 hm;omega);exact ⟨tv,xx,F0,λ_ _=>0,rfl,λb i=>aN _,⟨cs,zJ,a3.le (a5 rfl)⟩,k1 ho⟩
   ·simp only[ol,aE] at ho;exact ho.1.1
   ·show vj σ' r p t m out.1 (λxw=>rM { xw with vr:=(σ'.lP r (tD (dj p+1))).vr,az:=σ'.az } ps [] out.2 K)=_;congr 1;funext xw;exact n2 _ K out.2
   ·obtain ⟨F1,F2,h1,⟨br,h2,h3⟩,h7⟩:=hm;simp only[List.head?_cons,aP,zJ] at h2;exact ⟨br,F1,h3,λb' i=>by have:=h1 b' i;omega,(λe=>by cases e),λ_=>h2.symm⟩
  | nc m=>
   obtain ⟨H,r1,p1,snap,cs,ad,rfl,zU,ue,zJ,ir⟩:=mu;subst zU;have hw:[(r,p)]=(r1,p1)::zT:=hw;injection hw with wL wM;injection wL with wL K8;subst wL;subst wM;subst K8;have GX:(ne (.ref r p snap)).count r=1:=by simp[ne]
   obtain ⟨n1,n2⟩:=pL (R:=R) (P:=P) (A0:=λb i=>True) (λ_ _ _=>trivial) (r0:=r) (λ_ _ _ _ _ _ _=>trivial) ps qi (λr' hm _ e=>by subst e;have:=eR.2 hm;omega);refine ⟨by omega,true,false,true,t,m,H,v.1,cs,ad,⟨λe=>(by cases e),λ_=>rfl⟩,ue,ir,(λe=>by cases e),λho=>?_,λA0 F0 Fp a1 a2 a3 a4 a5 ho a6=>?_,λ_=>⟨rfl,rfl,λσ' K out=>?_⟩,(λ_ e=>by cases e),λe=>by cases e⟩
   ·simp only[ol,aE] at ho;exact ho.1
   ·obtain ⟨k1,_⟩:=pL (R:=R) (P:=P) a1 (r0:=r) a2 ps qi (λr' hm _ e=>by subst e;have:=eR.2 hm;omega);exact ⟨tv,xx,F0,λ_ _=>0,rfl,λb i=>aN _,⟨H,cs,a6 rfl,zJ,a3.le (a5 rfl)⟩,k1 ho⟩
   ·show yR σ' r p (λxw=>rM xw ps [] out K)=_;congr 1;funext xw;exact n2 _ K out
theorem BA {rs:List Gj} {rv:Value} {G:FP} (h:mS P w A rs rv G):cv P A σ a w rv (uO rs) G/\∀ t m H v,uO rs=.box t m H v->∃ b,rv=.pointer (some ⟨b,0,none⟩)/\ge w b (t.sz,false):=by
 match rs,h with
 | [],_=>exact ⟨trivial,λ_ _ _ _ e=>by cases e⟩
 | [x],h=>
  obtain ⟨cs,rfl,h2⟩:=h;exact EC h2
 | x::y::rs,h=>
  obtain ⟨vs,Fi,h1,h2,h3⟩:=h
  exact ⟨⟨vs,Fi,h1,h2,λj z hz=>by
   obtain ⟨v,cs,g1,g2,g3⟩:=h3 j z hz
   exact ⟨v,g1,.inr ⟨cs,g2,g3⟩⟩⟩,λ_ _ _ _ e=>by cases e⟩
theorem mS.free {A':Cells}:∀ {rs:List Gj} {rv:Value} {G:FP},(∀ x ∈ rs,(x.t.flat||decide (x.m=an x.t))=true/\x.t.rC=true)->mS P w A rs rv G->mS P w A' rs rv G
 | [],_,_,_,_=>trivial
 | [x],_,_,ho,⟨cs,h1,h2⟩=>⟨cs,h1,ap.free (ho x (by simp)).1 (ho x (by simp)).2 h2⟩
 | x::y::rs,_,_,ho,⟨vs,Fi,h1,h2,h3⟩=>⟨vs,Fi,h1,h2,λj z hz=>by
  obtain ⟨v,cs,g1,g2,g3⟩:=h3 j z hz;have hm:z ∈ x::y::rs:=cA hz
  exact ⟨v,cs,g1,g2,ap.free (ho z hm).1 (ho z hm).2 g3⟩⟩
theorem yf:∀ (rs:List (Ty×Md)) {ts:List Ty} (out:(dn (rs.map (·.1)++ts)).den),zw rs=true->∀ x ∈ (lD rs out).1,(x.t.flat||decide (x.m=an x.t))=true/\x.t.rC=true
 | [],_,_,_=>λx hx=>by cases hx
 | (t,m)::rs,_,out,h=>λx hx=>by
  simp only[zw,aE] at h;simp only[lD,aX] at hx;rcases hx with rfl | hx
  ·exact h.1
  ·exact yf rs out.2 h.2 x hx
theorem mS.mono {A':Cells} (hA:∀ b i,A b i->A' b i):∀ {rs:List Gj} {rv:Value} {G:FP},mS P w A rs rv G->mS P w A' rs rv G
 | [],_,_,_=>trivial
 | [x],_,_,⟨cs,h1,h2⟩=>⟨cs,h1,ap.mono hA (λ_ _ _ _ h=>h) (λ_ _ h=>h) _ h2 (λ_ _=>aN _) (λ_ _ _ _ h=>h)⟩
 | x::y::rs,_,_,⟨vs,Fi,h1,h2,h3⟩=>⟨vs,Fi,h1,h2,λj z hz=>by
  obtain ⟨v,cs,g1,g2,g3⟩:=h3 j z hz
  exact ⟨v,cs,g1,g2,ap.mono hA (λ_ _ _ _ h=>h) (λ_ _ h=>h) _ g3 (λ_ _=>aN _) (λ_ _ _ _ h=>h)⟩⟩
end
end OT
namespace OT
open Go
section
variable {P:Program} {C:Ctx} {A:Cells} {X:FP} {σ:St} {a:Act} {w:World} {F:Nat->FP} {R:Type} {x:R} {Q:Exit->Act->World->Prop} {o:Oper} {E:Env}
def uQ (b:Bool) (n:Nat):Nat:=match b with
 | true=>n
 | false=>0
theorem T5 {w2:World} {A2:Cells}:∀ (q:Path) (t:Ty) {m':Md} {v':t.den} {cs:List Value} {G':FP} {ad:Option (Nat×Nat)} {pl:Pl},ap P w2 A2 t m' [] v' cs G'->dj q<=1->bk w q t [] cs ad=some pl ->
  ∃ H' br,bk w2 q t [] cs ad=some ⟨pl.t,H',br,pl.ad⟩/\(dj q < 1->vF pl.t=true->br=pl.cs):=by
 intro q
 induction q with
 | nil=>
  intro t m' v' cs G' ad pl h2 hq hp;simp only[bk,aP] at hp;subst hp;exact ⟨_,_,rfl,λ_ _=>rfl⟩
 | cons s q ih=>
  intro t m' v' cs G' ad pl h2 hq hp
  cases t with
  | pair a b=>
   obtain ⟨h0,F1,F2,hs,r1,r2⟩:=h2
   cases s with
   | fst=>
    simp only[bk,h0,aL] at hp ⊢;exact ih a r1 (by simpa [dj] using hq) (by simpa using hp)
   | snd=>
    simp only[bk,h0,aL] at hp ⊢;exact ih b r2 (by simpa [dj] using hq) (by simpa using hp)
   | idx i=>simp[bk] at hp
   | o4 i=>simp[bk] at hp
  | U e=>
   cases s with
   | idx i=>
    obtain ⟨xa,cap,news,Fi,r1,r2,r3,r4,r5,r6,r7,r8⟩:=yd h2;subst r1
    cases xa with
    | none=>simp[bk,hole] at hp
    | some cr=>
     simp only[bk,hole,bU,aF,aL,eQ] at hp ⊢;split at hp
     ·rename_i hi;rw[aV hi];have e_:=r6 i _ (aB hi);obtain ⟨g1,g2⟩:=r3 cr rfl;have hl:=ap.length _ e_
      have hh:Has w2 cr.block (cr.off+i*e.sz) ((news.drop (i*e.sz)).take e.sz):=λj u hu=>by
       rw[bJ] at hu;split at hu
       ·rw[bL] at hu;rw[cE];exact g2 _ u hu
       ·cases hu
      rw[dx hh hl];obtain ⟨H',br,h1,h2⟩:=As (A:=λ_ _=>True) (m:=.leaf) (v:=v'[i]) (F:=λ_ _=>0) q e e_ (.inl (by simp only[dj] at hq;omega)) hp;exact ⟨H',br,h1,λh=>by simp only[dj] at h;omega⟩
     ·cases hp
   | _=>simp[bk] at hp
  | arr n e=>
   cases s with
   | fst=>simp[bk] at hp
   | snd=>simp[bk] at hp
   | idx i=>simp[bk] at hp
   | o4 i=>
    obtain ⟨_,hf,hl,hlen,hr⟩:=h2;simp only[bk,cT,aI] at hp ⊢;split at hp
    ·rename_i hi;rw[aV hi];exact ih e (Ro.flat e (m:=.leaf) (λ_ _=>0) hf (hr i _ (aB (by rw[hl];exact hi)))) (by simpa [dj] using hq) hp
    ·cases hp
  | _=>cases s <;> simp[bk] at hp
theorem RY {t:Ty} {m':Md} {v':t.den} {cs:List Value} {G':FP} {w2:World} {A2:Cells} (ad:Option (Nat×Nat)) (h2:ap P w2 A2 t m' [] v' cs G'):rD 1 False w t [] cs ad w2 [] cs:=by
 intro q pl hq hp;obtain ⟨H',br,h1,h3⟩:=T5 q t h2 hq hp;exact ⟨H',br,h1,λh=>by rcases h with ⟨h,hs⟩ | h;exact h3 h hs;exact h.elim⟩
theorem K9 (h:dt P C A σ a w F) {r:Nat} {ow:Bool} {b i:Nat} (ha:AX A F σ.n r ow b i):b < w.heap.size:=by
 rcases ha with ha | ⟨_,j,hj,_,hp⟩
 ·exact h.kP b i (.inr ha)
 ·exact h.kP b i (.inl (by have:=cy F hj b i;show 1<=0+a_ σ.n F b i;omega))
def wN:List (PM×Ty)->Bool
 | []=>true
 | (.pt _ _,_)::_=>false
 | (.kY _,_)::_=>false
 | (.sP _,_)::_=>false
 | (.nc _,_)::_=>false
 | _::ps=>wN ps
theorem uR {ow:Bool} {y:Nat×Path} {ws:List (Nat×Path)}:∀ (ps:List (PM×Ty)) {v:(dn (ps.map (·.2))).den} {ss:List Slot} {pJ:List Value},wN ps=true->DL P A σ a w F ow ps v ss pJ (y::ws)->False
 | [],_,_,_,_,h=>by cases h.2.2
 | (pm,t)::ps,_,_,_,hm,h=>by
  obtain ⟨s,RX,tv,xx,wp,zT,_,_,hw,mu,qi⟩:=h
  cases pm with
  | ro=>obtain ⟨zU,_⟩:=mu;subst zU;have hw:_=zT:=hw;subst hw;exact uR ps hm qi
  | fix f=>obtain ⟨zU,_⟩:=mu;subst zU;have hw:_=zT:=hw;subst hw;exact uR ps hm qi
  | pt m m'=>cases hm
  | kY m=>cases hm
  | sP m=>cases hm
  | nc m=>cases hm
theorem PG (h:dt P C A σ a w F) {f:FuncId} {g:sQ} (hs:Sound P f g) {ow:Bool} (wg:ow=true->(zw g.rs&&ol g.ps)=true) {r:Nat} {p:Path} {t:Ty} {m:Md} {v1:t.den} {cs:List Value} {ad:Option (Nat×Nat)} {qO:Bool} {v:(dn (g.ps.map (·.2))).den} {pJ:List Value} {out:(dn (g.rs.map (·.1)++lC g.ps)).den} (hF:g.F v=some out)
  (b1:At σ r p t m [] v1) (b2:place σ a w r p=some ⟨t,[],cs,ad⟩) (b3:qO=true->∃ b o,ad=some (b,o))
  (b5 : ∀ (A0:Cells) (F0 Fp:FP),(∀ b i,A b i->A0 b i)->(ow=true->∀ b i j,j < σ.n->j≠r->1<=F j b i->A0 b i)->ap P w A0 t m [] v1 cs Fp ->
      (qO=true->∀ b o,ad=some (b,o)->Has w b o cs/\(∀ j,j < t.sz->w.frozen? ⟨b,o+j,none⟩=false)/\∀ b' i,b_ b o t.sz b' i+Fp b' i<=F0 b' i)->(qO=false->∀ b i,Fp b i<=F0 b i)->oZ P w A0 (g.CZ v) g.ps v pJ F0)
  {d:Option Tmp} {K:St->Option R} (q1:(match vj σ r p t m t.zero (λ_=>some ()) with | some _=>K ((σ.put r .dead).b9 d (uO (lD g.rs out).1)) | none=>none)=some x) (T6:wN g.ps=true->False) :
  Calls P f pJ.toArray w λe w'=>∃ rv,e=.returned rv/\Nx P C K x (a.put d rv) w'/\(wN g.ps=true->Ext w w' (λ_ _=>0)):=by
 cases Dt:vj σ r p t m t.zero (λ_=>some ()) with
 | none=>rw[Dt] at q1;cases q1
 | some u=>
 rw[Dt] at q1;simp only at q1;obtain ⟨hr,m2,H2,v2,cz,wI,F2,s1,s2,s3,s4,s5,_⟩:=Bz h Dt;obtain ⟨_,e3,e4,e5⟩:=b1.inj s1;subst e3;subst e4;have e5:=iD e5;subst e5;rw[b2] at s2;simp only[aP,Pl.mk.injEq,dZ] at s2;obtain ⟨rfl,rfl⟩:=s2;obtain ⟨Yr,Ys⟩:=ap.fp t s3
 obtain ⟨F0,C4⟩:∃ F0:FP,∀ b i,F0 b i=uQ qO (jd ad t.sz b i)+kZ w t m [] cs b i:=⟨λb i=>uQ qO (jd ad t.sz b i)+kZ w t m [] cs b i,λ_ _=>rfl⟩
 have K_:∀ b i,F0 b i<=jd ad t.sz b i+kZ w t m [] cs b i:=λb i=>by
  rw[C4];cases qO <;> simp[uQ]
 have xy:∀ b i,F0 b i<=F r b i:=λb i=>by have:=K_ b i;have:=Ys b i;have:=s4 b i;omega
 have mc:∀ b i,F r b i<=a_ σ.n F b i:=λb i=>cy F hr b i;have pe:∀ b i,a_ σ.n F b i<=1:=λb i=>by have:=h.o5 b i;omega
 have Jb:∀ b i,A b i->AX A F σ.n r ow b i:=λb i h=>.inl h;have Jc:∀ b i,1<=F r b i->b < w.heap.size:=λb i hp=>h.kP b i (.inl (by have:=mc b i;show 1<=0+_;omega))
 have lj:=b5 (AX A F σ.n r ow) F0 (kZ w t m [] cs) Jb (λwg b i j hj fq hp=>.inr ⟨wg,j,hj,fq,hp⟩)
  (ap.mono Jb (λ_ _ _ _ h=>h) (λ_ _ h=>h) t Yr (λ_ _=>aN _) (λ_ _ _ _ h=>h))
  (λhP b o e=>⟨(s5 b o e).1,(s5 b o e).2,λb' i=>by rw[C4,hP,e];exact aN _⟩) (λhP b i=>by rw[C4,hP];simp[uQ])
 refine (hs w _ F0 v _ lj (λb i=>by have:=xy b i;have:=mc b i;have:=pe b i;omega) (λb i hp ha=>?_) (λb i hp=>?_) (h.BW λb i hp=>by have:=xy b i;have:=mc b i;show 1<=0+_;omega) out hF).mono λe w' B_=>?_
 ·have h1:=xy b i;have h2:=mc b i
  rcases ha with ha | ⟨_,j,hj,fq,V8⟩
  ·exact h.pW b i (by show 1<=0+_;omega) ha
  ·have:=uj F hj hr fq b i;have:=pe b i;omega
 ·rcases hp with hp | hp
  ·exact Jc b i (by have:=xy b i;omega)
  ·exact K9 h hp
 ·obtain ⟨rv,rfl,dr,A',G,GR,GM,g1,g2,g3,g4,g5,g6,g7,g8,g9⟩:=B_;refine ⟨rv,rfl,?_⟩
  obtain ⟨x1,x2⟩:=FJ dr
  obtain ⟨wh,A2,a1,a2,a3,a4,a6⟩:∃ wh A2:Cells,(∀ b i,A b i->wh b i)/\(∀ b i,wh b i->A b i\/(w.heap.size<=b/\b < w'.heap.size/\G b i=0))/\(∀ b i,wh b i->A2 b i)/\(∀ b i,A2 b i->wh b i\/(1<=F0 b i/\G b i=0)) /\
    mS P w' A2 (lD g.rs out).1 rv GR:=by
   cases ow with
   | true=>
    have ho:=wg rfl;simp only[aE] at ho;exact ⟨A,A,λ_ _ h=>h,λ_ _ h=>.inl h,λ_ _ h=>h,λ_ _ h=>.inl h,mS.free (yf g.rs out ho.1) g8⟩
   | false=>
    have qt:∀ b i,A' b i->G b i=0:=λb i ha=>by
     rcases bF (G b i) with h0 | h0
     ·exact h0
     ·exact absurd ha (g5 b i h0)
    refine ⟨λb i=>A b i\/(w.heap.size<=b/\A' b i),A',λ_ _ h=>.inl h,λb i ha=>ha.imp id λ⟨h1,h2⟩=>⟨h1,g6 b i (.inr h2),qt b i h2⟩,λb i ha=>?_,λb i ha=>?_,g8⟩
    ·rcases ha with ha | ⟨_,ha⟩
     ·exact g1 b i (.inl ha)
     ·exact ha
    ·rcases g2 b i ha with (La | ⟨e,_⟩) | h0 | hn
     ·exact .inl (.inl La)
     ·cases e
     ·exact .inr ⟨h0,qt b i ha⟩
     ·exact .inl (.inr ⟨hn,ha⟩)
  have Ca:=ye dr.size;have h1:=h.put hr (s:=.dead) (v:=tmp a r) (Fd:=λ_ _=>0) (X':=F r) trivial (λb k=>by omega) (λ_ _ _ _ e=>by cases e);rw[rf] at h1;have tJ:=h1.grow x1 (A1:=wh) (X1:=λb i=>if w.heap.size<=b then G b i else F r b i) a1 (λb i ha=>?_) (λb i=>?_);rotate_left
  ·rcases a2 b i ha with ha | ⟨h1,h2,h3⟩
   ·exact .inl ha
   ·exact .inr ⟨h1,by rw[Ca];exact h2,by rw[aV h1];exact h3⟩
  ·by_cases hb:w.heap.size<=b
   ·rw[aV hb];rcases bF (G b i) with h0 | h0
    ·left;omega
    ·exact .inr ⟨hb,by rw[Ca];exact g6 b i (.inl h0),g4 b i⟩
   ·rw[bB hb];left;omega
  have h3:=tJ.world x2 (λb i hp=>by
   have h4:=xy b i;have h5:=Jc b i (by omega)
   rw[bB (by omega)];omega)
  have h4:=h3.giveUp (A1:=A2) (X1:=GR) a3 (λb i ha=>by
   rcases a4 b i ha with ha | ⟨h5,h6⟩
   ·exact .inl ha
   ·have h7:=xy b i;have h8:=Jc b i (by omega)
    exact .inr ⟨by rw[bB (by omega)];omega,by have:=g7 b i;omega⟩) (λb i=>by
   have h7:=g7 b i;by_cases hb:w.heap.size<=b
   ·rw[aV hb];omega
   ·rw[bB hb];rcases bF (GR b i) with h0 | h0
    ·omega
    ·have h8:=g4 b i;rcases g3 b i (by omega) with h9 | h9
     ·have:=xy b i;omega
     ·omega)
  have t8:=BA (σ:=σ.put r .dead) (a:=a) a6;exact ⟨pv h4 q1 t8.1 (λ_ _=>aN _) t8.2,λhm=>(T6 hm).elim⟩
theorem M7 (h:dt P C A σ a w F) {f:FuncId} {g:sQ} (hs:Sound P f g) {ow:Bool} (wg:ow=true->(zw g.rs&&ol g.ps)=true) {r:Nat} {p:Path} {t:Ty} {m:Md} {H:List Path} {v1:t.den} {cs:List Value} {ad:Option (Nat×Nat)} {qO:Bool} {v:(dn (g.ps.map (·.2))).den} {pJ:List Value} {out:(dn (g.rs.map (·.1)++lC g.ps)).den} (hF:g.F v=some out)
  (b1:At σ r p t m H v1) (b2:place σ a w r p=some ⟨t,H,cs,ad⟩) (hP:qO=false)
  (b5 : ∀ (A0:Cells) (F0 Fp:FP),(∀ b i,A b i->A0 b i)->(ow=true->∀ b i j,j < σ.n->j≠r->1<=F j b i->A0 b i)->ap P w A0 t m H v1 cs Fp ->
      (qO=true->∀ b o,ad=some (b,o)->Has w b o cs/\(∀ j,j < t.sz->w.frozen? ⟨b,o+j,none⟩=false)/\∀ b' i,b_ b o t.sz b' i+Fp b' i<=F0 b' i)->(qO=false->∀ b i,Fp b i<=F0 b i)->oZ P w A0 (g.CZ v) g.ps v pJ F0)
  {d:Option Tmp} {K:St->Option R} (q1:yR σ r p (λσ=>K (σ.b9 d (uO (lD g.rs out).1)))=some x) (T6:wN g.ps=true->False) :
  Calls P f pJ.toArray w λe w'=>∃ rv,e=.returned rv/\Nx P C K x (a.put d rv) w'/\(wN g.ps=true->Ext w w' (λ_ _=>0)):=by
 have hr:r < σ.n:=s8 b2;obtain ⟨A1,ov,F1,oF,Av,F0,k1,k2,k3,k4,_,k5,k6,k7⟩:=KL h q1 b1;rw[b2] at k5;simp only[aP,Pl.mk.injEq,dZ] at k5;obtain ⟨rfl,rfl⟩:=k5;have mc:∀ b i,F r b i<=a_ σ.n F b i:=λb i=>cy F hr b i;have pe:∀ b i,a_ σ.n F b i<=1:=λb i=>by have:=h.o5 b i;omega
 have k3t:∀ b i,F0 b i+a_ ov.n F1 b i<=1:=λb i=>by have h:=k3.o5 b i;simpa using h
 have k3d:∀ b i,1<=F0 b i->¬ A1 b i:=λb i hp=>k3.pW b i (by show 1<=0+F0 b i+_;omega);have V9:∀ b i,1<=F0 b i\/A1 b i->b < w.heap.size:=λb i hp=>k3.kP b i (hp.imp (λhp=>by show 1<=0+F0 b i+_;omega) id);have Jb:∀ b i,A1 b i->AX A1 F σ.n r ow b i:=λb i h=>.inl h
 have lj:=b5 (AX A1 F σ.n r ow) F0 F0 (λb i h=>.inl (k2 b i h)) (λwg b i j hj fq hp=>.inr ⟨wg,j,hj,fq,hp⟩)
  (ap.mono (λb i h=>.inl (k2 b i h)) (λ_ _ _ _ h=>h) (λ_ _ h=>h) t k6 (λ_ _=>aN _) (λ_ _ _ _ h=>h))
  (λe=>by rw[hP] at e;cases e) (λ_ b i=>aN _)
 refine (hs w _ F0 v _ lj (λb i=>by have:=k3t b i;omega) (λb i hp ha=>?_) (λb i hp=>?_) (k3.BW λb i hp=>by show 1<=0+F0 b i+_;omega) out hF).mono λe w' B_=>?_
 ·rcases ha with ha | ⟨_,j,hj,fq,V8⟩
  ·exact k3d b i hp ha
  ·have:=k7 b i;have:=uj F hj hr fq b i;have:=pe b i;omega
 ·rcases hp with hp | hp | ⟨_,j,hj,fq,V8⟩
  ·exact V9 b i (.inl hp)
  ·exact V9 b i (.inr hp)
  ·exact h.kP b i (.inl (by have:=cy F hj b i;show 1<=0+_;omega))
 ·obtain ⟨rv,rfl,dr,A',G,GR,GM,g1,g2,g3,g4,g5,g6,g7,g8,g9⟩:=B_;refine ⟨rv,rfl,?_⟩
  obtain ⟨x1,x2⟩:=FJ dr
  obtain ⟨wh,A2,a1,a2,a3,a4,a6⟩:∃ wh A2:Cells,(∀ b i,A1 b i->wh b i)/\(∀ b i,wh b i->A1 b i\/(w.heap.size<=b/\b < w'.heap.size/\G b i=0))/\(∀ b i,wh b i->A2 b i)/\(∀ b i,A2 b i->wh b i\/(1<=F0 b i/\G b i=0)) /\
    mS P w' A2 (lD g.rs out).1 rv GR:=by
   cases ow with
   | true=>
    have ho:=wg rfl;simp only[aE] at ho;exact ⟨A1,A1,λ_ _ h=>h,λ_ _ h=>.inl h,λ_ _ h=>h,λ_ _ h=>.inl h,mS.free (yf g.rs out ho.1) g8⟩
   | false=>
    have qt:∀ b i,A' b i->G b i=0:=λb i ha=>by
     rcases bF (G b i) with h0 | h0
     ·exact h0
     ·exact absurd ha (g5 b i h0)
    refine ⟨λb i=>A1 b i\/(w.heap.size<=b/\A' b i),A',λ_ _ h=>.inl h,λb i ha=>ha.imp id λ⟨h1,h2⟩=>⟨h1,g6 b i (.inr h2),qt b i h2⟩,λb i ha=>?_,λb i ha=>?_,g8⟩
    ·rcases ha with ha | ⟨_,ha⟩
     ·exact g1 b i (.inl ha)
     ·exact ha
    ·rcases g2 b i ha with (La | ⟨e,_⟩) | h0 | hn
     ·exact .inl (.inl La)
     ·cases e
     ·exact .inr ⟨h0,qt b i ha⟩
     ·exact .inl (.inr ⟨hn,ha⟩)
  have Ca:=ye dr.size;have tJ:=k3.grow x1 (A1:=wh) (X1:=λb i=>if w.heap.size<=b then G b i else F0 b i) a1 (λb i ha=>?_) (λb i=>?_);rotate_left
  ·rcases a2 b i ha with ha | ⟨h1,h2,h3⟩
   ·exact .inl ha
   ·exact .inr ⟨h1,by rw[Ca];exact h2,by rw[aV h1];exact h3⟩
  ·by_cases hb:w.heap.size<=b
   ·rw[aV hb];rcases bF (G b i) with h0 | h0
    ·left;omega
    ·exact .inr ⟨hb,by rw[Ca];exact g6 b i (.inl h0),g4 b i⟩
   ·rw[bB hb];left;show _<=0+F0 b i;omega
  have h3:=tJ.world x2 (λb i hp=>by
   have h5:=V9 b i (.inl hp)
   rw[bB (by omega)];exact hp)
  have h4:=h3.giveUp (A1:=A2) (X1:=GR) a3 (λb i ha=>by
   rcases a4 b i ha with ha | ⟨h5,h6⟩
   ·exact .inl ha
   ·have h8:=V9 b i (.inl h5)
    exact .inr ⟨by rw[bB (by omega)];exact h5,by have:=g7 b i;omega⟩) (λb i=>by
   have h7:=g7 b i;by_cases hb:w.heap.size<=b
   ·rw[aV hb];omega
   ·rw[bB hb];rcases bF (GR b i) with h0 | h0
    ·omega
    ·have h8:=g4 b i;rcases g3 b i (by omega) with h9 | h9
     ·omega
     ·omega)
  have t8:=BA (σ:=ov) (a:=a) a6;exact ⟨pv h4 k1 t8.1 (λ_ _=>aN _) t8.2,λhm=>(T6 hm).elim⟩
theorem Jd (h:dt P C A σ a w F) {f:FuncId} {g:sQ} (hs:Sound P f g) {ow:Bool} (wg:ow=true->(zw g.rs&&ol g.ps)=true) {xs:List Operand} {ex:List Slot} {EY:List Value} (bc:xs.all (dm P)=true)
  (hex:∀ (A':Cells) (σ':St),(∀ b i,A b i->A' b i)->vQ P A' σ' a w ex EY) {d:Option Tmp} {K:St->Option R} (hk:Gn g ow σ xs ex d K=some x) :
  Calls P f (xs.map a.eval++EY).toArray w λe w'=>∃ rv,e=.returned rv/\Nx P C K x (a.put d rv) w'/\(wN g.ps=true->Ext w w' (λ_ _=>0)):=by
 unfold Gn at hk;obtain ⟨A1,ov,F1,k1,k2,k3,k4⟩:=W_ g.ps xs h hk;have oo:=GV k3 xs bc (hex A1 ov k2);obtain ⟨v,ws,q1,q2⟩:=Xb k3 g.ps oo k1;split at q1;rotate_left
 ·cases q1
 rename_i hc;simp only[aE,dU] at hc;obtain ⟨hlen,RZ⟩:=hc
 match ws,hlen with
 | [],_=>
  have q1:((g.F v).bind λout=>rM ov g.ps [] (lD g.rs out).2 λσ=>K (σ.b9 d (uO (lD g.rs out).1)))=some x:=by
   unfold TM at q1;split at q1
   ·rename_i e;cases e
   ·exact q1
  cases hF:g.F v with
  | none=>rw[hF] at q1;cases q1
  | some out=>
  rw[hF] at q1;simp only[aA] at q1;obtain ⟨n1,n2⟩:=pL (R:=R) (A0:=AX A1 F1 ov.n ov.n ow) (λb i h=>.inl h) (r0:=ov.n) (λwg b i j hj fq hp=>.inr ⟨wg,j,hj,fq,hp⟩) g.ps q2 (λr _ am=>by omega);rw[n2] at q1;refine (hs w _ (λ_ _=>0) v _ (n1 _) (λ_ _=>aY _) (λb i hp=>by omega) (λb i hp=>?_) (k3.BW λb i hp=>by omega) out hF).mono λe w' B_=>?_
  ·rcases hp with hp | hp
   ·omega
   ·exact K9 k3 hp
  ·obtain ⟨rv,rfl,dr,A',G,GR,GM,g1,g2,g3,g4,g5,g6,g7,g8,g9⟩:=B_
   have hX:∀ b i,GR b i<=0\/(w.heap.size<=b/\b < w'.heap.size/\GR b i<=1):=λb i=>by
    rcases bF (GR b i) with h0 | h0
    ·left;omega
    ·have h7:=g7 b i;right;refine ⟨?_,g6 b i (.inl (by omega)),by have:=g4 b i;omega⟩
     rcases g3 b i (by omega) with h1 | h1
     ·omega
     ·exact h1
   refine ⟨rv,rfl,?_⟩
   cases ow with
   | true=>
    have ho:=wg rfl;simp only[aE] at ho;have tJ:=k3.grow dr (A1:=A1) (X1:=GR) (λ_ _ h=>h) (λ_ _ h=>.inl h) hX;have t8:=BA (σ:=ov) (a:=a) (mS.free (A':=A1) (yf g.rs out ho.1) g8);exact ⟨pv tJ q1 t8.1 (λ_ _=>aN _) t8.2,λ_=>dr⟩
   | false=>
    have tJ:=k3.grow dr (A1:=A') (X1:=GR) (λb i ha=>g1 b i (.inl ha)) (λb i ha=>by
     rcases g2 b i ha with (La | ⟨e,_⟩) | h0 | hn
     ·exact .inl La
     ·cases e
     ·omega
     ·refine .inr ⟨hn,g6 b i (.inr ha),?_⟩;rcases bF (GR b i) with h0 | h0
      ·exact h0
      ·exact absurd ha (g5 b i (by have:=g7 b i;omega))) hX
    have t8:=BA (σ:=ov) (a:=a) g8;exact ⟨pv tJ q1 t8.1 (λ_ _=>aN _) t8.2,λ_=>dr⟩
 | [(r,p)],_=>
  simp only[apart,aE,dU,eE] at RZ;obtain ⟨_,GW,qO,C9,t,m,H,v1,cs,ad,b0,b1,b2,b3,b4,b5,b8,b7,b6⟩:=PE g.ps q2 RZ
  have q3:(C9=true->g.CZ v H=true)/\((g.F v).bind λout=>rM ov g.ps [(r,p)] (lD g.rs out).2 λσ=>K (σ.b9 d (uO (lD g.rs out).1)))=some x:=by
   cases hv:O_ g.ps with
   | false=>
    rw[hv] at q1;exact ⟨λe=>(by have:=b0.2 e;rw[hv] at this;exact (Bool.false_ne_true this).elim),q1⟩
   | true=>
    rw[hv] at q1;simp only[TM] at q1;rw[b1.eq] at q1
    cases hh:g.CZ v H with
    | true=>rw[hh] at q1;exact ⟨λ_=>rfl,q1⟩
    | false=>rw[hh] at q1;cases q1
  obtain ⟨q0,q1⟩:=q3;replace b5:=λA0 F0 Fp a1 a2 a3 a4 a5=>b5 A0 F0 Fp a1 a2 a3 a4 a5 (g.CZ v) q0
  cases hF:g.F v with
  | none=>rw[hF] at q1;cases q1
  | some out=>
  rw[hF] at q1;simp only[aA] at q1
  cases C9 with
  | true=>
   obtain ⟨hE,hP,_⟩:=b8 rfl;subst hE;exact M7 k3 hs wg hF b1 b2 (b8 rfl).2.1 b5 (((b8 rfl).2.2 ov (λσ=>K (σ.b9 d (uO (lD g.rs out).1))) (lD g.rs out).2).symm.trans q1) (λhm=>uR g.ps hm q2)
  | false=>
  obtain rfl:=b0.1 rfl
  cases GW with
  | true=>exact PG k3 hs wg hF b1 b2 b3 b5 ((b7 rfl rfl ov (λσ=>K (σ.b9 d (uO (lD g.rs out).1))) (lD g.rs out).2).symm.trans q1) (λhm=>uR g.ps hm q2)
  | false=>
  obtain ⟨mo,o1,b6o,e1,e2⟩:=b6 rfl (lD g.rs out).2;rw[e1] at q1;have q1':=q1;obtain ⟨hr,m2,H2,v2,cz,wI,F2,s1,s2,s3,s4,s5,_⟩:=Bz k3 q1;obtain ⟨_,e3,e4,e5⟩:=b1.inj s1;subst e3;subst e4;have e5:=iD e5;subst e5;rw[b2] at s2;simp only[aP,Pl.mk.injEq,dZ] at s2;obtain ⟨rfl,rfl⟩:=s2;obtain ⟨Yr,Ys⟩:=ap.fp t s3
  obtain ⟨F0,C4⟩:∃ F0:FP,∀ b i,F0 b i=uQ qO (jd ad t.sz b i)+kZ w t m [] cs b i:=⟨λb i=>uQ qO (jd ad t.sz b i)+kZ w t m [] cs b i,λ_ _=>rfl⟩
  have K_:∀ b i,F0 b i<=jd ad t.sz b i+kZ w t m [] cs b i:=λb i=>by
   rw[C4];cases qO <;> simp[uQ]
  have xy:∀ b i,F0 b i<=F1 r b i:=λb i=>by have:=K_ b i;have:=Ys b i;have:=s4 b i;omega
  have mc:∀ b i,F1 r b i<=a_ ov.n F1 b i:=λb i=>cy F1 hr b i;have pe:∀ b i,a_ ov.n F1 b i<=1:=λb i=>by have:=k3.o5 b i;omega
  have Jb:∀ b i,A1 b i->AX A1 F1 ov.n r ow b i:=λb i h=>.inl h
  have lj:=b5 (AX A1 F1 ov.n r ow) F0 (kZ w t m [] cs) Jb (λwg b i j hj fq hp=>.inr ⟨wg,j,hj,fq,hp⟩)
   (ap.mono Jb (λ_ _ _ _ h=>h) (λ_ _ h=>h) t Yr (λ_ _=>aN _) (λ_ _ _ _ h=>h))
   (λhP b o e=>⟨(s5 b o e).1,(s5 b o e).2,λb' i=>by rw[C4,hP,e];exact aN _⟩) (λhP b i=>by rw[C4,hP];simp[uQ])
  refine (hs w _ F0 v _ lj (λb i=>by have:=xy b i;have:=mc b i;have:=pe b i;omega) (λb i hp ha=>?_) (λb i hp=>?_) (k3.BW λb i hp=>by have:=xy b i;have:=mc b i;show 1<=0+_;omega) out hF).mono λe w' B_=>?_
  ·have h1:=xy b i;have h2:=mc b i
   rcases ha with ha | ⟨_,j,hj,fq,V8⟩
   ·exact k3.pW b i (by show 1<=0+_;omega) ha
   ·have:=uj F1 hj hr fq b i;have:=pe b i;omega
  ·rcases hp with hp | hp
   ·exact k3.kP b i (.inl (by have:=xy b i;have:=mc b i;show 1<=0+_;omega))
   ·exact K9 k3 hp
  ·obtain ⟨rv,rfl,dr,A',G,GR,GM,g1,g2,g3,g4,g5,g6,g7,g8,g9⟩:=B_;refine ⟨rv,rfl,?_⟩
   obtain ⟨Je,F3,t1,t2,t3,t4⟩:=e2 w' A' GM g9;obtain ⟨x1,x2⟩:=FJ dr
   obtain ⟨wh,A2,a1,a2,a3,a4,a5,a6⟩:∃ wh A2:Cells,(∀ b i,A1 b i->wh b i)/\(∀ b i,wh b i->A1 b i\/(w.heap.size<=b/\b < w'.heap.size/\G b i=0))/\(∀ b i,wh b i->A2 b i)/\(∀ b i,A2 b i->wh b i\/(1<=F0 b i/\G b i=0)) /\
     ap P w' A2 t mo [] o1 Je F3/\mS P w' A2 (lD g.rs out).1 rv GR:=by
    cases ow with
    | true=>
     have ho:=wg rfl;simp only[aE] at ho;exact ⟨A1,A1,λ_ _ h=>h,λ_ _ h=>.inl h,λ_ _ h=>h,λ_ _ h=>.inl h,ap.free (b6o ho.2) (b4 ho.2).2 t1,mS.free (yf g.rs out ho.1) g8⟩
    | false=>
     have qt:∀ b i,A' b i->G b i=0:=λb i ha=>by
      rcases bF (G b i) with h0 | h0
      ·exact h0
      ·exact absurd ha (g5 b i h0)
     refine ⟨λb i=>A1 b i\/(w.heap.size<=b/\A' b i),A',λ_ _ h=>.inl h,λb i ha=>ha.imp id λ⟨h1,h2⟩=>⟨h1,g6 b i (.inr h2),qt b i h2⟩,λb i ha=>?_,λb i ha=>?_,t1,g8⟩
     ·rcases ha with ha | ⟨_,ha⟩
      ·exact g1 b i (.inl ha)
      ·exact ha
     ·rcases g2 b i ha with (La | ⟨e,_⟩) | h0 | hn
      ·exact .inl (.inl La)
      ·cases e
      ·exact .inr ⟨h0,qt b i ha⟩
      ·exact .inl (.inr ⟨hn,ha⟩)
   have Ca:=ye dr.size;have tJ:=k3.grow x1 (A1:=wh) (X1:=λb i=>if w.heap.size<=b then G b i else 0) a1 (λb i ha=>?_) (λb i=>?_);rotate_left
   ·rcases a2 b i ha with ha | ⟨h1,h2,h3⟩
    ·exact .inl ha
    ·exact .inr ⟨h1,by rw[Ca];exact h2,by rw[aV h1];exact h3⟩
   ·by_cases hb:w.heap.size<=b
    ·rw[aV hb];rcases bF (G b i) with h0 | h0
     ·left;omega
     ·exact .inr ⟨hb,by rw[Ca];exact g6 b i (.inl h0),g4 b i⟩
    ·rw[bB hb];left;omega
   obtain ⟨_,m4,H4,v4,VK,ad4,F4,u1,u2,u3,u4,u5,u6⟩:=Bz tJ q1';obtain ⟨_,e3,e4,e5⟩:=b1.inj u1;subst e3;subst e4;have e5:=iD e5;subst e5;have Jc:∀ b i,1<=F1 r b i->b < w.heap.size:=λb i hp=>k3.kP b i (.inl (by have:=mc b i;show 1<=0+_;omega));have ir:=vu (σ':=ov) (a':=a) (w2:=World.news w w') (k3.g_ r hr) rfl rfl (λb i ha u hu=>x1.cell b i (k3.kP b i (.inr ha)) rfl u hu) (λb i hp u hu=>x1.cell b i (Jc b i hp) rfl u hu) b2;rw[ir] at u2;simp only[aP,Pl.mk.injEq,dZ] at u2;obtain ⟨rfl,rfl⟩:=u2;have nZ:kZ (World.news w w') t m [] cs=kZ w t m [] cs:=PD t s3 (λb i hp u hu=>x1.cell b i (Jc b i (by have:=s4 b i;omega)) rfl u hu);have Lb:∀ b i,kZ w t m [] cs b i<=F4 b i:=λb i=>by have:=(ap.fp t u3).2 b i;rw[nZ] at this;exact this
   have Ob:=ap.length _ t1;have hl:=ap.length _ s3;have oH:qO=false->Je=cs:=λhP=>Xc Ob (ap.one _ t1) hl (ap.one _ s3) (t4 hP)
   have GX:∀ b i,1<=jd ad t.sz b i->F4 b i=0:=λb i hp=>by
    have:=u4 b i;have:=mc b i;have:=pe b i;omega
   have T7:∀ b i,b < w.heap.size->1<=G b i->1<=jd ad t.sz b i\/1<=F4 b i:=λb i hb hp=>by
    rcases g3 b i hp with h1 | h1
    ·have:=K_ b i;have:=Lb b i;omega
    ·omega
   have Z_:∀ b i,GR b i+F3 b i<=(if w.heap.size<=b then G b i else 0)+F4 b i:=λb i=>by
    have h7:=g7 b i;have h2:=t2 b i
    by_cases hb:w.heap.size<=b
    ·rw[aV hb];omega
    ·rw[bB hb];rcases bF (GR b i+F3 b i) with h0 | h0
     ·omega
     ·have h4:=g4 b i;rcases g3 b i (by omega) with h1 | h1
      ·rw[C4] at h1
       cases hP:qO with
       | true=>
        obtain ⟨b',o',fk⟩:=b3 hP;obtain ⟨_,h8⟩:=t3 hP b' o' fk;have h9:=h8 b i;rw[hP,fk] at h1;simp only[uQ,jd] at h1;have:=Lb b i;omega
       | false=>
        rw[hP] at h1;simp only[uQ,bE] at h1;have:=Lb b i;omega
      ·omega
   obtain ⟨A3,yN,Fr,n1,n2,n3,n4,n5⟩:=u6 w' A2 Je F3 GR (x2.mono λb i hz=>by
     have hz:(if w.heap.size<=b then G b i else 0)+(F4 b i+jd ad t.sz b i)=0:=hz
     have:=K_ b i;have:=Lb b i;omega) a3 (λb i ha=>by
     rcases a4 b i ha with ha | ⟨h1,h2⟩
     ·exact .inl ha
     ·refine .inr ⟨?_,by have:=g7 b i;have:=t2 b i;omega⟩;have hb:b < w.heap.size:=Jc b i (by have:=xy b i;omega);rw[bB (by omega)];rw[C4] at h1
      cases hP:qO with
      | true=>
       obtain ⟨b',o',fk⟩:=b3 hP;obtain ⟨_,h8⟩:=t3 hP b' o' fk;have h9:=h8 b i;rw[hP,fk] at h1;simp only[uQ,jd] at h1;have:=Lb b i;have:=g7 b i
       omega
      | false=>
       rw[hP] at h1;simp only[uQ,bE] at h1;have:=Lb b i
       omega) Z_ (λb o e=>by
     cases hP:qO with
     | true=>exact (t3 hP b o e).1
     | false=>
      rw[oH hP];intro j u hu;have hj:=(aM.1 hu).1;have h9:jd ad t.sz b (o+j)=1:=by rw[e];simp only[jd,b_];rw[aV ⟨trivial,by omega,by omega⟩]
      have h8:=GX b (o+j) (by omega);refine x2.cell b (o+j) ?_ ?_ u ((u5 b o e).1 j u hu)
      ·rw[Ca];exact cP (Jc b (o+j) (by have:=u4 b (o+j);omega)) dr.size
      ·rw[C4,hP];have:=Lb b (o+j)
       simp only[uQ,bE];omega) (λe=>by
     cases hP:qO with
     | true=>obtain ⟨b',o',fk⟩:=b3 hP;rw[e] at fk;cases fk
     | false=>exact oH hP) a5
   have t8:=BA (σ:=yN) (a:=a) (mS.mono n2 a6)
   cases hP:qO with
   | true=>
    subst hP;exact ⟨pv n3 n1 t8.1 (λ_ _=>aN _) t8.2,λhm=>(uR g.ps hm q2).elim⟩
   | false=>
    subst hP;have hc:=oH rfl;subst hc
    have h5:=n5 (tD (dj p+1)) (uo _ (k3.mf r)) (BX _ (k3.mf r)) rfl (λp' snap hb bc hlen=>by
     have:=Dz (dj p+1) (k3.mf r) hb bc
     exact ⟨1,False,by omega,λ_=>.inl (by omega),λ_=>by omega,RY ad a5⟩)
    have V_:=BA (σ:={ yN with vr:=(ov.lP r (tD (dj p+1))).vr,az:=ov.az }) (a:=a) (mS.mono n2 a6);exact ⟨pv h5 n1 V_.1 (λ_ _=>aN _) V_.2,λhm=>(uR g.ps hm q2).elim⟩
 | _::_::_,hl=>simp at hl
theorem Lc (h:dt P C A σ a w F) {f:FuncId} {g:sQ} (hs:Sound P f g) {xs:List Operand} {ex:List Slot} {EY:List Value} (bc:xs.all (dm P)=true)
  (hex:∀ (A':Cells) (σ':St),(∀ b i,A b i->A' b i)->vQ P A' σ' a w ex EY) {d:Option Tmp} {K:St->Option R} (hk:BQ g σ xs ex d K=some x) :
  Calls P f (xs.map a.eval++EY).toArray w λe w'=>∃ rv,e=.returned rv/\Nx P C K x (a.put d rv) w'/\(wN g.ps=true->Ext w w' (λ_ _=>0)):=by
 unfold BQ at hk;split at hk
 ·rename_i ho;exact Jd h hs (λ_=>ho) bc hex hk
 ·obtain ⟨A1,ov,F1,k1,k2,k3,k4⟩:=Yp g.ps xs h hk;exact Jd k3 hs (λe=>by cases e) bc (λA' σ' hA=>hex A' σ' λb i ha=>hA b i (k2 b i ha)) k1
theorem DM {f:FuncId} {cap:Bool} (he:tU P f cap) (args:Array Value):(callFunc f args).run P w=.ok (.enter f args) w:=by
 obtain ⟨fn,h1,h2,h3,_⟩:=he
 have Jf:fn.name ≠ "runtime.NumGoroutine" := by simpa using h2
 have K4:fn.body≠none:=by intro e;rw[e] at h3;cases h3
 simp[callFunc,h1,Jf,K4]
theorem M8 (h:dt P C A σ a w F) {f:FuncId} {args:Array Operand} {ts:Array TypeId} (ho:o.op=.call { callee:=.value (.func f),args:=args,argTypes:=ts }) (bc:args.toList.all (dm P)=true) {g:sQ} (hs:Sound P f g) (he:tU P f false)
  {K:St->Option R} (hk:BQ g σ args.toList [] o.dst K=some x):o.wp P a w (λa' w'=>Nx P C K x a' w'/\(wN g.ps=true->Ext w w' (λ_ _=>0))) Q:=by
 have gc:(execOp a.eval o).run P w=.ok (.enter f (args.map a.eval)) w:=by
  have e:a.eval (.func f)=.func (.func f) #[] #[]:=rfl;simp[execOp,ho,resolve,Deferred.ofValue,e,invoke,DM he]
 unfold Oper.wp;rw[gc,Oper.upon_enter];have hc:=Lc h hs (ex:=[]) (EY:=[]) bc (λ_ _ _=>trivial) hk;have:(args.toList.map a.eval++[]).toArray=args.map a.eval:=by apply eY;simp
 rw[this] at hc;exact hc.mono λe w' ⟨rv,he,hn⟩=>by subst he;exact hn
theorem M9 (h:dt P C A σ a w F) {i:Tmp} {args:Array Operand} {ts:Array TypeId} (ho:o.op=.call { callee:=.value (.tmp i),args:=args,argTypes:=ts }) (bc:args.toList.all (dm P)=true) {f:FuncId} {n:Int} (oo:Ku (σ.get i)=some (f,n)) {g:sQ} (hs:Sound P f g) (he:tU P f g.cap)
  {K:St->Option R} (hk:BQ g σ args.toList (match g.cap with | true=>[.cp (.int .i64) n] | false=>[]) o.dst K=some x):o.wp P a w (λa' w'=>Nx P C K x a' w'/\(wN g.ps=true->Ext w w' (λ_ _=>0))) Q:=by
 have hi:i < σ.n:=by
  rcases bZ i σ.n with hi | hi
  ·exact hi
  ·rw[lQ (dN.2 hi)] at oo;cases oo
 have hsi:=h.g_ i hi;unfold Ku at oo;split at oo;rotate_left
 ·cases oo
 rename_i v hg;injection oo with hv;subst hv;rw[hg] at hsi;obtain ⟨cs,h1,yt,rfl,fn,h3,h4⟩:=hsi;have e:a.eval (.tmp i)=.func (.func f) #[] yt:=h1
 have gc:(execOp a.eval o).run P w=.ok (.enter f (args.map a.eval++yt)) w:=by
  simp[execOp,ho,resolve,Deferred.ofValue,e,invoke,DM he]
 unfold Oper.wp;rw[gc,Oper.upon_enter];obtain ⟨fn',f1,f2,f3,f4⟩:=he;rw[h3] at f1;injection f1 with f1;subst f1
 have hex:∃ EY:List Value,(args.toList.map a.eval++EY).toArray=args.map a.eval++yt/\∀ (A':Cells) (σ':St),(∀ b i,A b i->A' b i)->vQ P A' σ' a w (match g.cap with | true=>[.cp (.int .i64) n] | false=>[]) EY:=by
  rcases h4 with ⟨h4,rfl⟩ | ⟨h4,ad,rfl,h5,h6,h7⟩
  ·have:g.cap=false:=by cases hg:g.cap with | false=>rfl | true=>rw[hg,h4] at f4;cases f4
   rw[this];exact ⟨[],by apply eY;simp,λ_ _ _=>trivial⟩
  ·have:g.cap=true:=by cases hg:g.cap with | true=>rfl | false=>rw[hg,h4] at f4;cases f4
   rw[this];refine ⟨[.pointer (some ad)],by apply eY;simp,λA' σ' hA=>⟨.inl ⟨ad,rfl,h5,[.int .i64 n],rfl,(λj u hu=>?_),rfl⟩,trivial⟩⟩
   cases j with
   | zero=>injection hu with hu;subst hu;exact ⟨h6,hA _ _ h7⟩
   | succ j=>cases hu
 obtain ⟨EY,aa_,hex⟩:=hex;have hc:=Lc h hs bc hex hk;rw[aa_] at hc;exact hc.mono λe w' ⟨rv,he,hn⟩=>by subst he;exact hn
end
end OT
namespace OT
open Go
section
variable {P:Program} {w:World} {A:Cells}
def Ip:Value->Bool
 | .int _ _ | .bool _ | .string _=>true
 | _=>false
theorem Ro.simple:∀ (t:Ty) {v:t.den} {cs:List Value},t.n9=true->Ro P w A t v cs->∀ x ∈ cs,Ip x=true:=by
 intro t
 induction t with
 | int k=>intro v cs _ h x hx;simp only[Ro] at h;subst h;simp at hx;subst hx;rfl
 | bool=>intro v cs _ h x hx;simp only[Ro] at h;subst h;simp at hx;subst hx;rfl
 | str=>intro v cs _ h x hx;simp only[Ro] at h;subst h;simp at hx;subst hx;rfl
 | unit=>intro v cs _ h x hx;simp only[Ro] at h;subst h;cases hx
 | pair a b kO kD=>
  intro v cs he h x hx;simp only[Ty.n9,aE] at he;rw[<-cR a.sz cs] at hx;rcases cJ.1 hx with hx | hx
  ·exact kO he.1 h.1 x hx
  ·exact kD he.2 h.2 x hx
 | arr n e ih=>
  intro v cs he h x hx;obtain ⟨_,hv,hl,hr⟩:=h;obtain ⟨j,hj,rfl⟩:=dC.1 hx
  have hs:0 < e.sz:=by
   rcases bF e.sz with h0 | h0
   ·rw[h0,Nat.mul_zero] at hl;omega
   ·exact h0
  have hi:j / e.sz < n:=by
   rw[gO hs];omega
  have h1:=hr (j / e.sz) _ (aB (by omega));refine ih he h1 _ (gP.2 ⟨j % e.sz,?_⟩);have hm:=iR j hs;have hd:=gL j e.sz;rw[eW hm,bL,fT,hd,aB hj]
 | _=>intro v cs he;simp[Ty.n9] at he
theorem M_ {x:Value} (h:Ip x=true) (n:Nat):Instr.sameBits n x x=true:=by
 cases x <;> simp[Ip] at h <;> cases n <;> simp[Instr.sameBits,MapKept.bytes_beq]
theorem R2 {t:Ty} {v:t.den} {cs:List Value} (ha:isAgg t=true) (he:t.n9=true) (h:Ro P w A t v cs):Instr.sameBits 10000 (ci t cs) (ci t cs)=true:=by
 have hs:=Ro.simple t he h;simp only[ci,ha,aI,Instr.sameBits,gC,eX,cB];rintro ⟨x,y⟩ yJ;have hz:(x,y) ∈ cs.zip cs:=by simpa using yJ
 have Jg:x=y/\x ∈ cs:=by
  clear h hs yJ
  induction cs with
  | nil=>simp at hz
  | cons c cs ih=>
   simp only[iA,aX,bS] at hz;rcases hz with ⟨rfl,rfl⟩ | hz
   ·exact ⟨rfl,by simp⟩
   ·have:=ih hz;exact ⟨this.1,by simp[this.2]⟩
 rw[<-Jg.1];exact M_ (hs x Jg.2) _
theorem Ld:∀ (t:Ty),(∀ (i:TypeId) (d:Nat) (e:Bool) (v:t.den) (cs:List Value),be P t (.inl i)=true->qM P t (.inl i)=true->dep t<=d->Ro P w A t v cs->(Instr.checkKey e d i (ci t cs)).run P w=.ok () w) /\
  (∀ (fs:List Field) (off d:Nat) (e:Bool) (v:t.den) (xs:Array Value),be P t (.inr (fs,off))=true->qM P t (.inr fs)=true->dep t<=d+1->Ro P w A t v (xs.toList.drop off) ->
   (forIn fs PUnit.unit λf _=>(if f.name ≠ "_" then do
     let x <- part f.type xs f.offset
     Instr.checkKey e d f.type x
     pure (ForInStep.yield PUnit.unit)
    else pure (ForInStep.yield PUnit.unit):Sem (ForInStep PUnit))).run P w=.ok () w):=by
 intro t
 induction t with
 | int k=>
  refine ⟨λi d e v cs hl he hd h=>?_,λfs off d e v xs hl=>by simp[be] at hl⟩
  simp only[Ro] at h;subst h
  cases d with
  | zero=>simp[dep] at hd
  | succ d=>rw[db _ _ rfl];simp[Instr.checkKey,run_underlying (pw hl)]
 | bool=>
  refine ⟨λi d e v cs hl he hd h=>?_,λfs off d e v xs hl=>by simp[be] at hl⟩
  simp only[Ro] at h;subst h
  have hu:P.underlying i=some .bool:=by
   simp only[be,aE] at hl;have h2:=hl.2;split at h2
   ·assumption
   ·cases h2
  cases d with
  | zero=>simp[dep] at hd
  | succ d=>rw[db _ _ rfl];simp[Instr.checkKey,run_underlying hu]
 | str=>
  refine ⟨λi d e v cs hl he hd h=>?_,λfs off d e v xs hl=>by simp[be] at hl⟩
  simp only[Ro] at h;subst h
  cases d with
  | zero=>simp[dep] at hd
  | succ d=>rw[db _ _ rfl];simp[Instr.checkKey,run_underlying (m7 hl)]
 | unit=>
  refine ⟨λi d e v cs hl he hd h=>?_,λfs off d e v xs hl he hd h=>?_⟩
  ·simp only[Ro] at h;subst h;simp only[be,aE] at hl;have h3:=hl.2;split at h3
   ·rename_i fs hu;have rh:fs.toList=[]:=bN.1 h3
    cases d with
    | zero=>simp[dep] at hd
    | succ d=>
     show (Instr.checkKey e (d+1) i (.agg #[])).run P w=_;rw[Instr.checkKey];simp only[Sem.run_bind,run_underlying hu,Result.andThen_ok];rw[<-Array.forIn_toList,rh];simp
   ·cases h3
  ·simp only[be,bN] at hl;subst hl;simp
 | pair a b kO kD=>
  have second:∀ (fs:List Field) (off d:Nat) (e:Bool) (v:(Ty.pair a b).den) (xs:Array Value),be P (.pair a b) (.inr (fs,off))=true->qM P (.pair a b) (.inr fs)=true->dep (.pair a b)<=d+1->Ro P w A (.pair a b) v (xs.toList.drop off) ->
    (forIn fs PUnit.unit λf _=>(if f.name ≠ "_" then do
      let x <- part f.type xs f.offset
      Instr.checkKey e d f.type x
      pure (ForInStep.yield PUnit.unit)
     else pure (ForInStep.yield PUnit.unit):Sem (ForInStep PUnit))).run P w=.ok () w:=by
   intro fs off d e v xs hl he hd h1
   cases fs with
   | nil=>simp[be] at hl
   | cons f r=>
    simp only[be,aE,eJ,dU] at hl;simp only[qM,aE,bne_iff_ne,ne_eq] at he;simp only[dep] at hd;obtain ⟨RJ,RK⟩:=h1;have p1:=uu (P:=P) (w:=w) hl.1.2 (cs:=xs) (off:=off) (Ro.length _ RJ);have e1:=kO.1 f.type d e v.1 _ hl.1.2 he.1.2 (by omega) RJ;rw[dA] at RK;have e2:=kD.2 r (off+a.sz) d e v.2 xs hl.2 he.2 (by omega) RK;simp only[List.forIn_cons,Sem.run_bind,ne_eq,he.1.1,eV,aI,hl.1.1.1,p1,e1,Result.andThen_ok,Sem.run_pure];exact e2
  refine ⟨λi d e v cs hl he hd h=>?_,second⟩
  simp only[be,aE] at hl;simp only[qM,aE,cM] at he;have h3:=hl.2;have h4:=he.2;split at h3
  ·rename_i fs hu;rw[hu] at h4;simp only at h4;split at h3
   ·rename_i f r DF;rw[DF] at h4;simp only at h4
    cases d with
    | zero =>have:1<=dep (.pair a b):=by simp only[dep];omega
             omega
    | succ d=>
     show (Instr.checkKey e (d+1) i (.agg cs.toArray)).run P w=_;rw[Instr.checkKey];simp only[Sem.run_bind,run_underlying hu,Result.andThen_ok];rw[<-Array.forIn_toList,DF];have:=second (f::r) 0 d e v cs.toArray (by simp only[be,bE];exact h3) (by simp only[qM];exact h4) hd (by simpa using h);rw[this];rfl
   ·cases h3
  ·cases h3
 | arr n e ih=>
  refine ⟨λi d em v cs hl he hd h=>?_,λfs off d em v xs hl=>by simp[be] at hl⟩
  simp only[be,aE] at hl;have h3:=hl.2;simp only[qM] at he;split at h3
  ·rename_i n' el hu;simp only[aE,eJ,dU] at h3;obtain ⟨⟨rfl,_⟩,hle⟩:=h3;rw[hu] at he;simp only at he;obtain ⟨inf,i1,i2,_⟩:=ly (lH hle);have ko:P.cellsOf el=e.sz:=by simp[Program.cellsOf,i1,i2]
   obtain ⟨_,l1,_,r1⟩:=h
   cases d with
   | zero=>simp[dep] at hd
   | succ d=>
    simp only[dep] at hd;show (Instr.checkKey em (d+1) i (.agg cs.toArray)).run P w=_;rw[Instr.checkKey];simp only[Sem.run_bind,run_underlying hu,Result.andThen_ok,Std.Legacy.Range.forIn_eq_forIn_range',Std.Legacy.Range.size,Nat.sub_zero,Nat.add_one_sub_one,Nat.div_one]
    have key:∀ (m j:Nat),j+m=n->(forIn (List.range' j m) PUnit.unit λi _=>(do
       let x <- part el cs.toArray (i*(<- Go.sizeOf el))
       Instr.checkKey em d el x
       pure (ForInStep.yield PUnit.unit):Sem (ForInStep PUnit))).run P w=.ok () w:=by
     intro m
     induction m with
     | zero=>intro j hj;rfl
     | succ m RL=>
      intro j hj;have a1:=r1 j _ (aB (l:=v) (i:=j) (by omega));have p1:=uu (P:=P) (w:=w) hle (cs:=cs.toArray) (off:=j*e.sz) (Ro.length _ a1);have e1:=ih.1 el d em _ _ hle he (by omega) a1;rw[List.range'_succ];simp only[List.forIn_cons,Sem.run_bind,run_sizeOf hle,p1,e1,Result.andThen_ok,Sem.run_pure];exact RL (j+1) (by omega)
    have:=key n 0 (by omega);rw[this];rfl
  ·cases h3
 | _=>exact ⟨λi d e v cs hl he=>by simp[qM] at he,λfs off d e v xs hl he=>by simp[qM] at he⟩
def Cb (P:Program) (w:World) (A:Cells) (k v:Ty) (es:List (Value×Value)) (m:List (k.den×v.den)):Prop:=
 es.length=m.length/\∀ (i:Nat) (y:k.den×v.den),m[i]?=some y->∃ (kc vc:List Value),es[i]?=some (ci k kc,ci v vc)/\Ro P w A k y.1 kc/\Ro P w A v y.2 vc
structure J5 (P:Program) (k:Ty) (i:TypeId):Prop where
 lay:be P k (.inl i)=true
 agg:isAgg k=true
 n9:k.n9=true
 flat:k.flat=true
 qM:qM P k (.inl i)=true
 dep:dep k<=9000
theorem Iq {k v:Ty} {i:TypeId} (h:be P (.map k v) (.inl i)=true):∃ ki vi,P.underlying i=some (.map ki vi)/\J5 P k ki/\be P v (.inl vi)=true/\VQ P v vi=true:=by
 simp only[be,aE] at h;have h2:=h.2;split at h2
 ·rename_i ki vi hu;simp only[aE,Ye,dU] at h2;obtain ⟨⟨⟨h3,h4⟩,⟨⟨⟨⟨h5,h6⟩,h7⟩,h8⟩,h9⟩⟩,xY⟩:=h2;exact ⟨ki,vi,hu,⟨h3,h5,h6,h7,h8,h9⟩,h4,xY⟩
 ·cases h2
theorem R3 {k v:Ty} {ki:TypeId} (K:J5 P k ki) {x:k.den} {xc:List Value} (hx:Ro P w A k x xc):∀ (es:List MapEntry) (m:List (k.den×v.den)) (i:Nat),Cb P w A k v (es.map λe=>(e.key,e.val)) m ->
  (Instr.findAsking ki (ci k xc) es i).run P w=.ok ((m.findIdx? λy=>k.eq x y.1).bind λj=>(es[j]?).map λe=>(i+j,e.val)) w:=by
 intro es
 induction es with
 | nil=>
  intro m i h;have:m=[]:=bH (by have:=h.1;simpa using this.symm);subst this;simp[Instr.findAsking]
 | cons e es ih=>
  intro m i h
  cases m with
  | nil=>have:=h.1;simp at this
  | cons y m=>
   obtain ⟨kc,vc,h1,h2,h3⟩:=h.2 0 y rfl;simp only[cS,eN,aP,bS] at h1;have heq:(Op.equal ki (ci k xc) (ci k kc)).run P w=.ok (k.eq x y.1) w:=(VY (P:=P) (w:=w) (A:=A) k).1 ki Op.maxDepth x y.1 xc kc K.lay K.qM (by have:=K.dep;simp only[Op.maxDepth];omega) hx h2
   have qi:Cb P w A k v (es.map λe=>(e.key,e.val)) m:=⟨by have:=h.1;simpa using this,λj z hz=>by
    have:=h.2 (j+1) z (by simpa using hz)
    simpa using this⟩
   simp only[Instr.findAsking,Sem.run_bind,h1.1,heq,Result.andThen_ok,List.findIdx?_cons]
   cases hq:k.eq x y.1 with
   | true=>simp
   | false=>
    simp only[aF,aL,ih m (i+1) qi,Option.bind_map];congr 2;funext j;simp[cE,jE 1 j]
theorem R4 {k:Ty} {ki:TypeId} (K:J5 P k ki):∃ d,P.underlying ki=some d/\∀ x y,Instr.sameNow d x y=none:=by
 have hl:=K.lay;have ha:=K.agg;have he:=K.n9
 cases k with
 | pair a b=>
  simp only[be,aE] at hl;have h3:=hl.2;split at h3
  ·rename_i fs hu;exact ⟨_,hu,λ_ _=>rfl⟩
  ·cases h3
 | unit=>
  simp only[be,aE] at hl;have h3:=hl.2;split at h3
  ·rename_i fs hu;exact ⟨_,hu,λ_ _=>rfl⟩
  ·cases h3
 | arr n e=>
  simp only[be,aE] at hl;have h3:=hl.2;split at h3
  ·rename_i n' el hu;exact ⟨_,hu,λ_ _=>rfl⟩
  ·cases h3
 | _=>simp[isAgg] at ha
theorem Ou {k v:Ty} {ki:TypeId} (K:J5 P k ki) {x:k.den} {xc:List Value} (hx:Ro P w A k x xc) {es:List MapEntry} {m:List (k.den×v.den)} (h:Cb P w A k v (es.map λe=>(e.key,e.val)) m) :
  (Instr.findKey ki (ci k xc) es).run P w=.ok ((m.findIdx? λy=>k.eq x y.1).bind λj=>(es[j]?).map λe=>(j,e.val)) w:=by
 obtain ⟨d,hu,hd⟩:=R4 K;have ha:=R3 (v:=v) K hx es m 0 h;simp only[bE] at ha;unfold Instr.findKey;simp only[Sem.run_bind,run_underlying hu,Result.andThen_ok]
 cases es with
 | nil=>
  have:m=[]:=bH (by have:=h.1;simpa using this.symm);subst this;simp[Instr.findNow]
 | cons e es=>
  simp only[Instr.findNow,hd];exact ha
theorem DN {k v:Ty} {m:Md} {y:List (k.den×v.den)} {cs:List Value} {F:FP} (h:ap P w A (.map k v) m [] y cs F) :
  k.flat=true/\v.flat=true/\∃ (r:Nat) (es:Array MapEntry) (clock:Nat),cs=[.map (some r)]/\w.heap[r]?=some (.map es clock)/\Cb P w A k v (es.toList.map λe=>(e.key,e.val)) y/\(m.own=true->1<=F r 0):=by
 simp only[ap,hole,bU,aF,aL] at h;split at h
 ·rename_i hm;obtain ⟨h1,h2,r,qJ,h3,h4,h5,h6,h7⟩:=h;obtain ⟨es,clock,q1,q2⟩:=Rh h4;refine ⟨h1,h2,r,es,clock,h3,q1,?_,λ_=>h5⟩
  have q2:(es.toList.map λe=>(e.key,e.val))=qJ:=q2;rw[q2];exact ⟨h6,h7⟩
 ·rename_i hm;obtain ⟨_,_,h1,h2,r,qJ,h3,h4,h5,h6,h7⟩:=h;obtain ⟨es,clock,q1,q2⟩:=Rh h4;refine ⟨h1,h2,r,es,clock,h3,q1,?_,λe=>absurd e hm⟩
  have q2:(es.toList.map λe=>(e.key,e.val))=qJ:=q2;rw[q2];exact ⟨h6,h7⟩
theorem R5 {α:Type} {k:Ty} (m:List (k.den×α)) (x:k.den):jk k m x=(m.findIdx? λe=>k.eq x e.1).bind λj=>(m[j]?).map (·.2):=by
 unfold jk
 induction m with
 | nil=>rfl
 | cons y m ih=>
  simp only[jU,List.findIdx?_cons]
  cases hq:k.eq x y.1 with
  | true=>simp
  | false=>
   simp only[aF,aL];rw[ih];cases m.findIdx? (λe=>k.eq x e.1) <;> simp
theorem T8 {v:Ty} {i:TypeId} (hz:VQ P v i=true) (hv:be P v (.inl i)=true) {z:Value} {L:List Value} (h1:(zeroValue i).run P w=.ok z w) (h2:z.cells.toList=L) (hl:L.length=v.sz):z=ci v L:=by
 obtain ⟨inf,i1,i2,i3,i4⟩:=ly (lH hv);unfold VQ at hz;rw[i1] at hz;simp only at hz
 cases Yt:inf.zero with
 | none=>rw[Yt] at hz;cases hz
 | some z0=>
  have:z=z0:=by
   simp[zeroValue,typeInfo,i1,Yt] at h1;exact h1.symm
  subst this;rw[Yt] at hz;unfold ci
  cases ha:isAgg v with
  | true=>
   rw[ha] at hz;cases z <;> simp at hz;simp only[Value.cells] at h2;subst h2;simp
  | false=>
   rw[ha] at hz;have hs:=FC ha;simp only[aF,aL]
   cases z <;> simp at hz <;> (simp only[Value.cells] at h2;subst h2;rfl)
theorem T9:∀ (t:Ty),t.n9=true->∀ {v1 v2:t.den} {oF cz:List Value},Ro P w A t v1 oF->Ro P w A t v2 cz->t.eq v1 v2=true->cz=oF:=by
 intro t
 induction t with
 | int k=>
  intro _ v1 v2 oF cz h1 h2 he;simp only[Ro] at h1 h2;subst h1;subst h2;have:v1=v2:=by cases k <;> simpa [Ty.eq] using he
  rw[this]
 | bool=>
  intro _ v1 v2 oF cz h1 h2 he;simp only[Ro] at h1 h2;subst h1;subst h2;have:v1=v2:=by simpa [Ty.eq] using he
  rw[this]
 | str=>
  intro _ v1 v2 oF cz h1 h2 he;simp only[Ro] at h1 h2;subst h1;subst h2;have:v1=v2:=by simpa [Ty.eq] using he
  rw[this]
 | unit=>
  intro _ v1 v2 oF cz h1 h2 he;simp only[Ro] at h1 h2;rw[h1,h2]
 | pair a b kO kD=>
  intro hq v1 v2 oF cz h1 h2 he;simp only[Ty.n9,aE] at hq;simp only[Ty.eq,aE] at he;have e1:=kO hq.1 h1.1 h2.1 he.1;have e2:=kD hq.2 h1.2 h2.2 he.2;rw[<-cR a.sz cz,e1,e2,cR]
 | arr n e ih=>
  intro hq v1 v2 oF cz h1 h2 he;obtain ⟨_,l1,c1,r1⟩:=h1;obtain ⟨_,l2,c2,r2⟩:=h2;refine List.ext_getElem (by omega) λj R6 hj1=>?_
  have hs:0 < e.sz:=by
   rcases bF e.sz with h0 | h0
   ·rw[h0,Nat.mul_zero] at c1;omega
   ·exact h0
  have hi:j / e.sz < n:=by
   rw[gO hs];omega
  have a1:=r1 (j / e.sz) _ (aB (by omega));have a2:=r2 (j / e.sz) _ (aB (by omega))
  have he':e.eq (v1[j / e.sz]'(by omega)) (v2[j / e.sz]'(by omega))=true:=by
   simp only[Ty.eq,cB] at he;exact he (_,_) (gP.2 ⟨j / e.sz,by rw[List.getElem?_zip_eq_some];exact ⟨aB (by omega),aB (by omega)⟩⟩)
  have h3:=ih hq a1 a2 he';have hm:=iR j hs;have hd:=gL j e.sz;have h4:=dE (·[j % e.sz]?) h3;simp only[eW hm,bL] at h4;rw[fT,hd,aB hj1,aB R6] at h4;exact Option.some.inj h4
 | _=>intro hq;simp[Ty.n9] at hq
theorem PH {k v:Ty} {t:TypeId} (hl:be P (.map k v) (.inl t)=true) (hz:v.ve=true) {x:k.den} {xc:List Value} (hx:Ro P w A k x xc) {r:Nat} {es:Array MapEntry} {clock:Nat} (hb:w.heap[r]?=some (.map es clock)) {y:List (k.den×v.den)}
  (he:Cb P w A k v (es.toList.map λe=>(e.key,e.val)) y) (ok:Bool) :
  ∃ vc,Ro P w A v (zx (jk k y x) v.zero) vc/\(Instr.lookup t (.map (some r)) (ci k xc) ok).run P w=.ok (if ok then .tuple #[ci v vc,.bool (jk k y x).isSome] else ci v vc) w:=by
 obtain ⟨ki,vi,hu,K,hv,aba⟩:=Iq hl;have hc:=(Ld (P:=P) (w:=w) (A:=A) k).1 ki 10000 es.isEmpty x xc K.lay K.qM (by have:=K.dep;omega) hx;have hf:=Ou (v:=v) K hx he;obtain ⟨L,hL⟩:=ux v hz;obtain ⟨z,wJ,zO⟩:=yz (P:=P) (w:=w) hv hL;obtain ⟨r1,r2,r3⟩:=Ax (P:=P) (w:=w) (A:=A) v hL hv;rw[R5]
 cases Le:y.findIdx? (λe=>k.eq x e.1) with
 | none=>
  rw[Le] at hf;simp only[Option.bind_none] at hf ⊢;refine ⟨L,r2,?_⟩
  have KO:z=ci v L:=T8 aba hv wJ zO r3;cases ok <;> simp[Instr.lookup,run_underlying hu,MapKept.run_getObj_map hb,hc,hf,wJ,KO]
 | some j=>
  rw[Le] at hf;have hj:j < y.length:=(fP.1 Le).1;obtain ⟨kc,vc,g1,g2,g3⟩:=he.2 j y[j] (aB hj);rw[eK] at g1
  cases Yu:es.toList[j]? with
  | none=>rw[Yu] at g1;cases g1
  | some e=>
   rw[Yu] at g1;simp only[cC,aP,bS] at g1;simp only[Yu,aA,cC,aB hj] at hf ⊢;refine ⟨vc,g3,?_⟩
   cases ok <;> simp[Instr.lookup,run_underlying hu,MapKept.run_getObj_map hb,hc,hf,g1.2]
end
section
variable {P:Program} {C:Ctx} {A:Cells} {X:FP} {σ:St} {a:Act} {w:World} {F:Nat->FP} {R:Type} {x:R} {Q:Exit->Act->World->Prop} {o:Oper} {E:Env}
theorem Na (h:dt P C A σ a w F) (kq:∀ i T,E.TI i=some T->be P T (.inl i)=true) {t:Nat} (ho:o.op=.makeMap t none) {K:St->Option R}
  (hk:(pV E t λt=>match t with
  | .map k v=>if k.flat&&v.flat then K (σ.b9 o.dst (.own (.map k v) (an (.map k v)) [] [])) else none
  | _=>none)=some x):o.wp P a w (λa' w'=>Nx P C K x a' w'/\Ext w w' (λ_ _=>0)) Q:=by
 obtain ⟨T,hT,hk⟩:=fu hk;split at hk
 ·rename_i k v;split at hk
  ·rename_i hc;simp only[aE] at hc
   have gc:(execOp a.eval o).run P w=.ok (.value (.map (some w.heap.size))) (w.alloc (.map #[] 0)):=by
    simp[execOp,ho,run_makeMap_plain]
   have dr:=nG w (.map #[] 0)
   have h1:Rel P C A (λb i=>0+b_ w.heap.size 0 1 b i) σ a (w.alloc (.map #[] 0)) F:=by
    refine h.grow dr (λ_ _ h=>h) (λ_ _ h=>.inl h) (λb i=>?_);by_cases hb:b=w.heap.size
    ·subst hb;right;exact ⟨aN _,by simp,by simp only[b_];split <;> omega⟩
    ·left;simp[b_,hb]
   have t7:(w.alloc (.map #[] 0)).heap[w.heap.size]?=some (.map #[] 0):=heap_alloc_new w _;refine ot gc ⟨pv h1 hk (Fd:=b_ w.heap.size 0 1) ⟨_,(db (.map k v) _ rfl).symm,?_⟩ (λb i=>by simp) (λ_ _ _ _ e=>by cases e),dr⟩;simp only[ap,hole,bU,aF,aL,an,sW,Md.own,aI];refine ⟨hc.1,hc.2,w.heap.size,[],rfl,?_,by simp[b_],rfl,λi y hy=>by cases hy⟩
   exact Ri t7
  ·cases hk
 ·cases hk
theorem Nb (h:dt P C A σ a w F) (kq:∀ i T,E.TI i=some T->be P T (.inl i)=true) {t:Nat} {y z:Operand} {ok:Bool} (ho:o.op=.lookup t y z ok) (bc:dm P y=true/\dm P z=true) {K:St->Option R}
  (hk:H9 E σ t (dq σ y) (dq σ z) ok o.dst K=some x):o.wp P a w (λa' w'=>Nx P C K x a' w'/\Ext w w' (λ_ _=>0)) Q:=by
 unfold H9 at hk;obtain ⟨T,hT,hk⟩:=fu hk;have gj:=kq _ _ hT;split at hk
 ·rename_i k v;split at hk
  ·rename_i hz
   rcases eu h bc.1 with hs | ⟨xs,e⟩
   rotate_left
   ·rw[e] at hk;cases hk
   rcases eu h bc.2 with ud | ⟨xs,e2⟩
   rotate_left
   ·exfalso;rw[e2] at hk;split at hk
    ·split at hk
     ·obtain ⟨_,_,_,_,_,_,_,_,h1,_⟩:=lK h hk;split at h1
      ·obtain ⟨_,h1⟩:=ct h1;cases h1
      ·cases h1
     ·cases hk
    ·cases hk
   split at hk
   ·rename_i r p snap hv;rw[hv] at hs;split at hk
    ·rename_i ou;obtain ⟨hr,t',m',H',v',br,cr,F',h1,ue,h3,h4,h5,h6⟩:=lK h hk;split at h1
     ·rename_i hH;have hH:=bN.1 hH;subst hH;obtain ⟨e1,h1⟩:=ct h1;subst e1;obtain ⟨pl,g1,g2,g3⟩:=hs.2 ou;rw[h3] at g1;injection g1 with g1;subst g1;obtain ⟨f1,f2,b,es,clock,q1,q2,q3,q4⟩:=DN h4;simp only at g2;subst q1;rw[db (.map k v) _ rfl] at g2;split at h1
      ·rename_i t2 ix Ov;rw[Ov] at ud;obtain ⟨e2,h1⟩:=ct h1;subst e2;obtain ⟨kc,C7,mw⟩:=ud;obtain ⟨vc,r1,r2⟩:=PH (P:=P) gj hz mw q2 q3 ok
       have gc:(execOp a.eval o).run P w=.ok (.value (if ok then .tuple #[ci v vc,.bool (jk t2 v' ix).isSome] else ci v vc)) w:=by
        simp[execOp,ho,g2,C7,r2]
       cases ok with
       | true=>
        simp only at h1;refine ot gc ⟨cj h h1 ⟨#[ci v vc,.bool (jk t2 v' ix).isSome],λ_ _ _=>0,rfl,λb i=>by rw[mK];exact aN _,λj y hy=>?_⟩ (λ_ _ _ _ e=>by cases e),Ext.refl _ _⟩
        match j with
        | 0=>simp at hy;subst hy;exact ⟨_,rfl,.inr ⟨vc,rfl,Ro.rep v _ (f_ v) r1⟩⟩
        | 1=>simp at hy;subst hy;exact ⟨_,rfl,.inr ⟨[.bool _],rfl,rfl⟩⟩
        | n+2=>simp at hy
       | false=>
        simp only at h1;exact ot gc ⟨cj h h1 ⟨vc,rfl,r1⟩ (λ_ _ _ _ e=>by cases e),Ext.refl _ _⟩
      ·cases h1
     ·cases h1
    ·cases hk
   ·cases hk
  ·cases hk
 ·cases hk
theorem PI {r:Nat} {es GY:Array MapEntry} {clock zV:Nat} (hb:w.heap[r]?=some (.map es clock)):Ext w { w with heap:=w.heap.setIfInBounds r (.map GY zV) } (b_ r 0 1):=by
 have GZ:∀ b,b≠r->(w.heap.setIfInBounds r (.map GY zV))[b]?=w.heap[b]?:=λb fq=>by rw[iP (λe=>fq e.symm)]
 refine ⟨by simp,λb i hbs hz u hu=>?_,λb n hn=>?_,λb i hbs=>?_,rfl,rfl,rfl,λb hbs hz=>?_,aN _⟩
 ·by_cases G0:b=r
  ·subst G0;by_cases hi:i=0
   ·subst hi;simp[b_] at hz
   ·simp[ce,hb,hi] at hu
  ·rw[xr (GZ b G0)];exact hu
 ·obtain ⟨c,e,fr,h1,h2,h3⟩:=hn;have G0:b≠r:=λe=>by subst e;rw[hb] at h1;cases h1
  exact ⟨c,e,fr,by rw[<-h1];exact GZ b G0,h2,h3⟩
 ·by_cases G0:b=r
  ·subst G0;have am:=(bQ.1 hb).1;have he:=(bQ.1 hb).2;simp[World.frozen?,am,he]
  ·have:=GZ b G0;simp only[World.frozen?] at *;rw[this]
 ·have G0:b≠r:=λe=>by subst e;have:=hz 0;simp[b_] at this
  exact GZ b G0
theorem PJ {k v:Ty} {t:TypeId} (hl:be P (.map k v) (.inl t)=true) {x:k.den} {xc:List Value} (hx:Ro P w A k x xc) {z:v.den} {Ow:List Value} (hzr:Ro P w A v z Ow) {r:Nat} {es:Array MapEntry} {clock:Nat} (hb:w.heap[r]?=some (.map es clock)) {y:List (k.den×v.den)}
  (he:Cb P w A k v (es.toList.map λe=>(e.key,e.val)) y) :
  ∃ (GY:Array MapEntry) (zV:Nat),(Instr.mapUpdate t (.map (some r)) (ci k xc) (ci v Ow)).run P w=.ok () { w with heap:=w.heap.setIfInBounds r (.map GY zV) }/\Cb P w A k v (GY.toList.map λe=>(e.key,e.val)) (nN k y x z):=by
 obtain ⟨ki,vi,hu,K,hv,_⟩:=Iq hl;have hc:=(Ld (P:=P) (w:=w) (A:=A) k).1 ki 10000 false x xc K.lay K.qM (by have:=K.dep;omega) hx;have hf:=Ou (v:=v) K hx he;unfold nN
 cases Le:y.findIdx? (λe=>k.eq x e.1) with
 | none=>
  rw[Le] at hf;simp only[Option.bind_none] at hf ⊢;refine ⟨es.push { key:=ci k xc,val:=ci v Ow,born:=clock },clock+1,?_,?_,λi q hq=>?_⟩
  ·simp[Instr.mapUpdate,run_underlying hu,MapKept.run_getObj_map hb,hc,hf,MapKept.run_setObj_map _ hb,Result.andThen]
  ·have:=he.1;simp at this ⊢;omega
  ·have hlen:(es.toList.map λe=>(e.key,e.val)).length=y.length:=he.1;rw[Array.toList_push,gM];by_cases hi:i < y.length
   ·rw[bW hi] at hq;rw[bW (by rw[hlen];exact hi)];exact he.2 i q hq
   ·have lg:i=y.length:=by
     have:=(aM.1 hq).1;simp at this;omega
    subst lg;rw[bV (aN _),Nat.sub_self] at hq;rw[bV (by rw[hlen];exact aN _),hlen,Nat.sub_self];simp at hq;subst hq;exact ⟨xc,Ow,rfl,hx,hzr⟩
 | some j=>
  rw[Le] at hf;have hfj:=fP.1 Le;have hj:j < y.length:=hfj.1;obtain ⟨kc,vc,g1,g2,g3⟩:=he.2 j y[j] (aB hj);rw[eK] at g1;have hlen:es.size=y.length:=by have:=he.1;simpa using this
  have wi:es.toList[j]?=some es[j]:=by simp[hlen,hj]
  rw[wi] at g1;simp only[cC,aP,bS] at g1;simp only[aA] at hf ⊢;rw[wi] at hf;simp only[cC] at hf
  have abb:k.eq x (y[j]).1=true:=by
   have h1:=hfj.2;have h2:y.findIdx (λe=>k.eq x e.1) < y.length:=by rw[h1];exact hj
   have:=List.findIdx_getElem (xs:=y) (p:=λe=>k.eq x e.1) (w:=h2);simp only[h1] at this;exact this
  have aaa:ci k kc=ci k xc:=by
   have:=T9 k K.n9 hx g2 abb;rw[this]
  have EF:(Instr.keyThatStays (ci k xc) (ci k xc)).run P w=.ok (ci k xc) w:=by
   simp[Instr.keyThatStays,R2 K.agg K.n9 hx]
  have uq:(es[j]?).map (·.key)=some (ci k xc):=by
   have:es[j]?=some es[j]:=by rw[cN (by omega)]
   rw[this,cC,g1.1,aaa]
  refine ⟨es.modify j λe=>{ e with key:=ci k xc,val:=ci v Ow },clock,?_,?_,λi q hq=>?_⟩
  ·simp[Instr.mapUpdate,run_underlying hu,MapKept.run_getObj_map hb,hc,hf,uq,EF,MapKept.run_setObj_map _ hb,Result.andThen]
  ·simp[hlen]
  ·rw[fL] at hq;rw[eK,dD,dJ];by_cases oE:j=i
   ·subst oE;rw[aV rfl,aV hj] at hq;injection hq with hq;subst hq;rw[aV rfl,cN (by omega)];exact ⟨xc,Ow,rfl,hx,hzr⟩
   ·rw[bB oE] at hq ⊢;have:=he.2 i q hq;rw[eK,dD] at this;exact this
theorem Ir (h:dt P C A σ a w F) (kq:∀ i T,E.TI i=some T->be P T (.inl i)=true) {t:Nat} {y z u:Operand} (ho:o.op=.mapUpdate t y z u) (hd:o.dst=none) (bc:dm P y=true/\dm P z=true/\dm P u=true) {K:St->Option R}
  (hk:H_ E σ t (dq σ y) (dq σ z) (dq σ u) K=some x):o.wp P a w (Nx P C K x) Q:=by
 unfold H_ at hk;obtain ⟨T,hT,hk⟩:=fu hk;have gj:=kq _ _ hT;split at hk
 ·rename_i k v
  rcases eu h bc.1 with hs | ⟨xs,e⟩
  rotate_left
  ·rw[e] at hk;cases hk
  split at hk
  ·rename_i r p snap hv;rw[hv] at hs;split at hk
   ·rename_i ou;obtain ⟨hr,t',m',H',v',br,cr,F',h1,ue,h3,h4,h5,h6⟩:=lK h hk;split at h1
    ·rename_i hH;simp only[aE,bN] at hH;obtain ⟨fa,hH⟩:=hH;subst hH;obtain ⟨e1,h1⟩:=ct h1;subst e1;obtain ⟨pl,g1,g2,g3⟩:=hs.2 ou;rw[h3] at g1;injection g1 with g1;subst g1;split at h1
     ·rename_i t2 ix t3 uv Ov huv
      have ud:cv P A σ a w (a.eval z) (.val t2 ix) (λ_ _=>0):=by
       rcases eu h bc.2.1 with ud | ⟨xs,e2⟩
       ·rw[Ov] at ud;exact ud
       ·rw[Ov] at e2;cases e2
      have hs3:cv P A σ a w (a.eval u) (.val t3 uv) (λ_ _=>0):=by
       rcases eu h bc.2.2 with ud | ⟨xs,e2⟩
       ·rw[huv] at ud;exact ud
       ·rw[huv] at e2;cases e2
      obtain ⟨e2,h1⟩:=ct h1;subst e2;obtain ⟨e3,h1⟩:=ct h1;subst e3;obtain ⟨kc,C7,mw⟩:=ud;obtain ⟨uc,hu1,my⟩:=hs3;obtain ⟨hr,m2,H2,v2,cz,wI,F2,q1,q2,q3,q4,q5,q6⟩:=Bz h h1;obtain ⟨_,e2,e3,e4⟩:=At.inj ⟨ue⟩ q1;subst e2;subst e3;have e4:=iD e4;subst e4;rw[h3] at q2;injection q2 with q2;injection q2 with q21 q22 q23 q24;subst q23;subst q24;have e_:=q3;obtain ⟨f1,f2,b,es,clock,b1,b2,b3,b4⟩:=DN q3;have b4:=b4 fa;simp only at g2;subst b1;rw[db (.map t2 t3) _ rfl] at g2;obtain ⟨GY,zV,r1,r2⟩:=PJ (P:=P) gj mw my b2 b3;generalize wM:({ w with heap:=w.heap.setIfInBounds b (.map GY zV) }:World)=w2 at r1;have dr:Ext w w2 (b_ b 0 1):=by rw[<-wM];exact PI b2
      have yL:∀ b i,F r b i<=1:=λb i=>by have:=h.o5 b i;have:=cy F hr b i;omega
      have gc:(execOp a.eval o).run P w=.ok .skip w2:=by
       simp[execOp,ho,g2,C7,hu1,r1]
      refine KN gc hd ?_
      have hA:∀ b' i,A b' i->∀ u,ce w b' i=some u->ce w2 b' i=some u:=λb' i ha u hu=>by
       refine dr.cell b' i (h.kP b' i (.inr ha)) ?_ u hu;rcases bF (b_ b 0 1 b' i) with h0 | h0
       ·exact h0
       ·have:b'=b/\i=0:=by
         simp only[b_] at h0;split at h0
         ·omega
         ·omega
        obtain ⟨rfl,rfl⟩:=this;exact absurd ha (h.pW b' 0 (by have:=q4 b' 0;have:=cy F hr b' 0;omega))
      have t7:ce w2 b 0=some (BS (entriesOf GY)):=by
       rw[<-wM];exact Ri (clock:=zV) (by simp[(bQ.1 b2).1])
      have EB:ap P w2 A (.map t2 t3) m' [] (nN t2 v' ix uv) [.map (some b)] F2:=by
       simp only[ap,hole,bU,aF,aL,fa,aI];refine ⟨f1,f2,b,entriesOf GY,rfl,t7,b4,r2.1,λi q hq=>?_⟩
       obtain ⟨kc',vc',j1,j2,j3⟩:=r2.2 i q hq;exact ⟨kc',vc',j1,Ro.mono hA (λ_ _ h=>h) t2 j2,Ro.mono hA (λ_ _ h=>h) t3 j3⟩
      have Lf:∀ b' i,b_ b 0 1 b' i<=F2 b' i:=λb' i=>by
       simp only[b_];split
       ·rename_i hc;obtain ⟨rfl,AA,we⟩:=hc;have:i=0:=by omega
        subst this;exact b4
       ·exact aY _
      have yy:∀ b' o',cr=some (b',o')->Has w2 b' o' [.map (some b)]:=λb' o' ea j u hu=>by
       have hh1:=(q5 b' o' ea).1 j u hu;have hj:=(aM.1 hu).1;have Ym:j=0:=by simpa using hj
       subst Ym;have h2:=q4 b' (o'+0);have h4:=Lf b' (o'+0);have h5:=yL b' (o'+0);have h7:=cy F hr b' (o'+0)
       have h6:jd cr (Ty.map t2 t3).sz b' (o'+0)=1:=by
        subst ea;simp[jd,b_,Ty.sz]
       exact dr.cell _ _ (h.kP b' (o'+0) (.inl (by show 1<=0+_;omega))) (by omega) u hh1
      obtain ⟨A3,yN,Fr,n1,n2,n3,n4,n5⟩:=q6 w2 A [.map (some b)] F2 (λ_ _=>0) (dr.mono λb' i hz=>by
        have hz:0+(F2 b' i+jd cr (Ty.map t2 t3).sz b' i)=0:=hz
        have h2:=Lf b' i;omega) (λ_ _ h=>h) (λ_ _ h=>.inl h) (λb i=>by omega) yy (λ_=>rfl) EB
      refine ⟨_,n1,A3,_,n5 ww (xI (h.mf r)) (Dy (h.mf r)) rfl λp' snap hb bc hlen=>?_⟩
      have h5:=FB (h.mf r) hb bc;refine ⟨dj p'+1,False,by omega,λ_=>.inl (by omega),λ_=>by omega,?_⟩
      intro q pl hq hp
      cases q with
      | nil=>
       simp only[bk,aP] at hp;subst hp;exact ⟨_,_,rfl,λ_=>rfl⟩
      | cons s q=>cases s <;> simp[bk] at hp
     ·cases h1
    ·cases h1
   ·cases hk
  ·cases hk
 ·cases hk
theorem Nc (h:dt P C A σ a w F) (kq:∀ i T,E.TI i=some T->be P T (.inl i)=true) {t:Nat} {y:Operand} (ho:o.op=.call { callee:=.builtin .len,args:=#[y],argTypes:=#[t] }) (bc:dm P y=true) {K:St->Option R}
  (hk:Ia E σ t (dq σ y) (λn=>K (σ.b9 o.dst (.val (.int .i64) (n:Int))))=some x):o.wp P a w (Nx P C K x) Q:=by
 unfold Ia at hk;obtain ⟨T,hT,hk⟩:=fu hk;have gj:=kq _ _ hT;split at hk
 ·rename_i k v
  rcases eu h bc with hs | ⟨xs,e⟩
  rotate_left
  ·rw[e] at hk;cases hk
  split at hk
  ·rename_i r p snap hv;rw[hv] at hs;split at hk
   ·rename_i ou;obtain ⟨hr,t',m',H',v',br,cr,F',h1,ue,h3,h4,h5,h6⟩:=lK h hk;split at h1
    ·rename_i hH;have hH:=bN.1 hH;subst hH;obtain ⟨e1,h1⟩:=ct h1;subst e1;obtain ⟨pl,g1,g2,g3⟩:=hs.2 ou;rw[h3] at g1;injection g1 with g1;subst g1;obtain ⟨f1,f2,b,es,clock,q1,q2,q3,q4⟩:=DN h4;simp only at g2;subst q1;rw[db (.map k v) _ rfl] at g2;obtain ⟨ki,vi,hu,_,_,_⟩:=Iq gj;have hlen:es.size=List.length v':=by have:=q3.1;simpa using this
     have gc:(execOp a.eval o).run P w=.ok (.value (.int .i64 ((List.length v':Nat):Int))) w:=by
      rw[zN ho];simp[Builtin.len_,g2,run_underlying hu,MapKept.run_getObj_map q2,goInt,hlen]
     exact ot gc (cj h h1 ⟨[.int .i64 _],rfl,rfl⟩ (λ_ _ _ _ e=>by cases e))
    ·cases h1
   ·cases hk
  ·cases hk
 ·cases hk
end
end OT
namespace OT
open Go
structure sq (P:Program) (E:Env):Prop where
 ti:∀ i T,E.TI i=some T->be P T (.inl i)=true
 eq:VZ P E
 fn:∀ f g,E.G f=some g->Sound P f g/\tU P f g.cap
def PK (P:Program) (t:TypeId):Bool:=match P.underlying t with
 | some (.slice _)=>true
 | some .string=>true
 | _=>false
theorem G3 {P:Program} {t:TypeId} (h:PK P t=true):(∃ e',P.underlying t=some (.slice e'))\/P.underlying t=some .string:=by
 unfold PK at h;split at h
 ·rename_i e he;exact .inl ⟨e,he⟩
 ·rename_i he;exact .inr he
 ·cases h
def Lg (P:Program) (c:Call):Bool:=match c.callee with
 | .builtin .append | .builtin .copy=>match c.argTypes.toList with
  | [_,tx]=>PK P tx
  | _=>false
 | _=>true
def ri (P:Program):Op->Bool
 | .move x | .assign x | .nilCheck x | .box _ x | .load _ x | .unOp _ _ x | .convert _ _ x | .fieldAddr _ x _ | .field _ x _=>dm P x
 | .pick c a b=>dm P c&&dm P a&&dm P b
 | .mapUpdate _ m k v=>dm P m&&dm P k&&dm P v
 | .lookup _ a x _ | .store _ a x | .binOp _ _ a x _ | .indexAddr _ a x | .index _ a x | .makeSlice _ a x=>dm P a&&dm P x
 | .build _ ps | .buildSlice _ _ ps=>ps.toList.all λp=>dm P p.2
 | .slice _ x lo hi _=>dm P x&&lo.all (dm P)&&hi.all (dm P)
 | .makeFunc (.func f) _ cs=>(P.funcs[f]?).any λfn=>fn.nfree == cs.size
 | .call c=>c.args.toList.all (dm P)&&Lg P c
 | _=>true
section
variable {P:Program} {C:Ctx} {A:Cells} {X:FP} {σ:St} {a:Act} {w:World} {F:Nat->FP} {R:Type} {x:R} {Q:Exit->Act->World->Prop} {o:Oper} {E:Env}
theorem yg {α:Type} {l:Array α} {m:List α} (h:l.toList=m):l=m.toArray:=by apply eY;simpa using h
def vl (E:Env):Op->Bool
 | .move _ | .assign _ | .pick .. | .build .. | .load .. | .nilCheck _ | .binOp .. | .unOp .. | .fieldAddr .. | .field .. | .indexAddr .. | .index .. | .slice .. | .extract .. | .makeFunc ..=>true
 | .convert _ t _=>match E.TI t with
  | some T=>T.flat
  | none=>false
 | .call c=>match c.callee with
  | .builtin .len=>match c.argTypes.toList with
   | [t]=>!Re (E.TI t)
   | _=>false
  | _=>false
 | _=>false
theorem J6 (hE:sq P E) (h:dt P C A σ a w F) {gn i:Nat} (cu:ri P o.op=true) (nf:vl E o.op=true) {K:St->Option R} (hk:ry E gn i o σ K=some x):Tk P o a w (Nx P C K x):=by
 unfold ry at hk
 cases ho:o.op with
 | move y=>rw[ho] at hk cu;exact Ry h ho cu hk
 | assign y=>rw[ho] at hk cu;exact M6 h ho cu hk
 | pick c y z=>
  rw[ho] at hk cu;simp only[ri,aE] at cu;exact Rz h ho ⟨cu.1.1,cu.1.2,cu.2⟩ hk
 | build t ps=>rw[ho] at hk cu;exact Pz h hE.ti ho cu hk
 | load t y=>rw[ho] at hk cu;exact Po h hE.ti ho cu hk
 | nilCheck y=>rw[ho] at hk cu;exact JQ h ho cu hk
 | binOp op t y z t2=>
  rw[ho] at hk cu;simp only[ri,aE] at cu;exact Pw h hE.ti hE.eq ho cu hk
 | unOp op t y=>
  rw[ho] at hk cu;refine RI h ho cu (K:=K) ?_;clear cu nf
  revert hk
  simp only;generalize dq σ y=s
  cases op <;> cases s <;> first
   | exact id
   | (rename_i t v;cases t <;> exact id)
 | convert s t y=>
  rw[ho] at hk cu nf;refine KW h hE.ti ho cu (λT hT=>?_) hk;simp only[vl,hT] at nf;exact nf
 | fieldAddr t y j=>rw[ho] at hk cu;exact Ii h hE.ti ho cu hk
 | field t y j=>rw[ho] at hk cu;exact Pt h hE.ti ho cu hk
 | indexAddr t y z=>
  rw[ho] at hk cu;simp only[ri,aE] at cu;exact Ij h hE.ti ho cu hk
 | index t y z=>
  rw[ho] at hk cu;simp only[ri,aE] at cu;exact Pu h hE.ti ho cu hk
 | slice t y lo hi mx=>
  rw[ho] at hk cu
  cases mx with
  | none=>
   simp only[ri,aE] at cu;refine Pv h hE.ti ho ⟨cu.1.1,λz hz=>?_,λz hz=>?_⟩ hk
   ·have:=cu.1.2;rw[hz] at this;exact this
   ·have:=cu.2;rw[hz] at this;exact this
  | some m=>cases hk
 | extract y j=>
  rw[ho] at hk
  cases y with
  | tmp i=>exact KY h ho hk
  | _=>cases hk
 | makeFunc fn first cs=>
  rw[ho] at hk cu
  cases fn with
  | func f=>exact JU h ho cu hk
  | _=>cases hk
 | call c=>
  rw[ho] at hk cu nf;simp only[ri,aE] at cu;obtain ⟨lj,hc⟩:=cu;obtain ⟨callee,args,ts⟩:=c
  cases callee with
  | builtin b=>
   cases b with
   | len=>
    simp only at hk;split at hk
    ·rename_i y t h1 h2;have e1:=yg h1;have e2:=yg h2
     subst e1;subst e2;simp only[eH,aE] at lj;simp only[vl,cM] at nf;rw[nf] at hk;exact TU h hE.ti ho lj.1 hk
    ·cases hk
   | _=>simp[vl] at nf
  | _=>simp[vl] at nf
 | _=>rw[ho] at nf;simp[vl] at nf
def quiet (E:Env):Op->Bool
 | .alloc _ | .box .. | .buildSlice .. | .makeSlice .. | .convert .. | .makeMap .. | .lookup ..=>true
 | .call c=>match c.callee with
  | .value (.func f)=>match E.G f with
   | some g=>wN g.ps
   | none=>false
  | _=>false
 | _=>false
theorem R7 (hE:sq P E) (h:dt P C A σ a w F) {gn i:Nat} (cu:ri P o.op=true) (nf:vl E o.op=false) {K:St->Option R} (hk:ry E gn i o σ K=some x) :
  o.wp P a w (λa' w'=>Nx P C K x a' w'/\(quiet E o.op=true->Ext w w' (λ_ _=>0))) Q:=by
 have wq:∀ {N:Act->World->Prop},o.wp P a w (λa' w'=>N a' w'/\Ext w w' (λ_ _=>0)) Q->o.wp P a w (λa' w'=>N a' w'/\(quiet E o.op=true->Ext w w' (λ_ _=>0))) Q:=λh=>Oper.wp_mono (λa' w' h=>⟨h.1,λ_=>h.2⟩) h;have wn:∀ {N:Act->World->Prop},quiet E o.op=false->o.wp P a w N Q->o.wp P a w (λa' w'=>N a' w'/\(quiet E o.op=true->Ext w w' (λ_ _=>0))) Q:=λhq h=>Oper.wp_mono (λa' w' h=>⟨h,λe=>by rw[hq] at e;cases e⟩) h;unfold ry at hk
 cases ho:o.op with
 | alloc t=>rw[ho] at hk;rw[<-ho];exact wq (RM h hE.ti ho hk)
 | box t y=>rw[ho] at hk cu;rw[<-ho];exact wq (W6 h ho cu hk)
 | buildSlice t n ps=>rw[ho] at hk cu;rw[<-ho];exact wq (Il h hE.ti ho cu hk)
 | store t y z=>
  rw[ho] at hk cu;simp only[ri,aE] at cu;rw[<-ho];refine wn (by rw[ho];rfl) ?_
  cases hd:o.dst with
  | none=>rw[hd] at hk;exact Pq h hE.ti ho hd cu hk
  | some d=>rw[hd] at hk;cases hk
 | convert s t y=>rw[ho] at hk cu;rw[<-ho];exact wq (M5 h hE.ti ho cu hk)
 | makeMap t rv=>
  rw[ho] at hk;rw[<-ho]
  cases rv with
  | none=>exact wq (Na h hE.ti ho hk)
  | some _=>cases hk
 | lookup t y z ok=>
  rw[ho] at hk cu;simp only[ri,aE] at cu;rw[<-ho];exact wq (Nb h hE.ti ho cu hk)
 | mapUpdate t y z u=>
  rw[ho] at hk cu;simp only[ri,aE] at cu;rw[<-ho];refine wn (by rw[ho];rfl) ?_
  cases hd:o.dst with
  | none=>rw[hd] at hk;exact Ir h hE.ti ho hd ⟨cu.1.1,cu.1.2,cu.2⟩ hk
  | some d=>rw[hd] at hk;cases hk
 | makeSlice t y z=>
  rw[ho] at hk cu;simp only[ri,aE] at cu;rw[<-ho];exact wq (JS h hE.ti ho cu hk)
 | call c=>
  rw[ho] at hk cu nf;simp only[ri,aE] at cu;obtain ⟨lj,hc⟩:=cu;obtain ⟨callee,args,ts⟩:=c;rw[<-ho]
  cases callee with
  | builtin b=>
   cases b with
   | len=>
    simp only at hk;split at hk
    ·rename_i y t h1 h2;have e1:=yg h1;have e2:=yg h2
     subst e1;subst e2;simp only[eH,aE] at lj;simp only[vl,Bool.not_eq_false'] at nf;rw[nf] at hk;exact wn (by rw[ho];rfl) (Nc h hE.ti ho lj.1 hk)
    ·cases hk
   | append=>
    simp only at hk;split at hk
    ·rename_i y z t ts' h1 h2;have e1:=yg h1;subst e1;simp only[Lg] at hc;split at hc
     ·rename_i t0 tx h3;rw[h3] at h2;injection h2 with h2 h4;subst h2;have e2:=yg h3;subst e2;simp only[eH,aE] at lj;exact wn (by rw[ho];rfl) (step_append h hE.ti ho ⟨lj.1,lj.2.1⟩ (G3 hc) hk)
     ·cases hc
    ·cases hk
   | copy=>
    simp only at hk;split at hk
    ·rename_i y z t ts' h1 h2;have e1:=yg h1;subst e1;simp only[Lg] at hc;split at hc
     ·rename_i t0 tx h3;rw[h3] at h2;injection h2 with h2 h4;subst h2;have e2:=yg h3;subst e2;simp only[eH,aE] at lj;exact wn (by rw[ho];rfl) (RV h hE.ti ho ⟨lj.1,lj.2.1⟩ (G3 hc) hk)
     ·cases hc
    ·cases hk
   | _=>cases hk
  | value y=>
   cases y with
   | func f=>
    simp only at hk;split at hk
    ·rename_i g hg;split at hk
     ·rename_i ke;obtain ⟨h1,h2⟩:=hE.fn f g hg;rw[ke] at h2;refine Oper.wp_mono (λa' w' h=>⟨h.1,λe=>h.2 ?_⟩) (M8 h ho lj h1 h2 hk);rw[ho] at e;simp only[quiet,hg] at e;exact e
     ·cases hk
    ·cases hk
   | tmp i=>
    refine wn (by rw[ho];rfl) ?_;simp only at hk;split at hk
    ·rename_i f n oo;split at hk
     ·rename_i g hg;obtain ⟨h1,h2⟩:=hE.fn f g hg;refine Oper.wp_mono (λa' w' h=>h.1) (M9 h ho lj oo h1 h2 (K:=K) (x:=x) ?_)
      cases ke:g.cap with
      | true=>rw[ke] at hk;exact hk
      | false=>rw[ke] at hk;exact hk
     ·cases hk
    ·cases hk
   | _=>cases hk
  | _=>cases hk
 | _=>rw[ho] at hk nf;first | (cases hk;done) | (simp[vl] at nf;done)
theorem Xd (hE:sq P E) (h:dt P C A σ a w F) {gn i:Nat} (cu:ri P o.op=true) {K:St->Option R} (hk:ry E gn i o σ K=some x):o.wp P a w (Nx P C K x) Q:=by
 cases nf:vl E o.op with
 | true=>exact (J6 hE h cu nf hk).wp
 | false=>exact Oper.wp_mono (λa' w' h=>h.1) (R7 hE h cu nf hk)
end
end OT
namespace OT
open Go
noncomputable def yj (E:Env):Op->Option Slot
 | .alloc t=>match E.TI t with
  | some T=>if T.ve then some (.box T (an T) [] T.zero) else none
  | none=>none
 | .buildSlice t n ps=>match E.TI t with
  | some (.U e)=>if Nat.beq n 0&&Nat.beq ps.size 0&&e.ve then some (.own (.U e) (.U true (an e)) [] []) else none
  | _=>none
 | _=>none
section
variable {P:Program} {C:Ctx} {A:Cells} {X:FP} {σ:St} {a:Act} {w:World} {F:Nat->FP} {R:Type} {x:R} {Q:Exit->Act->World->Prop} {o:Oper} {E:Env}
theorem T_ {s:Slot} (hs:yj E o.op=some s) {gn i:Nat} {K:St->Option R}:ry E gn i o σ K=K (σ.b9 o.dst s):=by
 unfold yj at hs;split at hs
 ·rename_i t ho;unfold ry;simp only[ho];split at hs
  ·rename_i T hT;split at hs
   ·rename_i hz;injection hs with hs;simp only[pV,hT,hz,aI,hs]
   ·cases hs
  ·cases hs
 ·rename_i t n ps ho;unfold ry;simp only[ho];split at hs
  ·rename_i e hT;split at hs
   ·rename_i hc;injection hs with hs;simp only[aE,eJ] at hc;obtain ⟨⟨h1,h2⟩,hz⟩:=hc;subst h1;have uy:ps=#[]:=fI h2;subst uy;simp[pV,hT,hz,Fu,hs]
   ·cases hs
  ·cases hs
 ·cases hs
theorem R8 {N:Act->World->Prop} (hh:o.wp P a w N Q):o.wp P a w (λa' w'=>(∀ d,o.dst≠some d->tmp a' d=tmp a d)/\N a' w') Q:=by
 have key:∀ (a0:Act) v,a0.tmps=a.tmps->∀ d,o.dst≠some d->tmp (a0.put o.dst v) d=tmp a d:=λa0 v h0 d hd=>by
  unfold tmp Act.put
  cases ho:o.dst with
  | none=>simp[h0]
  | some e=>
   have:e≠d:=λh=>hd (by rw[ho,h]);simp only[h0];simp[iV,this]
 unfold Oper.wp at *;generalize (execOp a.eval o).run P w=r at *
 cases r with
 | ok n w'=>
  cases n <;> simp only[Oper.upon] at hh ⊢ <;>
   first
    | exact ⟨key _ _ rfl,hh⟩
    | exact Calls.mono hh (λe w'' he=>by cases e <;> first | exact ⟨key _ _ rfl,he⟩ | exact he)
    | exact Rows.mono hh (λ_ _ he=>⟨key _ _ rfl,he⟩)
 | halt x w'=>cases x <;> simp only[Oper.upon] at hh ⊢ <;> exact hh
theorem Jh {d:Nat} (h:Ic σ d=true):d < σ.n/\σ.get d=.dead/\(∀ k,(d,k,false) ∉ σ.az)/\∀ r p snap,(d,r,p,snap) ∉ σ.gh:=by
 unfold Ic at h;simp only[aE,cM,gU] at h;obtain ⟨⟨⟨h1,h2⟩,h3⟩,h4⟩:=h;refine ⟨h1,?_,λk hm=>?_,λr p snap hm=>?_⟩
 ·split at h2
  ·assumption
  ·cases h2
 ·revert h3 hm
  generalize σ.az=l
  induction l with
  | nil=>intro h3 hm;cases hm
  | cons e l ih=>
   obtain ⟨k1,n1,b1⟩:=e;intro h3 hm;simp only[BK,iS] at h3;rcases aX.1 hm with hm | hm
   ·injection hm with e1 e2;injection e2 with e2 e3;subst e1;subst e3;simp at h3
   ·exact ih h3.2 hm
 ·rw[jM] at h4;exact h4 _ hm (by simp)
theorem Rel.tmp (h:Rel P C A X σ a w F) {d:Nat} (hp:Ic σ d=true) (v:Value):Rel P C A X σ (a.put (some d) v) w F:=by
 obtain ⟨hd,hg,hl,Rt⟩:=Jh hp;have ko:=h.size
 have ht:∀ i,i≠d->OT.tmp (a.put (some d) v) i=OT.tmp a i:=λi hi=>by
  rw[oq,bB (λh=>hi h.1.symm)]
 have ir:∀ r p,place σ (a.put (some d) v) w r p=place σ a w r p:=λr p=>by
  unfold place;by_cases hr:r=d
  ·subst hr;rw[hg];rfl
  ·rw[ht r hr]
 have nF:xu σ a w σ (a.put (some d) v) w:=λr p snap hb=>⟨hb,λbc=>⟨bc,λ_ pl hp=>⟨pl.H,pl.cs,by rw[ir];exact hp,λ_=>rfl⟩⟩⟩
 refine { h with size:=by simp[Act.put,ko],defers:=by simpa [Act.put] using h.defers,g_:=λi hi=>?_,gh:=λd' r p snap hm=>?_,oA:=λj k hm=>?_,whole:=λr t m H v' hr hk=>?_,ny:=λj k hm R hR=>?_ }
 ·by_cases hid:i=d
  ·subst hid;rw[hg];trivial
  ·rw[ht i hid];exact cv.mW nF (λ_ _ h=>h) (λ_ _ _ _ h=>h) (λ_ _ h=>h) (λ_ _ _=>⟨λ_ h=>h,rfl⟩) (h.g_ i hi)
 ·rw[ht d' (λe=>by subst e;exact Rt _ _ _ hm)];exact q_.mW nF (h.gh d' r p snap hm)
 ·rw[ht j (λe=>by subst e;exact hl _ hm)];exact h.oA j k hm
 ·rw[ht r (λe=>by subst e;rw[hg] at hr;cases hr)];exact h.whole r t m H v' hr hk
 ·have:j≠d:=λe=>by subst e;rw[hg] at hR;cases hR
  rw[ht j this] at hR;exact h.ny j k hm R hR
def PS (P:Program) (A:Cells) (w:World) (tv:Value):Slot->FP->Prop
 | .own t m H v,F=>∃ cs,tv=ci t cs/\ap P w A t m H v cs F
 | .box t m H v,F=>∃ b L F1,tv=.pointer (some ⟨b,0,none⟩)/\L.length=t.sz/\Has w b 0 L/\(∀ j,j < t.sz->w.frozen? ⟨b,j,none⟩=false) /\
   (∀ x i,b_ b 0 t.sz x i+F1 x i<=F x i)/\ap P w A t m H v L F1/\ge w b (t.sz,false)
 | _,_=>False
theorem PS.slot {tv:Value} {s:Slot} {G:FP} (h:PS P A w tv s G):cv P A σ a w tv s G:=by
 cases s with
 | own t m H v=>exact h
 | box t m H v=>
  obtain ⟨b,L,F1,h1,h2,h3,h4,h5,h6,h7⟩:=h;exact ⟨b,0,L,F1,h1,h2,h3,λj hj=>by rw[bE];exact h4 j hj,h5,h6⟩
 | _=>exact h.elim
theorem PS.whole {tv:Value} {s:Slot} {G:FP} (h:PS P A w tv s G):∀ t m H v',s=.box t m H v'->∃ b,tv=.pointer (some ⟨b,0,none⟩)/\ge w b (t.sz,false):=by
 rintro t m H v rfl;obtain ⟨b,L,F1,h1,h2,h3,h4,h5,h6,h7⟩:=h;exact ⟨b,h1,h7⟩
theorem PS.mW {A':Cells} {w':World} {tv:Value} {s:Slot} {G:FP} (hA:∀ b i,A b i->A' b i) (hc:∀ b i,A b i->∀ u,ce w b i=some u->ce w' b i=some u) (hb:∀ b n,ge w b n->ge w' b n)
  (hF:∀ b i,1<=G b i->(∀ u,ce w b i=some u->ce w' b i=some u)/\w'.frozen? ⟨b,i,none⟩=w.frozen? ⟨b,i,none⟩) (h:PS P A w tv s G):PS P A' w' tv s G:=by
 cases s with
 | own t m H v=>obtain ⟨cs,h1,h2⟩:=h;exact ⟨cs,h1,ap.mono hA hc hb t h2 (λ_ _=>aN _) (λb i hp=>(hF b i hp).1)⟩
 | box t m H v=>
  obtain ⟨b,L,F1,h1,h2,h3,h4,h5,h6,h7⟩:=h
  have hr:∀ j,j < t.sz->1<=G b j:=λj hj=>by
   have:=h5 b j;simp[b_,hj] at this;omega
  exact ⟨b,L,F1,h1,h2,λj u hu=>(hF _ _ (by rw[bE];exact hr j (h2 ▸ (aM.1 hu).1))).1 u (h3 j u hu),λj hj=>by rw[(hF _ _ (hr j hj)).2];exact h4 j hj,h5,
   ap.mono hA hc hb t h6 (λ_ _=>aN _) (λb i hp=>(hF b i (by have:=h5 b i;omega)).1),hb _ _ h7⟩
 | _=>exact h.elim
def PF (P:Program) (E:Env) (ops:Array Oper) (A:Cells) (a:Act) (w:World):List Nat->FP->Prop
 | [],_=>True
 | j::D,X=>∃ (o:Oper) (d:Nat) (s:Slot) (Fj X':FP),ops[j]?=some o/\o.dst=some d/\yj E o.op=some s/\PS P A w (tmp a d) s Fj/\(∀ b i,X' b i+Fj b i<=X b i)/\PF P E ops A a w D X'
theorem PF.mW {ops:Array Oper} {A':Cells} {a':Act} {w':World} (hA:∀ b i,A b i->A' b i) (hc:∀ b i,A b i->∀ u,ce w b i=some u->ce w' b i=some u) (hb:∀ b n,ge w b n->ge w' b n) :
  ∀ (D:List Nat) {X:FP},(∀ j ∈ D,∀ o d,ops[j]?=some o->o.dst=some d->tmp a' d=tmp a d)->(∀ b i,1<=X b i->(∀ u,ce w b i=some u->ce w' b i=some u)/\w'.frozen? ⟨b,i,none⟩=w.frozen? ⟨b,i,none⟩) ->
   PF P E ops A a w D X->PF P E ops A' a' w' D X
 | [],_,_,_,_=>trivial
 | j::D,X,ht,hF,h=>by
  obtain ⟨o,d,s,Fj,X',h1,h2,h3,h4,h5,h6⟩:=h
  exact ⟨o,d,s,Fj,X',h1,h2,h3,by
   rw[ht j (by simp) o d h1 h2]
   exact PS.mW hA hc hb (λb i hp=>hF b i (by have:=h5 b i;omega)) h4,h5,PF.mW hA hc hb D (λk hk=>ht k (by simp[hk])) (λb i hp=>hF b i (by have:=h5 b i;omega)) h6⟩
theorem PF.grow {ops:Array Oper}:∀ (D:List Nat) {X X1:FP},(∀ b i,X b i<=X1 b i)->PF P E ops A a w D X->PF P E ops A a w D X1
 | [],_,_,_,_=>trivial
 | j::D,X,X1,hx,h=>by
  obtain ⟨o,d,s,Fj,X',h1,h2,h3,h4,h5,h6⟩:=h;exact ⟨o,d,s,Fj,X',h1,h2,h3,h4,λb i=>bO (h5 b i) (hx b i),h6⟩
theorem PF.take {ops:Array Oper} {j:Nat}:∀ (D:List Nat) {X:FP},j ∈ D->PF P E ops A a w D X ->
  ∃ (o:Oper) (d:Nat) (s:Slot) (Fj X':FP),ops[j]?=some o/\o.dst=some d/\yj E o.op=some s/\PS P A w (tmp a d) s Fj/\(∀ b i,X' b i+Fj b i<=X b i)/\PF P E ops A a w (D.erase j) X'
 | [],_,hj,_=>by cases hj
 | k::D,X,hj,h=>by
  by_cases AB:k=j
  ·subst AB;rw[List.erase_cons_head];exact h
  ·have v_:j ∈ D:=by
    rcases aX.1 hj with e | e
    ·exact absurd e.symm AB
    ·exact e
   obtain ⟨o,d,s,Fk,X1,h1,h2,h3,h4,h5,h6⟩:=h;obtain ⟨o',d',s',Fj,X2,g1,g2,g3,g4,g5,g6⟩:=PF.take D v_ h6;rw[List.erase_cons_tail (by simpa using AB)];exact ⟨o',d',s',Fj,λb i=>X2 b i+Fk b i,g1,g2,g3,g4,λb i=>by have:=g5 b i;have:=h5 b i;show X2 b i+Fk b i+Fj b i<=X b i;omega,o,d,s,Fk,X2,h1,h2,h3,h4,λb i=>aN _,g6⟩
theorem Ua (h:Rel P C A X σ a w F) (kq:∀ i T,E.TI i=some T->be P T (.inl i)=true) {s:Slot} (hs:yj E o.op=some s) {d:Nat} (hp:Ic σ d=true) :
  ∃ (v:Value) (w':World) (Fj:FP),(execOp a.eval o).run P w=.ok (.value v) w'/\Ext w w' (λ_ _=>0)/\Rel P C A (λb i=>X b i+Fj b i) σ (a.put (some d) v) w' F/\PS P A w' v s Fj:=by
 unfold yj at hs;split at hs
 ·rename_i t ho;split at hs
  ·rename_i T hT;split at hs
   ·rename_i EW;injection hs with hs;subst hs;have gj:=kq _ _ hT;obtain ⟨L,hL⟩:=ux T EW;obtain ⟨z,wJ,zO⟩:=yz (P:=P) (w:=w) gj hL;obtain ⟨r1,r2,r3⟩:=Ax (P:=P) (w:=w) (A:=A) T hL gj;have hc:z.cells=L.toArray:=by apply eY;simpa using zO
    have h1:=h.alloc L.toArray t (0,0);have fa:=wc w L.toArray t (0,0) false (.inr (aN _));have hll:L.length=T.sz:=ap.length T r1;simp only[dQ,hll] at fa h1;have un:=ap.alloc h r1 (λb i hp=>by simp at hp) (nG w (.cells L.toArray t));refine ⟨.pointer (some ⟨w.heap.size,0,none⟩),w.alloc (.cells L.toArray t),b_ w.heap.size 0 T.sz,?_,nG w _,h1.tmp hp _,w.heap.size,L,(λ_ _=>0),rfl,hll,wd w L.toArray t (0,0) (λj u hu=>by simpa using hu) (ap.one _ r1),λj hj=>fa.frozen hj,λ_ _=>aN _,un,fa⟩
    unfold execOp;simp[ho,Instr.alloc,wJ,newVar,newRow,hc]
   ·cases hs
  ·cases hs
 ·rename_i t n ps ho;split at hs
  ·rename_i e hT;split at hs
   ·rename_i hc;injection hs with hs;subst hs;simp only[aE,eJ] at hc;obtain ⟨⟨h1,h2⟩,hz⟩:=hc;subst h1;have uy:ps=#[]:=fI h2;subst uy;have hl:=kq _ _ hT;simp only[be,aE] at hl;have h2:=hl.2;split at h2
    ·rename_i el hu;simp only[aE,dU] at h2;obtain ⟨ko,pH⟩:=h2;obtain ⟨inf,i1,i2,i3,i4⟩:=ly (lH pH)
     have gc:(execOp a.eval o).run P w=.ok (.value (.slice (some ⟨w.heap.size,0,none⟩) 0 0)) (w.alloc (.cells #[] el)):=by
      simp[execOp,ho,Instr.buildSlice,run_underlying hu,Go.sizeOf,typeInfo,i1,Instr.fill,newRow,show Array.range 0=#[] from rfl]
     have DC:=h.alloc #[] el (0,0);have fa:=wc w #[] el (0,0) (xt e) (.inr (aN _));refine ⟨_,_,λb i=>b_ w.heap.size 0 0 b i+a_ 0 (λ_ _ _=>0) b i,gc,nG w _,?_,?_⟩
     ·refine (DC.less (λb i=>?_)).tmp hp _;simp[b_,a_]
     ·refine ⟨_,(db (.U e) _ rfl).symm,?_⟩
      simp only[ap,hole,bU,aF,aL,Md.own,aI,Md.e];refine ⟨_,0,rfl,aN _,aY _,(λe=>by cases e),λad fk=>?_⟩
      injection fk with fk;subst fk;refine ⟨rfl,rfl,by simpa using fa,λ_ _ _=>0,λb i=>by simp,λi y hy=>by cases hy⟩
    ·cases h2
   ·cases hs
  ·cases hs
 ·cases hs
theorem Rel.Xe (h:Rel P C A X σ a w F):∃ C':Ctx,C'.w0=w/\C'.A0=A/\(∀ b i,A b i->C'.F0 b i=0)/\Rel P C' A X σ a w F/\(∀ {A2:Cells} {X2:FP} {kW:St} {a2:Act} {w2:World} {F2:Nat->FP},Rel P C' A2 X2 kW a2 w2 F2->Rel P C A2 X2 kW a2 w2 F2):=by
 refine ⟨⟨w,A,λb i=>X b i+a_ σ.n F b i,C.args⟩,rfl,rfl,λb i ha=>?_,?_,λ{A2 X2 kW a2 w2 F2} h2=>?_⟩
 ·show X b i+a_ σ.n F b i=0;rcases bF (X b i+a_ σ.n F b i) with h0 | h0
  ·exact h0
  ·exact absurd ha (h.pW b i h0)
 ·exact { h with ext:=Ext.refl _ _,own:=λb i hp=>.inl hp,a0:=λ_ _ h=>h,a1:=λ_ _ h=>.inl h,oA:=h.oA,ny:=h.ny,tab:=h.BW λb i hp=>hp }
 ·have ko:C.w0.heap.size<=w.heap.size:=h.ext.size;refine { h2 with ext:=h.ext.trans h2.ext (λb i hb hz=>?_),own:=λb i hp=>?_,a0:=λb i ha=>h2.a0 b i (h.a0 b i ha),a1:=λb i ha=>?_,oA:=h2.oA,ny:=h2.ny,tab:=h.tab }
  ·show X b i+a_ σ.n F b i=0;rcases bF (X b i+a_ σ.n F b i) with h0 | h0
   ·exact h0
   ·rcases h.own b i h0 with h1 | h1 <;> omega
  ·rcases h2.own b i hp with h1 | h1
   ·exact h.own b i h1
   ·exact .inr (bO ko h1)
  ·rcases h2.a1 b i ha with h1 | h1 | h1
   ·exact h.a1 b i h1
   ·exact .inr (h.own b i h1)
   ·exact .inr (.inr (bO ko h1))
theorem Rel.frame (h:Rel P C A X σ a w F):∃ C1:Ctx,dt P C1 A σ a w F/\∀ {A2:Cells} {kW:St} {a2:Act} {w2:World} {F2:Nat->FP},dt P C1 A2 kW a2 w2 F2->Rel P C A2 X kW a2 w2 F2 /\
  (∀ b i,A b i->A2 b i)/\(∀ b i,A b i->∀ u,ce w b i=some u->ce w2 b i=some u)/\(∀ b n,ge w b n->ge w2 b n)/\(∀ b i,1<=X b i->(∀ u,ce w b i=some u->ce w2 b i=some u)/\w2.frozen? ⟨b,i,none⟩=w.frozen? ⟨b,i,none⟩):=by
 have Yv:∀ b i,1<=X b i->a_ σ.n F b i=0:=λb i hp=>by have:=h.o5 b i;omega
 have R9:∀ b i,1<=X b i->b < w.heap.size:=λb i hp=>h.kP b i (.inl (by omega));refine ⟨⟨w,A,a_ σ.n F,C.args⟩,?_,λ{A2 kW a2 w2 F2} h2=>⟨?_,h2.a0,λb i ha u hu=>?_,h2.ext.ub,λb i hp=>⟨λu hu=>h2.ext.cell b i (R9 b i hp) (Yv b i hp) u hu,h2.ext.yw b i (R9 b i hp)⟩⟩⟩
 ·exact { h with
   o5:=λb i=>by have:=h.o5 b i;show 0+a_ σ.n F b i<=1;omega
   pW:=λb i hp=>h.pW b i (by have hp:1<=0+a_ σ.n F b i:=hp;omega)
   kP:=λb i hp=>h.kP b i (hp.imp (λhp=>by have hp:1<=0+a_ σ.n F b i:=hp;omega) id)
   ext:=Ext.refl _ _
   own:=λb i hp=>.inl (by have hp:1<=0+a_ σ.n F b i:=hp;show 1<=a_ σ.n F b i;omega)
   a0:=λ_ _ h=>h,a1:=λ_ _ h=>.inl h,oA:=h.oA,ny:=h.ny,tab:=h.BW λb i hp=>by have hp:1<=a_ σ.n F b i:=hp;omega }
 ·have ko:C.w0.heap.size<=w.heap.size:=h.ext.size
  have R_:∀ b i,1<=X b i->a_ kW.n F2 b i=0:=λb i hp=>by
   rcases bF (a_ kW.n F2 b i) with h0 | h0
   ·exact h0
   ·rcases h2.own b i (by show 1<=0+a_ kW.n F2 b i;omega) with h1 | h1
    ·have h1:1<=a_ σ.n F b i:=h1;have:=Yv b i hp;omega
    ·have h1:w.heap.size<=b:=h1;have:=R9 b i hp;omega
  have fa:∀ b i,1<=a_ σ.n F b i->1<=C.F0 b i\/C.w0.heap.size<=b:=λb i hp=>h.own b i (by omega);refine { h2 with o5:=λb i=>?_,pW:=λb i hp=>?_,kP:=λb i hp=>?_,ext:=h.ext.trans h2.ext (λb i hb hz=>?_),own:=λb i hp=>?_,a0:=λb i ha=>h2.a0 b i (h.a0 b i ha),a1:=λb i ha=>?_,oA:=h2.oA,ny:=h2.ny,tab:=h.tab }
  ·have h1:0+a_ kW.n F2 b i<=1:=h2.o5 b i;have:=R_ b i;have:=h.o5 b i;omega
  ·by_cases hx:1<=X b i
   ·intro ha;rcases h2.a1 b i ha with h1 | h1 | h1
    ·exact h.pW b i (by omega) h1
    ·have h1:1<=a_ σ.n F b i:=h1;have:=Yv b i hx;omega
    ·have h1:w.heap.size<=b:=h1;have:=R9 b i hx;omega
   ·exact h2.pW b i (by show 1<=0+a_ kW.n F2 b i;omega)
  ·by_cases hx:1<=X b i
   ·exact cP (R9 b i hx) h2.ext.size
   ·exact h2.kP b i (hp.imp (λhp=>by show 1<=0+a_ kW.n F2 b i;omega) id)
  ·show a_ σ.n F b i=0;rcases bF (a_ σ.n F b i) with h0 | h0
   ·exact h0
   ·rcases fa b i h0 with h1 | h1 <;> omega
  ·by_cases hx:1<=X b i
   ·exact h.own b i (by omega)
   ·rcases h2.own b i (by show 1<=0+a_ kW.n F2 b i;omega) with h1 | h1
    ·exact fa b i h1
    ·exact .inr (bO ko h1)
  ·rcases h2.a1 b i ha with h1 | h1 | h1
   ·exact h.a1 b i h1
   ·exact .inr (fa b i h1)
   ·exact .inr (.inr (bO ko h1))
 ·refine h2.ext.cell b i (wH hu) ?_ u hu;show a_ σ.n F b i=0;rcases bF (a_ σ.n F b i) with h0 | h0
  ·exact h0
  ·exact absurd ha (h.pW b i (by omega))
end
end OT
namespace OT
open Go
section
variable {P:Program} {C:Ctx} {A:Cells} {X:FP} {σ:St} {a:Act} {w:World} {F:Nat->FP} {R:Type} {x:R} {Q:Exit->Act->World->Prop} {o:Oper} {E:Env}
theorem Rel.congr (h:Rel P C A X σ a w F) {σ':St} (hn:σ'.n=σ.n) (hg:∀ i,σ'.get i=σ.get i) (hv:∀ i,σ'.lw i=σ.lw i) (hl:∀ e,e ∈ σ'.az↔e ∈ σ.az) (Rt:∀ e,e ∈ σ'.gh->e ∈ σ.gh):Rel P C A X σ' a w F:=by
 have nF:xu σ a w σ' a w:=λr p snap hb=>⟨by rw[hv];exact hb,λbc=>by
  unfold St.ok at bc ⊢;rw[hv] at bc
  exact ⟨bc,λ_ pl ir=>⟨pl.H,pl.cs,by unfold place at ir ⊢;rw[hg];exact ir,λ_=>rfl⟩⟩⟩
 refine ⟨by rw[hn];exact h.size,h.defers,λi hi=>?_,λd r p snap hm=>q_.mW nF (h.gh d r p snap (Rt _ hm)),λb i=>by rw[hn];exact h.o5 b i,λb i hp=>by rw[hn] at hp;exact h.pW b i hp,λb i hp=>by rw[hn] at hp;exact h.kP b i hp,
  λi=>by rw[hv];exact h.mf i,h.ext,λb i hp=>by rw[hn] at hp;exact h.own b i hp,h.a0,h.a1,λj k hm=>h.oA j k ((hl _).1 hm),λr t m H v hr hk=>?_,λj k hm R hR=>?_,h.tab⟩
 ·rw[hg];exact cv.mW nF (λ_ _ h=>h) (λ_ _ _ _ h=>h) (λ_ _ h=>h) (λ_ _ _=>⟨λ_ h=>h,rfl⟩) (h.g_ i (by rw[<-hn];exact hi))
 ·rw[hg] at hr;exact h.whole r t m H v hr λk hm=>hk k ((hl _).2 hm)
 ·rw[hg] at hR;exact h.ny j k ((hl _).1 hm) R hR
theorem Rel.same (h:Rel P C A X σ a w F) {t:Nat} {s:Slot} (hs:σ.get t=s):Rel P C A X (σ.Kk t s) a w F:=
 h.congr rfl (λi=>by
  rw[EA];split
  ·rename_i hc;rw[<-hs,hc.1]
  ·rfl) (λi=>rfl) (λe=>jX) (λe he=>he)
theorem Lh (h:Rel P C A X σ a w F) {ops:Array Oper} {o:Oper} {K:Bool->St->Option R} (hk:Dm ops.toList σ o.guard K=some x):∃ (b:Bool) (σ':St),K b σ'=some x/\Rel P C A X σ' a w F/\Region.wanted o (yielded ops a.tmps)=b:=by
 unfold Dm at hk;split at hk
 ·rename_i hg;exact ⟨true,σ,hk,h,by simp[Region.wanted,hg]⟩
 ·rename_i j want hg;split at hk
  ·cases hk
  ·rename_i t ht;rw[dD] at ht
   have hy:∀ v,tmp a t=v->t < σ.n->yielded ops a.tmps j=match v with | .bool b=>some b | _=>none:=λv hv C5=>by
    have am:t < a.tmps.size:=by rw[h.size];exact C5
    unfold yielded;rw[ht];have:a.tmps[t]?=some v:=by rw[cN am,<- hv];simp[tmp,am]
    simp only[aA,this];cases v <;> rfl
   have am:∀ s,σ.get t=s->s≠.dead->t < σ.n:=λs hs fq=>by
    rcases bZ t σ.n with hi | hi
    ·exact hi
    ·rw[lQ (dN.2 hi)] at hs;exact absurd hs.symm fq
   split at hk
   ·rename_i b EZ;have C5:=am _ EZ (by intro e;cases e);have hs:=h.g_ t C5;rw[EZ] at hs;have hv:=KR hs;have Ox:=hy _ hv C5;simp only at Ox
    cases b with
    | true=>exact ⟨_,_,hk,Rel.same h EZ,by simp only[Region.wanted,hg,Ox];cases want <;> rfl⟩
    | false=>exact ⟨_,_,hk,Rel.same h EZ,by simp only[Region.wanted,hg,Ox];cases want <;> rfl⟩
   ·rename_i EZ;have C5:=am _ EZ (by intro e;cases e);have hs:=h.g_ t C5;rw[EZ] at hs;obtain ⟨vs,Fi,h1,_⟩:=hs;have Ox:=hy _ h1 C5;simp only at Ox;exact ⟨false,σ,hk,h,by simp only[Region.wanted,hg,Ox];cases want <;> rfl⟩
   ·cases hk
theorem Is (h:Rel P C A X σ a w F) (o:Oper):∃ F',Rel P C A X (σ.b9 o.dst (.rB [])) (a.put o.dst undef) w F':=
 h.b9 o.dst (s:=.rB []) (v:=undef) (Fd:=λ_ _=>0) (X':=X) ⟨#[],λ_ _ _=>0,rfl,λb i=>by simp[a_],λj y hy=>by cases hy⟩ (λb i=>aN _) (λ_ _ _ _ e=>by cases e)
theorem Yw (hE:sq P E) {gn:Nat} {ops:Array Oper} (cu:∀ o ∈ ops.toList,ri P o.op=true) {K:St->Option R} (hQ:∀ a w,Nx P C K x a w->Q .normal a w) :
  ∀ (rest:List Oper) (i:Nat) {σ:St} {A:Cells} {a:Act} {w:World} {F:Nat->FP},ops.toList.drop i=rest->dt P C A σ a w F->Ib E gn ops.toList rest i σ K=some x->wpOps P ops Q (List.range' i rest.length) a w:=by
 intro rest
 induction rest with
 | nil=>intro i σ A a w F hd h hk;exact hQ a w ⟨σ,hk,A,F,h⟩
 | cons o rest ih=>
  intro i σ A a w F hd h hk
  have hi:ops[i]?=some o:=by
   have:(ops.toList.drop i)[0]?=some o:=by rw[hd];rfl
   rw[bL] at this
   simpa using this
  have sD:ops.toList.drop (i+1)=rest:=by rw[<-dA,hd];rfl
  have DO:o ∈ ops.toList:=cA (i:=i) (by simpa using hi);simp only[Ib] at hk;obtain ⟨b,ov,hk,h1,hw⟩:=Lh h hk;show wpOps P ops Q (i::List.range' (i+1) rest.length) a w;simp only[wpOps,hi,hw]
  cases b with
  | true=>
   simp only[aI];refine .inl (Oper.wp_mono (λa' w' hn=>?_) (Xd hE h1 (cu o DO) hk));obtain ⟨kW,mw,A2,F2,h2⟩:=hn;exact ih (i+1) sD h2 mw
  | false=>
   simp only[aF,aL];obtain ⟨F2,h2⟩:=Is h1 o;exact ih (i+1) sD h2 hk
theorem Sa (hE:sq P E) {gn id:Nat} {ops:Array Oper} (cu:∀ o ∈ ops.toList,ri P o.op=true) (h:dt P C A σ a w F) {K:St->Option R} (hk:Ib E gn ops.toList ops.toList 0 σ K=some x) (hQ:∀ a w,Nx P C K x a w->Q .normal a w) :
  (Code.region id ops false).wp P Q a w:=by
 refine wp_region ?_;have:=Yw hE cu hQ ops.toList 0 (by simp) h hk
 simpa [List.range_eq_range'] using this
def uB (P:Program) (md:Region.Mode) (ops:Array Oper) (Q:Exit->Act->World->Prop) (S:Array Bool->World->Prop):Nat->Array Bool->Act->World->Prop
 | 0,lE,a,w=>Region.ready md ops lE=[]/\Q .normal a w
 | fuel+1,lE,a,w=>
  (Region.ready md ops lE=[]->Q .normal a w) /\
  ∀ i ∈ Region.ready md ops lE,wpOp P ops Q i (λa' w'=>S (lE.setIfInBounds i true) w'/\uB P md ops Q S fuel (lE.setIfInBounds i true) a' w') a w
theorem G4 {md:Region.Mode} {ops:Array Oper} {S:Array Bool->World->Prop}:∀ (fuel:Nat) (lE:Array Bool) (a:Act) (w:World),uB P md ops Q S fuel lE a w->wpAny P md ops Q fuel lE a w
 | 0,_,_,_,h=>h
 | fuel+1,_,_,_,h=>⟨h.1,λi hi=>wpOp_mono (λa' w' h'=>G4 fuel _ a' w' h'.2) (h.2 i hi)⟩
def BB (md:Region.Mode) (ops:Array Oper) (l:Array Bool):Prop:=∀ j o,ops[j]?=some o->l.getD j false=true->∀ e ∈ o.after,Region.binds md e=true->l.getD e.on false=true
theorem Cc {md:Region.Mode} {ops:Array Oper} {l:Array Bool} (h:BB md ops l) {j:Nat} (hj:j ∈ Region.ready md ops l):BB md ops (l.setIfInBounds j true):=by
 obtain ⟨_,oj,G5,px⟩:=mem_ready.1 hj;intro k o hk hl e he hb;by_cases AB:j=k
 ·subst AB;rw[G5] at hk;injection hk with hk;subst hk;exact getD_set_true (px e he hb)
 ·rw[getD_set_ne false AB] at hl;exact getD_set_true (h k o hk hl e he hb)
def SU (md:Region.Mode) (ops:Array Oper) (S:Array Bool->World->Prop) (i:Nat):World->Prop:=λw'=>∃ l,BB md ops l/\l.getD i true=false/\S l w'
theorem wO {md:Region.Mode} {ops:Array Oper} {S:Array Bool->World->Prop} {i:Nat} {oi:Oper} {v:Value} (hi:ops[i]?=some oi) (Cd:∀ (j:Nat) (o:Oper) cs b,ops[j]?=some o->o.op≠.select cs b)
  (hQ:∀ c a w,Q (.panic c) (a.put oi.dst v) w->Q (.panic c) a w) (hS:∀ l w,S (l.setIfInBounds i true) w↔S l w) :
  ∀ (fuel:Nat) (lE:Array Bool) (a:Act) (w:World),
   (∀ j oj,ops[j]?=some oj->j≠i->lE.getD j true=false->(∀ e ∈ oj.after,Region.binds md e=true->e.on≠i)->oi.apart ops oj=true) ->
   i ∈ Region.ready md ops lE->BB md ops lE->YieldsIf P ops (SU md ops S i) oi v a->S lE w ->
   uB P md ops Q S fuel (lE.setIfInBounds i true) (a.put oi.dst v) w->uB P md ops Q S (fuel+1) lE a w:=by
 intro fuel
 induction fuel with
 | zero=>
  intro lE a w _ hr hc hy hs H;have rO:lE.getD i true=false:=(mem_ready.1 hr).1;refine ⟨λh=>(by rw[h] at hr;cases hr),λj hj=>?_⟩
  by_cases mZ:j=i
  ·subst mZ;exact hy.wpOp hi ⟨lE,hc,rO,hs⟩ ⟨(hS _ _).2 hs,H⟩
  ·have:=ready_mono hj mZ;rw[H.1] at this;cases this
 | succ fuel ih=>
  intro lE a w J7 hr hc hy hs H;have rO:lE.getD i true=false:=(mem_ready.1 hr).1;refine ⟨λh=>(by rw[h] at hr;cases hr),λj hj=>?_⟩
  by_cases mZ:j=i
  ·subst mZ;exact hy.wpOp hi ⟨lE,hc,rO,hs⟩ ⟨(hS _ _).2 hs,H⟩
  ·have h1:=H.2 j (ready_mono hj mZ);obtain ⟨Yx,oj,G5,px⟩:=mem_ready.1 hj
   have Ub:∀ e ∈ oj.after,Region.binds md e=true->e.on≠i:=λe he hb heq=>by
    have h1:=px e he hb;have h0:=(mem_ready.1 hr).1;rw[heq] at h1;rcases bZ i lE.size with h' | h'
    ·simp[h'] at h0 h1;rw[h0] at h1;cases h1
    ·simp[dP h'] at h1
   have h2:=wpOp_putIf G5 (J7 j oj G5 mZ Yx Ub) (λcs b=>Cd i oi cs b hi) (λcs b=>Cd j oj cs b G5) hQ hy h1
   have Yy:∀ k ok,ops[k]?=some ok->k≠i->(lE.setIfInBounds j true).getD k true=false ->
     (∀ e ∈ ok.after,Region.binds md e=true->e.on≠i)->oi.apart ops ok=true:=λk ok hk hki rO qt=>by
    refine J7 k ok hk hki ?_ qt;by_cases Yz:j=k
    ·subst Yz;exact Yx
    ·rw[getD_set_ne true Yz] at rO;exact rO
   refine wpOp_mono (λa' w' h3=>?_) h2;have h4:=h3.2.1;have h5:=h3.2.2;rw[Array.setIfInBounds_comm _ _ (Ne.symm mZ)] at h4 h5;have h6:=(hS _ _).1 h4;exact ⟨h6,ih (lE.setIfInBounds j true) a' w' Yy (ready_mono hr (Ne.symm mZ)) (Cc hc hj) h3.1 h6 h5⟩
def Ji (ops:Array Oper):Nat->Nat->Nat->Bool
 | 0,_,_=>false
 | n+1,d,i=>match ops[d]? with
  | some o=>o.after.toList.any λe=>Region.binds .any e&&(Nat.beq e.on i||Ji ops n e.on i)
  | none=>false
theorem uS {ops:Array Oper} {l:Array Bool} (h:BB .any ops l):∀ (n d i:Nat),Ji ops n d i=true->l.getD d false=true->l.getD i false=true
 | 0,_,_,ha,_=>by cases ha
 | n+1,d,i,ha,hd=>by
  simp only[Ji] at ha;split at ha
  ·rename_i o ho;obtain ⟨e,he,hb⟩:=gD.1 ha;simp only[aE,cY,eJ] at hb;have hl:=h d o ho hd e (by simpa using he) hb.1;rcases hb.2 with hb | hb
   ·rw[<-hb];exact hl
   ·exact uS h n e.on i hb hl
  ·cases ha
def qj (E:Env) (ops:Array Oper) (d:Nat):Bool:=match ops[d]? with
 | some o=>!vl E o.op&&!quiet E o.op
 | none=>false
def AC (l:Array Bool):List Nat->Array Bool
 | []=>l
 | j::js=>AC (l.setIfInBounds j true) js
def zW (E:Env) (gn:Nat) (ops:Array Oper) (pd:List Nat):List Nat->Array Bool->Bool->Bool
 | [],l,_=>(Region.ready .any ops l).isEmpty
 | i::is,l,f=>match ops[i]? with
  | none=>false
  | some o=>
   match pd.any (Nat.beq i) with
   | true=>!is.any (Nat.beq i)&&(Region.ready .any ops l).contains i&&(Region.ready .any ops (AC l (pd.filter λj=>!Nat.beq i j))).all (λj=>pd.any (Nat.beq j))&&zW E gn ops pd is (l.setIfInBounds i true) f
   | false=>
   match vl E o.op&&(Region.free .any ops l i&&(Region.ready .any ops l).contains i&&(!reads o.op||Kw E gn i||Pb E gn i||(f&&(List.range ops.size).all λd=>!qj E ops d||Ji ops ops.size d i))) with
   | true=>zW E gn ops pd is (l.setIfInBounds i true) f
   | false=>(Region.ready .any ops l).contains i&&(Region.ready .any ops (AC l pd)).all (Nat.beq i)&&zW E gn ops pd is (l.setIfInBounds i true) false
noncomputable def DP (E:Env) (ops:Array Oper) (pd:List Nat):Bool:=pd.all λj=>match ops[j]? with
 | some o=>(match o.guard with
  | none=>true
  | some _=>false)&&(yj E o.op).isSome&&(match o.dst with
   | some d=>(List.range ops.size).all λk=>Nat.beq k j||(match ops[k]? with
    | some o'=>(match o'.dst with
     | some d'=>!Nat.beq d' d
     | none=>true)
    | none=>true)
   | none=>false)
 | none=>false
def G6:List Nat->Bool
 | []=>true
 | i::is=>!is.any (Nat.beq i)&&G6 is
noncomputable def zX (E:Env) (ops:Array Oper) (pd:List Nat) (er:List (Nat×Nat)):Bool:=er.all λe=>!pd.any (Nat.beq e.1)&&(Nat.ble ops.size e.2||(qj E ops e.2&&!pd.any (Nat.beq e.2)&&Ji ops ops.size e.2 e.1))&&(match ops[e.1]? with
 | some o=>(match o.guard with
  | none=>true
  | some _=>false)&&(match o.op,o.dst with
   | .load _ (.tmp x),some d=>!Nat.beq x d&&(List.range ops.size).all λk=>Nat.beq k e.1||(match ops[k]? with
    | some o'=>(match o'.dst with
     | some d'=>!Nat.beq d' d&&(!Nat.beq d' x||Ji ops ops.size e.1 k)
     | none=>true)
    | none=>true)
   | _,_=>false)
 | none=>false)
noncomputable def Li (E:Env) (gn:Nat) (ops:Array Oper) (is:List Nat):Bool:=
 Region.noSelect ops&&Nat.ble is.length ops.size&&(DP E ops (om E.pd gn)&&(om E.pd gn).all λj=>is.any (Nat.beq j))&&(G6 is&&(List.range ops.size).all (λk=>is.any (Nat.beq k))&&zX E ops (om E.pd gn) (Gp E.er gn))&&zW E gn ops (om E.pd gn) is (Array.replicate ops.size false) (match om E.pd gn with
  | []=>true
  | _::_=>false)
theorem Wa {K:St->Option R}:∀ (is:List Nat) {σ:St} {A:Cells} {F:Nat->FP},dt P C A σ a w F->N6 σ is K=some x->∃ (A':Cells) (σ':St) (F':Nat->FP),K σ'=some x/\dt P C A' σ' a w F':=by
 intro is
 induction is with
 | nil=>intro σ A F h hk;exact ⟨A,σ,F,hk,h⟩
 | cons i is ih=>
  intro σ A F h hk;simp only[N6] at hk;split at hk
  ·rename_i t m H v hg;split at hk
   ·rename_i hc;simp only[aE,bN] at hc;obtain ⟨hH,zS⟩:=hc;subst hH;obtain ⟨A1,F1,_,h1,_,_⟩:=RW h hg;exact ih h1 hk
   ·cases hk
  ·cases hk
theorem Rel.YA (h:dt P C A σ a w F):∃ C':Ctx,C'.w0=w/\C'.A0=A/\(∀ b i,A b i->C'.F0 b i=0)/\dt P C' A σ a w F/\(∀ {A2:Cells} {kW:St} {a2:Act} {w2:World} {F2:Nat->FP},dt P C' A2 kW a2 w2 F2->dt P C A2 kW a2 w2 F2):=by
 have fa:∀ b i,1<=a_ σ.n F b i->1<=C.F0 b i\/C.w0.heap.size<=b:=λb i hp=>h.own b i (by show 1<=0+_;omega);refine ⟨⟨w,A,a_ σ.n F,C.args⟩,rfl,rfl,λb i ha=>?_,?_,λ{A2 kW a2 w2 F2} h2=>?_⟩
 ·rcases bF (a_ σ.n F b i) with h0 | h0
  ·exact h0
  ·exact absurd ha (h.pW b i (by show 1<=0+_;omega))
 ·exact { h with ext:=Ext.refl _ _,own:=λb i hp=>.inl (by have hp:1<=0+a_ σ.n F b i:=hp;show 1<=a_ σ.n F b i;omega),a0:=λ_ _ h=>h,a1:=λ_ _ h=>.inl h,oA:=h.oA,ny:=h.ny,tab:=h.BW λb i hp=>by have hp:1<=a_ σ.n F b i:=hp;show 1<=0+_;omega }
 ·have ko:C.w0.heap.size<=w.heap.size:=h.ext.size;refine { h2 with ext:=h.ext.trans h2.ext (λb i hb hz=>?_),own:=λb i hp=>?_,a0:=λb i ha=>h2.a0 b i (h.a0 b i ha),a1:=λb i ha=>?_,oA:=h2.oA,ny:=h2.ny,tab:=h.tab }
  ·show a_ σ.n F b i=0;rcases bF (a_ σ.n F b i) with h0 | h0
   ·exact h0
   ·rcases fa b i h0 with h1 | h1 <;> omega
  ·rcases h2.own b i hp with h1 | h1
   ·exact fa b i h1
   ·exact .inr (bO ko h1)
  ·rcases h2.a1 b i ha with h1 | h1 | h1
   ·exact h.a1 b i h1
   ·exact .inr (fa b i h1)
   ·exact .inr (.inr (bO ko h1))
theorem Xf (h:dt P C A σ a w F) (hE:sq P E) {gn i:Nat} (cu:ri P o.op=true) (nf:vl E o.op=true) (DI:Kv σ o=true) {K:St->Option R} (hk:ry E gn i o σ K=some x) :
  ∃ v,(∀ w',(∀ b i,A b i->∀ u,ce w b i=some u->ce w' b i=some u)->(execOp a.eval o).run P w'=.ok (.value v) w')/\Nx P C K x (a.put o.dst v) w:=by
 unfold Kv at DI;split at DI
 ·rename_i t y ho;split at DI
  ·rename_i t' v hv;unfold ry at hk;simp only[ho,Gm] at hk
   cases hf:TH E.fz gn i 8 with
   | true=>rw[hf] at hk;simp only[hv] at hk;cases hk
   | false=>
   rw[hf] at hk;simp only[hv,BL] at hk;obtain ⟨T,hT,hk⟩:=fu hk;have gj:=hE.ti _ _ hT;split at hk
   ·rename_i e;subst e;rw[ho] at cu
    rcases eu h cu with hs | ⟨xs,e⟩
    rotate_left
    ·rw[e] at hv;cases hv
    rw[hv] at hs;obtain ⟨⟨b,off,sp⟩,h1,h2,L,h3,h4,h5⟩:=hs;simp only[cV,eE] at h1;simp only at h2;subst h2;refine ⟨ci t' L,λw' qN=>?_,cj h hk ⟨L,rfl,h5⟩ (λ_ _ _ _ e=>by cases e)⟩
    simp[execOp,ho,h1,Instr.loadAt,Instr.sureAddr,xK gj (λj u hu=>qN _ _ (h4 j u hu).2 u (h4 j u hu).1) h3 (Ro.one _ h5)]
   ·cases hk
  ·cases DI
 ·rename_i s t y ho;unfold ry at hk;simp only[ho] at hk;rw[ho] at cu;refine GO h hE.ti ho cu (λT hT=>?_) DI hk;rw[ho] at nf;simp only[vl,hT] at nf;exact nf
 ·cases DI
def Bb (ops:Array Oper) (l:Array Bool) (u:Nat):Prop:=ops.size<=u\/l.getD u false=false
def SD (E:Env) (ops:Array Oper) (w0:World) (C:Ctx) (RC:List (Nat×Nat×Nat×Nat×List Value)):Array Bool->World->Prop:=λl w'=>((∀ d,qj E ops d=true->l.getD d false=false)->Ext w0 w' (λ_ _=>0))/\(∀ b i,C.A0 b i->∀ u,ce C.w0 b i=some u->ce w' b i=some u)/\∀ e ∈ RC,Bb ops l e.2.1->Has w' e.2.2.1 e.2.2.2.1 e.2.2.2.2
theorem Xg {next:Act->World->Prop} (h:Tk P o a w next):o.wp P a w (λa' w'=>w=w'/\next a' w') Q:=by
 obtain ⟨v,h1,h2⟩:=h;exact ot (h1 w λ_=>Ext.refl _ _) ⟨rfl,h2⟩
theorem Bc {md:Region.Mode} {ops:Array Oper} {S S':Array Bool->World->Prop} (hS:∀ l w,S l w->S' l w):∀ (fuel:Nat) (lE:Array Bool) (a:Act) (w:World),uB P md ops Q S fuel lE a w->uB P md ops Q S' fuel lE a w
 | 0,_,_,_,h=>h
 | fuel+1,_,_,_,h=>⟨h.1,λi hi=>wpOp_mono (λa' w' h'=>⟨hS _ _ h'.1,Bc hS fuel _ a' w' h'.2⟩) (h.2 i hi)⟩
theorem Lk (a:Act) (d:Nat):a.put (some d) (tmp a d)=a:=by
 have:a.tmps.setIfInBounds d (tmp a d)=a.tmps:=by
  unfold tmp;apply Array.ext
  ·simp
  ·intro i h1 h2;rw[jC];split
   ·rename_i e;subst e;simp[h2]
   ·rfl
 show { a with tmps:=a.tmps.setIfInBounds d (tmp a d) }=a;rw[this]
theorem aab {ops:Array Oper} {K:St->Option R}:∀ (js:List Nat) {σ:St} {F:Nat->FP},dt P C A σ a w F->Rf ops.toList σ js K=some x->∃ (σ':St) (F':Nat->FP),K σ'=some x/\dt P C A σ' a w F':=by
 intro js
 induction js with
 | nil=>intro σ F h hk;exact ⟨σ,F,hk,h⟩
 | cons j js ih=>
  intro σ F h hk;simp only[Rf] at hk;split at hk
  ·rename_i d hd;obtain ⟨F1,h1⟩:=h.b9 (some d) (s:=.dead) (v:=tmp a d) (Fd:=λ_ _=>0) (X':=λ_ _=>0) trivial (λb i=>aN _) (λ_ _ _ _ e=>by cases e);rw[Lk] at h1;exact ih h1 hk
  ·cases hk
theorem Ce:∀ (js:List Nat) (l:Array Bool) (k:Nat) (b:Bool),(AC l js).getD k b=if k ∈ js/\k < l.size then true else l.getD k b
 | [],l,k,b=>by simp[AC]
 | j::js,l,k,b=>by
  rw[AC,Ce js];simp only[Array.size_setIfInBounds];by_cases h1:k ∈ js/\k < l.size
  ·rw[aV h1,aV ⟨by simp[h1.1],h1.2⟩]
  ·rw[bB h1];by_cases AB:j=k
   ·subst AB;by_cases am:j < l.size
    ·rw[aV ⟨by simp,am⟩];simp[am]
    ·rw[bB (λh=>am h.2)];simp[am]
   ·rw[getD_set_ne b AB,bB];rintro ⟨h2,h3⟩;rcases aX.1 h2 with e | e
    ·exact AB e.symm
    ·exact h1 ⟨e,h3⟩
theorem qk {l:List Nat} {i:Nat}:l.any (Nat.beq i)=true↔i ∈ l:=by
 rw[gD];constructor
 ·rintro ⟨y,h1,h2⟩;rw[cL h2];exact h1
 ·intro h;exact ⟨i,h,jD i⟩
theorem Bd {ops:Array Oper} {pd:List Nat} (h:DP E ops pd=true) {j:Nat} (hj:j ∈ pd):∃ o d s,ops[j]?=some o/\o.guard=none/\o.dst=some d/\yj E o.op=some s/\∀ k o',ops[k]?=some o'->k≠j->o'.dst≠some d:=by
 unfold DP at h;have h:=cB.1 h j hj;split at h
 ·rename_i o ho;simp only[aE] at h;obtain ⟨⟨h1,h2⟩,h3⟩:=h;split at h3
  ·rename_i d hd;obtain ⟨s,hs⟩:=fZ.1 h2;refine ⟨o,d,s,ho,?_,hd,hs,λk o' hk AB e=>?_⟩
   ·split at h1
    ·assumption
    ·cases h1
   ·have:=cB.1 h3 k (dF.2 (bQ.1 hk).1);rw[hk] at this;simp only[e,cY] at this;rcases this with h4 | h4
    ·exact AB (cL h4)
    ·simp at h4
  ·cases h3
 ·cases h
def RE (ops:Array Oper) (er:List (Nat×Nat)) (L:Array Bool) (a:Act) (w:World) (e:Nat×Nat×Nat×Nat×List Value):Prop:=(e.1,e.2.1) ∈ er/\L.getD e.1 false=true /\
 ∃ o t x d,ops[e.1]?=some o/\o.op=.load t (.tmp x)/\o.dst=some d/\tmp a x=.pointer (some ⟨e.2.2.1,e.2.2.2.1,none⟩)/\(tmp a d).cells.toList=e.2.2.2.2/\(Bb ops L e.2.1->Has w e.2.2.1 e.2.2.2.1 e.2.2.2.2)
theorem E0:∀ {is:List Nat},G6 is=true->is.Nodup
 | [],_=>iJ
 | i::is,h=>by
  simp only[G6,aE,cM] at h;refine dW.2 ⟨λhm=>?_,E0 h.2⟩;have:=h.1;rw[qk.2 hm] at this;cases this
theorem vx {E:Env} {ops:Array Oper} {pd:List Nat} {er:List (Nat×Nat)} (h:zX E ops pd er=true) {j u:Nat} (hj:(j,u) ∈ er):j ∉ pd/\(ops.size<=u\/(qj E ops u=true/\u ∉ pd/\Ji ops ops.size u j=true))/\∃ o t x d,ops[j]?=some o/\o.guard=none/\o.op=.load t (.tmp x)/\o.dst=some d/\x≠d /\
  ∀ k o',ops[k]?=some o'->k≠j->o'.dst≠some d/\(o'.dst=some x->Ji ops ops.size j k=true):=by
 unfold zX at h;have h1:=cB.1 h _ hj;simp only[aE,cY,cM,dU] at h1;obtain ⟨⟨h0,hu⟩,h1⟩:=h1;refine ⟨λhm=>?_,hu.imp id λq=>⟨q.1.1,λhm=>?_,q.2⟩,?_⟩
 ·rw[qk.2 hm] at h0;cases h0
 ·have q2:=q.1.2;rw[qk.2 hm] at q2;cases q2
 split at h1
 ·rename_i o ho;simp only[aE] at h1;obtain ⟨h2,h3⟩:=h1;split at h3
  ·rename_i t x d KX hd;simp only[aE,cM,cB,dF] at h3;obtain ⟨h4,h5⟩:=h3;refine ⟨o,t,x,d,ho,?_,KX,hd,(λe=>by subst e;rw[jD] at h4;cases h4),λk o' hk AB=>?_⟩
   ·cases hg:o.guard with
    | none=>rfl
    | some g=>rw[hg] at h2;cases h2
   ·have h6:=h5 k (bQ.1 hk).1;rw[hk] at h6;simp only[cY] at h6;rcases h6 with h6 | h6
    ·exact absurd (cL h6) AB
    ·cases sD:o'.dst with
     | none=>exact ⟨(λe=>by cases e),λe=>by cases e⟩
     | some d'=>
      rw[sD] at h6;simp only[aE,cY,cM] at h6;refine ⟨λe=>?_,λe=>?_⟩
      ·injection e with e;subst e;rw[jD] at h6;cases h6.1
      ·injection e with e;subst e;rcases h6.2 with h7 | h7
       ·rw[jD] at h7;cases h7
       ·exact h7
  ·cases h3
 ·cases h1
theorem xz:∀ {p q:Path},qg p q=true->p=q
 | [],[],_=>rfl
 | .fst::p,.fst::q,h=>by simp only[qg] at h;rw[xz h]
 | .snd::p,.snd::q,h=>by simp only[qg] at h;rw[xz h]
 | .idx i::p,.idx j::q,h=>by simp only[qg,aE] at h;rw[cL h.1,xz h.2]
 | .o4 i::p,.o4 j::q,h=>by simp only[qg,aE] at h;rw[cL h.1,xz h.2]
theorem Sb (h:Rel P C A X σ a w F) {o:Oper} (bc:TN σ o=true) {t x d:Nat} (ho:o.op=.load t (.tmp x)) (hd:o.dst=some d) {b off:Nat} (hx:tmp a x=.pointer (some ⟨b,off,none⟩)):Has w b off (tmp a d).cells.toList/\d < a.tmps.size:=by
 unfold TN at bc;rw[ho,hd] at bc;simp only at bc
 have lt:∀ {i:Nat},σ.get i≠.dead->i < σ.n:=λ{i} hi=>by
  rcases bZ i σ.n with h1 | h1
  ·exact h1
  ·exact absurd (lQ (dN.2 h1)) hi
 split at bc
 ·rename_i r p s Oy;split at bc
  ·rename_i r' p' s' AD;simp only[aE] at bc;obtain ⟨⟨h1,h2,h3⟩,h4⟩:=bc;have e1:=cL h1;have e2:=xz h4;subst e1;subst e2;have DQ:=h.g_ x (lt (by rw[Oy];intro e;cases e));rw[Oy] at DQ;obtain ⟨pl,b',o',g1,g2,g3,_⟩:=DQ.2 h2;rw[hx] at g3;simp only[Value.pointer.injEq,aP,Addr.mk.injEq,eE] at g3;obtain ⟨rfl,rfl⟩:=g3;have Jj:=h.g_ d (lt (by rw[AD];intro e;cases e));rw[AD] at Jj;obtain ⟨Gt,k1,k2,_⟩:=Jj.2 h3;rw[g1] at k1;injection k1 with k1;subst k1;have hr:=s8 g1;have ir:=g1;unfold place at ir
   cases hR:c9 w (tmp a r) (σ.get r) with
   | none=>rw[hR] at ir;cases ir
   | some R=>
    rw[hR] at ir;simp only[aA] at ir;obtain ⟨m,v,F1,q1,_,q2,_⟩:=wD (h.g_ r hr) hR;obtain ⟨z1,m',v',F',z2⟩:=N9 p R.t q1 (λb o e=>(q2 b o e).1) ir;rw[k2,lh (ap.length _ z2) (ap.one _ z2)];exact ⟨z1 _ _ g2,by rw[h.size];exact lt (by rw[AD];intro e;cases e)⟩
  ·rename_i v AD;simp only[aE] at bc;obtain ⟨h2,hi⟩:=bc;unfold VE at hi;split at hi;rotate_left
   ·cases hi
   rename_i bb ue;subst hi;have DQ:=h.g_ x (lt (by rw[Oy];intro e;cases e));rw[Oy] at DQ;obtain ⟨pl,b',o',g1,g2,g3,_⟩:=DQ.2 h2;rw[hx] at g3;simp only[Value.pointer.injEq,aP,Addr.mk.injEq,eE] at g3;obtain ⟨rfl,rfl⟩:=g3;have Jj:=h.g_ d (lt (by rw[AD];intro e;cases e));rw[AD] at Jj;obtain ⟨cz,k1,k2⟩:=Jj;obtain ⟨hr,t',m',H',v',br,cr,F',i1,i2,i3,i4,i5,i6⟩:=lK h ue;rw[i3] at g1;injection g1 with g1;subst g1;simp only at g2;subst g2;obtain ⟨e,i1⟩:=ct i1;subst e;simp only[aP,bM] at i1;have hh:Has w b off br:=by first | exact (i6 b off rfl).1 | exact i6 b off rfl | exact (i5 b off rfl).1 | exact i5 b off rfl
   have c1:br=[.int .i64 v]:=by
    have i4:_:=i4;simp only[ap] at i4;rw[<-i1]
    first | exact i4.1 | exact i4 | exact i4.2 | simp_all
   have c2:cz=[.int .i64 v]:=k2;rw[k1,c2,lh rfl (λu hu=>by rw[bR] at hu;subst hu;rfl)];rw[c1] at hh;exact ⟨hh,by rw[h.size];exact lt (by rw[AD];intro e;cases e)⟩
  ·cases bc
 ·rename_i tb mb Hb vb Oy;split at bc
  ·rename_i r' p' s' AD;simp only[aE] at bc;obtain ⟨⟨h1,h3⟩,h4⟩:=bc;have e1:=cL h1;have e2:=xz h4;subst e1;subst e2;have Jj:=h.g_ d (lt (by rw[AD];intro e;cases e));rw[AD] at Jj;obtain ⟨Gt,k1,k2,_⟩:=Jj.2 h3;have hr:=s8 k1;have ir:=k1;unfold place at ir
   cases hR:c9 w (tmp a x) (σ.get x) with
   | none=>rw[hR] at ir;cases ir
   | some R=>
    rw[hR] at ir;simp only[aA] at ir;obtain ⟨m,v,F1,q1,_,q2,_⟩:=wD (h.g_ x hr) hR;obtain ⟨z1,m',v',F',z2⟩:=N9 [] R.t q1 (λb o e=>(q2 b o e).1) ir;rw[k2,lh (ap.length _ z2) (ap.one _ z2)]
    have fk:Gt.ad=some (b,off):=by
     rw[Oy,hx] at hR;simp only[c9,aP] at hR;subst hR;simp only[bk,aP] at ir;subst ir;rfl
    exact ⟨z1 _ _ fk,by rw[h.size];exact lt (by rw[AD];intro e;cases e)⟩
  ·cases bc
 ·cases bc
theorem quiet_of {gn i:Nat} {o:Oper} {K:St->Option R} (hk:ry E gn i o σ K=some x) (hm:Ew o.op=false) (ht:vl E o.op=false):quiet E o.op=true:=by
 unfold ry at hk;cases ho:o.op <;> rw[ho] at hk hm ht <;> first | rfl | (cases hm;done) | (cases ht;done) | (simp only[reduceCtorEq] at hk;done) | skip
theorem Ll (h:dt P C A σ a w F) (hE:sq P E) {t x0:Nat} {mv:Bool} (cu:ri P o.op=true) (ho:o.op=.load t (.tmp x0)) {K:St->Option R} (hk:BL E σ t (dq σ (.tmp x0)) mv o.dst K=some x) :
  ∃ b off v cs,tmp a x0=.pointer (some ⟨b,off,none⟩)/\Has w b off cs/\v.cells.toList=cs/\∀ w',Has w' b off cs->(execOp a.eval o).run P w'=.ok (.value v) w':=by
 unfold BL at hk;obtain ⟨T,hT,hk⟩:=fu hk;have gj:=hE.ti _ _ hT
 have run:∀ b off L,a.eval (.tmp x0)=.pointer (some ⟨b,off,none⟩)->L.length=T.sz->(∀ u ∈ L,u.oneCell'=true)->∀ w',Has w' b off L->(execOp a.eval o).run P w'=.ok (.value (ci T L)) w':=λb off L hy hl mN w' hL=>by
  simp[execOp,ho,hy,Instr.loadAt,Instr.sureAddr,xK gj hL hl mN]
 rw[ho] at cu
 rcases eu h (show dm P (.tmp x0)=true from cu) with hs | ⟨xs,e⟩
 rotate_left
 ·rw[e] at hk;cases hk
 split at hk
 ·rename_i t' v hv;rw[hv] at hs;split at hk
  ·rename_i e;subst e;obtain ⟨⟨b,off,sp⟩,h1,h2,L,h3,h4,h5⟩:=hs;simp only[cV,eE] at h1;simp only at h2;subst h2;exact ⟨b,off,ci t' L,L,h1,λj u hu=>(h4 j u hu).1,lh h3 (Ro.one _ h5),run b off L h1 h3 (Ro.one _ h5)⟩
  ·cases hk
 ·rename_i r p snap hv;rw[hv] at hs;split at hk
  ·rename_i ou;obtain ⟨hr,t',m',H',v',br,cr,F',h1,h2,h3,h4,h5,h6⟩:=lK h hk;obtain ⟨pl,b,off,g1,g2,g3,g4⟩:=hs.2 ou;rw[h3] at g1;injection g1 with g1;subst g1;simp only at g2;subst g2;split at h1
   ·rename_i e;subst e;have hh:Has w b off br:=by first | exact (h6 b off rfl).1 | exact h6 b off rfl | exact (h5 b off rfl).1 | exact h5 b off rfl
    exact ⟨b,off,ci t' br,br,g3,hh,lh (ap.length _ h4) (ap.one _ h4),run b off br g3 (ap.length _ h4) (ap.one _ h4)⟩
   ·cases h1
  ·cases hk
 ·cases hk
theorem Xh (h:dt P C A σ a w F) (hE:sq P E) {gn i t x0:Nat} (cu:ri P o.op=true) (ho:o.op=.load t (.tmp x0)) {K:St->Option R} (hk:ry E gn i o σ K=some x) :
  ∃ b off v cs,tmp a x0=.pointer (some ⟨b,off,none⟩)/\Has w b off cs/\v.cells.toList=cs/\∀ w',Has w' b off cs->(execOp a.eval o).run P w'=.ok (.value v) w':=by
 unfold ry at hk;simp only[ho,Gm] at hk;split at hk
 ·exact Ll h hE cu ho hk
 ·split at hk
  ·split at hk
   ·obtain ⟨A1,ov,F1,_,_,_,_,_,k1,_,k3,_⟩:=x9 h hk;exact Ll k3 hE cu ho k1
   ·cases hk
  ·cases hk
structure Inv (P:Program) (E:Env) (ops:Array Oper) (pd:List Nat) (w0:World) (C:Ctx) (is:List Nat) (l:Array Bool) (f:Bool) (σ:St) (fuel:Nat) (A:Cells) (a:Act) (w:World) (X:FP) (F:Nat->FP) (D:List Nat) (L:Array Bool) (er:List (Nat×Nat)) (RC:List (Nat×Nat×Nat×Nat×List Value)):Prop where
 h:Rel P C A X σ a w F
 pf:PF P E ops A a w D X
 nd:D.Nodup
 Jk:∀ j ∈ D,j ∈ pd
 dl:∀ j ∈ D,l.getD j false=false
 pW:∀ j ∈ D,j ∈ is
 Wb:∀ j ∈ pd,l.getD j false=true\/j ∈ is
 Wc:(is.filter λk=>decide (k ∉ D)).length<=fuel
 cl:BB .any ops L
 hS:(∀ d,qj E ops d=true->L.getD d false=false)->Ext w0 w (λ_ _=>0)
 hf:f=true->w=w0/\pd=[]
 G7:l.size=ops.size
 zY:L.size=ops.size
 hL:∀ k,L.getD k false=true↔(l.getD k false=true\/k ∈ D)
 Sc:is.Nodup
 Sd:∀ k,k < ops.size->l.getD k false=true\/k ∈ is
 io:∀ k ∈ is,l.getD k false=false
 rc:∀ e ∈ RC,RE ops er L a w e
theorem uT {l:Array Bool} {k:Nat} (h:k < l.size):l.getD k true=l.getD k false:=by simp[h]
theorem gt {l:Array Bool} {i k:Nat} (hi:i < l.size):(l.setIfInBounds i true).getD k false=true↔(k=i\/l.getD k false=true):=by
 by_cases hk:i=k
 ·subst hk;simp[hi]
 ·rw[getD_set_ne false hk];constructor
  ·exact .inr
  ·rintro (h | h)
   ·exact absurd h.symm hk
   ·exact h
theorem Nd {D:List Nat} {j:Nat} (hD:j ∉ D):∀ (is:List Nat),j ∈ is->(is.filter λk=>decide (k ∉ j::D)).length+1<=(is.filter λk=>decide (k ∉ D)).length:=by
 have hle:∀ (is:List Nat),(is.filter λk=>decide (k ∉ j::D)).length<=(is.filter λk=>decide (k ∉ D)).length:=by
  intro is
  induction is with
  | nil=>exact aN _
  | cons i is ih=>
   simp only[gZ];by_cases h1:i ∈ D
   ·have h2:i ∈ j::D:=by simp[h1]
    simp only[h1,h2,eU,aC,aF,aL];exact ih
   ·by_cases h2:i ∈ j::D
    ·simp only[h1,h2,eU,eV,aC,aD,aF,aL,aI,aO];omega
    ·simp only[h1,h2,eV,aD,aI,aO];omega
 intro is
 induction is with
 | nil=>intro h;cases h
 | cons i is ih=>
  intro h;simp only[gZ];by_cases oE:i=j
  ·subst oE;have h2:i ∈ i::D:=by simp
   simp only[hD,h2,eU,eV,aC,aD,aF,aL,aI,aO];have:=hle is;omega
  ·have h3:j ∈ is:=by
    rcases aX.1 h with e | e
    ·exact absurd e.symm oE
    ·exact e
   have:=ih h3;by_cases h1:i ∈ D
   ·have h2:i ∈ j::D:=by simp[h1]
    simp only[h1,h2,eU,aC,aF,aL];exact this
   ·have h2:i ∉ j::D:=by simp[h1,oE]
    simp only[h1,h2,eV,aD,aI,aO];omega
section
variable {ops:Array Oper} {pd:List Nat} {w0:World} {is:List Nat} {l L:Array Bool} {f:Bool} {fuel:Nat} {D:List Nat} {i:Nat} {er:List (Nat×Nat)} {RC:List (Nat×Nat×Nat×Nat×List Value)}
theorem Inv.FK (v:Inv P E ops pd w0 C is l f σ fuel A a w X F D L er RC) (hi:i ∈ Region.ready .any ops l) (hD:i ∉ D):i ∈ Region.ready .any ops L:=by
 obtain ⟨h0,o,ho,px⟩:=mem_ready.1 hi;have am:i < ops.size:=(bQ.1 ho).1;refine mem_ready.2 ⟨?_,o,ho,λe he hb=>(v.hL _).2 (.inl (px e he hb))⟩;rw[uT (by rw[v.zY];exact am)];rw[uT (by rw[v.G7];exact am)] at h0
 cases hh:L.getD i false with
 | false=>rfl
 | true=>
  rcases (v.hL i).1 hh with h1 | h1
  ·rw[h0] at h1;cases h1
  ·exact absurd h1 hD
theorem Inv.DR (v:Inv P E ops pd w0 C is l f σ fuel A a w X F D L er RC) {j:Nat} {S:List Nat} (hS:∀ k ∈ D,k ∈ S) (hj:j ∈ Region.ready .any ops L) (Wd:j ∉ S):j ∈ Region.ready .any ops (AC l S):=by
 obtain ⟨h0,o,ho,px⟩:=mem_ready.1 hj;have am:j < ops.size:=(bQ.1 ho).1;refine mem_ready.2 ⟨?_,o,ho,λe he hb=>?_⟩
 ·rw[Ce,bB (λh=>Wd h.1),uT (by rw[v.G7];exact am)];rw[uT (by rw[v.zY];exact am)] at h0
  cases hh:l.getD j false with
  | false=>rfl
  | true=>rw[(v.hL j).2 (.inl hh)] at h0;cases h0
 ·rw[Ce];have h1:=px e he hb;rcases (v.hL _).1 h1 with h2 | h2
  ·split
   ·rfl
   ·exact h2
  ·have am:e.on < L.size:=by
    rcases bZ e.on L.size with h' | h'
    ·exact h'
    ·simp[dP h'] at h1
   rw[aV ⟨hS _ h2,by rw[v.G7,<- v.zY];exact am⟩]
theorem Inv.G8 (v:Inv P E ops pd w0 C is l f σ fuel A a w X F D L er RC) {j:Nat} (h:L.getD j true=false):j ∉ D/\l.getD j false=false/\l.getD j true=false:=by
 have am:j < L.size:=by
  rcases bZ j L.size with h' | h'
  ·exact h'
  ·simp[dP h'] at h
 rw[uT am] at h
 have h1:l.getD j false=false:=by
  cases hh:l.getD j false with
  | false=>rfl
  | true=>rw[(v.hL j).2 (.inl hh)] at h;cases h
 have h2:j ∉ D:=λhD=>by
  rw[(v.hL j).2 (.inr hD)] at h;cases h
 exact ⟨h2,h1,by rw[uT (by rw[v.G7,<- v.zY];exact am)];exact h1⟩
theorem Inv.next (v:Inv P E ops pd w0 C (i::is) l f σ (fuel+1) A a w X F D L er RC) (hD:i ∉ D) (hr:i ∈ Region.ready .any ops L) {C2:Ctx} {f2:Bool} {kW:St} {A2:Cells} {a2:Act} {w2:World} {F2:Nat->FP}
  (h2:Rel P C2 A2 X kW a2 w2 F2) (hp:PF P E ops A2 a2 w2 D X) (hS2:(∀ d,qj E ops d=true->(L.setIfInBounds i true).getD d false=false)->Ext w0 w2 (λ_ _=>0)) (Lm:f2=true->w2=w0/\pd=[]) {RC2:List (Nat×Nat×Nat×Nat×List Value)} (hrc:∀ e ∈ RC2,RE ops er (L.setIfInBounds i true) a2 w2 e) :
  Inv P E ops pd w0 C2 is (l.setIfInBounds i true) f2 kW fuel A2 a2 w2 X F2 D (L.setIfInBounds i true) er RC2:=by
 obtain ⟨_,o,ho,_⟩:=mem_ready.1 hr;have am:i < ops.size:=(bQ.1 ho).1;have zZ:i < l.size:=by rw[v.G7];exact am
 have z6:i < L.size:=by rw[v.zY];exact am
 refine ⟨h2,hp,v.nd,v.Jk,λj hj=>?_,λj hj=>?_,λj hj=>?_,?_,Cc v.cl hr,hS2,Lm,by simpa using v.G7,by simpa using v.zY,λk=>?_,(dW.1 v.Sc).2,λk hk=>?_,λk hk=>?_,hrc⟩
 ·rw[getD_set_ne false (λe=>by subst e;exact hD hj)];exact v.dl j hj
 ·rcases aX.1 (v.pW j hj) with e | e
  ·subst e;exact absurd hj hD
  ·exact e
 ·rcases v.Wb j hj with h | h
  ·exact .inl ((gt zZ).2 (.inr h))
  ·rcases aX.1 h with e | e
   ·exact .inl ((gt zZ).2 (.inl e))
   ·exact .inr e
 ·have:=v.Wc;simp only[gZ,hD,eV,aD,aI,aO] at this;omega
 ·rw[gt z6,gt zZ,v.hL];exact or_assoc.symm
 ·rcases v.Sd k hk with h | h
  ·exact .inl ((gt zZ).2 (.inr h))
  ·rcases aX.1 h with e | e
   ·exact .inl ((gt zZ).2 (.inl e))
   ·exact .inr e
 ·rw[getD_set_ne false (λe=>by subst e;exact (dW.1 v.Sc).1 hk)];exact v.io k (aW _ hk)
theorem Inv.PL (v:Inv P E ops pd w0 C (i::is) l f σ fuel A a w X F D L er RC) (hD:i ∈ D) (C_:i ∉ is) {kW:St} {X2:FP} {F2:Nat->FP} (h2:Rel P C A X2 kW a w F2) (hp:PF P E ops A a w (D.erase i) X2) :
  Inv P E ops pd w0 C is (l.setIfInBounds i true) f kW fuel A a w X2 F2 (D.erase i) L er RC:=by
 have z6:i < L.size:=by
  have h1:=(v.hL i).2 (.inr hD);rcases bZ i L.size with h' | h'
  ·exact h'
  ·simp[dP h'] at h1
 have zZ:i < l.size:=by rw[v.G7,<- v.zY];exact z6
 have C3:∀ k,k ∈ D.erase i↔k≠i/\k ∈ D:=λk=>v.nd.mem_erase_iff;refine ⟨h2,hp,v.nd.erase _,λj hj=>v.Jk j ((C3 j).1 hj).2,λj hj=>?_,λj hj=>?_,λj hj=>?_,?_,v.cl,v.hS,v.hf,by simpa using v.G7,v.zY,λk=>?_,(dW.1 v.Sc).2,λk hk=>?_,λk hk=>?_,v.rc⟩
 ·obtain ⟨h3,h4⟩:=(C3 j).1 hj;rw[getD_set_ne false (λe=>h3 e.symm)];exact v.dl j h4
 ·obtain ⟨h3,h4⟩:=(C3 j).1 hj;rcases aX.1 (v.pW j h4) with e | e
  ·exact absurd e h3
  ·exact e
 ·rcases v.Wb j hj with h | h
  ·exact .inl ((gt zZ).2 (.inr h))
  ·rcases aX.1 h with e | e
   ·exact .inl ((gt zZ).2 (.inl e))
   ·exact .inr e
 ·have:=v.Wc;simp only[gZ,hD,eU,aC,aF,aL] at this;refine bO (jF (dE List.length (List.filter_congr λk hk=>?_))) this;have:k≠i:=λe=>by subst e;exact C_ hk
  simp only[C3,this,ne_eq,eV,dZ]
 ·rw[v.hL,gt zZ,C3];constructor
  ·rintro (h | h)
   ·exact .inl (.inr h)
   ·by_cases hk:k=i
    ·exact .inl (.inl hk)
    ·exact .inr ⟨hk,h⟩
  ·rintro ((h | h) | h)
   ·subst h;exact .inr hD
   ·exact .inl h
   ·exact .inr h.2
 ·rcases v.Sd k hk with h | h
  ·exact .inl ((gt zZ).2 (.inr h))
  ·rcases aX.1 h with e | e
   ·exact .inl ((gt zZ).2 (.inl e))
   ·exact .inr e
 ·rw[getD_set_ne false (λe=>by subst e;exact C_ hk)];exact v.io k (aW _ hk)
theorem unl {j:Nat} (am:j < L.size) {k:Nat} (hu:(L.setIfInBounds j true).getD k false=false):L.getD k false=false:=by
 cases hl:L.getD k false with
 | false=>rfl
 | true=>rw[(gt am).2 (.inr hl)] at hu;cases hu
theorem Inv.yr (v:Inv P E ops pd w0 C is l f σ fuel A a w X F D L er RC) (wi:zX E ops pd er=true) {j:Nat} {o':Oper} (hj:ops[j]?=some o') (rO:L.getD j false=false) {a2:Act} {w2:World}
  (ht:∀ d,o'.dst≠some d->tmp a2 d=tmp a d) (hh:∀ e ∈ RC,Bb ops (L.setIfInBounds j true) e.2.1->Has w2 e.2.2.1 e.2.2.2.1 e.2.2.2.2):∀ e ∈ RC,RE ops er (L.setIfInBounds j true) a2 w2 e:=by
 intro e he;obtain ⟨h1,h2,o,t,x,d,h3,h4,h5,h6,h7,h8⟩:=v.rc e he;obtain ⟨_,_,o1,t1,x1,d1,g1,_,g2,g3,_,g4⟩:=vx wi h1;rw[h3] at g1;injection g1 with g1;subst g1;rw[h4] at g2;injection g2 with _ g2;injection g2 with g2;subst g2;rw[h5] at g3;injection g3 with g3;subst g3;have fq:j≠e.1:=λe'=>by rw[e'] at rO;rw[h2] at rO;cases rO
 obtain ⟨k1,k2⟩:=g4 j o' hj fq
 have k3:o'.dst≠some x:=λe'=>by
  have:=uS v.cl _ _ _ (k2 e') h2;rw[this] at rO;cases rO
 exact ⟨h1,by rw[getD_set_ne false fq];exact h2,o,t,x,d,h3,h4,h5,by rw[ht x k3];exact h6,by rw[ht d k1];exact h7,hh e he⟩
theorem Inv.still (v:Inv P E ops pd w0 C (i::is) l f σ fuel A a w X F D L er RC) (wi:zX E ops pd er=true) {gn:Nat} (Se:Gp E.er gn=er) {o':Oper} (hj:ops[i]?=some o') (rO:L.getD i false=false) {C2:Ctx} {A2:Cells} {X2:FP} {kW:St} {a2:Act} {w2:World} {F2:Nat->FP} (h2:Rel P C2 A2 X2 kW a2 w2 F2)
  (ht:∀ d,o'.dst≠some d->tmp a2 d=tmp a d) (dr:Ew o'.op=false->Ext w w2 (λ_ _=>0)) (It:Gq E gn ops.toList i o' is kW=true):∀ e ∈ RC,Bb ops (L.setIfInBounds i true) e.2.1->Has w2 e.2.2.1 e.2.2.2.1 e.2.2.2.2:=by
 intro e he hu;obtain ⟨g1,g2,o,t,x,d,g3,g4,g5,g6,g7,g8⟩:=v.rc e he;have z6:i < L.size:=by rw[v.zY];exact (bQ.1 hj).1
 have huL:Bb ops L e.2.1:=hu.imp id λhu=>by
  cases hl:L.getD e.2.1 false with
  | false=>rfl
  | true=>rw[(gt z6).2 (.inr hl)] at hu;cases hu
 cases hm:Ew o'.op with
 | false=>exact (g8 huL).ext (dr hm)
 | true=>
  simp only[Gq,hm,fQ,aQ,dY,Pc,Se,cB] at It;have:=It _ g1;obtain ⟨Sf,my,o1,t1,x1,d1,k1,_,k2,k3,_,k4⟩:=vx wi g1;rw[g3] at k1;injection k1 with k1;subst k1;rw[g4] at k2;injection k2 with _ k2;injection k2 with k2;subst k2;rw[g5] at k3;injection k3 with k3;subst k3;have fq:i≠e.1:=λe'=>by rw[e'] at rO;rw[g2] at rO;cases rO
  have hl:l.getD e.1 false=true:=((v.hL e.1).1 g2).resolve_right λhD=>Sf (v.Jk _ hD)
  have Uc:is.any (Nat.beq e.1)=false:=by
   cases hb:is.any (Nat.beq e.1) with
   | false=>rfl
   | true=>
    have:=v.io e.1 (aW _ (qk.1 hb));rw[hl] at this;cases this
  have Ud:(is.any (Nat.beq e.2.1)||Nat.ble ops.toList.length e.2.1)=true:=by
   rcases bZ e.2.1 ops.size with h9 | h9
   ·have YB:=huL.resolve_left (by omega)
    have hui:e.2.1≠i:=λe'=>by
     have:=hu.resolve_left (by omega);rw[(gt z6).2 (.inl e')] at this;cases this
    rcases v.Sd _ h9 with xY | xY
    ·rw[(v.hL _).2 (.inl xY)] at YB;cases YB
    ·rcases aX.1 xY with Aw | Aw
     ·exact absurd Aw hui
     ·rw[qk.2 Aw,fQ]
   ·have:Nat.ble ops.toList.length e.2.1=true:=by simpa using h9
    rw[this,Bool.or_true]
  rw[Uc,Ud,aQ,dY,dY,dD,g3] at this;simp only at this;obtain ⟨q1,q2⟩:=k4 i o' hj fq
  have q3:o'.dst≠some x:=λe'=>by
   have:=uS v.cl _ _ _ (q2 e') g2;rw[this] at rO;cases rO
  have hx:tmp a2 x=.pointer (some ⟨e.2.2.1,e.2.2.2.1,none⟩):=by rw[ht x q3];exact g6
  obtain ⟨z1,z2⟩:=Sb h2 this g4 g5 hx;rw[ht d q1,g7] at z1;exact z1
theorem Inv.early (hE:sq P E) (uy:DP E ops pd=true) {gn:Nat} (Sf:om E.pd gn=pd) (wi:zX E ops pd er=true) (px:Pd E gn ops.toList is σ=true) (hC:∀ b i,C.A0 b i->C.F0 b i=0)
  (v:Inv P E ops pd w0 C is l f σ (fuel+1) A a w X F D L er RC) {j:Nat} (hj:j ∈ pd) (hr:j ∈ Region.ready .any ops L) {S:Array Bool->World->Prop}
  (hS:∀ w',Ext w w' (λ_ _=>0)->((∀ d,qj E ops d=true->(L.setIfInBounds j true).getD d false=false)->Ext w0 w' (λ_ _=>0))->S (L.setIfInBounds j true) w')
  (next:∀ (a':Act) (w':World) (X':FP),Inv P E ops pd w0 C is l f σ fuel A a' w' X' F (j::D) (L.setIfInBounds j true) er RC->uB P .any ops Q S fuel (L.setIfInBounds j true) a' w') :
  wpOp P ops Q j (λa' w'=>S (L.setIfInBounds j true) w'/\uB P .any ops Q S fuel (L.setIfInBounds j true) a' w') a w:=by
 obtain ⟨o,d,s,ho,hg,hd,hs,fq⟩:=Bd uy hj;have z6:j < L.size:=by rw[v.zY];exact (bQ.1 ho).1
 obtain ⟨YC,Oz,_⟩:=v.G8 (mem_ready.1 hr).1;have Ue:j ∈ is:=(v.Wb j hj).resolve_left (by rw[Oz];simp)
 have bc:Ic σ d=true:=by
  unfold Pd at px;rw[Sf] at px;have:=cB.1 px j hj;rw[dD,ho,qk.2 Ue] at this
  simpa [hd] using this
 obtain ⟨val,w',Fj,gc,dr,h2,hPS⟩:=Ua (o:=o) v.h hE.ti hs bc
 have uC:(∀ d,qj E ops d=true->(L.setIfInBounds j true).getD d false=false)->Ext w0 w' (λ_ _=>0):=λAE=>(v.hS λd' sD=>by
  cases hh:L.getD d' false with
  | false=>rfl
  | true=>rw[<-AE d' sD,(gt z6).2 (.inr hh)]).trans dr (λ_ _ _ _=>rfl)
 have hw:Region.wanted o (yielded ops a.tmps)=true:=by simp[Region.wanted,hg]
 unfold wpOp;simp only[ho,hw,aI];refine .inl (ot gc ⟨hS w' dr uC,?_⟩);rw[hd];have hdn:d < σ.n:=(Jh bc).1
 refine next _ _ (λb i=>X b i+Fj b i) ⟨h2,⟨o,d,s,Fj,X,ho,hd,hs,?_,λb i=>aN _,?_⟩,dW.2 ⟨YC,v.nd⟩,?_,?_,?_,v.Wb,?_,Cc v.cl hr,uC,λhf=>?_,v.G7,by simpa using v.zY,λk=>?_,v.Sc,v.Sd,v.io,v.yr wi ho (by have:=(mem_ready.1 hr).1;rw[uT z6] at this;exact this) (λd' sD=>by rw[oq,bB (λe=>sD (by rw[hd,e.1]))]) (λe he hu=>by
  obtain ⟨_,_,_,_,_,_,_,_,_,_,_,q⟩:=v.rc e he
  exact (q (hu.imp id λhu=>unl z6 hu)).ext dr)⟩
 ·have:tmp (a.put (some d) val) d=val:=by rw[oq,v.h.size,aV ⟨rfl,hdn⟩]
  rw[this];exact hPS
 ·refine PF.mW (λ_ _ h=>h) (λb i ha u hu=>dr.cell b i (wH hu) rfl u hu) dr.ub D (λk hk o' d' AF sD=>?_) (λb i hp=>⟨λu hu=>dr.cell b i (wH hu) rfl u hu,dr.yw b i (v.h.kP b i (.inl (by omega)))⟩) v.pf;have:d'≠d:=λe=>fq k o' AF (λe'=>by subst e';exact YC hk) (by rw[sD,e]);rw[oq,bB (λh=>this h.1.symm)]
 ·intro k hk;rcases aX.1 hk with e | e
  ·subst e;exact hj
  ·exact v.Jk k e
 ·intro k hk;rcases aX.1 hk with e | e
  ·subst e;exact Oz
  ·exact v.dl k e
 ·intro k hk;rcases aX.1 hk with e | e
  ·subst e;exact Ue
  ·exact v.pW k e
 ·have:=Nd YC is Ue;have:=v.Wc;omega
 ·have:=(v.hf hf).2;rw[this] at hj;cases hj
 ·rw[gt z6,v.hL,aX];constructor
  ·rintro (h | h | h)
   ·exact .inr (.inl h)
   ·exact .inl h
   ·exact .inr (.inr h)
  ·rintro (h | h | h)
   ·exact .inr (.inl h)
   ·exact .inl h
   ·exact .inr (.inr h)
theorem Sg (hE:sq P E) {gn:Nat} (cu:∀ o ∈ ops.toList,ri P o.op=true) {K:St->Option R} (hP:∀ c a w,¬ Q (.panic c) a w) (Cd:Region.noSelect ops=true) (uy:DP E ops pd=true) (Sf:om E.pd gn=pd) {er:List (Nat×Nat)} (Se:Gp E.er gn=er) (wi:zX E ops pd er=true) :
  ∀ (is:List Nat) (l:Array Bool) (f:Bool) {C:Ctx} {σ:St},(∀ a w,Nx P C K x a w->Q .normal a w)->(∀ b i,C.A0 b i->C.F0 b i=0)->zW E gn ops pd is l f=true->Dn E gn ops.toList is σ K=some x ->
   ∀ (fuel:Nat) {A:Cells} {a:Act} {w:World} {X:FP} {F:Nat->FP} {D:List Nat} {L:Array Bool} {RC:List (Nat×Nat×Nat×Nat×List Value)},Inv P E ops pd w0 C is l f σ fuel A a w X F D L er RC->uB P .any ops Q (SD E ops w0 C RC) fuel L a w:=by
 intro is
 induction is with
 | nil=>
  intro l f C σ hQ hC hg hk fuel A a w X F D L RC v;simp only[zW,bN] at hg
  have hD:D=[]:=by
   cases D with
   | nil=>rfl
   | cons j D=>have:=v.pW j (by simp);cases this
  subst hD
  have hr:Region.ready .any ops L=[]:=by
   rw[List.eq_nil_iff_forall_not_mem];intro j hj;have:=v.DR (S:=[]) (λ_ h=>h) hj (by simp);rw[AC,hg] at this;cases this
  have hq:=hQ a w ⟨σ,hk,A,F,v.h.less λ_ _=>aY _⟩
  cases fuel with
  | zero=>exact ⟨hr,hq⟩
  | succ fuel=>exact ⟨λ_=>hq,by rw[hr];simp⟩
 | cons i is ih=>
  intro l f C σ hQ hC hg hk;simp only[Dn] at hk;split at hk
  ·cases hk
  rename_i px;simp only[zW] at hg
  cases hi:ops[i]? with
  | none=>rw[hi] at hg;cases hg
  | some o=>
  rw[dD,hi] at hk;rw[hi] at hg;simp only at hk hg;have In:i < ops.size:=(bQ.1 hi).1;have DO:o ∈ ops.toList:=cA (i:=i) (by simpa using hi)
  have PL:∀ (fuel:Nat) {A:Cells} {a:Act} {w:World} {X:FP} {F:Nat->FP} {D:List Nat} {L:Array Bool} {RC:List (Nat×Nat×Nat×Nat×List Value)},Inv P E ops pd w0 C (i::is) l f σ fuel A a w X F D L er RC->i ∈ D->uB P .any ops Q (SD E ops w0 C RC) fuel L a w:=by
   intro fuel A a w X F D L RC v hD;have E1:=v.Jk i hD;rw[qk.2 E1] at hg;simp only[aE,cM] at hg;obtain ⟨⟨⟨C_,_⟩,_⟩,hg⟩:=hg;have C_:i ∉ is:=λhm=>by rw[qk.2 hm] at C_;cases C_
   obtain ⟨o',d',s',AF,YD,sD,hs',_⟩:=Bd uy E1;rw[hi] at AF;injection AF with AF;subst AF;obtain ⟨o2,d,s,Fi,X',g1,g2,g3,g4,g5,g6⟩:=PF.take D hD v.pf;rw[hi] at g1;injection g1 with g1;subst g1;simp only[Dm,YD] at hk;split at hk
   ·cases hk
   rw[T_ g3,g2] at hk;split at hk;rotate_left
   ·cases hk
   obtain ⟨F2,h2⟩:=v.h.b9 (some d) g4.slot g5 g4.whole;rw[Lk] at h2;exact ih _ f hQ hC hg hk fuel (v.PL hD C_ h2 g6)
  intro fuel
  induction fuel with
  | zero=>
   intro A a w X F D L RC v;by_cases hD:i ∈ D
   ·exact PL 0 v hD
   ·have:=v.Wc;simp[gZ,hD] at this
  | succ fuel ihf=>
  intro A a w X F D L RC v;by_cases hD:i ∈ D
  ·exact PL _ v hD
  have G9:∀ e ∈ RC,Bb ops L e.2.1->Has w e.2.2.1 e.2.2.2.1 e.2.2.2.2:=λe he=>by obtain ⟨_,_,_,_,_,_,_,_,_,_,_,q⟩:=v.rc e he;exact q
  have abc:∀ w',Ext w w' (λ_ _=>0)->∀ (l':Array Bool),(∀ k,l'.getD k false=false->L.getD k false=false)->((∀ d,qj E ops d=true->l'.getD d false=false)->Ext w0 w' (λ_ _=>0))->SD E ops w0 C RC l' w':=λw' qN l' wj hh=>⟨hh,(λb i ha u hu=>by
   have:=v.h.ext.cell b i (wH hu) (hC b i ha) u hu
   exact qN.cell b i (wH this) rfl u this),λe he hu=>(G9 e he (hu.imp id (wj _))).ext qN⟩
  have Sh:∀ j,j ∈ pd->j ∈ Region.ready .any ops L->wpOp P ops Q j (λa' w'=>SD E ops w0 C RC (L.setIfInBounds j true) w'/\uB P .any ops Q (SD E ops w0 C RC) fuel (L.setIfInBounds j true) a' w') a w:=λj hj hr=>
   v.early hE uy Sf wi px hC hj hr (λw' qN hh=>abc w' qN _ (λk hk=>unl (by rw[v.zY];obtain ⟨_,oj,G5,_⟩:=mem_ready.1 hr;exact (bQ.1 G5).1) hk) hh) (λa' w' X' v'=>ihf v')
  have Ln:SD E ops w0 C RC L w:=⟨v.hS,(λb i ha u hu=>v.h.ext.cell b i (wH hu) (hC b i ha) u hu),G9⟩
  cases wP:pd.any (Nat.beq i) with
  | true=>
   rw[wP] at hg;simp only[aE,cM,cB] at hg;obtain ⟨⟨⟨C_,AG⟩,It⟩,hg⟩:=hg;have s_:i ∈ Region.ready .any ops L:=v.FK (by simpa using AG) hD;refine ⟨λh0=>(by rw[h0] at s_;cases s_),λj hj=>Sh j ?_ hj⟩
   by_cases Wd:j ∈ pd.filter (λj=>!Nat.beq i j)
   ·exact (List.mem_filter.1 Wd).1
   ·refine qk.1 (It j (v.DR (λk hk=>List.mem_filter.2 ⟨v.Jk k hk,?_⟩) hj Wd))
    cases hb:Nat.beq i k with
    | false=>rfl
    | true=>rw[cL hb] at hD;exact absurd hk hD
  | false=>
  rw[wP] at hg;simp only at hg;have ab7:i ∉ pd:=λhm=>by rw[qk.2 hm] at wP;cases wP
  have Uf:∀ j ∈ D,∀ o' d,ops[j]?=some o'->o'.dst=some d->o.dst≠some d:=λj hj o' d AF sD=>by
   obtain ⟨o2,d2,s2,g1,_,g2,_,g3⟩:=Bd uy (v.Jk j hj);rw[AF] at g1;injection g1 with g1;subst g1;rw[sD] at g2;injection g2 with g2;subst g2;exact g3 i o hi (λe=>by subst e;exact hD hj)
  obtain ⟨b,ov,hk,h1,hw⟩:=Lh v.h hk
  have o6:(match (generalizing:=false) b with
    | true=>ry E gn i o ov λσ=>match Gq E gn ops.toList i o is σ with
     | true=>Dn E gn ops.toList is σ K
     | false=>none
    | false=>Dn E gn ops.toList is (ov.b9 o.dst (.rB [])) K)=some x/\(b=true->Kw E gn i=true->Kv ov o=true):=by
   cases b with
   | true=>
    simp only at hk
    cases hn:(Kw E gn i&&!Kv ov o) with
    | true=>rw[hn] at hk;cases hk
    | false=>
     rw[hn] at hk;exact ⟨hk,λ_ DI=>by rw[DI] at hn;simpa using hn⟩
   | false=>exact ⟨hk,λe=>by cases e⟩
  obtain ⟨hk,abd⟩:=o6
  have ut:∀ (val:Value),∀ j ∈ D,∀ o' d,ops[j]?=some o'->o'.dst=some d->tmp (a.put o.dst val) d=tmp a d:=λval j hj o' d AF sD=>by
   have:=Uf j hj o' d AF sD
   cases YE:o.dst with
   | none=>rfl
   | some e=>rw[oq,bB (λh=>this (by rw[YE,h.1]))]
  split at hg
  ·rename_i We;simp only[aE,cY,cM,cB,dF] at We;obtain ⟨nf,⟨J7,Lo⟩,AG⟩:=We;have s_:i ∈ Region.ready .any ops L:=v.FK (by simpa using Lo) hD;have G_:∀ j oj,ops[j]?=some oj->j≠i->L.getD j true=false->(∀ e ∈ oj.after,Region.binds .any e=true->e.on≠i)->o.apart ops oj=true:=λj oj G5 mZ rO qt=>Region.free_spec hi J7 j oj G5 mZ (v.G8 rO).2.2 qt;have sU:qj E ops i=false:=by simp[qj,hi,nf]
   have AE:∀ (l':Array Bool),(∀ d,qj E ops d=true->(l'.setIfInBounds i true).getD d false=false)↔∀ d,qj E ops d=true->l'.getD d false=false:=λl'=>by
    constructor
    ·intro hh d hd;have:=hh d hd;rw[getD_set_ne false (λe=>by subst e;rw[sU] at hd;cases hd)] at this;exact this
    ·intro hh d hd;rw[getD_set_ne false (λe=>by subst e;rw[sU] at hd;cases hd)];exact hh d hd
   have Wf:∀ (C:Ctx) (RC:List (Nat×Nat×Nat×Nat×List Value)),(∀ e ∈ RC,(e.1,e.2.1) ∈ er)->∀ l w,SD E ops w0 C RC (l.setIfInBounds i true) w↔SD E ops w0 C RC l w:=λC RC gg l' w'=>by
    unfold SD;rw[AE];refine and_congr jX (and_congr jX (forall_congr' λe=>forall_congr' λhe=>?_))
    have fq:i≠e.2.1:=λe'=>by
     rcases (vx wi (gg e he)).2.1 with h | ⟨h,_⟩
     ·omega
     ·rw[<-e',sU] at h;cases h
    unfold Bb;rw[getD_set_ne false fq]
   have gg:∀ e ∈ RC,(e.1,e.2.1) ∈ er:=λe he=>(v.rc e he).1
   have aac:∀ {l':Array Bool} {u:Nat},(∃ j,(j,u) ∈ er)->(Bb ops (l'.setIfInBounds i true) u->Bb ops l' u):=λ{l' u} ⟨j,hj⟩ hu=>by
    have fq:i≠u:=λe'=>by
     rcases (vx wi hj).2.1 with h | ⟨h,_⟩
     ·omega
     ·rw[<-e',sU] at h;cases h
    unfold Bb at hu ⊢
    rwa [getD_set_ne false fq] at hu
   have Wg:(∀ d,qj E ops d=true->(L.setIfInBounds i true).getD d false=false)->Ext w0 w (λ_ _=>0):=λhd=>v.hS ((AE L).1 hd)
   have FL:L.getD i false=false:=by
    have h0:=(mem_ready.1 s_).1;rw[uT (by rw[v.zY];exact In)] at h0;exact h0
   have EF:∀ (val:Value),∀ e ∈ RC,RE ops er (L.setIfInBounds i true) (a.put o.dst val) w e:=λval=>v.yr wi hi FL (λd hd=>by
    cases ho:o.dst with
    | none=>rfl
    | some d'=>rw[oq,bB (λe=>hd (by rw[ho,e.1]))]) (λe he hu=>G9 e he (aac ⟨_,gg e he⟩ hu))
   cases b with
   | true=>
    simp only at hk
    cases YF:Kw E gn i with
    | true=>
     obtain ⟨C',c1,c2,c3,c4,c5⟩:=h1.Xe;obtain ⟨C1,f1,f2⟩:=c4.frame;obtain ⟨val,gc,kW,mw,A2,F2,h2⟩:=Xf f1 hE (cu o DO) nf (abd rfl YF) hk;simp only at mw;split at mw;rotate_left
     ·cases mw
     have YG:∀ b i,C'.A0 b i->C'.F0 b i=0:=λb i ha=>c3 b i (by rw[<-c2];exact ha);obtain ⟨e1,e2,e3,e4,e5⟩:=f2 h2
     refine Bc (S:=SD E ops w0 C' RC) (λl' w' hs=>⟨hs.1,(λb i ha u hu=>hs.2.1 b i (by rw[c2];exact h1.a0 b i ha) u (by rw[c1];exact h1.ext.cell b i (wH hu) (hC b i ha) u hu)),hs.2.2⟩) _ _ _ _
      (wO hi (Region.noSelect_spec Cd) (λc a w hq=>(hP c _ _ hq).elim) (Wf C' RC gg) fuel L a w G_ s_ v.cl (.inl ⟨hw,λw' uC=>gc w' λb i ha u hu=>?_⟩) ⟨v.hS,(λb i ha u hu=>by rw[c1] at hu;exact hu),G9⟩
      (ih _ f (λa w ⟨yN,q1,A3,F3,q2⟩=>hQ a w ⟨yN,q1,A3,F3,c5 q2⟩) YG hg mw fuel (v.next hD s_ e1 (PF.mW e2 e3 e4 D (ut val) e5 v.pf) Wg v.hf (EF val))))
     obtain ⟨l',wz,rO,uC⟩:=uC;exact uC.2.1 b i (by rw[c2];exact ha) u (by rw[c1];exact hu)
    | false=>
    cases Lp:Pb E gn i with
    | true=>
     obtain ⟨u,J8⟩:∃ u,(i,u) ∈ er:=by
      unfold Pb at Lp;rw[Se] at Lp;obtain ⟨e,he1,he2⟩:=gD.1 Lp;rw[cL he2];exact ⟨e.2,he1⟩
     obtain ⟨_,hu0,o1,t1,x1,d1,g1,_,g2,g3,g4,_⟩:=vx wi J8;rw[hi] at g1;injection g1 with g1;subst g1;obtain ⟨C1,f1,f2⟩:=h1.frame;obtain ⟨b0,off,abe,cs,q1,q2,q3,q4⟩:=Xh f1 hE (cu o DO) g2 hk;obtain ⟨val,gc,kW,mw,A2,F2,h2⟩:=J6 hE f1 (cu o DO) nf hk
     have KQ:val=abe:=by
      have r1:=gc w λ_=>Ext.refl _ _;have r2:=q4 w q2;rw[r1] at r2;injection r2 with r2 _;injection r2
     subst KQ;simp only at mw;split at mw;rotate_left
     ·cases mw
     rename_i J9;obtain ⟨e1,e2,e3,e4,e5⟩:=f2 h2
     have t7:RE ops er (L.setIfInBounds i true) (a.put o.dst val) w (i,u,b0,off,cs):=by
      refine ⟨J8,(gt (by rw[v.zY];exact In)).2 (.inl rfl),o,t1,x1,d1,hi,g2,g3,?_,?_,λ_=>q2⟩
      ·rw[g3,oq,bB (λe=>g4 e.1.symm)];exact q1
      ·simp only[Gq,Lp,Bool.or_true,aQ,dY,Pc,Se,cB] at J9;have h9:=J9 _ J8
       have Uc:is.any (Nat.beq i)=false:=by
        cases hb:is.any (Nat.beq i) with
        | false=>rfl
        | true=>exact absurd (qk.1 hb) (dW.1 v.Sc).1
       have Ud:(is.any (Nat.beq u)||Nat.ble ops.toList.length u)=true:=by
        rcases bZ u ops.size with k1 | k1
        ·obtain ⟨k2,_,k3⟩:=hu0.resolve_left (by omega);rcases v.Sd u k1 with k4 | k4
         ·have k5:=(v.hL u).2 (.inl k4);have:=uS v.cl _ _ _ k3 k5;rw[FL] at this;cases this
         ·rcases aX.1 k4 with k5 | k5
          ·rw[k5,sU] at k2;cases k2
          ·rw[qk.2 k5,fQ]
        ·have:Nat.ble ops.toList.length u=true:=by simpa using k1
         rw[this,Bool.or_true]
       rw[Uc,Ud,aQ,dY,dY,dD,hi] at h9;simp only at h9;have xY:=(Sb h2 h9 g2 g3 (b:=b0) (off:=off) (by rw[g3,oq,bB (λe=>g4 e.1.symm)];exact q1)).2;rw[g3] at xY ⊢;rw[oq,aV ⟨rfl,by simpa [Act.put] using xY⟩];exact q3
     refine Bc (S:=SD E ops w0 C ((i,u,b0,off,cs)::RC)) (λl' w' hs=>⟨hs.1,hs.2.1,λe he=>hs.2.2 e (aW _ he)⟩) _ _ _ _
      (wO hi (Region.noSelect_spec Cd) (λc a w hq=>(hP c _ _ hq).elim) (Wf C _ (λe he=>by rcases aX.1 he with rfl | he;exact J8;exact gg e he)) fuel L a w G_ s_ v.cl (.inl ⟨hw,λw' uC=>?_⟩) ⟨Ln.1,Ln.2.1,λe he hu=>?_⟩
      (ih _ f hQ hC hg mw fuel (v.next hD s_ e1 (PF.mW e2 e3 e4 D (ut val) e5 v.pf) Wg v.hf (λe he=>?_))))
     ·obtain ⟨l',wz,rO,uC⟩:=uC;refine q4 w' (uC.2.2 _ bG ?_)
      rcases hu0 with k1 | ⟨_,_,k3⟩
      ·exact .inl k1
      ·right;show l'.getD u false=false
       cases YH:l'.getD u false with
       | false=>rfl
       | true=>
        have:=uS wz _ _ _ k3 YH;rcases bZ i l'.size with h' | h'
        ·simp[h'] at this rO;rw[rO] at this;cases this
        ·simp[dP h'] at this
     ·rcases aX.1 he with rfl | he
      ·exact q2
      ·exact G9 e he hu
     ·rcases aX.1 he with rfl | he
      ·exact t7
      ·exact EF val e he
    | false=>
    obtain ⟨C1,f1,f2⟩:=h1.frame;obtain ⟨val,gc,kW,mw,A2,F2,h2⟩:=J6 hE f1 (cu o DO) nf hk;simp only at mw;split at mw;rotate_left
    ·cases mw
    obtain ⟨e1,e2,e3,e4,e5⟩:=f2 h2;refine wO hi (Region.noSelect_spec Cd) (λc a w hq=>(hP c _ _ hq).elim) (Wf C RC gg) fuel L a w G_ s_ v.cl (.inl ⟨hw,λw' uC=>gc w' λhr=>?_⟩) Ln (ih _ f hQ hC hg mw fuel (v.next hD s_ e1 (PF.mW e2 e3 e4 D (ut val) e5 v.pf) Wg v.hf (EF val)))
    rcases AG with ((AG | AG) | AG) | ⟨nZ,abf⟩
    ·rw[hr] at AG;cases AG
    ·rw[YF] at AG;cases AG
    ·rw[Lp] at AG;cases AG
    ·rw[(v.hf nZ).1];obtain ⟨l',wz,rO,uC⟩:=uC;refine uC.1 λd hd=>?_
     have Si:d < ops.size:=by
      unfold qj at hd;split at hd
      ·rename_i od YE;exact (bQ.1 YE).1
      ·cases hd
     rcases abf d Si with hh | hh
     ·rw[hd] at hh;cases hh
     ·cases YH:l'.getD d false with
      | false=>rfl
      | true=>
       have:=uS wz _ _ _ hh YH;rcases bZ i l'.size with h' | h'
       ·simp[h'] at this rO;rw[rO] at this;cases this
       ·simp[dP h'] at this
   | false=>
    obtain ⟨F2,h2⟩:=Is h1 o;exact wO hi (Region.noSelect_spec Cd) (λc a w hq=>(hP c _ _ hq).elim) (Wf C RC gg) fuel L a w G_ s_ v.cl (v:=undef) (.inr ⟨hw,rfl⟩) Ln (ih _ f hQ hC hg hk fuel (v.next hD s_ h2 (PF.mW (λ_ _ h=>h) (λ_ _ _ _ h=>h) (λ_ _ h=>h) D (ut undef) (λ_ _ _=>⟨λ_ h=>h,rfl⟩) v.pf) Wg v.hf (EF undef)))
  ·simp only[aE,cB] at hg;obtain ⟨⟨Lo,It⟩,hg⟩:=hg;have s_:i ∈ Region.ready .any ops L:=v.FK (by simpa using Lo) hD;have PN:i < L.size:=by rw[v.zY];exact In
   have FL:L.getD i false=false:=by
    have h0:=(mem_ready.1 s_).1;rw[uT PN] at h0;exact h0
   refine ⟨λh0=>(by rw[h0] at s_;cases s_),λj hj=>?_⟩
   by_cases hjp:j ∈ pd
   ·exact Sh j hjp hj
   have oE:i=j:=cL (It j (v.DR v.Jk hj hjp));subst oE;unfold wpOp;simp only[hi,hw]
   have hold:∀ {d},(L.setIfInBounds i true).getD d false=false->L.getD d false=false:=λ{d} hh=>by
    cases hl:L.getD d false with
    | false=>rfl
    | true=>rw[(gt PN).2 (.inr hl)] at hh;cases hh
   have Dt:(L.setIfInBounds i true).getD i false=true:=(gt PN).2 (.inl rfl)
   cases b with
   | true=>
    simp only[aI];obtain ⟨C1,f1,f2⟩:=h1.frame;have AD:∀ w',(∀ b i,A b i->∀ u,ce w b i=some u->ce w' b i=some u)->∀ b i,C.A0 b i->∀ u,ce C.w0 b i=some u->ce w' b i=some u:=λw' he b i ha u hu=>he b i (v.h.a0 b i ha) u (v.h.ext.cell b i (wH hu) (hC b i ha) u hu)
    cases nf:vl E o.op with
    | true=>
     refine .inl (Oper.wp_mono (λa' w' hn=>?_) (R8 (Xg (J6 hE f1 (cu o DO) nf hk))));obtain ⟨ht,hww,kW,mw,A2,F2,h2⟩:=hn;subst hww;simp only at mw;split at mw;rotate_left
     ·cases mw
     obtain ⟨e1,e2,e3,e4,e5⟩:=f2 h2;have uC:(∀ d,qj E ops d=true->(L.setIfInBounds i true).getD d false=false)->Ext w0 w (λ_ _=>0):=λhd=>v.hS λd AE=>hold (hd d AE);exact ⟨⟨uC,AD _ e3,λe he hu=>G9 e he (hu.imp id hold)⟩,ih _ false hQ hC hg mw fuel (v.next hD s_ e1 (PF.mW e2 e3 e4 D (λj hj o' d AF sD=>ht d (Uf j hj o' d AF sD)) e5 v.pf) uC (λe=>by cases e) (v.yr wi hi FL ht λe he hu=>G9 e he (hu.imp id hold)))⟩
    | false=>
    refine .inl (Oper.wp_mono (λa' w' hn=>?_) (R8 (R7 hE f1 (cu o DO) nf hk)));obtain ⟨ht,⟨kW,mw,A2,F2,h2⟩,hq⟩:=hn;simp only at mw;split at mw;rotate_left
    ·cases mw
    rename_i J9;obtain ⟨e1,e2,e3,e4,e5⟩:=f2 h2
    have uC:(∀ d,qj E ops d=true->(L.setIfInBounds i true).getD d false=false)->Ext w0 w' (λ_ _=>0):=λhd=>by
     have YI:quiet E o.op=true:=by
      cases YI:quiet E o.op with
      | true=>rfl
      | false=>
       have hdj:qj E ops i=true:=by simp[qj,hi,nf,YI]
       have:=hd i hdj;rw[Dt] at this;cases this
     exact (v.hS λd AE=>hold (hd d AE)).trans (hq YI) (λ_ _ _ _=>rfl)
    have YJ:=v.still wi Se hi FL h2 ht (λhm=>hq (quiet_of hk hm nf)) J9;exact ⟨⟨uC,AD _ e3,YJ⟩,ih _ false hQ hC hg mw fuel (v.next hD s_ e1 (PF.mW e2 e3 e4 D (λj hj o' d AF sD=>ht d (Uf j hj o' d AF sD)) e5 v.pf) uC (λe=>by cases e) (v.yr wi hi FL ht YJ))⟩
   | false=>
    simp only[aF,aL];obtain ⟨F2,h2⟩:=Is h1 o;have uC:(∀ d,qj E ops d=true->(L.setIfInBounds i true).getD d false=false)->Ext w0 w (λ_ _=>0):=λhd=>v.hS λd AE=>hold (hd d AE)
    exact ⟨⟨uC,Ln.2.1,λe he hu=>G9 e he (hu.imp id hold)⟩,ih _ false hQ hC hg hk fuel (v.next hD s_ h2 (PF.mW (λ_ _ h=>h) (λ_ _ _ _ h=>h) (λ_ _ h=>h) D (ut undef) (λ_ _ _=>⟨λ_ h=>h,rfl⟩) v.pf) uC (λe=>by cases e) (v.yr wi hi FL (λd hd=>by
     cases ho:o.dst with
     | none=>rfl
     | some d'=>rw[oq,bB (λe=>hd (by rw[ho,e.1]))]) λe he hu=>G9 e he (hu.imp id hold)))⟩
end
theorem Xi (hE:sq P E) (hm:P.follows .mixedOrders=true) {gn id:Nat} {ops:Array Oper} (cu:∀ o ∈ ops.toList,ri P o.op=true) {is bx:List Nat} (hd:Li E gn ops is=true) (h:dt P C A σ a w F) {K:St->Option R} (hk:N6 σ bx (λσ=>Rf ops.toList σ (om E.pd gn) λσ=>Dn E gn ops.toList is σ K)=some x)
  (hQ:∀ a w,Nx P C K x a w->Q .normal a w) (hP:∀ c a w,¬ Q (.panic c) a w):(Code.region id ops true).wp P Q a w:=by
 simp only[Li,aE,dU] at hd;obtain ⟨⟨⟨⟨Cd,hlen⟩,uy,abg⟩,⟨sU,abh⟩,wi⟩,hg⟩:=hd;have h0:=h.drew;obtain ⟨A1,ov,F1,hk,h1⟩:=Wa bx h0 hk;obtain ⟨kW,F2,hk,h1⟩:=aab (om E.pd gn) h1 hk;obtain ⟨C',c1,c2,c3,c4,c5⟩:=h1.YA;have YG:∀ b i,C'.A0 b i->C'.F0 b i=0:=λb i ha=>c3 b i (by rw[<-c2];exact ha)
 have I9:∀ k,(Array.replicate ops.size false).getD k false=false:=λk=>by
  by_cases hk:k < ops.size <;> simp[hk]
 refine wp_region_any hm (G4 _ _ _ _ (Sg hE cu hP Cd uy rfl rfl wi is _ _ (λa w ⟨yN,q1,A3,F3,q2⟩=>hQ a w ⟨yN,q1,A3,F3,c5 q2⟩) YG hg hk ops.size (w0:=w.drew) (D:=[]) (RC:=[]) ⟨c4,trivial,iJ,(λ_ h=>by cases h),(λ_ h=>by cases h),(λ_ h=>by cases h),λj hj=>.inr (qk.1 (cB.1 abg j hj)),
  bO (List.length_filter_le _ _) hlen,λj o hj hl=>?_,λ_=>Ext.refl _ _,λhf=>⟨rfl,?_⟩,by simp,by simp,(λk=>by simp),E0 sU,λk hk=>.inr (qk.1 (cB.1 abh k (dF.2 hk))),λk _=>I9 k,λe he=>by cases he⟩))
 ·rw[I9] at hl;cases hl
 ·split at hf
  ·assumption
  ·cases hf
end
end OT
namespace OT
open Go
section
variable {P:Program} {C:Ctx} {A:Cells} {X:FP} {σ:St} {a:Act} {w:World} {F:Nat->FP} {R:Type} {x:R} {E:Env}
theorem Lq (f:Nat->Slot):∀ (live:List Nat) (i:Nat),m9 (live.map λj=>(j,f j)) i=if live.any (Nat.beq i) then some (f i) else none
 | [],i=>rfl
 | j::live,i=>by
  simp only[cS,m9,fY];by_cases oE:i=j
  ·subst oE;simp
  ·have h1:Nat.beq j i=false:=by
    cases hb:Nat.beq j i with
    | false=>rfl
    | true=>exact absurd (cL hb).symm oE
   have h2:Nat.beq i j=false:=by
    cases hb:Nat.beq i j with
    | false=>rfl
    | true=>exact absurd (cL hb) oE
   simp only[h1,h2,aF,aL,dY,Lq f live i]
theorem z7 (live:List Nat) (fr:List (Nat×Md)) (σ:St) (i:Nat):(ff live fr σ).get i=if i < σ.n/\live.any (Nat.beq i)=true then zy fr i (jp live fr σ i) else .dead:=by
 unfold St.get ff;simp only[Lq];by_cases hi:i < σ.n
 ·have h1:Nat.blt i σ.n=true:=by simpa [gU] using hi
  simp only[h1,aI,hi,dZ];split <;> simp_all
 ·have h1:Nat.blt i σ.n=false:=by
   cases hb:Nat.blt i σ.n with
   | false=>rfl
   | true=>rw[gU] at hb;exact absurd hb hi
  simp[h1,hi]
theorem Cf (live:List Nat) (fr:List (Nat×Md)) (σ:St) (i:Nat):(ff live fr σ).lw i=[0,0,0,0,0]:=rfl
theorem Cg {s:List Nat} (h:s.length<=5):Below (s.map λ_=>0) [0,0,0,0,0]:=by
 intro j y hj;rw[eK] at hj
 cases hs:s[j]? with
 | none=>rw[hs] at hj;cases hj
 | some z=>
  rw[hs] at hj;injection hj with hj;have:=(aM.1 hs).1;subst hj
  match j,this with
  | 0,_ | 1,_ | 2,_ | 3,_ | 4,_=>exact ⟨0,rfl,aN _⟩
  | j+5,h'=>omega
theorem Ch {live:List Nat} {fr:List (Nat×Md)} {r:Nat} (hr:Do live fr r=true) {p:Path} {pl:Pl} (hp:place σ a w r p=some pl):place (ff live fr σ) a w r p=some pl:=by
 have am:=s8 hp;simp only[Do,aE] at hr;unfold place at hp ⊢;rw[z7,aV ⟨am,hr.1⟩]
 have nZ:m9 fr r=none:=by
  cases hf:m9 fr r with
  | none=>rfl
  | some m=>have:=hr.2;rw[hf] at this;cases this
 have:zy fr r (jp live fr σ r)=jp live fr σ r:=by simp only[zy,nZ]
 rw[this];unfold jp
 cases hg:σ.get r <;> rw[hg] at hp <;> first | exact hp | (simp[c9] at hp;done)
theorem Sj {live:List Nat} {fr:List (Nat×Md)} {i:Nat} {G:FP} (hs:cv P A σ a w (tmp a i) (σ.get i) G) (hG:∀ b k,G b k<=1) :
  ∃ G':FP,(∀ b k,G' b k<=G b k)/\∀ A':Cells,(∀ b k,A b k->A' b k)->(∀ b k,1<=G b k->G' b k=0->A' b k)->cv P A' (ff live fr σ) a w (tmp a i) (zy fr i (jp live fr σ i)) G':=by
 have same:∀ b k,A b k->∀ u,ce w b k=some u->ce w b k=some u:=λ_ _ _ _ h=>h;have dead:zy fr i .dead=.dead:=by unfold zy;split <;> rfl
 have Ci:∀ {s:Slot},(∀ t m H v,s≠.own t m H v)->(∀ t m H v,s≠.box t m H v)->zy fr i s=s:=λ{s} h1 h2=>by
  unfold zy;split
  ·rfl
  ·cases s <;> first | rfl | exact absurd rfl (h1 _ _ _ _) | exact absurd rfl (h2 _ _ _ _)
 cases hg:σ.get i with
 | dead=>exact ⟨λ_ _=>0,λ_ _=>aY _,λA' _ _=>by simp only[jp,hg,dead];trivial⟩
 | wv=>
  rw[hg] at hs;exact ⟨λ_ _=>0,λ_ _=>aY _,λA' _ _=>by simp only[jp,hg];rw[Ci (by intros;simp) (by intros;simp)];exact hs⟩
 | val t v=>
  rw[hg] at hs;obtain ⟨cs,h1,h2⟩:=hs;exact ⟨λ_ _=>0,λ_ _=>aY _,λA' hA _=>by simp only[jp,hg];rw[Ci (by intros;simp) (by intros;simp)];exact ⟨cs,h1,Ro.mono same hA t h2⟩⟩
 | cp t v=>
  rw[hg] at hs;exact ⟨λ_ _=>0,λ_ _=>aY _,λA' hA _=>by simp only[jp,hg];rw[Ci (by intros;simp) (by intros;simp)];exact Ro.mono same hA (.ptr t) hs⟩
 | own t m H v=>
  rw[hg] at hs;obtain ⟨cs,h1,h2⟩:=hs;have hk:jp live fr σ i=.own t m H v:=by simp only[jp,hg]
  rw[hk];unfold zy;split
  ·exact ⟨G,λ_ _=>aN _,λA' hA _=>⟨cs,h1,ap.mono hA same (λ_ _ h=>h) t h2 (λ_ _=>aN _) (λ_ _ _ _ h=>h)⟩⟩
  ·rename_i m1 hm;simp only;split
   ·rename_i hc;simp only[aE,bN] at hc;obtain ⟨hH,hf⟩:=hc;subst hH;obtain ⟨G1,g1,g2⟩:=ap.fits t hf h2 hG;refine ⟨G1,g1,λA' hA vy=>?_⟩
    have hr:=g2 A' hA vy;split
    ·rename_i e;subst e;exact ⟨cs,h1,ap.ro t (f_ t) hr⟩
    ·exact ⟨cs,h1,hr⟩
   ·exact ⟨λ_ _=>0,λ_ _=>aY _,λA' _ _=>trivial⟩
 | box t m H v=>
  rw[hg] at hs;obtain ⟨b,o,L,F1,s1,s2,s3,s4,s5,s6⟩:=hs;have hk:jp live fr σ i=.box t m H v:=by simp only[jp,hg]
  rw[hk];unfold zy;split
  ·exact ⟨G,λ_ _=>aN _,λA' hA _=>⟨b,o,L,F1,s1,s2,s3,s4,s5,ap.mono hA same (λ_ _ h=>h) t s6 (λ_ _=>aN _) (λ_ _ _ _ h=>h)⟩⟩
  ·rename_i m1 hm;simp only;split
   ·rename_i hc;simp only[aE,bN] at hc;obtain ⟨hH,hf⟩:=hc;subst hH;obtain ⟨G1,g1,g2⟩:=ap.fits t hf s6 (λb' k=>by have:=s5 b' k;have:=hG b' k;omega);refine ⟨λb' k=>b_ b o t.sz b' k+G1 b' k,λb' k=>by have:=s5 b' k;have:=g1 b' k;show b_ b o t.sz b' k+G1 b' k<=G b' k;omega,λA' hA vy=>⟨b,o,L,G1,s1,s2,s3,s4,λ_ _=>aN _,g2 A' hA λb' k hp hz=>?_⟩⟩
    have h5:=s5 b' k;have h6:=hG b' k
    exact vy b' k (by omega) (by show b_ b o t.sz b' k+G1 b' k=0;omega)
   ·exact ⟨λ_ _=>0,λ_ _=>aY _,λA' _ _=>trivial⟩
 | ref r p snap=>
  rw[hg] at hs;refine ⟨λ_ _=>0,λ_ _=>aY _,λA' _ _=>?_⟩
  simp only[jp,hg];split
  ·rename_i hc;simp only[aE] at hc;rw[Ci (by intros;simp) (by intros;simp)];obtain ⟨pl,h1,h2,h3⟩:=hs.2 hc.1;have hl:snap.length<=5:=by rcases h3 with h3 | h3 <;> omega
   exact ⟨by rw[Cf];exact Cg hl,λ_=>⟨pl,Ch hc.2 h1,h2,by simpa using h3⟩⟩
  ·rw[dead];trivial
 | ptr r p snap=>
  rw[hg] at hs;refine ⟨λ_ _=>0,λ_ _=>aY _,λA' _ _=>?_⟩
  simp only[jp,hg];split
  ·rename_i hc;simp only[aE] at hc;rw[Ci (by intros;simp) (by intros;simp)];obtain ⟨pl,b,o,h1,h2,h3,h4⟩:=hs.2 hc.1;have hl:snap.length<=5:=by omega
   exact ⟨by rw[Cf];exact Cg hl,λ_=>⟨pl,b,o,Ch hc.2 h1,h2,h3,by simpa using h4⟩⟩
  ·rw[dead];trivial
 | sub r p snap lo hi=>
  rw[hg] at hs;refine ⟨λ_ _=>0,λ_ _=>aY _,λA' _ _=>?_⟩
  simp only[jp,hg];split
  ·rename_i hc;simp only[aE] at hc;rw[Ci (by intros;simp) (by intros;simp)];obtain ⟨pl,e,xa,n,cap,vh,cap',h1,h2,h3,h4,h5,h6,h7,h8,h9,xY,Aw⟩:=hs.2 hc.1;have hl:snap.length<=5:=by rcases Aw with Aw | Aw <;> omega
   exact ⟨by rw[Cf];exact Cg hl,λ_=>⟨pl,e,xa,n,cap,vh,cap',Ch hc.2 h1,h2,h3,h4,h5,h6,h7,h8,h9,xY,by simpa using Aw⟩⟩
  ·rw[dead];trivial
 | rB xs=>
  rw[hg] at hs;obtain ⟨vs,Fi,h1,h2,h3⟩:=hs;refine ⟨G,λ_ _=>aN _,λA' hA _=>?_⟩
  simp only[jp,hg];rw[Ci (by intros;simp) (by intros;simp)]
  exact ⟨vs,Fi,h1,h2,λj y hy=>by
   obtain ⟨v,g1,g2⟩:=h3 j y hy
   exact ⟨v,g1,g2.imp id λ⟨cs,g3,g4⟩=>⟨cs,g3,ap.mono hA same (λ_ _ h=>h) _ g4 (λ_ _=>aN _) (λ_ _ _ _ h=>h)⟩⟩⟩
theorem FM (h:dt P C A σ a w F) (live:List Nat) (fr:List (Nat×Md)):DE P C (ff live fr σ) a w:=by
 have hle:∀ i,i < σ.n->∀ b k,F i b k<=1:=λi hi b k=>by have:=h.o5 b k;have:=cy F hi b k;omega
 have each:∀ i,∃ G':FP,(∀ b k,i < σ.n->G' b k<=F i b k)/\(¬ i < σ.n->∀ b k,G' b k=0)/\∀ A':Cells,(∀ b k,A b k->A' b k)->(∀ b k,1<=F i b k->G' b k=0->A' b k)->i < σ.n->cv P A' (ff live fr σ) a w (tmp a i) ((ff live fr σ).get i) G':=by
  intro i;by_cases hi:i < σ.n
  ·by_cases hl:live.any (Nat.beq i)=true
   ·obtain ⟨G',g1,g2⟩:=Sj (live:=live) (fr:=fr) (h.g_ i hi) (hle i hi);exact ⟨G',λb k _=>g1 b k,λhn=>absurd hi hn,λA' hA vy _=>by rw[z7,aV ⟨hi,hl⟩];exact g2 A' hA vy⟩
   ·exact ⟨λ_ _=>0,λ_ _ _=>aY _,λ_ _ _=>rfl,λA' _ _ _=>by rw[z7,bB (λhc=>hl hc.2)];trivial⟩
  ·exact ⟨λ_ _=>0,λ_ _ _=>aY _,λ_ _ _=>rfl,λA' _ _ lg=>absurd lg hi⟩
 obtain ⟨F',YK⟩:=iC each;have mc:∀ b k,a_ σ.n F' b k<=a_ σ.n F b k:=λb k=>Id b k λj hj=>(YK j).1 b k hj;refine ⟨λb k=>A b k\/∃ j,j < σ.n/\1<=F j b k/\F' j b k=0,F',?_⟩
 have hold:∀ {b k j},j < σ.n->1<=F j b k->1<=0+a_ σ.n F b k:=λ{b k j} hj hp=>by have:=cy F hj b k;omega
 refine ⟨h.size,h.defers,λi hi=>(YK i).2.2 _ (λ_ _ h=>.inl h) (λb k hp hz=>.inr ⟨i,hi,hp,hz⟩) hi,(λd r p snap hm=>by cases hm),λb k=>by have:=h.o5 b k;have:=mc b k;show 0+a_ σ.n F' b k<=1;omega,λb k hp ha=>?_,λb k hp=>?_,
  λi=>by rw[Cf];rfl,h.ext,λb k hp=>h.own b k (by have:=mc b k;have hp:1<=0+a_ σ.n F' b k:=hp;show 1<=0+a_ σ.n F b k;omega),λb k ha=>.inl (h.a0 b k ha),λb k ha=>?_,h.oA,λr t m H v hg hl=>?_,λj k hm R' jv=>?_,h.tab⟩
 ·have hp:1<=0+a_ σ.n F' b k:=hp
  rcases ha with ha | ⟨j,hj,h1,h2⟩
  ·exact h.pW b k (by have:=mc b k;show 1<=0+a_ σ.n F b k;omega) ha
  ·obtain ⟨i,hi,wP⟩:=Kz (show 1<=a_ σ.n F' b k by omega);have fq:i≠j:=λe=>by subst e;omega
   have:=uj F hi hj fq b k;have:=(YK i).1 b k hi;have:=h.o5 b k;omega
 ·rcases hp with hp | (ha | ⟨j,hj,h1,_⟩)
  ·exact h.kP b k (.inl (by have:=mc b k;have hp:1<=0+a_ σ.n F' b k:=hp;show 1<=0+a_ σ.n F b k;omega))
  ·exact h.kP b k (.inr ha)
  ·exact h.kP b k (.inl (hold hj h1))
 ·rcases ha with ha | ⟨j,hj,h1,_⟩
  ·exact h.a1 b k ha
  ·exact .inr (h.own b k (hold hj h1))
 ·rw[z7] at hg;split at hg
  ·have:∃ m0 H0 v0,σ.get r=.box t m0 H0 v0:=by
    unfold zy at hg;split at hg
    ·unfold jp at hg
     cases tJ:σ.get r <;> rw[tJ] at hg <;> simp only at hg <;> first
      | (cases hg;done)
      | (split at hg <;> cases hg;done)
      | (injection hg with e1;subst e1;exact ⟨_,_,_,rfl⟩)
    ·split at hg
     ·split at hg
      ·split at hg <;> cases hg
      ·cases hg
     ·rename_i t0 m0 H0 v0 hk;split at hg
      ·injection hg with e1;subst e1;unfold jp at hk
       cases tJ:σ.get r <;> rw[tJ] at hk <;> simp only at hk <;> first
        | (cases hk;done)
        | (split at hk <;> cases hk;done)
        | (injection hk with e1;subst e1;exact ⟨_,_,_,rfl⟩)
      ·cases hg
     ·rename_i I5 EV;exact absurd hg (EV _ _ _ _)
   obtain ⟨m0,H0,v0,Rv⟩:=this;exact h.whole r t m0 H0 v0 Rv hl
  ·cases hg
 ·have Pm:c9 w (tmp a j) (σ.get j)=some R'\/∃ H0,c9 w (tmp a j) (σ.get j)=some { R' with H:=H0 }:=by
   rw[z7] at jv;split at jv
   ·unfold zy at jv;split at jv
    ·left;unfold jp at jv
     cases tJ:σ.get j <;> rw[tJ] at jv <;> simp only at jv <;> first
      | exact jv
      | (simp[c9] at jv;done)
      | (split at jv <;> simp[c9] at jv;done)
    ·split at jv
     ·rename_i t0 m0 H0 v0 hk
      have tJ:σ.get j=.own t0 m0 H0 v0:=by
       unfold jp at hk
       cases tJ:σ.get j <;> rw[tJ] at hk <;> simp only at hk <;> first
        | (cases hk;done)
        | (split at hk <;> cases hk;done)
        | exact hk
      split at jv
      ·split at jv
       ·simp[c9] at jv
       ·right;rw[tJ];simp only[c9,aP] at jv ⊢;subst jv;exact ⟨H0,rfl⟩
      ·simp[c9] at jv
     ·rename_i t0 m0 H0 v0 hk
      have tJ:σ.get j=.box t0 m0 H0 v0:=by
       unfold jp at hk
       cases tJ:σ.get j <;> rw[tJ] at hk <;> simp only at hk <;> first
        | (cases hk;done)
        | (split at hk <;> cases hk;done)
        | exact hk
      split at jv
      ·right;rw[tJ];simp only[c9] at jv ⊢;split at jv
       ·simp only[aP] at jv ⊢;subst jv;exact ⟨H0,rfl⟩
       ·cases jv
      ·simp[c9] at jv
     ·rename_i I5 EV;left;unfold jp at jv I5 EV
      cases tJ:σ.get j <;> rw[tJ] at jv I5 EV <;> simp only at jv I5 EV <;> first
       | exact jv
       | (simp[c9] at jv;done)
       | (split at jv <;> simp[c9] at jv;done)
   ·simp[c9] at jv
  rcases Pm with hr | ⟨H0,hr⟩
  ·exact h.ny j k hm R' hr
  ·have:=h.ny j k hm _ hr;exact this
theorem Xj (live:List Nat) (σ:St):yr live σ=ff live [] σ:=rfl
theorem Xk (h:dt P C A σ a w F) (live:List Nat):DE P C (yr live σ) a w:=by rw[Xj];exact FM h live []
end
end OT
namespace OT
open Go
def QK (P:Program) (C:Ctx) {R:Type} (K:Ex->St->Option R) (fin:St->Option R) (x:R):Exit->Act->World->Prop
 | .normal,a,w=>∃ σ,K .normal σ=some x/\DE P C σ a w
 | .exit id,a,w=>∃ σ,K (.exit id) σ=some x/\DE P C σ a w
 | .ret,a,w=>∃ σ,fin σ=some x/\DE P C σ a w
 | _,_,_=>False
noncomputable def codeOk (P:Program) (E:Env):Code->Bool
 | .skip=>true
 | .region id ops d=>ops.toList.all (λo=>ri P o.op)&&(match d with
  | false=>true
  | true=>P.follows .mixedOrders&&Li E id ops (om E.od id))
 | .seq a b=>codeOk P E a&&codeOk P E b
 | .cond c a b=>dm P c&&codeOk P E a&&codeOk P E b
 | .block _ b=>codeOk P E b
 | .loop b=>codeOk P E b
 | .scope b=>codeOk P E b
 | .exit _=>true
 | .ret=>true
 | _=>true
section
variable {P:Program} {C:Ctx} {R:Type} {x:R} {E:Env} {fin:St->Option R} {n:Nat}
theorem Xl (hE:sq P E):∀ (c:Code),codeOk P E c=true->∀ {σ:St} {A:Cells} {a:Act} {w:World} {F:Nat->FP} {K:Ex->St->Option R},dt P C A σ a w F->ua E n fin c σ K=some x->c.wp P (QK P C K fin x) a w:=by
 intro c
 induction c with
 | skip=>intro _ σ A a w F K h hk;exact wp_skip ⟨σ,hk,A,F,h⟩
 | region id ops d=>
  intro hc σ A a w F K h hk;simp only[codeOk,aE] at hc;have cu:∀ o ∈ ops.toList,ri P o.op=true:=λo ho=>cB.1 hc.1 o ho
  cases d with
  | false=>exact Sa hE cu h hk (λa w ⟨σ',h1,A',F',h2⟩=>by
    obtain ⟨A2,kW,F2,h3,h4⟩:=Wa _ h2 h1
    exact ⟨kW,h3,A2,F2,h4⟩)
  | true=>
   have h2:=hc.2;simp only[aE] at h2;exact Xi hE h2.1 cu h2.2 h hk (λa w ⟨σ',h1,h2⟩=>⟨σ',h1,h2⟩) (λc a w hq=>hq)
 | seq a b kO kD=>
  intro hc σ A ac w F K h hk;simp only[codeOk,aE] at hc;refine wp_seq (wp_mono (kO hc.1 h hk) λe a' w' hq=>?_)
  cases e with
  | normal=>obtain ⟨σ',h1,A',F',h2⟩:=hq;exact kD hc.2 h2 h1
  | exit j=>obtain ⟨σ',h1,h2⟩:=hq;exact ⟨σ',h1,h2⟩
  | ret=>exact hq
  | _=>exact hq.elim
 | cond c a b kO kD=>
  intro hc σ A ac w F K h hk;simp only[codeOk,aE] at hc;simp only[ua] at hk
  rcases eu h hc.1.1 with hs | ⟨xs,e⟩
  rotate_left
  ·rw[e] at hk;cases hk
  obtain ⟨t,ht,hk⟩:=GG hs hk
  cases t with
  | true=>exact wp_cond_true ht (kO hc.1.2 h hk)
  | false=>exact wp_cond_false ht (kD hc.2 h hk)
 | block id b ih=>
  intro hc σ A ac w F K h hk;refine wp_block (wp_mono (ih hc h hk) λe a' w' hq=>?_)
  cases e with
  | normal=>exact hq
  | exit j=>
   obtain ⟨σ',h1,h2⟩:=hq;simp only[ag] at h1;simp only[Exit.inBlock];by_cases hj:j=id
   ·subst hj;rw[aV (by simp)] at h1;rw[aV rfl];exact ⟨σ',h1,h2⟩
   ·have:Nat.beq j id=false:=by
     cases hb:Nat.beq j id with
     | false=>rfl
     | true=>exact absurd (cL hb) hj
    rw[this,bB (by simp)] at h1;rw[bB hj];exact ⟨σ',h1,h2⟩
  | ret=>exact hq
  | _=>exact hq.elim
 | loop b ih=>
  intro hc σ A ac w F K h hk;simp only[ua] at hk
  have key:∀ (m:Nat) (σ:St) (ac:Act) (w:World),DE P C σ ac w->BR (ua E n fin b) (ff (om E.lv (sh b)) (Pe E.lf (sh b))) K m σ=some x->Code.rounds P b (QK P C K fin x) m ac w:=by
   intro m
   induction m with
   | zero=>intro σ ac w h hk;cases hk
   | succ m RL=>
    intro σ ac w h hk;obtain ⟨A',F',h⟩:=h;rw[rounds_succ];refine wp_mono (ih hc h hk) λe a' w' hq=>?_
    cases e with
    | normal=>
     obtain ⟨σ',h1,A2,F2,h2⟩:=hq;exact RL _ a' w' (FM h2 _ _) h1
    | exit j=>exact hq
    | ret=>exact hq
    | _=>exact hq.elim
  exact wp_loop_rounds n (key n _ ac w (FM h _ _) hk)
 | scope b ih=>
  intro hc σ A ac w F K h hk;refine wp_scope_straight (wp_mono (ih hc h hk) λe a' w' hq=>?_)
  cases e with
  | normal=>exact hq
  | exit j=>exact hq
  | ret=>exact hq
  | _=>exact hq.elim
 | exit id=>
  intro hc σ A ac w F K h hk;exact wp_exit ⟨_,hk,Xk h _⟩
 | ret=>
  intro hc σ A ac w F K h hk;exact wp_ret ⟨σ,hk,A,F,h⟩
 | _=>intros;rename_i hk;simp[ua] at hk
end
end OT
namespace OT
open Go
section
variable {P:Program} {C:Ctx} {A:Cells} {X:FP} {σ:St} {a:Act} {w:World} {F:Nat->FP} {R:Type} {x:R} {E:Env}
def Cj (tmps:Array Value):ResultVar->Sem Value
 | .tmp t=>pure (tmps.getD t undef)
 | .cell a t=>do loadVar t (<- asAddr (tmps.getD a undef))
theorem Lr {α:Type} (f:α->Sem Value):∀ (l:List α) (vs:List Value),l.length=vs.length->(∀ (j:Nat) (y:α) (v:Value),l[j]?=some y->vs[j]?=some v->(f y).run P w=.ok v w)->(l.mapM f).run P w=.ok vs w
 | [],[],_,_=>rfl
 | y::l,v::vs,hl,h=>by
  have h0:=h 0 y v rfl rfl;have ih:=Lr f l vs (by simpa using hl) (λj y v hy hv=>h (j+1) y v hy hv);simp only[List.mapM_cons,Sem.run_bind,h0,Result.andThen_ok,ih,Sem.run_pure]
 | [],_::_,h,_=>by simp at h
 | _::_,[],h,_=>by simp at h
theorem Nf {fn:Func} {tmps:Array Value} {vs:List Value} (hl:fn.results.toList.length=vs.length) (h:∀ (j:Nat) (y:ResultVar) (v:Value),fn.results.toList[j]?=some y->vs[j]?=some v->(Cj tmps y).run P w=.ok v w) :
  (results fn tmps).run P w=.ok (if h:vs.toArray.size=1 then vs.toArray[0] else .tuple vs.toArray) w:=by
 have h1:=Lr (P:=P) (w:=w) (Cj tmps) fn.results.toList vs hl h
 have h2:(fn.results.mapM (Cj tmps)).run P w=.ok vs.toArray w:=by
  have e:fn.results=fn.results.toList.toArray:=by simp
  rw[e,List.mapM_toArray,map_eq_pure_bind,Sem.run_bind,h1,Result.andThen_ok,Sem.run_pure]
 have e:results fn tmps=(do
  let vs <- fn.results.mapM (Cj tmps)
  pure (if h:vs.size=1 then vs[0] else .tuple vs)):=by
  unfold results;congr 1
 rw[e,Sem.run_bind,h2,Result.andThen_ok,Sem.run_pure]
def FN (E:Env):List (Ty×Md)->List ResultVar->Bool
 | [],[]=>true
 | _::rs,.tmp _::xs=>FN E rs xs
 | (t,_)::rs,.cell _ ty::xs=>(match E.TI ty with
  | some T=>decide (T=t)
  | none=>false)&&FN E rs xs
 | _,_=>false
theorem aad (hE:sq P E) (h:Rel P C A X σ a w F) {rv:ResultVar} {t:Ty} (zL:∀ b ty,rv=.cell b ty->E.TI ty=some t) {mv:Bool} {K:Md->t.den->St->Option R} (hk:mV σ (Gr σ rv) mv t K=some x) :
  ∃ (tv:Value),(Cj a.tmps rv).run P w=.ok tv w/\∃ (A':Cells) (σ':St) (F':Nat->FP) (m:Md) (v:t.den) (cs:List Value) (Fv:FP),K m v σ'=some x/\(∀ b i,A b i->A' b i)/\Rel P C A' (λb i=>X b i+Fv b i) σ' a w F'/\tv=ci t cs/\ap P w A' t m [] v cs Fv:=by
 cases rv with
 | tmp i=>
  rcases eu h (o:=.tmp i) rfl with hs | ⟨xs,e⟩
  rotate_left
  ·simp only[Gr] at hk;rw[e] at hk;simp[mV] at hk
  obtain ⟨A',σ',F',m,v,cs,Fv,k1,k2,k3,k4,kr,k5,k6⟩:=tI h hs hk;exact ⟨_,rfl,A',σ',F',m,v,cs,Fv,k1,k2,k3,k5,k6⟩
 | cell i ty=>
  have hT:=zL i ty rfl;have gj:=hE.ti _ _ hT;simp only[Gr] at hk;split at hk
  ·rename_i t0 m0 H0 v0 hg
   have hi:i < σ.n:=by
    rcases bZ i σ.n with hi | hi
    ·exact hi
    ·rw[lQ (dN.2 hi)] at hg;cases hg
   have hs:=h.g_ i hi;rw[hg] at hs;obtain ⟨b,o,L,F1,s1,s2,s3,s4,s5,s6⟩:=hs
   have ir:place σ a w i []=some ⟨t0,H0,L,some (b,o)⟩:=by
    unfold place;rw[hg,s1];simp only[c9,dx s3 s2,aA,bk]
   have J4:cv P A σ a w (ci t0 L) (.ref i [] (σ.lw i)) (λ_ _=>0):=⟨Below.refl _,λ_=>⟨_,ir,rfl,.inr (h.mf i)⟩⟩
   have ht:t0=t:=by
    have o6:=hk;simp only[mV] at o6;split at o6
    ·obtain ⟨_,t',m',H',v',br,cr,F',h1,h2,h3,_⟩:=lK h o6;rw[ir] at h3;injection h3 with h3;injection h3 with e1;subst e1;split at h1
     ·exact (ct h1).1
     ·cases h1
    ·cases o6
   subst ht;obtain ⟨A',σ',F',m,v,cs,Fv,k1,k2,k3,k4,kr,k5,k6⟩:=tI h J4 hk;refine ⟨ci t0 L,?_,A',σ',F',m,v,cs,Fv,k1,k2,k3,k5,k6⟩
   have e:a.tmps.getD i undef=.pointer (some ⟨b,o,none⟩):=s1;have gc:=xK (P:=P) gj s3 s2 (ap.one _ s6);simp only[Cj,Sem.run_bind,e];show (Sem.run P (asAddr (.pointer (some ⟨b,o,none⟩))) w).andThen _=_;rw[show Sem.run P (asAddr (.pointer (some ⟨b,o,none⟩))) w=.ok ⟨b,o,none⟩ w from rfl,Result.andThen_ok,gc]
  ·simp[mV] at hk
theorem YL (hE:sq P E) {ts:List Ty} {mv:Nat->Bool} {fin:St->((dn ts).den->Option R)->Option R}:∀ (rs:List (Ty×Md)) (Bv:List ResultVar) (j:Nat) {σ:St} {A:Cells} {X:FP} {F:Nat->FP} {K:(dn (rs.map (·.1)++ts)).den->Option R},
  FN E rs Bv=true->Rel P C A X σ a w F->Pf σ ts mv fin rs Bv j K=some x ->
  ∃ (A':Cells) (σ':St) (X':FP) (F':Nat->FP) (Ck:List Value) (L:List Gj) (Fi:Nat->FP) (pre:(dn ts).den->(dn (rs.map (·.1)++ts)).den),(∀ b i,A b i->A' b i)/\Rel P C A' X' σ' a w F'/\fin σ' (λy=>K (pre y))=some x/\(∀ y,lD rs (pre y)=(L,y)) /\
   Ck.length=L.length/\Ck.length=Bv.length/\(∀ (k:Nat) (y:ResultVar) (v:Value),Bv[k]?=some y->Ck[k]?=some v->(Cj a.tmps y).run P w=.ok v w)/\(∀ b i,X b i+a_ L.length Fi b i<=X' b i) /\
   ∀ A2:Cells,(∀ b i,A' b i->A2 b i)->(∀ b i,1<=X' b i->X b i=0->a_ L.length Fi b i=0->A2 b i)->∀ k y,L[k]?=some y->∃ v cs,Ck[k]?=some v/\v=ci y.t cs/\ap P w A2 y.t y.m [] y.v cs (Fi k):=by
 intro rs
 induction rs with
 | nil=>
  intro Bv j σ A X F K Ha h hk
  cases Bv with
  | nil=>exact ⟨A,σ,X,F,[],[],λ_ _ _=>0,id,λ_ _ h=>h,h,hk,λy=>rfl,rfl,rfl,(λk y v hy=>by cases hy),(λb i=>by simp[a_]),λA2 _ _ k y hy=>by cases hy⟩
  | cons _ _=>cases Ha
 | cons p rs ih=>
  intro Bv j σ A X F K Ha h hk;obtain ⟨t,m⟩:=p
  cases Bv with
  | nil=>cases hk
  | cons rv Bv=>
   simp only[Pf] at hk
   have zL:∀ b ty,rv=.cell b ty->E.TI ty=some t:=λb ty e=>by
    subst e;simp only[FN,aE] at Ha;have h1:=Ha.1;split at h1
    ·rename_i T hT;rw[hT];simpa using h1
    ·cases h1
   have abi:FN E rs Bv=true:=by
    cases rv with
    | tmp i=>exact Ha
    | cell b ty=>simp only[FN,aE] at Ha;exact Ha.2
   obtain ⟨tv,gc,A1,ov,F1,m1,v1,cs,Fv,k1,k2,k3,k4,k5⟩:=aad hE h zL hk;split at k1
   ·rename_i hm;obtain ⟨A',σ',X',F',Ck,L,Fi,pre,g1,g2,g3,g4,g5,g6,g7,g8,g9⟩:=ih Bv (j+1) abi k3 k1;have pe:∀ b i,X' b i<=1:=λb i=>by have:=g2.o5 b i;omega
    have zS:∃ G:FP,(∀ b i,G b i<=Fv b i)/\∀ A2:Cells,(∀ b i,A1 b i->A2 b i)->(∀ b i,1<=Fv b i->G b i=0->A2 b i)->ap P w A2 t m [] v1 cs G:=by
     by_cases YM:m1=m
     ·subst YM;exact ⟨Fv,λ_ _=>aN _,λA2 hA _=>ap.mono hA (λ_ _ _ _ h=>h) (λ_ _ h=>h) t k5 (λ_ _=>aN _) (λ_ _ _ _ h=>h)⟩
     ·rcases hm with hm | hm
      ·exact absurd hm YM
      ·exact ap.fits t hm k5 (λb i=>by have:=g8 b i;have:=pe b i;omega)
    obtain ⟨G,G1,G2⟩:=zS
    have mc:∀ b i,a_ (L.length+1) (λk=>match k with | 0=>G | k+1=>Fi k) b i=G b i+a_ L.length Fi b i:=λb i=>by
     rw[jE,sY];congr 1
     ·simp[a_]
     ·refine iI (iI (qv λj hj=>?_) b) i;rw[jE]
    refine ⟨A',σ',X',F',tv::Ck,⟨t,m,v1⟩::L,λk=>match k with | 0=>G | k+1=>Fi k,λy=>(v1,pre y),λb i ha=>g1 b i (k2 b i ha),g2,g3,λy=>by simp only[lD,g4],by simp[g5],by simp[g6],λk y v hy hv=>?_,λb i=>?_,λA2 hA vy k y hy=>?_⟩
    ·cases k with
     | zero=>injection hy with hy;injection hv with hv;subst hy;subst hv;exact gc
     | succ k=>exact g7 k y v hy hv
    ·show X b i+a_ (L.length+1) _ b i<=X' b i;rw[mc];have:=g8 b i;have:=G1 b i;omega
    ·have YN:∀ b i,1<=X' b i->X b i=0->G b i+a_ L.length Fi b i=0->A2 b i:=λb i h1 h2 h3=>vy b i h1 h2 (by show a_ (L.length+1) _ b i=0;rw[mc];exact h3)
     cases k with
     | zero=>
      injection hy with hy;subst hy;refine ⟨tv,cs,rfl,k4,G2 A2 (λb i ha=>hA b i (g1 b i ha)) λb i hp hz=>?_⟩
      have h8:=g8 b i;have h9:=pe b i
      exact YN b i (by omega) (by omega) (by omega)
     | succ k=>
      refine g9 A2 hA (λb i h1 h2 h3=>YN b i h1 (by omega) (by have:=G1 b i;omega)) k y hy
   ·cases k1
theorem Ls {l:List (Nat×Nat×Bool)} {i j:Nat} {c:Bool} (h:Bt l i j c=true):(i,j,c) ∈ l:=by
 induction l with
 | nil=>cases h
 | cons y l ih=>
  obtain ⟨k,n,b⟩:=y;simp only[Bt,cY,aE,eJ,jQ] at h;rcases h with ⟨⟨h1,h2⟩,h3⟩ | h
  ·rw[h1,h2,h3];exact bG
  ·exact aW _ (ih h)
def of (F:Nat->FP):List Nat->FP
 | []=>λ_ _=>0
 | i::l=>λb k=>F i b k+of F l b k
theorem Cl (F:Nat->FP) (i:Nat) (G:FP) (b k:Nat):∀ (l:List Nat),i ∉ l->of (fb F i G) l b k=of F l b k
 | [],_=>rfl
 | j::l,hj=>by
  simp only[aX,not_or] at hj;simp only[of,Cl F i G b k l hj.2];rw[show fb F i G j=F j by simp only[fb];rw[bB (λe=>hj.1 e.symm)]]
theorem OA:∀ (l:List Nat) {n:Nat} (F:Nat->FP),l.Nodup->(∀ i ∈ l,i < n)->∀ b k,of F l b k<=a_ n F b k
 | [],n,F,_,_,b,k=>aY _
 | i::l,n,F,hn,hl,b,k=>by
  have V4:=dW.1 hn;have h1:=OA l (fb F i λ_ _=>0) V4.2 (λj hj=>hl j (aW _ hj)) b k;have h2:=Cl F i (λ_ _=>0) b k l V4.1;have h3:=sX F (hl i bG) (λ_ _=>0) b k;rw[h2] at h1;simp only[of];omega
theorem Lt {F:Nat->FP} {b k:Nat}:∀ {l:List Nat},1<=of F l b k->∃ i ∈ l,1<=F i b k
 | [],h=>by simp[of] at h
 | i::l,h=>by
  simp only[of] at h;rcases bF (F i b k) with h0 | h0
  ·obtain ⟨j,hj,hp⟩:=Lt (F:=F) (b:=b) (k:=k) (l:=l) (by omega);exact ⟨j,aW _ hj,hp⟩
  ·exact ⟨i,bG,h0⟩
def FO:List (PM×Ty)->Bool
 | []=>true
 | _::ps=>FO ps
theorem Xm (h:Rel P C A X σ a w F):∀ (j:Nat) (ps:List (PM×Ty)) (es:List Nat) {K:(dn (lC ps)).den->Option R},FO ps=true->es.Nodup->j+ps.length<=C.args.size->wy σ j ps es K=some x ->
  ∃ (vs:(dn (lC ps)).den) (us:List Nat) (Gi:Nat->FP),K vs=some x/\(∀ i ∈ us,i ∈ es)/\us.Nodup/\(∀ i ∈ us,i < σ.n)/\(∀ i b k,i ∈ us->Gi i b k<=F i b k) /\
   ∀ A2:Cells,(∀ b k,A b k->A2 b k)->(∀ i b k,i ∈ us->1<=F i b k->Gi i b k=0->A2 b k)->m8 P w A2 ps vs (C.args.toList.drop j) (of Gi us):=by
 intro j ps
 induction ps generalizing j with
 | nil=>intro es K _ _ _ hk;exact ⟨(),[],λ_ _ _=>0,by cases es <;> exact hk,(λi hi=>by cases hi),iJ,(λi hi=>by cases hi),(λi b k hi=>by cases hi),λ_ _ _=>trivial⟩
 | cons p ps ih=>
  intro es K hp sU hj hk;obtain ⟨pm,t⟩:=p;have v_:j+1+ps.length<=C.args.size:=by simp only[aO] at hj;omega
  have AH:(C.args.toList.drop j).tail=C.args.toList.drop (j+1):=by rw[List.tail_drop]
  have Wh:(C.args.toList.drop j).head?=some (C.args.getD j undef):=by
   simp only[aO] at hj;rw[List.head?_drop,dD,cN (by omega)];simp[show j < C.args.size by omega]
  have GD:∀ i,i < σ.n->∀ b k,F i b k<=1:=λi hi b k=>by have:=h.o5 b k;have:=cy F hi b k;omega
  cases pm with
  | ro=>
   obtain ⟨vs,us,Gi,g1,g2,g3,g4,g5,g6⟩:=ih (j+1) es hp sU v_ hk;exact ⟨vs,us,Gi,g1,g2,g3,g4,g5,λA2 hA vy=>by simp only[m8,AH];exact g6 A2 hA vy⟩
  | fix f=>
   obtain ⟨vs,us,Gi,g1,g2,g3,g4,g5,g6⟩:=ih (j+1) es hp sU v_ hk;exact ⟨vs,us,Gi,g1,g2,g3,g4,g5,λA2 hA vy=>by simp only[m8,AH];exact g6 A2 hA vy⟩
  | sP f=>
   obtain ⟨vs,us,Gi,g1,g2,g3,g4,g5,g6⟩:=ih (j+1) es hp sU v_ hk;exact ⟨vs,us,Gi,g1,g2,g3,g4,g5,λA2 hA vy=>by simp only[m8,AH];exact g6 A2 hA vy⟩
  | nc f=>
   obtain ⟨vs,us,Gi,g1,g2,g3,g4,g5,g6⟩:=ih (j+1) es hp sU v_ hk;exact ⟨vs,us,Gi,g1,g2,g3,g4,g5,λA2 hA vy=>by simp only[m8,AH];exact g6 A2 hA vy⟩
  | pt m0 m=>
   cases es with
   | nil=>cases hk
   | cons i es=>
    have Lu:=dW.1 sU;simp only[wy] at hk;split at hk
    ·rename_i t' m' H v hg;split at hk
     ·rename_i hc;simp only[aE,bN,cY,bM] at hc;obtain ⟨⟨hH,hm⟩,BY⟩:=hc;subst hH;obtain ⟨e,hk⟩:=ct hk;subst e;obtain ⟨vs,us,Gi,g1,g2,g3,g4,g5,g6⟩:=ih (j+1) es hp Lu.2 v_ hk
      have hi:i < σ.n:=by
       rcases bZ i σ.n with hi | hi
       ·exact hi
       ·rw[lQ (dN.2 hi)] at hg;cases hg
      have hs:=h.g_ i hi;rw[hg] at hs;obtain ⟨b,o,L,F1,s1,s2,s3,s4,s5,s6⟩:=hs;have abj:=h.oA i j (Ls BY);have Lv:i ∉ us:=λhu=>Lu.1 (g2 i hu)
      have zS:∃ G:FP,(∀ b k,G b k<=F1 b k)/\∀ A2:Cells,(∀ b i,A b i->A2 b i)->(∀ b i,1<=F1 b i->G b i=0->A2 b i)->ap P w A2 t' m [] v L G:=by
       rcases hm with hm | hm
       ·subst hm;exact ⟨F1,λ_ _=>aN _,λA2 hA _=>ap.mono hA (λ_ _ _ _ h=>h) (λ_ _ h=>h) t' s6 (λ_ _=>aN _) (λ_ _ _ _ h=>h)⟩
       ·exact ap.fits t' hm s6 (λb' k=>by have:=s5 b' k;have:=GD i hi b' k;omega)
      obtain ⟨G,G1,G2⟩:=zS;refine ⟨(v,vs),i::us,fb Gi i λb' k=>b_ b o t'.sz b' k+G b' k,g1,λi' lg=>?_,dW.2 ⟨Lv,g3⟩,λi' lg=>?_,λi' b' k lg=>?_,λA2 hA vy=>?_⟩
      ·rcases aX.1 lg with rfl | lg
       ·exact bG
       ·exact aW _ (g2 i' lg)
      ·rcases aX.1 lg with rfl | lg
       ·exact hi
       ·exact g4 i' lg
      ·by_cases Lw:i'=i
       ·subst Lw;simp only[fb,aI];have:=s5 b' k;have:=G1 b' k;omega
       ·simp only[fb,bB Lw];exact g5 i' b' k ((aX.1 lg).resolve_left Lw)
      ·refine ⟨λb' k=>b_ b o t'.sz b' k+G b' k,of Gi us,λb' k=>?_,⟨b,o,L,G,by rw[Wh,<- abj,s1],s2,s3,λ_ _=>aN _,G2 A2 hA λb' k hp hz=>?_⟩,?_⟩
       ·simp only[of,Cl Gi i _ b' k us Lv];simp only[fb,aI];exact aN _
       ·refine vy i b' k bG (by have:=s5 b' k;omega) ?_;simp only[fb,aI];have:=s5 b' k;have:=GD i hi b' k;omega
       ·rw[AH];refine g6 A2 hA λi' b' k lg hp hz=>vy i' b' k (aW _ lg) hp ?_;have fq:i'≠i:=λe=>by subst e;exact Lv lg
        simp only[fb,bB fq];exact hz
     ·cases hk
    ·cases hk
  | kY m=>
   cases es with
   | nil=>cases hk
   | cons i es=>
    have Lu:=dW.1 sU;simp only[wy] at hk
    have main:∀ (t':Ty) (m':Md) (H:List Path) (v:t'.den),(σ.get i=.own t' m' H v\/σ.get i=.box t' m' H v)->(if H.isEmpty&&(decide (m'=m)||fits m' m)&&Bt σ.az i j true then jy t' t v λv=>wy σ (j+1) ps es λvs=>K (v,vs) else none)=some x ->
      ∃ (vs:(dn (lC ((PM.kY m,t)::ps))).den) (us:List Nat) (Gi:Nat->FP),K vs=some x/\(∀ i' ∈ us,i' ∈ i::es)/\us.Nodup/\(∀ i ∈ us,i < σ.n)/\(∀ i b k,i ∈ us->Gi i b k<=F i b k) /\
       ∀ A2:Cells,(∀ b k,A b k->A2 b k)->(∀ i b k,i ∈ us->1<=F i b k->Gi i b k=0->A2 b k)->m8 P w A2 ((PM.kY m,t)::ps) vs (C.args.toList.drop j) (of Gi us):=by
     intro t' m' H v hg hk;split at hk
     ·rename_i hc;simp only[aE,bN,cY,bM] at hc;obtain ⟨⟨hH,hm⟩,BY⟩:=hc;subst hH;obtain ⟨e,hk⟩:=ct hk;subst e;obtain ⟨vs,us,Gi,g1,g2,g3,g4,g5,g6⟩:=ih (j+1) es hp Lu.2 v_ hk
      have hi:i < σ.n:=by
       rcases bZ i σ.n with hi | hi
       ·exact hi
       ·rw[lQ (dN.2 hi)] at hg;rcases hg with hg | hg <;> cases hg
      have hs:=h.g_ i hi
      have e_:∃ (cs:List Value) (F1:FP),ci t' cs=C.args.getD j undef/\(∀ b k,F1 b k<=F i b k)/\ap P w A t' m' [] v cs F1:=by
       have hl:=h.ny i j (Ls BY);rcases hg with hg | hg
       ·rw[hg] at hs hl;obtain ⟨cs,h1,h2⟩:=hs;have:=hl _ rfl;simp only[h1,lh (ap.length _ h2) (ap.one _ h2)] at this;exact ⟨cs,F i,this,λ_ _=>aN _,h2⟩
       ·rw[hg] at hs hl;obtain ⟨b,o,L,F1,s1,s2,s3,s4,s5,s6⟩:=hs;rw[s1] at hl;have:=hl _ rfl;simp only[dx s3 s2] at this;exact ⟨L,F1,this,λb k=>by have:=s5 b k;omega,s6⟩
      obtain ⟨oF,F1,abk,hF,s6⟩:=e_;have Lv:i ∉ us:=λhu=>Lu.1 (g2 i hu)
      have zS:∃ G:FP,(∀ b k,G b k<=F1 b k)/\∀ A2:Cells,(∀ b i,A b i->A2 b i)->(∀ b i,1<=F1 b i->G b i=0->A2 b i)->ap P w A2 t' m [] v oF G:=by
       rcases hm with hm | hm
       ·subst hm;exact ⟨F1,λ_ _=>aN _,λA2 hA _=>ap.mono hA (λ_ _ _ _ h=>h) (λ_ _ h=>h) t' s6 (λ_ _=>aN _) (λ_ _ _ _ h=>h)⟩
       ·exact ap.fits t' hm s6 (λb' k=>by have:=hF b' k;have:=GD i hi b' k;omega)
      obtain ⟨G,G1,G2⟩:=zS;refine ⟨(v,vs),i::us,fb Gi i G,g1,λi' lg=>?_,dW.2 ⟨Lv,g3⟩,λi' lg=>?_,λi' b' k lg=>?_,λA2 hA vy=>?_⟩
      ·rcases aX.1 lg with rfl | lg
       ·exact bG
       ·exact aW _ (g2 i' lg)
      ·rcases aX.1 lg with rfl | lg
       ·exact hi
       ·exact g4 i' lg
      ·by_cases Lw:i'=i
       ·subst Lw;simp only[fb,aI];have:=hF b' k;have:=G1 b' k;omega
       ·simp only[fb,bB Lw];exact g5 i' b' k ((aX.1 lg).resolve_left Lw)
      ·refine ⟨G,of Gi us,λb' k=>?_,⟨oF,by rw[Wh,abk],G2 A2 hA λb' k hp hz=>?_⟩,?_⟩
       ·simp only[of,Cl Gi i _ b' k us Lv];simp only[fb,aI];exact aN _
       ·refine vy i b' k bG (by have:=hF b' k;omega) ?_;simp only[fb,aI];exact hz
       ·rw[AH];refine g6 A2 hA λi' b' k lg hp hz=>vy i' b' k (aW _ lg) hp ?_;have fq:i'≠i:=λe=>by subst e;exact Lv lg
        simp only[fb,bB fq];exact hz
     ·cases hk
    split at hk
    ·rename_i t' m' H v hg;exact main t' m' H v (.inl hg) hk
    ·rename_i t' m' H v hg;exact main t' m' H v (.inr hg) hk
    ·cases hk
end
end OT
