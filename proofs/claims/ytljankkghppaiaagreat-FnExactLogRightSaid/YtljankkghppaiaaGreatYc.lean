/- The proof's parts, merged: Calls, second part  arguments.. No conditions but those that each states. -/
import Derived.Test.YtljankkghppaiaaGreatYb
import Derived.MapKept
import Derived.WideMake
import Derived.OrdersHeld
import Derived.LoopN
import Derived.Scope
set_option linter.unusedVariables false
set_option linter.unusedSimpArgs false
namespace OT
open Go
section
variable {P:Program} {C:Ctx} {A:Cells} {X:FP} {σ:St} {a:Act} {w:World} {F:Nat->FP} {R:Type} {x:R}
theorem V6 {K:St->Option R}:∀ (ps:List (PM×Ty)) (xs:List Operand) {σ:St} {A:Cells} {F:Nat->FP},du P C A σ a w F->rA σ ps xs K=some x ->
  ∃ (A':Cells) (σ':St) (F':Nat->FP),K σ'=some x/\(∀ b i,A b i->A' b i)/\du P C A' σ' a w F'/\σ'.n=σ.n:=by
 intro ps
 induction ps with
 | nil=>intro xs σ A F h hk;exact ⟨A,σ,F,by cases xs <;> exact hk,fun _ _ h=>h,h,rfl⟩
 | cons p ps ih=>
  intro xs σ A F h hk
  cases xs with
  | nil=>obtain ⟨pm,t⟩:=p;exact ⟨A,σ,F,by cases pm <;> exact hk,fun _ _ h=>h,h,rfl⟩
  | cons y xs=>
   obtain ⟨pm,t⟩:=p
   have fin:∀ {m' m:Md} {r:Nat} {p:Path},(if m'=m then rA σ ps xs K else vH σ r p m fun σ=>rA σ ps xs K)=some x ->
     ∃ (A':Cells) (σ':St) (F':Nat->FP),K σ'=some x/\(∀ b i,A b i->A' b i)/\du P C A' σ' a w F'/\σ'.n=σ.n:=fun hk=>by
    split at hk
    ·exact ih xs h hk
    ·obtain ⟨A1,o6,F1,k1,k2,k3,k4,_⟩:=Mp h hk;obtain ⟨A2,ly,F2,q1,q2,q3,q4⟩:=ih xs k3 k1;exact ⟨A2,ly,F2,q1,fun b i ha=>q2 b i (k2 b i ha),q3,q4.trans k4⟩
   cases pm with
   | ro=>exact ih xs h hk
   | fix f=>exact ih xs h hk
   | py m=>
    simp only[rA] at hk;split at hk
    ·split at hk
     ·obtain ⟨hr,t',m',H',v',br,cr,F',h1,_⟩:=mf h hk;exact fin h1
     ·cases hk
    ·cases hk
   | sB m=>
    simp only[rA] at hk;split at hk
    ·split at hk
     ·obtain ⟨hr,t',m',H',v',br,cr,F',h1,_⟩:=mf h hk;exact fin h1
     ·cases hk
    ·cases hk
   | nO m=>
    simp only[rA] at hk;split at hk
    ·split at hk
     ·obtain ⟨hr,t',m',H',v',br,cr,F',h1,_⟩:=mf h hk;exact fin h1
     ·cases hk
    ·cases hk
   | nc m=>
    simp only[rA] at hk;split at hk
    ·split at hk
     ·obtain ⟨hr,t',m',H',v',br,cr,F',h1,_⟩:=mf h hk;exact fin h1
     ·cases hk
    ·cases hk
theorem Rc (h:du P C A σ a w F) {r:Nat} {t:Ty} {m:Md} {v:t.den} (hg:σ.get r=.box t m [] v):∃ (A':Cells) (F':Nat->FP),(∀ b i,A b i->A' b i)/\du P C A' ((σ.put r .dead).put r (.cp t v)) a w F'/\Ro P w A' (.ptr t) v [tmp a r]/\r < σ.n:=by
 have hi:r < σ.n:=by
  rcases bZ r σ.n with hi | hi
  ·exact hi
  ·rw[lY (dK.2 hi)] at hg;cases hg
 have hs:=h.im r hi;rw[hg] at hs;obtain ⟨b,off,L,F1,s1,s2,s3,s4,s5,s6⟩:=hs;have h1:=h.put hi (s:=.dead) (v:=tmp a r) (Fd:=fun _ _=>0) (X':=F r) trivial (fun b k=>by omega) (fun _ _ _ _ e=>by cases e);rw[qU] at h1;have h2:=h1.giveUp (A1:=fun b' i'=>A b' i'\/1<=F r b' i') (X1:=fun _ _=>0) (fun _ _ h=>.inl h) (fun b' i' ha=>ha.imp id fun hp=>⟨hp,rfl⟩) (fun _ _=>aW _)
 have so:Ro P w (fun b' i'=>A b' i'\/1<=F r b' i') (.ptr t) v [tmp a r]:=
  ⟨⟨b,off,none⟩,by rw[s1],rfl,L,s2,(fun j u hu=>⟨s3 j u hu,.inr (by
   have hj:=(aM.1 hu).1;have h9:b_ b off t.sz b (off+j)=1:=by simp only[b_];rw[aU ⟨trivial,by omega,by omega⟩]
   have:=s5 b (off+j);show 1<=F r b (off+j)
   omega)⟩),an.wc (fun _ _ h=>.inl h) t s6 (fun b' i' hp=>.inr (by have:=s5 b' i';omega))⟩
 have h3:=h2.put (d:=r) hi (s:=.cp t v) (v:=tmp a r) (Fd:=fun _ _=>0) (X':=fun _ _=>0) so (fun b k=>by omega) (fun _ _ _ _ e=>by cases e);rw[qU] at h3;exact ⟨_,_,fun b i ha=>.inl ha,h3,so,hi⟩
theorem V7 (h:du P C A σ a w F) {i:Nat} (hi:i < σ.n) {t:Ty} {v:t.den} (so:Ro P w A (.ptr t) v [tmp a i]):∃ F':Nat->FP,du P C A ((σ.put i .dead).put i (.cp t v)) a w F':=by
 have h1:=h.put hi (s:=.dead) (v:=tmp a i) (Fd:=fun _ _=>0) (X':=F i) trivial (fun b k=>by omega) (fun _ _ _ _ e=>by cases e);rw[qU] at h1;have h2:=h1.giveUp (A1:=A) (X1:=fun _ _=>0) (fun _ _ h=>h) (fun b' i' ha=>.inl ha) (fun _ _=>aW _);have h3:=h2.put (d:=i) hi (s:=.cp t v) (v:=tmp a i) (Fd:=fun _ _=>0) (X':=fun _ _=>0) so (fun b k=>by omega) (fun _ _ _ _ e=>by cases e);rw[qU] at h3;exact ⟨_,h3⟩
theorem Tc (h:du P C A σ a w F) {i r:Nat} {snap:List Nat} {t:Ty} {m:Md} {H:List Path} {v:t.den} (hi:i < σ.n) (hs:σ.get i=.ptr r [] snap) (bc:σ.ok r snap=true) (hg:σ.get r=.box t m H v):tmp a i=tmp a r:=by
 have h1:=h.im i hi;rw[hs] at h1;obtain ⟨pl,b,o,p1,p2,p3,p4⟩:=h1.2 bc
 have hr:r < σ.n:=by
  rcases bZ r σ.n with hr | hr
  ·exact hr
  ·rw[lY (dK.2 hr)] at hg;cases hg
 have h2:=h.im r hr;rw[hg] at h2;obtain ⟨b2,off,L,F1,s1,_⟩:=h2;rw[p3,s1];unfold place at p1;rw[hg,s1] at p1;simp only[c_,aB,bh] at p1;injection p1 with p1;subst p1;injection p2 with p2;injection p2 with p2 p5;subst p2;subst p5;rfl
theorem Xc {K:St->Option R}:∀ (ps:List (PM×Ty)) (xs:List Operand) {σ:St} {A:Cells} {F:Nat->FP},du P C A σ a w F->yW σ ps xs K=some x ->
  ∃ (A':Cells) (σ':St) (F':Nat->FP),K σ'=some x/\(∀ b i,A b i->A' b i)/\du P C A' σ' a w F'/\σ'.n=σ.n:=by
 intro ps
 induction ps with
 | nil=>intro xs σ A F h hk;exact ⟨A,σ,F,by cases xs <;> exact hk,fun _ _ h=>h,h,rfl⟩
 | cons p ps ih=>
  intro xs σ A F h hk
  cases xs with
  | nil=>obtain ⟨pm,t⟩:=p;exact ⟨A,σ,F,by cases pm <;> exact hk,fun _ _ h=>h,h,rfl⟩
  | cons y xs=>
   obtain ⟨pm,t⟩:=p
   have fin:∀ {r:Nat} {p:Path},(yM σ r p fun σ=>yW σ ps xs K)=some x ->
     ∃ (A':Cells) (σ':St) (F':Nat->FP),K σ'=some x/\(∀ b i,A b i->A' b i)/\du P C A' σ' a w F'/\σ'.n=σ.n:=fun hk=>by
    obtain ⟨A1,o6,F1,_,_,_,_,_,k1,k2,k3,k4,_⟩:=Da h hk;obtain ⟨A2,ly,F2,q1,q2,q3,q4⟩:=ih xs k3 k1;exact ⟨A2,ly,F2,q1,fun b i ha=>q2 b i (k2 b i ha),q3,q4.trans k4⟩
   cases pm with
   | fix f=>exact ih xs h hk
   | py m=>exact ih xs h hk
   | sB m=>exact ih xs h hk
   | nO m=>exact ih xs h hk
   | nc m=>exact ih xs h hk
   | ro=>
    simp only[yW] at hk;split at hk
    ·exact ih xs h hk
    ·split at hk
     ·split at hk
      ·exact fin hk
      ·cases hk
     ·split at hk
      ·exact fin hk
      ·cases hk
     ·rename_i r p snap Kp;split at hk
      ·rename_i bc;split at hk
       ·rename_i t m H v hg;split at hk
        ·rename_i hc;simp only[aF,bN] at hc;obtain ⟨hH,zo⟩:=hc;subst hH;obtain ⟨A1,F1,Db,h3,h4,h5⟩:=Rc h hg
         have go:∀ {ly:St} {F2:Nat->FP},du P C A1 ly a w F2->yW ly ps xs K=some x->ly.n=σ.n->∃ (A':Cells) (σ':St) (F':Nat->FP),K σ'=some x/\(∀ b i,A b i->A' b i)/\du P C A' σ' a w F'/\σ'.n=σ.n:=fun h3 hk hn=>by
          obtain ⟨A2,ly,F2,q1,q2,q3,q4⟩:=ih xs h3 hk;exact ⟨A2,ly,F2,q1,fun b i ha=>q2 b i (Db b i ha),q3,q4.trans hn⟩
         cases y with
         | tmp i=>
          simp only[WI] at hk;split at hk
          ·exact go h3 hk rfl
          ·rename_i vQ;simp only[iQ,Bool.not_eq_false',gR] at vQ;obtain ⟨g1,g2⟩:=vQ;have hi:i < σ.n:=g2;have Ge:i≠r:=fun e=>by subst e;rw[jA] at g1;cases g1
           have hs:σ.get i=.ptr r [] snap:=by
            have Kx:=Kp;simp only[dr] at Kx;split at Kx
            ·cases Kx
            ·injection Kx with e1;exact absurd e1 Ge
            ·exact Kx
           have he:=Tc h hi hs bc hg;rw[<-he] at h4;obtain ⟨F3,h6⟩:=V7 h3 (i:=i) g2 h4;exact go h6 hk rfl
         | const c=>exact go h3 hk rfl
         | func f=>exact go h3 hk rfl
         | global g=>exact go h3 hk rfl
        ·cases hk
       ·cases hk
      ·cases hk
     ·exact ih xs h hk
def AX (A:Cells) (F:Nat->FP) (n r0:Nat) (ow:Bool):Cells:=fun b i=>A b i\/(ow=true/\∃ j,j < n/\j≠r0/\1<=F j b i)
def U7 (P:Program) (A:Cells) (σ:St) (a:Act) (w:World) (F:Nat->FP) (ow:Bool) (pm:PM) (t:Ty) (v:t.den) (s:Slot) (tv:Value) (wp:Option (Nat×Path)):Prop:=
 match pm with
 | .ro=>wp=none/\∃ cs,tv=cg t cs/\Ro P w (fun b i=>A b i\/(ow=true/\∃ r ∈ ne s,r < σ.n/\1<=F r b i)) t v cs
 | .fix f=>wp=none/\(∃ cs,tv=cg t cs/\Ro P w A t v cs)/\∀ e:t=.fn,(e ▸ v:Ty.fn.den).1=f
 | .py m=>∃ r p snap b o cs,s=.ptr r p snap/\wp=some (r,p)/\At σ r p t m [] v/\tv=.pointer (some ⟨b,o,none⟩)/\place σ a w r p=some ⟨t,[],cs,some (b,o)⟩
 | .nO m=>∃ r p snap cs ad,s=.ref r p snap/\wp=some (r,p)/\At σ r p t m [] v/\tv=cg t cs/\place σ a w r p=some ⟨t,[],cs,ad⟩
 | .nc m=>∃ H r p snap cs ad,s=.ref r p snap/\wp=some (r,p)/\At σ r p t m H v/\tv=cg t cs/\place σ a w r p=some ⟨t,H,cs,ad⟩
 | .sB m=>∃ r p snap b o cs,s=.ptr r p snap/\wp=some (r,p)/\At σ r p t m [] v/\tv=.pointer (some ⟨b,o,none⟩)/\place σ a w r p=some ⟨t,[],cs,some (b,o)⟩
def Dk (P:Program) (A:Cells) (σ:St) (a:Act) (w:World) (F:Nat->FP) (ow:Bool):(ps:List (PM×Ty))->(c8 (ps.map (·.2))).den->List Slot->List Value->List (Nat×Path)->Prop
 | [],_,ss,pL,ws=>ss=[]/\pL=[]/\ws=[]
 | (pm,t)::ps,v,ss,pL,ws=>∃ s Rd tv w8 wp zp,ss=s::Rd/\pL=tv::w8/\ws=(match (generalizing:=false) wp with | some x=>x::zp | none=>zp)/\U7 P A σ a w F ow pm t v.1 s tv wp/\Dk P A σ a w F ow ps v.2 Rd w8 zp
def vA (P:Program) (A:Cells) (σ:St) (a:Act) (w:World):List Slot->List Value->Prop
 | [],[]=>True
 | s::ss,tv::pL=>(cu P A σ a w tv s (fun _ _=>0)\/∃ xs,s=.rq xs)/\vA P A σ a w ss pL
 | _,_=>False
theorem Gw (h:du P C A σ a w F):∀ (xs:List Operand) {ss:List Slot} {pL:List Value},xs.all (dj P)=true->vA P A σ a w ss pL->vA P A σ a w (xs.map (dr σ)++ss) (xs.map a.eval++pL)
 | [],_,_,_,h2=>h2
 | y::xs,_,_,bc,h2=>by
  simp only[eF,aF] at bc;exact ⟨fh h bc.1,Gw h xs bc.2 h2⟩
theorem YW (h:du P C A σ a w F) {s:Slot} {tv:Value} {G:FP} (hs:cu P A σ a w tv s G) {t:Ty} {K:t.den->Option R} (hk:JV σ s t K=some x) :
  ∃ (v:t.den) (cs:List Value),K v=some x/\tv=cg t cs/\Ro P w A t v cs:=by
 cases s with
 | val t' v=>
  obtain ⟨e,hk⟩:=cv hk;subst e;obtain ⟨cs,h1,h2⟩:=hs;exact ⟨v,cs,hk,h1,h2⟩
 | cp t' v=>
  obtain ⟨e,hk⟩:=cv hk;subst e;exact ⟨v,[tv],hk,(df _ _ rfl).symm,hs⟩
 | v6=>
  simp only[JV] at hk;split at hk
  ·rename_i t e;have hs:tv=.slice none 0 0:=hs;subst hs;exact ⟨[],_,hk,(df _ _ rfl).symm,none,0,rfl,aN _,fun _=>rfl,fun ad fm=>by cases fm⟩
  ·cases hk
 | ref r p snap=>
  simp only[JV] at hk;split at hk
  ·rename_i bc;obtain ⟨hr,t',m',H',v',br,cr,F',h1,h2,h3,h4,h5,h6⟩:=mf h hk;obtain ⟨pl,g1,g2,g3⟩:=hs.2 bc;rw[h3] at g1;injection g1 with g1;subst g1;split at h1
   ·rename_i hc;simp only[aF,bN,cX,bO] at hc;obtain ⟨hH,hm⟩:=hc;subst hH;obtain ⟨e,h1⟩:=cv h1;subst e;refine ⟨v',br,h1,g2,?_⟩
    rcases hm with hm | hm
    ·exact an.flat _ hm h4
    ·subst hm;exact an.ro _ (gm _) h4
   ·cases h1
  ·cases hk
 | sub r p snap lo hi=>
  simp only[JV] at hk;split at hk
  ·rename_i bc;obtain ⟨hr,t',m',H',v',br,cr,F',h1,h2,h3,h4,h5,h6⟩:=mf h hk;obtain ⟨pl,e,xa,n,cap,uV,cap',g1,g2,g3,g4,g5,g6,g7,Ke,g8,g9,g10⟩:=hs.2 bc;rw[h3] at g1;injection g1 with g1;subst g1;simp only at g2 g3;subst g2;subst g3;split at h1
   ·rename_i hc;simp only[aF,bN,bO] at hc;obtain ⟨hH,hm⟩:=hc;subst hH;subst hm;obtain ⟨e',h1⟩:=cv h1;subst e';exact ⟨_,_,h1,by rw[df _ _ rfl];exact g6,Ro.piece (an.ro _ (gm _) h4) g4 g5 g7 g8 g9⟩
   ·cases h1
  ·cases hk
 | _=>simp[JV] at hk
theorem Xd (h:du P C A σ a w F) {ow:Bool} {pm:PM} {t:Ty} {s:Slot} {tv:Value} (hs:cu P A σ a w tv s (fun _ _=>0)\/∃ xs,s=.rq xs) {K:t.den->Option (Nat×Path)->Option R} (hk:yV σ ow pm t s K=some x) :
  ∃ v wp,K v wp=some x/\U7 P A σ a w F ow pm t v s tv wp:=by
 rcases hs with hs | ⟨xs,rfl⟩
 rotate_left
 ·cases pm with
  | ro=>cases ow <;> simp[yV,rj,JV] at hk
  | _=>simp[yV] at hk
 cases pm with
 | ro=>
  cases ow with
  | true=>
   simp only[yV] at hk;have aj:=Dc h hk;obtain ⟨v,cs,h1,h2,h3⟩:=Iw h hs hk;exact ⟨v,none,h1,rfl,cs,h2,Ro.mono (fun _ _ _ _ h=>h) (fun b i ha=>ha.imp id fun ⟨r,hr,hp⟩=>⟨rfl,r,hr,aj r hr,hp⟩) t h3⟩
  | false=>
   simp only[yV] at hk;obtain ⟨v,cs,h1,h2,h3⟩:=YW h hs hk;exact ⟨v,none,h1,rfl,cs,h2,Ro.mono (fun _ _ _ _ h=>h) (fun b i ha=>.inl ha) t h3⟩
 | fix f=>
  simp only[yV] at hk;split at hk
  ·rename_i v;split at hk
   ·rename_i hf;obtain ⟨e,hk⟩:=cv hk;subst e;obtain ⟨cs,h1,h2⟩:=hs;exact ⟨v,none,hk,rfl,⟨cs,h1,h2⟩,fun e=>by simpa using hf⟩
   ·cases hk
  ·cases hk
 | py m=>
  simp only[yV] at hk;split at hk
  ·rename_i r p snap;split at hk
   ·rename_i bc;obtain ⟨hr,t',m',H',v',br,cr,F',h1,h2,h3,h4,h5,h6⟩:=mf h hk;obtain ⟨pl,b,o,g1,g2,g3,g4⟩:=hs.2 bc;rw[h3] at g1;injection g1 with g1;subst g1;simp only at g2;subst g2;split at h1
    ·rename_i hc;simp only[aF,bN,bO] at hc;obtain ⟨hH,hm⟩:=hc;subst hH;subst hm;obtain ⟨e,h1⟩:=cv h1;subst e;exact ⟨v',_,h1,r,p,snap,b,o,br,rfl,rfl,⟨h2⟩,g3,h3⟩
    ·cases h1
   ·cases hk
  ·cases hk
 | sB m=>
  simp only[yV] at hk;split at hk
  ·rename_i r p snap;split at hk
   ·rename_i bc;obtain ⟨hr,t',m',H',v',br,cr,F',h1,h2,h3,h4,h5,h6⟩:=mf h hk;obtain ⟨pl,b,o,g1,g2,g3,g4⟩:=hs.2 bc;rw[h3] at g1;injection g1 with g1;subst g1;simp only at g2;subst g2;split at h1
    ·rename_i hc;simp only[aF,bN,bO] at hc;obtain ⟨hH,hm⟩:=hc;subst hH;subst hm;obtain ⟨e,h1⟩:=cv h1;subst e;exact ⟨v',_,h1,r,p,snap,b,o,br,rfl,rfl,⟨h2⟩,g3,h3⟩
    ·cases h1
   ·cases hk
  ·cases hk
 | nO m=>
  simp only[yV] at hk;split at hk
  ·rename_i r p snap;split at hk
   ·rename_i bc;obtain ⟨hr,t',m',H',v',br,cr,F',h1,h2,h3,h4,h5,h6⟩:=mf h hk;obtain ⟨pl,g1,g2,g3⟩:=hs.2 bc;rw[h3] at g1;injection g1 with g1;subst g1;split at h1
    ·rename_i hc;simp only[aF,bN,bO] at hc;obtain ⟨hH,hm⟩:=hc;subst hH;subst hm;obtain ⟨e,h1⟩:=cv h1;subst e;exact ⟨v',_,h1,r,p,snap,br,cr,rfl,rfl,⟨h2⟩,g2,h3⟩
    ·cases h1
   ·cases hk
  ·cases hk
 | nc m=>
  simp only[yV] at hk;split at hk
  ·rename_i r p snap;split at hk
   ·rename_i bc;obtain ⟨hr,t',m',H',v',br,cr,F',h1,h2,h3,h4,h5,h6⟩:=mf h hk;obtain ⟨pl,g1,g2,g3⟩:=hs.2 bc;rw[h3] at g1;injection g1 with g1;subst g1;split at h1
    ·rename_i hm;subst hm;obtain ⟨e,h1⟩:=cv h1;subst e;exact ⟨v',_,h1,H',r,p,snap,br,cr,rfl,rfl,⟨h2⟩,g2,h3⟩
    ·cases h1
   ·cases hk
  ·cases hk
theorem V8 (h:du P C A σ a w F) {ow:Bool}:∀ (ps:List (PM×Ty)) {ss:List Slot} {pL:List Value} {K:(c8 (ps.map (·.2))).den->List (Nat×Path)->Option R},vA P A σ a w ss pL->Ju σ ow ps ss K=some x ->
  ∃ v ws,K v ws=some x/\Dk P A σ a w F ow ps v ss pL ws:=by
 intro ps
 induction ps with
 | nil=>
  intro ss pL K hs hk
  cases ss with
  | nil=>
   cases pL with
   | nil=>exact ⟨(),[],hk,rfl,rfl,rfl⟩
   | cons _ _=>exact hs.elim
  | cons _ _=>cases hk
 | cons p ps ih=>
  intro ss pL K hs hk;obtain ⟨pm,t⟩:=p
  cases ss with
  | nil=>cases hk
  | cons s ss=>
   cases pL with
   | nil=>exact hs.elim
   | cons tv pL=>
    simp only[Ju] at hk;obtain ⟨v,wp,h1,h2⟩:=Xd h hs.1 hk;obtain ⟨vs,ws,h3,h4⟩:=ih hs.2 h1;exact ⟨(v,vs),_,h3,s,ss,tv,pL,wp,ws,rfl,rfl,rfl,h2,h4⟩
theorem pM {ow:Bool} {A0:Cells} (hA:∀ b i,A b i->A0 b i) {r0:Nat} (hX:ow=true->∀ b i j,j < σ.n->j≠r0->1<=F j b i->A0 b i):∀ (ps:List (PM×Ty)) {v:(c8 (ps.map (·.2))).den} {ss:List Slot} {pL:List Value},
  Dk P A σ a w F ow ps v ss pL []->(∀ r ∈ ss.flatMap ne,r < σ.n->r≠r0)->(∀ ho,oY P w A0 ho ps v pL (fun _ _=>0))/\(∀ (σ':St) (K:St->Option R) (out:(c8 (lJ ps)).den),rB σ' ps [] out K=K σ'):=by
 intro ps
 induction ps with
 | nil=>intro v ss pL h hr;exact ⟨fun _=>h.2.1,fun σ' K out=>rfl⟩
 | cons p ps ih=>
  intro v ss pL h hr;obtain ⟨pm,t⟩:=p;obtain ⟨s,Rd,tv,w8,wp,zp,rfl,rfl,hw,mz,qk⟩:=h;have oG:∀ b i,A b i->∀ u,ce w b i=some u->ce w b i=some u:=fun _ _ _ _ h=>h
  cases wp with
  | some y=>cases hw
  | none=>
   have hw:[]=zp:=hw;subst hw;obtain ⟨i1,i2⟩:=ih qk (fun r hm=>hr r (by simp only[eL,cJ];exact .inr hm))
   cases pm with
   | ro=>
    obtain ⟨_,cs,h1,h2⟩:=mz;refine ⟨fun ho=>⟨tv,w8,fun _ _=>0,fun _ _=>0,rfl,fun _ _=>aN _,⟨cs,h1,Ro.mono (fun _ _ _ _ h=>h) (fun b i ha=>?_) t h2⟩,i1 ho⟩,fun σ' K out=>i2 σ' K out⟩
    rcases ha with ha | ⟨vR,r,hm,aj,hp⟩
    ·exact hA b i ha
    ·exact hX vR b i r aj (hr r (by simp only[eL,cJ];exact .inl hm) aj) hp
   | fix f=>
    obtain ⟨_,⟨cs,h1,h2⟩,h3⟩:=mz;exact ⟨fun ho=>⟨tv,w8,fun _ _=>0,fun _ _=>0,rfl,fun _ _=>aN _,⟨⟨cs,h1,Ro.mono (fun _ _ _ _ h=>h) hA t h2⟩,h3⟩,i1 ho⟩,fun σ' K out=>i2 σ' K out⟩
   | py m=>obtain ⟨r,p,snap,b,o,cs,_,e,_⟩:=mz;cases e
   | sB m=>obtain ⟨r,p,snap,b,o,cs,_,e,_⟩:=mz;cases e
   | nO m=>obtain ⟨r,p,snap,cs,ad,_,e,_⟩:=mz;cases e
   | nc m=>obtain ⟨H,r,p,snap,cs,ad,_,e,_⟩:=mz;cases e
theorem V9 {t:Ty} {cs br:List Value} (h1:cs.length=t.sz) (h2:∀ x ∈ cs,x.oneCell'=true) (h3:br.length=t.sz) (h4:∀ x ∈ br,x.oneCell'=true) (h:cg t cs=cg t br):cs=br:=by
 rw[<-lQ h1 h2,<- lQ h3 h4,h]
theorem OX {ow:Bool} {r:Nat} {p:Path}:∀ (ps:List (PM×Ty)) {v:(c8 (ps.map (·.2))).den} {ss:List Slot} {pL:List Value},
  Dk P A σ a w F ow ps v ss pL [(r,p)]->(ss.flatMap ne).count r<=1 ->
  1<=(ss.flatMap ne).count r/\∃ (Gx qK CE:Bool) (t:Ty) (m:Md) (H:List Path) (v1:t.den) (cs:List Value) (ad:Option (Nat×Nat)),((CE=false->H=[])/\(CE=true->Oq ps=true))/\At σ r p t m H v1/\place σ a w r p=some ⟨t,H,cs,ad⟩/\(qK=true->∃ b o,ad=some (b,o)) /\
   (qi ps=true->(t.flat||decide (m=am t))=true/\t.rV=true) /\
   (∀ (A0:Cells) (F0 Fp:FP),(∀ b i,A b i->A0 b i)->(ow=true->∀ b i j,j < σ.n->j≠r->1<=F j b i->A0 b i)->an P w A0 t m H v1 cs Fp ->
    (qK=true->∀ b o,ad=some (b,o)->Has w b o cs/\(∀ j,j < t.sz->w.frozen? ⟨b,o+j,none⟩=false)/\∀ b' i,b_ b o t.sz b' i+Fp b' i<=F0 b' i)->(qK=false->∀ b i,Fp b i<=F0 b i)->∀ ho,(CE=true->ho H=true)->oY P w A0 ho ps v pL F0) /\
   (CE=true->Gx=true/\qK=false/\∀ (σ':St) (K:St->Option R) (out:(c8 (lJ ps)).den),rB σ' ps [(r,p)] out K=yo σ' r p K) /\
   (Gx=true->CE=false->∀ (σ':St) (K:St->Option R) (out:(c8 (lJ ps)).den),rB σ' ps [(r,p)] out K=match uY σ' r p t m t.zero (fun _=>some ()) with | some _=>K (σ'.put r .dead) | none=>none) /\
   (Gx=false->∀ out:(c8 (lJ ps)).den,∃ o1:t.den,
    (∀ (σ':St) (K:St->Option R),rB σ' ps [(r,p)] out K=uY σ' r p t m o1 fun w7=>K (match qK with | true=>w7 | false=>{ w7 with vr:=(σ'.lX r (tj (dh p+1))).vr,aT:=σ'.aT })) /\
    ∀ (w':World) (A':Cells) (GM:FP),m8 P w' A' ps out pL GM->∃ br F3,an P w' A' t m [] o1 br F3/\(∀ b i,F3 b i<=GM b i)/\(qK=true->∀ b o,ad=some (b,o)->Has w' b o br/\∀ b' i,b_ b o t.sz b' i+F3 b' i<=GM b' i) /\
     (qK=false->cg t br=cg t cs)):=by
 intro ps
 induction ps with
 | nil=>intro v ss pL h hc;cases h.2.2
 | cons p0 ps ih=>
  intro v ss pL h hc;obtain ⟨pm,t⟩:=p0;obtain ⟨s,Rd,tv,w8,wp,zp,rfl,rfl,hw,mz,qk⟩:=h;simp only[eL,List.count_append] at hc ⊢
  cases pm with
  | ro=>
   obtain ⟨zq,cs,h1,h2⟩:=mz;subst zq;have hw:[(r,p)]=zp:=hw;subst hw;obtain ⟨c1,Gx,qK,CE,t1,m1,H1,v1,oE,zS,q0,q1,q2,q3,q4,q5,q8,q7,q6⟩:=ih qk (by omega);refine ⟨by omega,Gx,qK,CE,t1,m1,H1,v1,oE,zS,q0,q1,q2,q3,q4,fun A0 F0 Fp a1 a2 a3 a4 a5 ho a6=>⟨tv,w8,fun _ _=>0,F0,rfl,fun b i=>by simp,⟨cs,h1,Ro.mono (fun _ _ _ _ h=>h) (fun b i ha=>?_) t h2⟩,q5 A0 F0 Fp a1 a2 a3 a4 a5 ho a6⟩,fun hV=>⟨(q8 hV).1,(q8 hV).2.1,fun σ' K out=>(q8 hV).2.2 σ' K out⟩,fun hE hV σ' K out=>q7 hE hV σ' K out,fun hE out=>q6 hE out⟩
   rcases ha with ha | ⟨vR,r',hm,aj,hp⟩
   ·exact a1 b i ha
   ·refine a2 vR b i r' aj (fun e=>?_) hp;subst e;have:=eR.2 hm;omega
  | fix f=>
   obtain ⟨zq,⟨cs,h1,h2⟩,h3⟩:=mz;subst zq;have hw:[(r,p)]=zp:=hw;subst hw;obtain ⟨c1,Gx,qK,CE,t1,m1,H1,v1,oE,zS,q0,q1,q2,q3,q4,q5,q8,q7,q6⟩:=ih qk (by omega);exact ⟨by omega,Gx,qK,CE,t1,m1,H1,v1,oE,zS,q0,q1,q2,q3,q4,fun A0 F0 Fp a1 a2 a3 a4 a5 ho a6=>⟨tv,w8,fun _ _=>0,F0,rfl,fun b i=>by simp,⟨⟨cs,h1,Ro.mono (fun _ _ _ _ h=>h) a1 t h2⟩,h3⟩,q5 A0 F0 Fp a1 a2 a3 a4 a5 ho a6⟩,fun hV=>⟨(q8 hV).1,(q8 hV).2.1,fun σ' K out=>(q8 hV).2.2 σ' K out⟩,fun hE hV σ' K out=>q7 hE hV σ' K out,fun hE out=>q6 hE out⟩
  | sB m=>
   obtain ⟨r1,p1,snap,b,o,cs,rfl,zq,uX,zg,ip⟩:=mz;subst zq;have hw:[(r,p)]=(r1,p1)::zp:=hw;injection hw with wo wr;injection wo with wo Ky;subst wo;subst wr;subst Ky;have Gy:(ne (.ptr r p snap)).count r=1:=by simp[ne]
   obtain ⟨n1,n2⟩:=pM (R:=R) (P:=P) (A0:=fun b i=>True) (fun _ _ _=>trivial) (r0:=r) (fun _ _ _ _ _ _ _=>trivial) ps qk (fun r' hm _ e=>by subst e;have:=eR.2 hm;omega);refine ⟨by omega,true,true,false,t,m,[],v.1,cs,some (b,o),⟨fun _=>rfl,fun e=>by cases e⟩,uX,ip,fun _=>⟨b,o,rfl⟩,fun ho=>?_,fun A0 F0 Fp a1 a2 a3 a4 a5 ho _=>?_,(fun e=>by cases e),fun _ _ σ' K out=>?_,fun e=>by cases e⟩
   ·simp only[qi,aF] at ho;exact ho.1
   ·obtain ⟨b1,b2,b3⟩:=a4 rfl b o rfl;obtain ⟨k1,_⟩:=pM (R:=R) (P:=P) a1 (r0:=r) a2 ps qk (fun r' hm _ e=>by subst e;have:=eR.2 hm;omega);exact ⟨tv,w8,F0,fun _ _=>0,rfl,fun b i=>aN _,⟨b,o,cs,Fp,zg,an.length _ a3,b1,b2,b3,a3⟩,k1 ho⟩
   ·show (match uY σ' r p t m t.zero (fun _=>some ()) with | some _=>rB (σ'.put r .dead) ps [] out K | none=>none)=_;split
    ·exact n2 _ K out
    ·rfl
  | py m=>
   obtain ⟨r1,p1,snap,b,o,cs,rfl,zq,uX,zg,ip⟩:=mz;subst zq;have hw:[(r,p)]=(r1,p1)::zp:=hw;injection hw with wo wr;injection wo with wo Ky;subst wo;subst wr;subst Ky;have Gy:(ne (.ptr r p snap)).count r=1:=by simp[ne]
   obtain ⟨n1,n2⟩:=pM (R:=R) (P:=P) (A0:=fun b i=>True) (fun _ _ _=>trivial) (r0:=r) (fun _ _ _ _ _ _ _=>trivial) ps qk (fun r' hm _ e=>by subst e;have:=eR.2 hm;omega);refine ⟨by omega,false,true,false,t,m,[],v.1,cs,some (b,o),⟨fun _=>rfl,fun e=>by cases e⟩,uX,ip,fun _=>⟨b,o,rfl⟩,fun ho=>?_,fun A0 F0 Fp a1 a2 a3 a4 a5 ho _=>?_,(fun e=>by cases e),(fun e=>by cases e),fun _ out=>⟨out.1,fun σ' K=>?_,fun w' A' GM hm=>?_⟩⟩
   ·simp only[qi,aF] at ho;exact ho.1
   ·obtain ⟨b1,b2,b3⟩:=a4 rfl b o rfl;obtain ⟨k1,_⟩:=pM (R:=R) (P:=P) a1 (r0:=r) a2 ps qk (fun r' hm _ e=>by subst e;have:=eR.2 hm;omega);exact ⟨tv,w8,F0,fun _ _=>0,rfl,fun b i=>aN _,⟨b,o,cs,Fp,zg,an.length _ a3,b1,b2,b3,a3⟩,k1 ho⟩
   ·show uY σ' r p t m out.1 (fun σ=>rB σ ps [] out.2 K)=_;congr 1;funext w7;exact n2 w7 K out.2
   ·obtain ⟨F1,F2,h1,⟨b',o',L,F3,h2,h3,h4,h5,h6⟩,h7⟩:=hm;simp only[List.head?_cons,aR,zg,Value.pointer.injEq,Addr.mk.injEq,eJ] at h2;obtain ⟨rfl,rfl⟩:=h2;refine ⟨L,F3,h6,fun b' i=>by have:=h5 b' i;have:=h1 b' i;omega,fun _ b2 o2 e=>?_,fun e=>by cases e⟩
    simp only[aR,bS] at e;obtain ⟨rfl,rfl⟩:=e;exact ⟨h4,fun b' i=>by have:=h5 b' i;have:=h1 b' i;omega⟩
  | nO m=>
   obtain ⟨r1,p1,snap,cs,ad,rfl,zq,uX,zg,ip⟩:=mz;subst zq;have hw:[(r,p)]=(r1,p1)::zp:=hw;injection hw with wo wr;injection wo with wo Ky;subst wo;subst wr;subst Ky;have Gy:(ne (.ref r p snap)).count r=1:=by simp[ne]
   obtain ⟨n1,n2⟩:=pM (R:=R) (P:=P) (A0:=fun b i=>True) (fun _ _ _=>trivial) (r0:=r) (fun _ _ _ _ _ _ _=>trivial) ps qk (fun r' hm _ e=>by subst e;have:=eR.2 hm;omega);refine ⟨by omega,false,false,false,t,m,[],v.1,cs,ad,⟨fun _=>rfl,fun e=>by cases e⟩,uX,ip,(fun e=>by cases e),fun ho=>?_,fun A0 F0 Fp a1 a2 a3 a4 a5 ho _=>?_,(fun e=>by cases e),(fun e=>by cases e),fun _ out=>⟨out.1,fun σ' K=>?_,fun w' A' GM hm=>?_⟩⟩
   ·simp only[qi,aF] at ho;exact ho.1
   ·obtain ⟨k1,_⟩:=pM (R:=R) (P:=P) a1 (r0:=r) a2 ps qk (fun r' hm _ e=>by subst e;have:=eR.2 hm;omega);exact ⟨tv,w8,F0,fun _ _=>0,rfl,fun b i=>aN _,⟨cs,zg,a3.le (a5 rfl)⟩,k1 ho⟩
   ·show uY σ' r p t m out.1 (fun w7=>rB { w7 with vr:=(σ'.lX r (tj (dh p+1))).vr,aT:=σ'.aT } ps [] out.2 K)=_;congr 1;funext w7;exact n2 _ K out.2
   ·obtain ⟨F1,F2,h1,⟨br,h2,h3⟩,h7⟩:=hm;simp only[List.head?_cons,aR,zg] at h2;exact ⟨br,F1,h3,fun b' i=>by have:=h1 b' i;omega,(fun e=>by cases e),fun _=>h2.symm⟩
  | nc m=>
   obtain ⟨H,r1,p1,snap,cs,ad,rfl,zq,uX,zg,ip⟩:=mz;subst zq;have hw:[(r,p)]=(r1,p1)::zp:=hw;injection hw with wo wr;injection wo with wo Ky;subst wo;subst wr;subst Ky;have Gy:(ne (.ref r p snap)).count r=1:=by simp[ne]
   obtain ⟨n1,n2⟩:=pM (R:=R) (P:=P) (A0:=fun b i=>True) (fun _ _ _=>trivial) (r0:=r) (fun _ _ _ _ _ _ _=>trivial) ps qk (fun r' hm _ e=>by subst e;have:=eR.2 hm;omega);refine ⟨by omega,true,false,true,t,m,H,v.1,cs,ad,⟨fun e=>(by cases e),fun _=>rfl⟩,uX,ip,(fun e=>by cases e),fun ho=>?_,fun A0 F0 Fp a1 a2 a3 a4 a5 ho a6=>?_,fun _=>⟨rfl,rfl,fun σ' K out=>?_⟩,(fun _ e=>by cases e),fun e=>by cases e⟩
   ·simp only[qi,aF] at ho;exact ho.1
   ·obtain ⟨k1,_⟩:=pM (R:=R) (P:=P) a1 (r0:=r) a2 ps qk (fun r' hm _ e=>by subst e;have:=eR.2 hm;omega);exact ⟨tv,w8,F0,fun _ _=>0,rfl,fun b i=>aN _,⟨H,cs,a6 rfl,zg,a3.le (a5 rfl)⟩,k1 ho⟩
   ·show yo σ' r p (fun w7=>rB w7 ps [] out K)=_;congr 1;funext w7;exact n2 _ K out
theorem A6 {rs:List FS} {rv:Value} {G:FP} (h:mT P w A rs rv G):cu P A σ a w rv (uA rs) G/\∀ t m H v,uA rs=.box t m H v->∃ b,rv=.pointer (some ⟨b,0,none⟩)/\gc w b (t.sz,false):=by
 match rs,h with
 | [],_=>exact ⟨trivial,fun _ _ _ _ e=>by cases e⟩
 | [x],h=>
  obtain ⟨cs,rfl,h2⟩:=h;exact Ee h2
 | x::y::rs,h=>
  obtain ⟨vs,Fi,h1,h2,h3⟩:=h
  exact ⟨⟨vs,Fi,h1,h2,fun j z hz=>by
   obtain ⟨v,cs,g1,g2,g3⟩:=h3 j z hz
   exact ⟨v,g1,.inr ⟨cs,g2,g3⟩⟩⟩,fun _ _ _ _ e=>by cases e⟩
theorem mT.free {A':Cells}:∀ {rs:List FS} {rv:Value} {G:FP},(∀ x ∈ rs,(x.t.flat||decide (x.m=am x.t))=true/\x.t.rV=true)->mT P w A rs rv G->mT P w A' rs rv G
 | [],_,_,_,_=>trivial
 | [x],_,_,ho,⟨cs,h1,h2⟩=>⟨cs,h1,an.free (ho x (by simp)).1 (ho x (by simp)).2 h2⟩
 | x::y::rs,_,_,ho,⟨vs,Fi,h1,h2,h3⟩=>⟨vs,Fi,h1,h2,fun j z hz=>by
  obtain ⟨v,cs,g1,g2,g3⟩:=h3 j z hz;have hm:z ∈ x::y::rs:=cB hz
  exact ⟨v,cs,g1,g2,an.free (ho z hm).1 (ho z hm).2 g3⟩⟩
theorem xE:∀ (rs:List (Ty×Md)) {ts:List Ty} (out:(c8 (rs.map (·.1)++ts)).den),yX rs=true->∀ x ∈ (lK rs out).1,(x.t.flat||decide (x.m=am x.t))=true/\x.t.rV=true
 | [],_,_,_=>fun x hx=>by cases hx
 | (t,m)::rs,_,out,h=>fun x hx=>by
  simp only[yX,aF] at h;simp only[lK,aY] at hx;rcases hx with rfl | hx
  ·exact h.1
  ·exact xE rs out.2 h.2 x hx
theorem mT.mono {A':Cells} (hA:∀ b i,A b i->A' b i):∀ {rs:List FS} {rv:Value} {G:FP},mT P w A rs rv G->mT P w A' rs rv G
 | [],_,_,_=>trivial
 | [x],_,_,⟨cs,h1,h2⟩=>⟨cs,h1,an.mono hA (fun _ _ _ _ h=>h) (fun _ _ h=>h) _ h2 (fun _ _=>aN _) (fun _ _ _ _ h=>h)⟩
 | x::y::rs,_,_,⟨vs,Fi,h1,h2,h3⟩=>⟨vs,Fi,h1,h2,fun j z hz=>by
  obtain ⟨v,cs,g1,g2,g3⟩:=h3 j z hz
  exact ⟨v,cs,g1,g2,an.mono hA (fun _ _ _ _ h=>h) (fun _ _ h=>h) _ g3 (fun _ _=>aN _) (fun _ _ _ _ h=>h)⟩⟩
end
end OT
namespace OT
open Go
section
variable {P:Program} {C:Ctx} {A:Cells} {X:FP} {σ:St} {a:Act} {w:World} {F:Nat->FP} {R:Type} {x:R} {Q:Exit->Act->World->Prop} {o:Oper} {E:Env}
def uC (b:Bool) (n:Nat):Nat:=match b with
 | true=>n
 | false=>0
theorem Td {w2:World} {A2:Cells}:∀ (q:Path) (t:Ty) {m':Md} {v':t.den} {cs:List Value} {G':FP} {ad:Option (Nat×Nat)} {pl:Pl},an P w2 A2 t m' [] v' cs G'->dh q<=1->bh w q t [] cs ad=some pl ->
  ∃ H' br,bh w2 q t [] cs ad=some ⟨pl.t,H',br,pl.ad⟩/\(dh q < 1->vp pl.t=true->br=pl.cs):=by
 intro q
 induction q with
 | nil=>
  intro t m' v' cs G' ad pl h2 hq hp;simp only[bh,aR] at hp;subst hp;exact ⟨_,_,rfl,fun _ _=>rfl⟩
 | cons s q ih=>
  intro t m' v' cs G' ad pl h2 hq hp
  cases t with
  | pair a b=>
   obtain ⟨h0,F1,F2,hs,r1,r2⟩:=h2
   cases s with
   | fst=>
    simp only[bh,h0,aL] at hp ⊢;exact ih a r1 (by simpa [dh] using hq) (by simpa using hp)
   | snd=>
    simp only[bh,h0,aL] at hp ⊢;exact ih b r2 (by simpa [dh] using hq) (by simpa using hp)
   | idx i=>simp[bh] at hp
   | o4 i=>simp[bh] at hp
  | U e=>
   cases s with
   | idx i=>
    obtain ⟨xa,cap,news,Fi,r1,r2,r3,r4,r5,r6,r7,r8⟩:=xC h2;subst r1
    cases xa with
    | none=>simp[bh,hole] at hp
    | some cr=>
     simp only[bh,hole,bT,aG,aL,eQ] at hp ⊢;split at hp
     ·rename_i hi;rw[aU hi];have fa:=r6 i _ (aA hi);obtain ⟨g1,g2⟩:=r3 cr rfl;have hl:=an.length _ fa
      have hh:Has w2 cr.block (cr.off+i*e.sz) ((news.drop (i*e.sz)).take e.sz):=fun j u hu=>by
       rw[bK] at hu;split at hu
       ·rw[bM] at hu;rw[cE];exact g2 _ u hu
       ·cases hu
      rw[dt hh hl];obtain ⟨H',br,h1,h2⟩:=zQ (A:=fun _ _=>True) (m:=.leaf) (v:=v'[i]) (F:=fun _ _=>0) q e fa (.inl (by simp only[dh] at hq;omega)) hp;exact ⟨H',br,h1,fun h=>by simp only[dh] at h;omega⟩
     ·cases hp
   | _=>simp[bh] at hp
  | arr n e=>
   cases s with
   | fst=>simp[bh] at hp
   | snd=>simp[bh] at hp
   | idx i=>simp[bh] at hp
   | o4 i=>
    obtain ⟨_,hf,hl,hlen,hr⟩:=h2;simp only[bh,cS,aI] at hp ⊢;split at hp
    ·rename_i hi;rw[aU hi];exact ih e (Ro.flat e (m:=.leaf) (fun _ _=>0) hf (hr i _ (aA (by rw[hl];exact hi)))) (by simpa [dh] using hq) hp
    ·cases hp
  | _=>cases s <;> simp[bh] at hp
theorem Re {t:Ty} {m':Md} {v':t.den} {cs:List Value} {G':FP} {w2:World} {A2:Cells} (ad:Option (Nat×Nat)) (h2:an P w2 A2 t m' [] v' cs G'):rr 1 False w t [] cs ad w2 [] cs:=by
 intro q pl hq hp;obtain ⟨H',br,h1,h3⟩:=Td q t h2 hq hp;exact ⟨H',br,h1,fun h=>by rcases h with ⟨h,hs⟩ | h;exact h3 h hs;exact h.elim⟩
theorem Kz (h:du P C A σ a w F) {r:Nat} {ow:Bool} {b i:Nat} (ha:AX A F σ.n r ow b i):b < w.heap.size:=by
 rcases ha with ha | ⟨_,j,hj,_,hp⟩
 ·exact h.kO b i (.inr ha)
 ·exact h.kO b i (.inl (by have:=c7 F hj b i;show 1<=0+ba σ.n F b i;omega))
def wt:List (PM×Ty)->Bool
 | []=>true
 | (.py _,_)::_=>false
 | (.nO _,_)::_=>false
 | (.sB _,_)::_=>false
 | (.nc _,_)::_=>false
 | _::ps=>wt ps
theorem uD {ow:Bool} {y:Nat×Path} {ws:List (Nat×Path)}:∀ (ps:List (PM×Ty)) {v:(c8 (ps.map (·.2))).den} {ss:List Slot} {pL:List Value},wt ps=true->Dk P A σ a w F ow ps v ss pL (y::ws)->False
 | [],_,_,_,_,h=>by cases h.2.2
 | (pm,t)::ps,_,_,_,hm,h=>by
  obtain ⟨s,Rd,tv,w8,wp,zp,_,_,hw,mz,qk⟩:=h
  cases pm with
  | ro=>obtain ⟨zq,_⟩:=mz;subst zq;have hw:_=zp:=hw;subst hw;exact uD ps hm qk
  | fix f=>obtain ⟨zq,_⟩:=mz;subst zq;have hw:_=zp:=hw;subst hw;exact uD ps hm qk
  | py m=>cases hm
  | nO m=>cases hm
  | sB m=>cases hm
  | nc m=>cases hm
theorem OY (h:du P C A σ a w F) {f:FuncId} {g:sC} (hs:Sound P f g) {ow:Bool} (vR:ow=true->(yX g.rs&&qi g.ps)=true) {r:Nat} {p:Path} {t:Ty} {m:Md} {v1:t.den} {cs:List Value} {ad:Option (Nat×Nat)} {qK:Bool} {v:(c8 (g.ps.map (·.2))).den} {pL:List Value} {out:(c8 (g.rs.map (·.1)++lJ g.ps)).den} (hF:g.F v=some out)
  (b1:At σ r p t m [] v1) (b2:place σ a w r p=some ⟨t,[],cs,ad⟩) (b3:qK=true->∃ b o,ad=some (b,o))
  (b5 : ∀ (A0:Cells) (F0 Fp:FP),(∀ b i,A b i->A0 b i)->(ow=true->∀ b i j,j < σ.n->j≠r->1<=F j b i->A0 b i)->an P w A0 t m [] v1 cs Fp ->
      (qK=true->∀ b o,ad=some (b,o)->Has w b o cs/\(∀ j,j < t.sz->w.frozen? ⟨b,o+j,none⟩=false)/\∀ b' i,b_ b o t.sz b' i+Fp b' i<=F0 b' i)->(qK=false->∀ b i,Fp b i<=F0 b i)->oY P w A0 (g.Cw v) g.ps v pL F0)
  {d:Option Tmp} {K:St->Option R} (q1:(match uY σ r p t m t.zero (fun _=>some ()) with | some _=>K ((σ.put r .dead).bY d (uA (lK g.rs out).1)) | none=>none)=some x) (Te:wt g.ps=true->False) :
  Calls P f pL.toArray w fun e w'=>∃ rv,e=.returned rv/\Nx P C K x (a.put d rv) w'/\(wt g.ps=true->Ext w w' (fun _ _=>0)):=by
 cases C0:uY σ r p t m t.zero (fun _=>some ()) with
 | none=>rw[C0] at q1;cases q1
 | some u=>
 rw[C0] at q1;simp only at q1;obtain ⟨hr,m2,H2,v2,c9,wl,F2,s1,s2,s3,s4,s5,_⟩:=A4 h C0;obtain ⟨_,e3,e4,e5⟩:=b1.inj s1;subst e3;subst e4;have e5:=iA e5;subst e5;rw[b2] at s2;simp only[aR,Pl.mk.injEq,dY] at s2;obtain ⟨rfl,rfl⟩:=s2;obtain ⟨Xe,Xf⟩:=an.fp t s3
 obtain ⟨F0,Cz⟩:∃ F0:FP,∀ b i,F0 b i=uC qK (je ad t.sz b i)+kV w t m [] cs b i:=⟨fun b i=>uC qK (je ad t.sz b i)+kV w t m [] cs b i,fun _ _=>rfl⟩
 have KA:∀ b i,F0 b i<=je ad t.sz b i+kV w t m [] cs b i:=fun b i=>by
  rw[Cz];cases qK <;> simp[uC]
 have zr:∀ b i,F0 b i<=F r b i:=fun b i=>by have:=KA b i;have:=Xf b i;have:=s4 b i;omega
 have mA:∀ b i,F r b i<=ba σ.n F b i:=fun b i=>c7 F hr b i;have po:∀ b i,ba σ.n F b i<=1:=fun b i=>by have:=h.o5 b i;omega
 have ID:∀ b i,A b i->AX A F σ.n r ow b i:=fun b i h=>.inl h;have IE:∀ b i,1<=F r b i->b < w.heap.size:=fun b i hp=>h.kO b i (.inl (by have:=mA b i;show 1<=0+_;omega))
 have lc:=b5 (AX A F σ.n r ow) F0 (kV w t m [] cs) ID (fun vR b i j hj fw hp=>.inr ⟨vR,j,hj,fw,hp⟩)
  (an.mono ID (fun _ _ _ _ h=>h) (fun _ _ h=>h) t Xe (fun _ _=>aN _) (fun _ _ _ _ h=>h))
  (fun hP b o e=>⟨(s5 b o e).1,(s5 b o e).2,fun b' i=>by rw[Cz,hP,e];exact aN _⟩) (fun hP b i=>by rw[Cz,hP];simp[uC])
 refine (hs w _ F0 v _ lc (fun b i=>by have:=zr b i;have:=mA b i;have:=po b i;omega) (fun b i hp ha=>?_) (fun b i hp=>?_) out hF).mono fun e w' Bz=>?_
 ·have h1:=zr b i;have h2:=mA b i
  rcases ha with ha | ⟨_,j,hj,fw,U8⟩
  ·exact h.pW b i (by show 1<=0+_;omega) ha
  ·have:=tY F hj hr fw b i;have:=po b i;omega
 ·rcases hp with hp | hp
  ·exact IE b i (by have:=zr b i;omega)
  ·exact Kz h hp
 ·obtain ⟨rv,rfl,dm,A',G,GR,GM,g1,g2,g3,g4,g5,g6,g7,g8,g9⟩:=Bz;refine ⟨rv,rfl,?_⟩
  obtain ⟨x1,x2⟩:=Ff dm
  obtain ⟨vS,A2,a1,a2,a3,a4,a6⟩:∃ vS A2:Cells,(∀ b i,A b i->vS b i)/\(∀ b i,vS b i->A b i\/(w.heap.size<=b/\b < w'.heap.size/\G b i=0))/\(∀ b i,vS b i->A2 b i)/\(∀ b i,A2 b i->vS b i\/(1<=F0 b i/\G b i=0)) /\
    mT P w' A2 (lK g.rs out).1 rv GR:=by
   cases ow with
   | true=>
    have ho:=vR rfl;simp only[aF] at ho;exact ⟨A,A,fun _ _ h=>h,fun _ _ h=>.inl h,fun _ _ h=>h,fun _ _ h=>.inl h,mT.free (xE g.rs out ho.1) g8⟩
   | false=>
    have qt:∀ b i,A' b i->G b i=0:=fun b i ha=>by
     rcases bF (G b i) with h0 | h0
     ·exact h0
     ·exact absurd ha (g5 b i h0)
    refine ⟨fun b i=>A b i\/(w.heap.size<=b/\A' b i),A',fun _ _ h=>.inl h,fun b i ha=>ha.imp id fun ⟨h1,h2⟩=>⟨h1,g6 b i (.inr h2),qt b i h2⟩,fun b i ha=>?_,fun b i ha=>?_,g8⟩
    ·rcases ha with ha | ⟨_,ha⟩
     ·exact g1 b i (.inl ha)
     ·exact ha
    ·rcases g2 b i ha with (KB | ⟨e,_⟩) | h0 | hn
     ·exact .inl (.inl KB)
     ·cases e
     ·exact .inr ⟨h0,qt b i ha⟩
     ·exact .inl (.inr ⟨hn,ha⟩)
  have BA:=xD dm.size;have h1:=h.put hr (s:=.dead) (v:=tmp a r) (Fd:=fun _ _=>0) (X':=F r) trivial (fun b k=>by omega) (fun _ _ _ _ e=>by cases e);rw[qU] at h1;have tq:=h1.grow x1 (A1:=vS) (X1:=fun b i=>if w.heap.size<=b then G b i else F r b i) a1 (fun b i ha=>?_) (fun b i=>?_);rotate_left
  ·rcases a2 b i ha with ha | ⟨h1,h2,h3⟩
   ·exact .inl ha
   ·exact .inr ⟨h1,by rw[BA];exact h2,by rw[aU h1];exact h3⟩
  ·by_cases hb:w.heap.size<=b
   ·rw[aU hb];rcases bF (G b i) with h0 | h0
    ·left;omega
    ·exact .inr ⟨hb,by rw[BA];exact g6 b i (.inl h0),g4 b i⟩
   ·rw[bA hb];left;omega
  have h3:=tq.world x2 (fun b i hp=>by
   have h4:=zr b i;have h5:=IE b i (by omega)
   rw[bA (by omega)];omega)
  have h4:=h3.giveUp (A1:=A2) (X1:=GR) a3 (fun b i ha=>by
   rcases a4 b i ha with ha | ⟨h5,h6⟩
   ·exact .inl ha
   ·have h7:=zr b i;have h8:=IE b i (by omega)
    exact .inr ⟨by rw[bA (by omega)];omega,by have:=g7 b i;omega⟩) (fun b i=>by
   have h7:=g7 b i;by_cases hb:w.heap.size<=b
   ·rw[aU hb];omega
   ·rw[bA hb];rcases bF (GR b i) with h0 | h0
    ·omega
    ·have h8:=g4 b i;rcases g3 b i (by omega) with h9 | h9
     ·have:=zr b i;omega
     ·omega)
  have tN:=A6 (σ:=σ.put r .dead) (a:=a) a6;exact ⟨pA h4 q1 tN.1 (fun _ _=>aN _) tN.2,fun hm=>(Te hm).elim⟩
theorem Mu (h:du P C A σ a w F) {f:FuncId} {g:sC} (hs:Sound P f g) {ow:Bool} (vR:ow=true->(yX g.rs&&qi g.ps)=true) {r:Nat} {p:Path} {t:Ty} {m:Md} {H:List Path} {v1:t.den} {cs:List Value} {ad:Option (Nat×Nat)} {qK:Bool} {v:(c8 (g.ps.map (·.2))).den} {pL:List Value} {out:(c8 (g.rs.map (·.1)++lJ g.ps)).den} (hF:g.F v=some out)
  (b1:At σ r p t m H v1) (b2:place σ a w r p=some ⟨t,H,cs,ad⟩) (hP:qK=false)
  (b5 : ∀ (A0:Cells) (F0 Fp:FP),(∀ b i,A b i->A0 b i)->(ow=true->∀ b i j,j < σ.n->j≠r->1<=F j b i->A0 b i)->an P w A0 t m H v1 cs Fp ->
      (qK=true->∀ b o,ad=some (b,o)->Has w b o cs/\(∀ j,j < t.sz->w.frozen? ⟨b,o+j,none⟩=false)/\∀ b' i,b_ b o t.sz b' i+Fp b' i<=F0 b' i)->(qK=false->∀ b i,Fp b i<=F0 b i)->oY P w A0 (g.Cw v) g.ps v pL F0)
  {d:Option Tmp} {K:St->Option R} (q1:yo σ r p (fun σ=>K (σ.bY d (uA (lK g.rs out).1)))=some x) (Te:wt g.ps=true->False) :
  Calls P f pL.toArray w fun e w'=>∃ rv,e=.returned rv/\Nx P C K x (a.put d rv) w'/\(wt g.ps=true->Ext w w' (fun _ _=>0)):=by
 have hr:r < σ.n:=sO b2;obtain ⟨A1,o6,F1,oE,zS,F0,k1,k2,k3,k4,_,k5,k6,k7⟩:=Kc h q1 b1;rw[b2] at k5;simp only[aR,Pl.mk.injEq,dY] at k5;obtain ⟨rfl,rfl⟩:=k5;have mA:∀ b i,F r b i<=ba σ.n F b i:=fun b i=>c7 F hr b i;have po:∀ b i,ba σ.n F b i<=1:=fun b i=>by have:=h.o5 b i;omega
 have k3t:∀ b i,F0 b i+ba o6.n F1 b i<=1:=fun b i=>by have h:=k3.o5 b i;simpa using h
 have k3d:∀ b i,1<=F0 b i->¬ A1 b i:=fun b i hp=>k3.pW b i (by show 1<=0+F0 b i+_;omega);have U9:∀ b i,1<=F0 b i\/A1 b i->b < w.heap.size:=fun b i hp=>k3.kO b i (hp.imp (fun hp=>by show 1<=0+F0 b i+_;omega) id);have ID:∀ b i,A1 b i->AX A1 F σ.n r ow b i:=fun b i h=>.inl h
 have lc:=b5 (AX A1 F σ.n r ow) F0 F0 (fun b i h=>.inl (k2 b i h)) (fun vR b i j hj fw hp=>.inr ⟨vR,j,hj,fw,hp⟩)
  (an.mono (fun b i h=>.inl (k2 b i h)) (fun _ _ _ _ h=>h) (fun _ _ h=>h) t k6 (fun _ _=>aN _) (fun _ _ _ _ h=>h))
  (fun e=>by rw[hP] at e;cases e) (fun _ b i=>aN _)
 refine (hs w _ F0 v _ lc (fun b i=>by have:=k3t b i;omega) (fun b i hp ha=>?_) (fun b i hp=>?_) out hF).mono fun e w' Bz=>?_
 ·rcases ha with ha | ⟨_,j,hj,fw,U8⟩
  ·exact k3d b i hp ha
  ·have:=k7 b i;have:=tY F hj hr fw b i;have:=po b i;omega
 ·rcases hp with hp | hp | ⟨_,j,hj,fw,U8⟩
  ·exact U9 b i (.inl hp)
  ·exact U9 b i (.inr hp)
  ·exact h.kO b i (.inl (by have:=c7 F hj b i;show 1<=0+_;omega))
 ·obtain ⟨rv,rfl,dm,A',G,GR,GM,g1,g2,g3,g4,g5,g6,g7,g8,g9⟩:=Bz;refine ⟨rv,rfl,?_⟩
  obtain ⟨x1,x2⟩:=Ff dm
  obtain ⟨vS,A2,a1,a2,a3,a4,a6⟩:∃ vS A2:Cells,(∀ b i,A1 b i->vS b i)/\(∀ b i,vS b i->A1 b i\/(w.heap.size<=b/\b < w'.heap.size/\G b i=0))/\(∀ b i,vS b i->A2 b i)/\(∀ b i,A2 b i->vS b i\/(1<=F0 b i/\G b i=0)) /\
    mT P w' A2 (lK g.rs out).1 rv GR:=by
   cases ow with
   | true=>
    have ho:=vR rfl;simp only[aF] at ho;exact ⟨A1,A1,fun _ _ h=>h,fun _ _ h=>.inl h,fun _ _ h=>h,fun _ _ h=>.inl h,mT.free (xE g.rs out ho.1) g8⟩
   | false=>
    have qt:∀ b i,A' b i->G b i=0:=fun b i ha=>by
     rcases bF (G b i) with h0 | h0
     ·exact h0
     ·exact absurd ha (g5 b i h0)
    refine ⟨fun b i=>A1 b i\/(w.heap.size<=b/\A' b i),A',fun _ _ h=>.inl h,fun b i ha=>ha.imp id fun ⟨h1,h2⟩=>⟨h1,g6 b i (.inr h2),qt b i h2⟩,fun b i ha=>?_,fun b i ha=>?_,g8⟩
    ·rcases ha with ha | ⟨_,ha⟩
     ·exact g1 b i (.inl ha)
     ·exact ha
    ·rcases g2 b i ha with (KB | ⟨e,_⟩) | h0 | hn
     ·exact .inl (.inl KB)
     ·cases e
     ·exact .inr ⟨h0,qt b i ha⟩
     ·exact .inl (.inr ⟨hn,ha⟩)
  have BA:=xD dm.size;have tq:=k3.grow x1 (A1:=vS) (X1:=fun b i=>if w.heap.size<=b then G b i else F0 b i) a1 (fun b i ha=>?_) (fun b i=>?_);rotate_left
  ·rcases a2 b i ha with ha | ⟨h1,h2,h3⟩
   ·exact .inl ha
   ·exact .inr ⟨h1,by rw[BA];exact h2,by rw[aU h1];exact h3⟩
  ·by_cases hb:w.heap.size<=b
   ·rw[aU hb];rcases bF (G b i) with h0 | h0
    ·left;omega
    ·exact .inr ⟨hb,by rw[BA];exact g6 b i (.inl h0),g4 b i⟩
   ·rw[bA hb];left;show _<=0+F0 b i;omega
  have h3:=tq.world x2 (fun b i hp=>by
   have h5:=U9 b i (.inl hp)
   rw[bA (by omega)];exact hp)
  have h4:=h3.giveUp (A1:=A2) (X1:=GR) a3 (fun b i ha=>by
   rcases a4 b i ha with ha | ⟨h5,h6⟩
   ·exact .inl ha
   ·have h8:=U9 b i (.inl h5)
    exact .inr ⟨by rw[bA (by omega)];exact h5,by have:=g7 b i;omega⟩) (fun b i=>by
   have h7:=g7 b i;by_cases hb:w.heap.size<=b
   ·rw[aU hb];omega
   ·rw[bA hb];rcases bF (GR b i) with h0 | h0
    ·omega
    ·have h8:=g4 b i;rcases g3 b i (by omega) with h9 | h9
     ·omega
     ·omega)
  have tN:=A6 (σ:=o6) (a:=a) a6;exact ⟨pA h4 k1 tN.1 (fun _ _=>aN _) tN.2,fun hm=>(Te hm).elim⟩
theorem IF (h:du P C A σ a w F) {f:FuncId} {g:sC} (hs:Sound P f g) {ow:Bool} (vR:ow=true->(yX g.rs&&qi g.ps)=true) {xs:List Operand} {ex:List Slot} {ED:List Value} (bc:xs.all (dj P)=true)
  (hex:∀ (A':Cells) (σ':St),(∀ b i,A b i->A' b i)->vA P A' σ' a w ex ED) {d:Option Tmp} {K:St->Option R} (hk:FW g ow σ xs ex d K=some x) :
  Calls P f (xs.map a.eval++ED).toArray w fun e w'=>∃ rv,e=.returned rv/\Nx P C K x (a.put d rv) w'/\(wt g.ps=true->Ext w w' (fun _ _=>0)):=by
 unfold FW at hk;obtain ⟨A1,o6,F1,k1,k2,k3,k4⟩:=V6 g.ps xs h hk;have oq:=Gw k3 xs bc (hex A1 o6 k2);obtain ⟨v,ws,q1,q2⟩:=V8 k3 g.ps oq k1;split at q1;rotate_left
 ·cases q1
 rename_i hc;simp only[aF,dP] at hc;obtain ⟨hlen,Rf⟩:=hc
 match ws,hlen with
 | [],_=>
  have q1:((g.F v).bind fun out=>rB o6 g.ps [] (lK g.rs out).2 fun σ=>K (σ.bY d (uA (lK g.rs out).1)))=some x:=by
   unfold SV at q1;split at q1
   ·rename_i e;cases e
   ·exact q1
  cases hF:g.F v with
  | none=>rw[hF] at q1;cases q1
  | some out=>
  rw[hF] at q1;simp only[aB] at q1;obtain ⟨n1,n2⟩:=pM (R:=R) (A0:=AX A1 F1 o6.n o6.n ow) (fun b i h=>.inl h) (r0:=o6.n) (fun vR b i j hj fw hp=>.inr ⟨vR,j,hj,fw,hp⟩) g.ps q2 (fun r _ aj=>by omega);rw[n2] at q1;refine (hs w _ (fun _ _=>0) v _ (n1 _) (fun _ _=>aW _) (fun b i hp=>by omega) (fun b i hp=>?_) out hF).mono fun e w' Bz=>?_
  ·rcases hp with hp | hp
   ·omega
   ·exact Kz k3 hp
  ·obtain ⟨rv,rfl,dm,A',G,GR,GM,g1,g2,g3,g4,g5,g6,g7,g8,g9⟩:=Bz
   have hX:∀ b i,GR b i<=0\/(w.heap.size<=b/\b < w'.heap.size/\GR b i<=1):=fun b i=>by
    rcases bF (GR b i) with h0 | h0
    ·left;omega
    ·have h7:=g7 b i;right;refine ⟨?_,g6 b i (.inl (by omega)),by have:=g4 b i;omega⟩
     rcases g3 b i (by omega) with h1 | h1
     ·omega
     ·exact h1
   refine ⟨rv,rfl,?_⟩
   cases ow with
   | true=>
    have ho:=vR rfl;simp only[aF] at ho;have tq:=k3.grow dm (A1:=A1) (X1:=GR) (fun _ _ h=>h) (fun _ _ h=>.inl h) hX;have tN:=A6 (σ:=o6) (a:=a) (mT.free (A':=A1) (xE g.rs out ho.1) g8);exact ⟨pA tq q1 tN.1 (fun _ _=>aN _) tN.2,fun _=>dm⟩
   | false=>
    have tq:=k3.grow dm (A1:=A') (X1:=GR) (fun b i ha=>g1 b i (.inl ha)) (fun b i ha=>by
     rcases g2 b i ha with (KB | ⟨e,_⟩) | h0 | hn
     ·exact .inl KB
     ·cases e
     ·omega
     ·refine .inr ⟨hn,g6 b i (.inr ha),?_⟩;rcases bF (GR b i) with h0 | h0
      ·exact h0
      ·exact absurd ha (g5 b i (by have:=g7 b i;omega))) hX
    have tN:=A6 (σ:=o6) (a:=a) g8;exact ⟨pA tq q1 tN.1 (fun _ _=>aN _) tN.2,fun _=>dm⟩
 | [(r,p)],_=>
  simp only[apart,aF,dP,eJ] at Rf;obtain ⟨_,Gx,qK,CE,t,m,H,v1,cs,ad,b0,b1,b2,b3,b4,b5,b8,b7,b6⟩:=OX g.ps q2 Rf
  have q3:(CE=true->g.Cw v H=true)/\((g.F v).bind fun out=>rB o6 g.ps [(r,p)] (lK g.rs out).2 fun σ=>K (σ.bY d (uA (lK g.rs out).1)))=some x:=by
   cases hv:Oq g.ps with
   | false=>
    rw[hv] at q1;exact ⟨fun e=>(by have:=b0.2 e;rw[hv] at this;exact (Bool.false_ne_true this).elim),q1⟩
   | true=>
    rw[hv] at q1;simp only[SV] at q1;rw[b1.eq] at q1
    cases hh:g.Cw v H with
    | true=>rw[hh] at q1;exact ⟨fun _=>rfl,q1⟩
    | false=>rw[hh] at q1;cases q1
  obtain ⟨q0,q1⟩:=q3;replace b5:=fun A0 F0 Fp a1 a2 a3 a4 a5=>b5 A0 F0 Fp a1 a2 a3 a4 a5 (g.Cw v) q0
  cases hF:g.F v with
  | none=>rw[hF] at q1;cases q1
  | some out=>
  rw[hF] at q1;simp only[aB] at q1
  cases CE with
  | true=>
   obtain ⟨hE,hP,_⟩:=b8 rfl;subst hE;exact Mu k3 hs vR hF b1 b2 (b8 rfl).2.1 b5 (((b8 rfl).2.2 o6 (fun σ=>K (σ.bY d (uA (lK g.rs out).1))) (lK g.rs out).2).symm.trans q1) (fun hm=>uD g.ps hm q2)
  | false=>
  obtain rfl:=b0.1 rfl
  cases Gx with
  | true=>exact OY k3 hs vR hF b1 b2 b3 b5 ((b7 rfl rfl o6 (fun σ=>K (σ.bY d (uA (lK g.rs out).1))) (lK g.rs out).2).symm.trans q1) (fun hm=>uD g.ps hm q2)
  | false=>
  obtain ⟨o1,e1,e2⟩:=b6 rfl (lK g.rs out).2;rw[e1] at q1;have q1':=q1;obtain ⟨hr,m2,H2,v2,c9,wl,F2,s1,s2,s3,s4,s5,_⟩:=A4 k3 q1;obtain ⟨_,e3,e4,e5⟩:=b1.inj s1;subst e3;subst e4;have e5:=iA e5;subst e5;rw[b2] at s2;simp only[aR,Pl.mk.injEq,dY] at s2;obtain ⟨rfl,rfl⟩:=s2;obtain ⟨Xe,Xf⟩:=an.fp t s3
  obtain ⟨F0,Cz⟩:∃ F0:FP,∀ b i,F0 b i=uC qK (je ad t.sz b i)+kV w t m [] cs b i:=⟨fun b i=>uC qK (je ad t.sz b i)+kV w t m [] cs b i,fun _ _=>rfl⟩
  have KA:∀ b i,F0 b i<=je ad t.sz b i+kV w t m [] cs b i:=fun b i=>by
   rw[Cz];cases qK <;> simp[uC]
  have zr:∀ b i,F0 b i<=F1 r b i:=fun b i=>by have:=KA b i;have:=Xf b i;have:=s4 b i;omega
  have mA:∀ b i,F1 r b i<=ba o6.n F1 b i:=fun b i=>c7 F1 hr b i;have po:∀ b i,ba o6.n F1 b i<=1:=fun b i=>by have:=k3.o5 b i;omega
  have ID:∀ b i,A1 b i->AX A1 F1 o6.n r ow b i:=fun b i h=>.inl h
  have lc:=b5 (AX A1 F1 o6.n r ow) F0 (kV w t m [] cs) ID (fun vR b i j hj fw hp=>.inr ⟨vR,j,hj,fw,hp⟩)
   (an.mono ID (fun _ _ _ _ h=>h) (fun _ _ h=>h) t Xe (fun _ _=>aN _) (fun _ _ _ _ h=>h))
   (fun hP b o e=>⟨(s5 b o e).1,(s5 b o e).2,fun b' i=>by rw[Cz,hP,e];exact aN _⟩) (fun hP b i=>by rw[Cz,hP];simp[uC])
  refine (hs w _ F0 v _ lc (fun b i=>by have:=zr b i;have:=mA b i;have:=po b i;omega) (fun b i hp ha=>?_) (fun b i hp=>?_) out hF).mono fun e w' Bz=>?_
  ·have h1:=zr b i;have h2:=mA b i
   rcases ha with ha | ⟨_,j,hj,fw,U8⟩
   ·exact k3.pW b i (by show 1<=0+_;omega) ha
   ·have:=tY F1 hj hr fw b i;have:=po b i;omega
  ·rcases hp with hp | hp
   ·exact k3.kO b i (.inl (by have:=zr b i;have:=mA b i;show 1<=0+_;omega))
   ·exact Kz k3 hp
  ·obtain ⟨rv,rfl,dm,A',G,GR,GM,g1,g2,g3,g4,g5,g6,g7,g8,g9⟩:=Bz;refine ⟨rv,rfl,?_⟩
   obtain ⟨IG,F3,t1,t2,t3,t4⟩:=e2 w' A' GM g9;obtain ⟨x1,x2⟩:=Ff dm
   obtain ⟨vS,A2,a1,a2,a3,a4,a5,a6⟩:∃ vS A2:Cells,(∀ b i,A1 b i->vS b i)/\(∀ b i,vS b i->A1 b i\/(w.heap.size<=b/\b < w'.heap.size/\G b i=0))/\(∀ b i,vS b i->A2 b i)/\(∀ b i,A2 b i->vS b i\/(1<=F0 b i/\G b i=0)) /\
     an P w' A2 t m [] o1 IG F3/\mT P w' A2 (lK g.rs out).1 rv GR:=by
    cases ow with
    | true=>
     have ho:=vR rfl;simp only[aF] at ho;exact ⟨A1,A1,fun _ _ h=>h,fun _ _ h=>.inl h,fun _ _ h=>h,fun _ _ h=>.inl h,an.free (b4 ho.2).1 (b4 ho.2).2 t1,mT.free (xE g.rs out ho.1) g8⟩
    | false=>
     have qt:∀ b i,A' b i->G b i=0:=fun b i ha=>by
      rcases bF (G b i) with h0 | h0
      ·exact h0
      ·exact absurd ha (g5 b i h0)
     refine ⟨fun b i=>A1 b i\/(w.heap.size<=b/\A' b i),A',fun _ _ h=>.inl h,fun b i ha=>ha.imp id fun ⟨h1,h2⟩=>⟨h1,g6 b i (.inr h2),qt b i h2⟩,fun b i ha=>?_,fun b i ha=>?_,t1,g8⟩
     ·rcases ha with ha | ⟨_,ha⟩
      ·exact g1 b i (.inl ha)
      ·exact ha
     ·rcases g2 b i ha with (KB | ⟨e,_⟩) | h0 | hn
      ·exact .inl (.inl KB)
      ·cases e
      ·exact .inr ⟨h0,qt b i ha⟩
      ·exact .inl (.inr ⟨hn,ha⟩)
   have BA:=xD dm.size;have tq:=k3.grow x1 (A1:=vS) (X1:=fun b i=>if w.heap.size<=b then G b i else 0) a1 (fun b i ha=>?_) (fun b i=>?_);rotate_left
   ·rcases a2 b i ha with ha | ⟨h1,h2,h3⟩
    ·exact .inl ha
    ·exact .inr ⟨h1,by rw[BA];exact h2,by rw[aU h1];exact h3⟩
   ·by_cases hb:w.heap.size<=b
    ·rw[aU hb];rcases bF (G b i) with h0 | h0
     ·left;omega
     ·exact .inr ⟨hb,by rw[BA];exact g6 b i (.inl h0),g4 b i⟩
    ·rw[bA hb];left;omega
   obtain ⟨_,m4,H4,v4,UK,ad4,F4,u1,u2,u3,u4,u5,u6⟩:=A4 tq q1';obtain ⟨_,e3,e4,e5⟩:=b1.inj u1;subst e3;subst e4;have e5:=iA e5;subst e5;have IE:∀ b i,1<=F1 r b i->b < w.heap.size:=fun b i hp=>k3.kO b i (.inl (by have:=mA b i;show 1<=0+_;omega));have ip:=ve (σ':=o6) (a':=a) (w2:=World.news w w') (k3.im r hr) rfl rfl (fun b i ha u hu=>x1.cell b i (k3.kO b i (.inr ha)) rfl u hu) (fun b i hp u hu=>x1.cell b i (IE b i hp) rfl u hu) b2;rw[ip] at u2;simp only[aR,Pl.mk.injEq,dY] at u2;obtain ⟨rfl,rfl⟩:=u2;have n_:kV (World.news w w') t m [] cs=kV w t m [] cs:=OW t s3 (fun b i hp u hu=>x1.cell b i (IE b i (by have:=s4 b i;omega)) rfl u hu);have KC:∀ b i,kV w t m [] cs b i<=F4 b i:=fun b i=>by have:=(an.fp t u3).2 b i;rw[n_] at this;exact this
   have Nz:=an.length _ t1;have hl:=an.length _ s3;have oG:qK=false->IG=cs:=fun hP=>V9 Nz (an.one _ t1) hl (an.one _ s3) (t4 hP)
   have Gy:∀ b i,1<=je ad t.sz b i->F4 b i=0:=fun b i hp=>by
    have:=u4 b i;have:=mA b i;have:=po b i;omega
   have Tf:∀ b i,b < w.heap.size->1<=G b i->1<=je ad t.sz b i\/1<=F4 b i:=fun b i hb hp=>by
    rcases g3 b i hp with h1 | h1
    ·have:=KA b i;have:=KC b i;omega
    ·omega
   have YX:∀ b i,GR b i+F3 b i<=(if w.heap.size<=b then G b i else 0)+F4 b i:=fun b i=>by
    have h7:=g7 b i;have h2:=t2 b i
    by_cases hb:w.heap.size<=b
    ·rw[aU hb];omega
    ·rw[bA hb];rcases bF (GR b i+F3 b i) with h0 | h0
     ·omega
     ·have h4:=g4 b i;rcases g3 b i (by omega) with h1 | h1
      ·rw[Cz] at h1
       cases hP:qK with
       | true=>
        obtain ⟨b',o',fm⟩:=b3 hP;obtain ⟨_,h8⟩:=t3 hP b' o' fm;have h9:=h8 b i;rw[hP,fm] at h1;simp only[uC,je] at h1;have:=KC b i;omega
       | false=>
        rw[hP] at h1;simp only[uC,bE] at h1;have:=KC b i;omega
      ·omega
   obtain ⟨A3,yj,Fr,n1,n2,n3,n4,n5⟩:=u6 w' A2 IG F3 GR (x2.mono fun b i hz=>by
     have hz:(if w.heap.size<=b then G b i else 0)+(F4 b i+je ad t.sz b i)=0:=hz
     have:=KA b i;have:=KC b i;omega) a3 (fun b i ha=>by
     rcases a4 b i ha with ha | ⟨h1,h2⟩
     ·exact .inl ha
     ·refine .inr ⟨?_,by have:=g7 b i;have:=t2 b i;omega⟩;have hb:b < w.heap.size:=IE b i (by have:=zr b i;omega);rw[bA (by omega)];rw[Cz] at h1
      cases hP:qK with
      | true=>
       obtain ⟨b',o',fm⟩:=b3 hP;obtain ⟨_,h8⟩:=t3 hP b' o' fm;have h9:=h8 b i;rw[hP,fm] at h1;simp only[uC,je] at h1;have:=KC b i;have:=g7 b i
       omega
      | false=>
       rw[hP] at h1;simp only[uC,bE] at h1;have:=KC b i
       omega) YX (fun b o e=>by
     cases hP:qK with
     | true=>exact (t3 hP b o e).1
     | false=>
      rw[oG hP];intro j u hu;have hj:=(aM.1 hu).1;have h9:je ad t.sz b (o+j)=1:=by rw[e];simp only[je,b_];rw[aU ⟨trivial,by omega,by omega⟩]
      have h8:=Gy b (o+j) (by omega);refine x2.cell b (o+j) ?_ ?_ u ((u5 b o e).1 j u hu)
      ·rw[BA];exact cP (IE b (o+j) (by have:=u4 b (o+j);omega)) dm.size
      ·rw[Cz,hP];have:=KC b (o+j)
       simp only[uC,bE];omega) (fun e=>by
     cases hP:qK with
     | true=>obtain ⟨b',o',fm⟩:=b3 hP;rw[e] at fm;cases fm
     | false=>exact oG hP) a5
   have tN:=A6 (σ:=yj) (a:=a) (mT.mono n2 a6)
   cases hP:qK with
   | true=>
    subst hP;exact ⟨pA n3 n1 tN.1 (fun _ _=>aN _) tN.2,fun hm=>(uD g.ps hm q2).elim⟩
   | false=>
    subst hP;have hc:=oG rfl;subst hc
    have h5:=n5 (tj (dh p+1)) (t_ _ (k3.mo r)) (Bq _ (k3.mo r)) rfl (fun p' snap hb bc hlen=>by
     have:=C8 (dh p+1) (k3.mo r) hb bc
     exact ⟨1,False,by omega,fun _=>.inl (by omega),fun _=>by omega,Re ad a5⟩)
    have U_:=A6 (σ:={ yj with vr:=(o6.lX r (tj (dh p+1))).vr,aT:=o6.aT }) (a:=a) (mT.mono n2 a6);exact ⟨pA h5 n1 U_.1 (fun _ _=>aN _) U_.2,fun hm=>(uD g.ps hm q2).elim⟩
 | _::_::_,hl=>simp at hl
theorem KD (h:du P C A σ a w F) {f:FuncId} {g:sC} (hs:Sound P f g) {xs:List Operand} {ex:List Slot} {ED:List Value} (bc:xs.all (dj P)=true)
  (hex:∀ (A':Cells) (σ':St),(∀ b i,A b i->A' b i)->vA P A' σ' a w ex ED) {d:Option Tmp} {K:St->Option R} (hk:Bk g σ xs ex d K=some x) :
  Calls P f (xs.map a.eval++ED).toArray w fun e w'=>∃ rv,e=.returned rv/\Nx P C K x (a.put d rv) w'/\(wt g.ps=true->Ext w w' (fun _ _=>0)):=by
 unfold Bk at hk;split at hk
 ·rename_i ho;exact IF h hs (fun _=>ho) bc hex hk
 ·obtain ⟨A1,o6,F1,k1,k2,k3,k4⟩:=Xc g.ps xs h hk;exact IF k3 hs (fun e=>by cases e) bc (fun A' σ' hA=>hex A' σ' fun b i ha=>hA b i (k2 b i ha)) k1
theorem Dl {f:FuncId} {cap:Bool} (he:tH P f cap) (args:Array Value):(callFunc f args).run P w=.ok (.enter f args) w:=by
 obtain ⟨fn,h1,h2,h3,_⟩:=he
 have IH:fn.name ≠ "runtime.NumGoroutine" := by simpa using h2
 have Ku:fn.body≠none:=by intro e;rw[e] at h3;cases h3
 simp[callFunc,h1,IH,Ku]
theorem Mv (h:du P C A σ a w F) {f:FuncId} {args:Array Operand} {ts:Array TypeId} (ho:o.op=.call { callee:=.value (.func f),args:=args,argTypes:=ts }) (bc:args.toList.all (dj P)=true) {g:sC} (hs:Sound P f g) (he:tH P f false)
  {K:St->Option R} (hk:Bk g σ args.toList [] o.dst K=some x):o.wp P a w (fun a' w'=>Nx P C K x a' w'/\(wt g.ps=true->Ext w w' (fun _ _=>0))) Q:=by
 have f_:(execOp a.eval o).run P w=.ok (.enter f (args.map a.eval)) w:=by
  have e:a.eval (.func f)=.func (.func f) #[] #[]:=rfl;simp[execOp,ho,resolve,Deferred.ofValue,e,invoke,Dl he]
 unfold Oper.wp;rw[f_,Oper.upon_enter];have hc:=KD h hs (ex:=[]) (ED:=[]) bc (fun _ _ _=>trivial) hk;have:(args.toList.map a.eval++[]).toArray=args.map a.eval:=by apply eX;simp
 rw[this] at hc;exact hc.mono fun e w' ⟨rv,he,hn⟩=>by subst he;exact hn
theorem Mw (h:du P C A σ a w F) {i:Tmp} {args:Array Operand} {ts:Array TypeId} (ho:o.op=.call { callee:=.value (.tmp i),args:=args,argTypes:=ts }) (bc:args.toList.all (dj P)=true) {f:FuncId} {n:Int} (oq:JX (σ.get i)=some (f,n)) {g:sC} (hs:Sound P f g) (he:tH P f g.cap)
  {K:St->Option R} (hk:Bk g σ args.toList (match g.cap with | true=>[.cp (.int .i64) n] | false=>[]) o.dst K=some x):o.wp P a w (fun a' w'=>Nx P C K x a' w'/\(wt g.ps=true->Ext w w' (fun _ _=>0))) Q:=by
 have hi:i < σ.n:=by
  rcases bZ i σ.n with hi | hi
  ·exact hi
  ·rw[lY (dK.2 hi)] at oq;cases oq
 have Z_:=h.im i hi;unfold JX at oq;split at oq;rotate_left
 ·cases oq
 rename_i v hg;injection oq with hv;subst hv;rw[hg] at Z_;obtain ⟨cs,h1,xO,rfl,fn,h3,h4⟩:=Z_;have e:a.eval (.tmp i)=.func (.func f) #[] xO:=h1
 have f_:(execOp a.eval o).run P w=.ok (.enter f (args.map a.eval++xO)) w:=by
  simp[execOp,ho,resolve,Deferred.ofValue,e,invoke,Dl he]
 unfold Oper.wp;rw[f_,Oper.upon_enter];obtain ⟨fn',f1,f2,f3,f4⟩:=he;rw[h3] at f1;injection f1 with f1;subst f1
 have hex:∃ ED:List Value,(args.toList.map a.eval++ED).toArray=args.map a.eval++xO/\∀ (A':Cells) (σ':St),(∀ b i,A b i->A' b i)->vA P A' σ' a w (match g.cap with | true=>[.cp (.int .i64) n] | false=>[]) ED:=by
  rcases h4 with ⟨h4,rfl⟩ | ⟨h4,ad,rfl,h5,h6,h7⟩
  ·have:g.cap=false:=by cases hg:g.cap with | false=>rfl | true=>rw[hg,h4] at f4;cases f4
   rw[this];exact ⟨[],by apply eX;simp,fun _ _ _=>trivial⟩
  ·have:g.cap=true:=by cases hg:g.cap with | true=>rfl | false=>rw[hg,h4] at f4;cases f4
   rw[this];refine ⟨[.pointer (some ad)],by apply eX;simp,fun A' σ' hA=>⟨.inl ⟨ad,rfl,h5,[.int .i64 n],rfl,(fun j u hu=>?_),rfl⟩,trivial⟩⟩
   cases j with
   | zero=>injection hu with hu;subst hu;exact ⟨h6,hA _ _ h7⟩
   | succ j=>cases hu
 obtain ⟨ED,aai,hex⟩:=hex;have hc:=KD h hs bc hex hk;rw[aai] at hc;exact hc.mono fun e w' ⟨rv,he,hn⟩=>by subst he;exact hn
end
end OT
namespace OT
open Go
section
variable {P:Program} {w:World} {A:Cells}
def HT:Value->Bool
 | .int _ _ | .bool _ | .string _=>true
 | _=>false
theorem Ro.simple:∀ (t:Ty) {v:t.den} {cs:List Value},t.of=true->Ro P w A t v cs->∀ x ∈ cs,HT x=true:=by
 intro t
 induction t with
 | int k=>intro v cs _ h x hx;simp only[Ro] at h;subst h;simp at hx;subst hx;rfl
 | bool=>intro v cs _ h x hx;simp only[Ro] at h;subst h;simp at hx;subst hx;rfl
 | str=>intro v cs _ h x hx;simp only[Ro] at h;subst h;simp at hx;subst hx;rfl
 | unit=>intro v cs _ h x hx;simp only[Ro] at h;subst h;cases hx
 | pair a b kN kE=>
  intro v cs he h x hx;simp only[Ty.of,aF] at he;rw[<-cQ a.sz cs] at hx;rcases cJ.1 hx with hx | hx
  ·exact kN he.1 h.1 x hx
  ·exact kE he.2 h.2 x hx
 | arr n e ih=>
  intro v cs he h x hx;obtain ⟨_,hv,hl,hr⟩:=h;obtain ⟨j,hj,rfl⟩:=dD.1 hx
  have hs:0 < e.sz:=by
   rcases bF e.sz with h0 | h0
   ·rw[h0,Nat.mul_zero] at hl;omega
   ·exact h0
  have hi:j / e.sz < n:=by
   rw[gL hs];omega
  have h1:=hr (j / e.sz) _ (aA (by omega));refine ih he h1 _ (gM.2 ⟨j % e.sz,?_⟩);have hm:=iP j hs;have hd:=gI j e.sz;rw[eW hm,bM,fR,hd,aA hj]
 | _=>intro v cs he;simp[Ty.of] at he
theorem Mx {x:Value} (h:HT x=true) (n:Nat):Instr.sameBits n x x=true:=by
 cases x <;> simp[HT] at h <;> cases n <;> simp[Instr.sameBits,MapKept.bytes_beq]
theorem Rg {t:Ty} {v:t.den} {cs:List Value} (ha:isAgg t=true) (he:t.of=true) (h:Ro P w A t v cs):Instr.sameBits 10000 (cg t cs) (cg t cs)=true:=by
 have hs:=Ro.simple t he h;simp only[cg,ha,aI,Instr.sameBits,beq_self_eq_true,eG,cC];rintro ⟨x,y⟩ yd;have hz:(x,y) ∈ cs.zip cs:=by simpa using yd
 have II:x=y/\x ∈ cs:=by
  clear h hs yd
  induction cs with
  | nil=>simp at hz
  | cons c cs ih=>
   simp only[hJ,aY,bS] at hz;rcases hz with ⟨rfl,rfl⟩ | hz
   ·exact ⟨rfl,by simp⟩
   ·have:=ih hz;exact ⟨this.1,by simp[this.2]⟩
 rw[<-II.1];exact Mx (hs x II.2) _
theorem KE:∀ (t:Ty),(∀ (i:TypeId) (d:Nat) (e:Bool) (v:t.den) (cs:List Value),bd P t (.inl i)=true->qH P t (.inl i)=true->dep t<=d->Ro P w A t v cs->(Instr.checkKey e d i (cg t cs)).run P w=.ok () w) /\
  (∀ (fs:List Field) (off d:Nat) (e:Bool) (v:t.den) (xs:Array Value),bd P t (.inr (fs,off))=true->qH P t (.inr fs)=true->dep t<=d+1->Ro P w A t v (xs.toList.drop off) ->
   (forIn fs PUnit.unit fun f _=>(if f.name ≠ "_" then do
     let x <- part f.type xs f.offset
     Instr.checkKey e d f.type x
     pure (ForInStep.yield PUnit.unit)
    else pure (ForInStep.yield PUnit.unit):Sem (ForInStep PUnit))).run P w=.ok () w):=by
 intro t
 induction t with
 | int k=>
  refine ⟨fun i d e v cs hl he hd h=>?_,fun fs off d e v xs hl=>by simp[bd] at hl⟩
  simp only[Ro] at h;subst h
  cases d with
  | zero=>simp[dep] at hd
  | succ d=>rw[df _ _ rfl];simp[Instr.checkKey,run_underlying (pB hl)]
 | bool=>
  refine ⟨fun i d e v cs hl he hd h=>?_,fun fs off d e v xs hl=>by simp[bd] at hl⟩
  simp only[Ro] at h;subst h
  have hu:P.underlying i=some .bool:=by
   simp only[bd,aF] at hl;have h2:=hl.2;split at h2
   ·assumption
   ·cases h2
  cases d with
  | zero=>simp[dep] at hd
  | succ d=>rw[df _ _ rfl];simp[Instr.checkKey,run_underlying hu]
 | str=>
  refine ⟨fun i d e v cs hl he hd h=>?_,fun fs off d e v xs hl=>by simp[bd] at hl⟩
  simp only[Ro] at h;subst h
  cases d with
  | zero=>simp[dep] at hd
  | succ d=>rw[df _ _ rfl];simp[Instr.checkKey,run_underlying (m7 hl)]
 | unit=>
  refine ⟨fun i d e v cs hl he hd h=>?_,fun fs off d e v xs hl he hd h=>?_⟩
  ·simp only[Ro] at h;subst h;simp only[bd,aF] at hl;have h3:=hl.2;split at h3
   ·rename_i fs hu;have qW:fs.toList=[]:=bN.1 h3
    cases d with
    | zero=>simp[dep] at hd
    | succ d=>
     show (Instr.checkKey e (d+1) i (.agg #[])).run P w=_;rw[Instr.checkKey];simp only[Sem.run_bind,run_underlying hu,Result.andThen_ok];rw[<-Array.forIn_toList,qW];simp
   ·cases h3
  ·simp only[bd,bN] at hl;subst hl;simp
 | pair a b kN kE=>
  have second:∀ (fs:List Field) (off d:Nat) (e:Bool) (v:(Ty.pair a b).den) (xs:Array Value),bd P (.pair a b) (.inr (fs,off))=true->qH P (.pair a b) (.inr fs)=true->dep (.pair a b)<=d+1->Ro P w A (.pair a b) v (xs.toList.drop off) ->
    (forIn fs PUnit.unit fun f _=>(if f.name ≠ "_" then do
      let x <- part f.type xs f.offset
      Instr.checkKey e d f.type x
      pure (ForInStep.yield PUnit.unit)
     else pure (ForInStep.yield PUnit.unit):Sem (ForInStep PUnit))).run P w=.ok () w:=by
   intro fs off d e v xs hl he hd h1
   cases fs with
   | nil=>simp[bd] at hl
   | cons f r=>
    simp only[bd,aF,eI,dP] at hl;simp only[qH,aF,bne_iff_ne,ne_eq] at he;simp only[dep] at hd;obtain ⟨QY,QZ⟩:=h1;have p1:=uf (P:=P) (w:=w) hl.1.2 (cs:=xs) (off:=off) (Ro.length _ QY);have e1:=kN.1 f.type d e v.1 _ hl.1.2 he.1.2 (by omega) QY;rw[dA] at QZ;have e2:=kE.2 r (off+a.sz) d e v.2 xs hl.2 he.2 (by omega) QZ;simp only[List.forIn_cons,Sem.run_bind,ne_eq,he.1.1,eV,aI,hl.1.1.1,p1,e1,Result.andThen_ok,Sem.run_pure];exact e2
  refine ⟨fun i d e v cs hl he hd h=>?_,second⟩
  simp only[bd,aF] at hl;simp only[qH,aF,cM] at he;have h3:=hl.2;have h4:=he.2;split at h3
  ·rename_i fs hu;rw[hu] at h4;simp only at h4;split at h3
   ·rename_i f r De;rw[De] at h4;simp only at h4
    cases d with
    | zero =>have:1<=dep (.pair a b):=by simp only[dep];omega
             omega
    | succ d=>
     show (Instr.checkKey e (d+1) i (.agg cs.toArray)).run P w=_;rw[Instr.checkKey];simp only[Sem.run_bind,run_underlying hu,Result.andThen_ok];rw[<-Array.forIn_toList,De];have:=second (f::r) 0 d e v cs.toArray (by simp only[bd,bE];exact h3) (by simp only[qH];exact h4) hd (by simpa using h);rw[this];rfl
   ·cases h3
  ·cases h3
 | arr n e ih=>
  refine ⟨fun i d em v cs hl he hd h=>?_,fun fs off d em v xs hl=>by simp[bd] at hl⟩
  simp only[bd,aF] at hl;have h3:=hl.2;simp only[qH] at he;split at h3
  ·rename_i n' el hu;simp only[aF,eI,dP] at h3;obtain ⟨⟨rfl,_⟩,hle⟩:=h3;rw[hu] at he;simp only at he;obtain ⟨inf,i1,i2,_⟩:=lz (lR hle);have kt:P.cellsOf el=e.sz:=by simp[Program.cellsOf,i1,i2]
   obtain ⟨_,l1,_,r1⟩:=h
   cases d with
   | zero=>simp[dep] at hd
   | succ d=>
    simp only[dep] at hd;show (Instr.checkKey em (d+1) i (.agg cs.toArray)).run P w=_;rw[Instr.checkKey];simp only[Sem.run_bind,run_underlying hu,Result.andThen_ok,Std.Legacy.Range.forIn_eq_forIn_range',Std.Legacy.Range.size,Nat.sub_zero,Nat.add_one_sub_one,Nat.div_one]
    have key:∀ (m j:Nat),j+m=n->(forIn (List.range' j m) PUnit.unit fun i _=>(do
       let x <- part el cs.toArray (i*(<- Go.sizeOf el))
       Instr.checkKey em d el x
       pure (ForInStep.yield PUnit.unit):Sem (ForInStep PUnit))).run P w=.ok () w:=by
     intro m
     induction m with
     | zero=>intro j hj;rfl
     | succ m Q5=>
      intro j hj;have a1:=r1 j _ (aA (l:=v) (i:=j) (by omega));have p1:=uf (P:=P) (w:=w) hle (cs:=cs.toArray) (off:=j*e.sz) (Ro.length _ a1);have e1:=ih.1 el d em _ _ hle he (by omega) a1;rw[List.range'_succ];simp only[List.forIn_cons,Sem.run_bind,run_sizeOf hle,p1,e1,Result.andThen_ok,Sem.run_pure];exact Q5 (j+1) (by omega)
    have:=key n 0 (by omega);rw[this];rfl
  ·cases h3
 | _=>exact ⟨fun i d e v cs hl he=>by simp[qH] at he,fun fs off d e v xs hl he=>by simp[qH] at he⟩
def BB (P:Program) (w:World) (A:Cells) (k v:Ty) (es:List (Value×Value)) (m:List (k.den×v.den)):Prop:=
 es.length=m.length/\∀ (i:Nat) (y:k.den×v.den),m[i]?=some y->∃ (kc vc:List Value),es[i]?=some (cg k kc,cg v vc)/\Ro P w A k y.1 kc/\Ro P w A v y.2 vc
structure Jx (P:Program) (k:Ty) (i:TypeId):Prop where
 lay:bd P k (.inl i)=true
 agg:isAgg k=true
 of:k.of=true
 flat:k.flat=true
 qH:qH P k (.inl i)=true
 dep:dep k<=9000
theorem HU {k v:Ty} {i:TypeId} (h:bd P (.map k v) (.inl i)=true):∃ ki vi,P.underlying i=some (.map ki vi)/\Jx P k ki/\bd P v (.inl vi)=true/\UQ P v vi=true:=by
 simp only[bd,aF] at h;have h2:=h.2;split at h2
 ·rename_i ki vi hu;simp only[aF,W2,dP] at h2;obtain ⟨⟨⟨h3,h4⟩,⟨⟨⟨⟨h5,h6⟩,h7⟩,h8⟩,h9⟩⟩,xy⟩:=h2;exact ⟨ki,vi,hu,⟨h3,h5,h6,h7,h8,h9⟩,h4,xy⟩
 ·cases h2
theorem Rh {k v:Ty} {ki:TypeId} (K:Jx P k ki) {x:k.den} {xc:List Value} (hx:Ro P w A k x xc):∀ (es:List MapEntry) (m:List (k.den×v.den)) (i:Nat),BB P w A k v (es.map fun e=>(e.key,e.val)) m ->
  (Instr.findAsking ki (cg k xc) es i).run P w=.ok ((m.findIdx? fun y=>k.eq x y.1).bind fun j=>(es[j]?).map fun e=>(i+j,e.val)) w:=by
 intro es
 induction es with
 | nil=>
  intro m i h;have:m=[]:=bH (by have:=h.1;simpa using this.symm);subst this;simp[Instr.findAsking]
 | cons e es ih=>
  intro m i h
  cases m with
  | nil=>have:=h.1;simp at this
  | cons y m=>
   obtain ⟨kc,vc,h1,h2,h3⟩:=h.2 0 y rfl;simp only[cR,eN,aR,bS] at h1;have heq:(Op.equal ki (cg k xc) (cg k kc)).run P w=.ok (k.eq x y.1) w:=(UY (P:=P) (w:=w) (A:=A) k).1 ki Op.maxDepth x y.1 xc kc K.lay K.qH (by have:=K.dep;simp only[Op.maxDepth];omega) hx h2
   have qk:BB P w A k v (es.map fun e=>(e.key,e.val)) m:=⟨by have:=h.1;simpa using this,fun j z hz=>by
    have:=h.2 (j+1) z (by simpa using hz)
    simpa using this⟩
   simp only[Instr.findAsking,Sem.run_bind,h1.1,heq,Result.andThen_ok,List.findIdx?_cons]
   cases hq:k.eq x y.1 with
   | true=>simp
   | false=>
    simp only[aG,aL,ih m (i+1) qk,Option.bind_map];congr 2;funext j;simp[cE,jB 1 j]
theorem Ri {k:Ty} {ki:TypeId} (K:Jx P k ki):∃ d,P.underlying ki=some d/\∀ x y,Instr.sameNow d x y=none:=by
 have hl:=K.lay;have ha:=K.agg;have he:=K.of
 cases k with
 | pair a b=>
  simp only[bd,aF] at hl;have h3:=hl.2;split at h3
  ·rename_i fs hu;exact ⟨_,hu,fun _ _=>rfl⟩
  ·cases h3
 | unit=>
  simp only[bd,aF] at hl;have h3:=hl.2;split at h3
  ·rename_i fs hu;exact ⟨_,hu,fun _ _=>rfl⟩
  ·cases h3
 | arr n e=>
  simp only[bd,aF] at hl;have h3:=hl.2;split at h3
  ·rename_i n' el hu;exact ⟨_,hu,fun _ _=>rfl⟩
  ·cases h3
 | _=>simp[isAgg] at ha
theorem NQ {k v:Ty} {ki:TypeId} (K:Jx P k ki) {x:k.den} {xc:List Value} (hx:Ro P w A k x xc) {es:List MapEntry} {m:List (k.den×v.den)} (h:BB P w A k v (es.map fun e=>(e.key,e.val)) m) :
  (Instr.findKey ki (cg k xc) es).run P w=.ok ((m.findIdx? fun y=>k.eq x y.1).bind fun j=>(es[j]?).map fun e=>(j,e.val)) w:=by
 obtain ⟨d,hu,hd⟩:=Ri K;have ha:=Rh (v:=v) K hx es m 0 h;simp only[bE] at ha;unfold Instr.findKey;simp only[Sem.run_bind,run_underlying hu,Result.andThen_ok]
 cases es with
 | nil=>
  have:m=[]:=bH (by have:=h.1;simpa using this.symm);subst this;simp[Instr.findNow]
 | cons e es=>
  simp only[Instr.findNow,hd];exact ha
theorem Dm {k v:Ty} {m:Md} {y:List (k.den×v.den)} {cs:List Value} {F:FP} (h:an P w A (.map k v) m [] y cs F) :
  k.flat=true/\v.flat=true/\∃ (r:Nat) (es:Array MapEntry) (clock:Nat),cs=[.map (some r)]/\w.heap[r]?=some (.map es clock)/\BB P w A k v (es.toList.map fun e=>(e.key,e.val)) y/\(m.own=true->1<=F r 0):=by
 simp only[an,hole,bT,aG,aL] at h;split at h
 ·rename_i hm;obtain ⟨h1,h2,r,qE,h3,h4,h5,h6,h7⟩:=h;obtain ⟨es,clock,q1,q2⟩:=Qy h4;refine ⟨h1,h2,r,es,clock,h3,q1,?_,fun _=>h5⟩
  have q2:(es.toList.map fun e=>(e.key,e.val))=qE:=q2;rw[q2];exact ⟨h6,h7⟩
 ·rename_i hm;obtain ⟨_,_,h1,h2,r,qE,h3,h4,h5,h6,h7⟩:=h;obtain ⟨es,clock,q1,q2⟩:=Qy h4;refine ⟨h1,h2,r,es,clock,h3,q1,?_,fun e=>absurd e hm⟩
  have q2:(es.toList.map fun e=>(e.key,e.val))=qE:=q2;rw[q2];exact ⟨h6,h7⟩
theorem Rj {α:Type} {k:Ty} (m:List (k.den×α)) (x:k.den):jm k m x=(m.findIdx? fun e=>k.eq x e.1).bind fun j=>(m[j]?).map (·.2):=by
 unfold jm
 induction m with
 | nil=>rfl
 | cons y m ih=>
  simp only[jR,List.findIdx?_cons]
  cases hq:k.eq x y.1 with
  | true=>simp
  | false=>
   simp only[aG,aL];rw[ih];cases m.findIdx? (fun e=>k.eq x e.1) <;> simp
theorem Tg {v:Ty} {i:TypeId} (hz:UQ P v i=true) (hv:bd P v (.inl i)=true) {z:Value} {L:List Value} (h1:(zeroValue i).run P w=.ok z w) (h2:z.cells.toList=L) (hl:L.length=v.sz):z=cg v L:=by
 obtain ⟨inf,i1,i2,i3,i4⟩:=lz (lR hv);unfold UQ at hz;rw[i1] at hz;simp only at hz
 cases Xg:inf.zero with
 | none=>rw[Xg] at hz;cases hz
 | some z0=>
  have:z=z0:=by
   simp[zeroValue,typeInfo,i1,Xg] at h1;exact h1.symm
  subst this;rw[Xg] at hz;unfold cg
  cases ha:isAgg v with
  | true=>
   rw[ha] at hz;cases z <;> simp at hz;simp only[Value.cells] at h2;subst h2;simp
  | false=>
   rw[ha] at hz;have hs:=E8 ha;simp only[aG,aL]
   cases z <;> simp at hz <;> (simp only[Value.cells] at h2;subst h2;rfl)
theorem Th:∀ (t:Ty),t.of=true->∀ {v1 v2:t.den} {oE c9:List Value},Ro P w A t v1 oE->Ro P w A t v2 c9->t.eq v1 v2=true->c9=oE:=by
 intro t
 induction t with
 | int k=>
  intro _ v1 v2 oE c9 h1 h2 he;simp only[Ro] at h1 h2;subst h1;subst h2;have:v1=v2:=by cases k <;> simpa [Ty.eq] using he
  rw[this]
 | bool=>
  intro _ v1 v2 oE c9 h1 h2 he;simp only[Ro] at h1 h2;subst h1;subst h2;have:v1=v2:=by simpa [Ty.eq] using he
  rw[this]
 | str=>
  intro _ v1 v2 oE c9 h1 h2 he;simp only[Ro] at h1 h2;subst h1;subst h2;have:v1=v2:=by simpa [Ty.eq] using he
  rw[this]
 | unit=>
  intro _ v1 v2 oE c9 h1 h2 he;simp only[Ro] at h1 h2;rw[h1,h2]
 | pair a b kN kE=>
  intro hq v1 v2 oE c9 h1 h2 he;simp only[Ty.of,aF] at hq;simp only[Ty.eq,aF] at he;have e1:=kN hq.1 h1.1 h2.1 he.1;have e2:=kE hq.2 h1.2 h2.2 he.2;rw[<-cQ a.sz c9,e1,e2,cQ]
 | arr n e ih=>
  intro hq v1 v2 oE c9 h1 h2 he;obtain ⟨_,l1,c1,r1⟩:=h1;obtain ⟨_,l2,c2,r2⟩:=h2;refine List.ext_getElem (by omega) fun j Rk hj1=>?_
  have hs:0 < e.sz:=by
   rcases bF e.sz with h0 | h0
   ·rw[h0,Nat.mul_zero] at c1;omega
   ·exact h0
  have hi:j / e.sz < n:=by
   rw[gL hs];omega
  have a1:=r1 (j / e.sz) _ (aA (by omega));have a2:=r2 (j / e.sz) _ (aA (by omega))
  have he':e.eq (v1[j / e.sz]'(by omega)) (v2[j / e.sz]'(by omega))=true:=by
   simp only[Ty.eq,cC] at he;exact he (_,_) (gM.2 ⟨j / e.sz,by rw[List.getElem?_zip_eq_some];exact ⟨aA (by omega),aA (by omega)⟩⟩)
  have h3:=ih hq a1 a2 he';have hm:=iP j hs;have hd:=gI j e.sz;have h4:=dB (·[j % e.sz]?) h3;simp only[eW hm,bM] at h4;rw[fR,hd,aA hj1,aA Rk] at h4;exact Option.some.inj h4
 | _=>intro hq;simp[Ty.of] at hq
theorem OZ {k v:Ty} {t:TypeId} (hl:bd P (.map k v) (.inl t)=true) (hz:v.uR=true) {x:k.den} {xc:List Value} (hx:Ro P w A k x xc) {r:Nat} {es:Array MapEntry} {clock:Nat} (hb:w.heap[r]?=some (.map es clock)) {y:List (k.den×v.den)}
  (he:BB P w A k v (es.toList.map fun e=>(e.key,e.val)) y) (ok:Bool) :
  ∃ vc,Ro P w A v (yY (jm k y x) v.zero) vc/\(Instr.lookup t (.map (some r)) (cg k xc) ok).run P w=.ok (if ok then .tuple #[cg v vc,.bool (jm k y x).isSome] else cg v vc) w:=by
 obtain ⟨ki,vi,hu,K,hv,aaj⟩:=HU hl;have hc:=(KE (P:=P) (w:=w) (A:=A) k).1 ki 10000 es.isEmpty x xc K.lay K.qH (by have:=K.dep;omega) hx;have hf:=NQ (v:=v) K hx he;obtain ⟨L,hL⟩:=uh v hz;obtain ⟨z,wT,A5⟩:=xT (P:=P) (w:=w) hv hL;obtain ⟨r1,r2,r3⟩:=zU (P:=P) (w:=w) (A:=A) v hL hv;rw[Rj]
 cases KF:y.findIdx? (fun e=>k.eq x e.1) with
 | none=>
  rw[KF] at hf;simp only[Option.bind_none] at hf ⊢;refine ⟨L,r2,?_⟩
  have Kh:z=cg v L:=Tg aaj hv wT A5 r3;cases ok <;> simp[Instr.lookup,run_underlying hu,MapKept.run_getObj_map hb,hc,hf,wT,Kh]
 | some j=>
  rw[KF] at hf;have hj:j < y.length:=(fN.1 KF).1;obtain ⟨kc,vc,g1,g2,g3⟩:=he.2 j y[j] (aA hj);rw[eK] at g1
  cases Xh:es.toList[j]? with
  | none=>rw[Xh] at g1;cases g1
  | some e=>
   rw[Xh] at g1;simp only[cD,aR,bS] at g1;simp only[Xh,aB,cD,aA hj] at hf ⊢;refine ⟨vc,g3,?_⟩
   cases ok <;> simp[Instr.lookup,run_underlying hu,MapKept.run_getObj_map hb,hc,hf,g1.2]
end
section
variable {P:Program} {C:Ctx} {A:Cells} {X:FP} {σ:St} {a:Act} {w:World} {F:Nat->FP} {R:Type} {x:R} {Q:Exit->Act->World->Prop} {o:Oper} {E:Env}
theorem My (h:du P C A σ a w F) (kS:∀ i T,E.TI i=some T->bd P T (.inl i)=true) {t:Nat} (ho:o.op=.makeMap t none) {K:St->Option R}
  (hk:(pV E t fun t=>match t with
  | .map k v=>if k.flat&&v.flat then K (σ.bY o.dst (.own (.map k v) (am (.map k v)) [] [])) else none
  | _=>none)=some x):o.wp P a w (fun a' w'=>Nx P C K x a' w'/\Ext w w' (fun _ _=>0)) Q:=by
 obtain ⟨T,hT,hk⟩:=fx hk;split at hk
 ·rename_i k v;split at hk
  ·rename_i hc;simp only[aF] at hc
   have f_:(execOp a.eval o).run P w=.ok (.value (.map (some w.heap.size))) (w.alloc (.map #[] 0)):=by
    simp[execOp,ho,run_makeMap_plain]
   have dm:=nG w (.map #[] 0)
   have h1:Rel P C A (fun b i=>0+b_ w.heap.size 0 1 b i) σ a (w.alloc (.map #[] 0)) F:=by
    refine h.grow dm (fun _ _ h=>h) (fun _ _ h=>.inl h) (fun b i=>?_);by_cases hb:b=w.heap.size
    ·subst hb;right;exact ⟨aN _,by simp,by simp only[b_];split <;> omega⟩
    ·left;simp[b_,hb]
   have tM:(w.alloc (.map #[] 0)).heap[w.heap.size]?=some (.map #[] 0):=heap_alloc_new w _;refine ou f_ ⟨pA h1 hk (Fd:=b_ w.heap.size 0 1) ⟨_,(df (.map k v) _ rfl).symm,?_⟩ (fun b i=>by simp) (fun _ _ _ _ e=>by cases e),dm⟩;simp only[an,hole,bT,aG,aL,am,sK,Md.own,aI];refine ⟨hc.1,hc.2,w.heap.size,[],rfl,?_,by simp[b_],rfl,fun i y hy=>by cases hy⟩
   exact Qz tM
  ·cases hk
 ·cases hk
theorem Mz (h:du P C A σ a w F) (kS:∀ i T,E.TI i=some T->bd P T (.inl i)=true) {t:Nat} {y z:Operand} {ok:Bool} (ho:o.op=.lookup t y z ok) (bc:dj P y=true/\dj P z=true) {K:St->Option R}
  (hk:HE E σ t (dr σ y) (dr σ z) ok o.dst K=some x):o.wp P a w (fun a' w'=>Nx P C K x a' w'/\Ext w w' (fun _ _=>0)) Q:=by
 unfold HE at hk;obtain ⟨T,hT,hk⟩:=fx hk;have gf:=kS _ _ hT;split at hk
 ·rename_i k v;split at hk
  ·rename_i hz
   rcases fh h bc.1 with hs | ⟨xs,e⟩
   rotate_left
   ·rw[e] at hk;cases hk
   rcases fh h bc.2 with uW | ⟨xs,e2⟩
   rotate_left
   ·exfalso;rw[e2] at hk;split at hk
    ·split at hk
     ·obtain ⟨_,_,_,_,_,_,_,_,h1,_⟩:=mf h hk;split at h1
      ·obtain ⟨_,h1⟩:=cv h1;cases h1
      ·cases h1
     ·cases hk
    ·cases hk
   split at hk
   ·rename_i r p snap hv;rw[hv] at hs;split at hk
    ·rename_i ov;obtain ⟨hr,t',m',H',v',br,cr,F',h1,uX,h3,h4,h5,h6⟩:=mf h hk;split at h1
     ·rename_i hH;have hH:=bN.1 hH;subst hH;obtain ⟨e1,h1⟩:=cv h1;subst e1;obtain ⟨pl,g1,g2,g3⟩:=hs.2 ov;rw[h3] at g1;injection g1 with g1;subst g1;obtain ⟨f1,f2,b,es,clock,q1,q2,q3,q4⟩:=Dm h4;simp only at g2;subst q1;rw[df (.map k v) _ rfl] at g2;split at h1
      ·rename_i t2 ix NR;rw[NR] at uW;obtain ⟨e2,h1⟩:=cv h1;subst e2;obtain ⟨kc,CC,mB⟩:=uW;obtain ⟨vc,r1,r2⟩:=OZ (P:=P) gf hz mB q2 q3 ok
       have f_:(execOp a.eval o).run P w=.ok (.value (if ok then .tuple #[cg v vc,.bool (jm t2 v' ix).isSome] else cg v vc)) w:=by
        simp[execOp,ho,g2,CC,r2]
       cases ok with
       | true=>
        simp only at h1;refine ou f_ ⟨cj h h1 ⟨#[cg v vc,.bool (jm t2 v' ix).isSome],fun _ _ _=>0,rfl,fun b i=>by rw[nf];exact aN _,fun j y hy=>?_⟩ (fun _ _ _ _ e=>by cases e),Ext.refl _ _⟩
        match j with
        | 0=>simp at hy;subst hy;exact ⟨_,rfl,.inr ⟨vc,rfl,Ro.rep v _ (gm v) r1⟩⟩
        | 1=>simp at hy;subst hy;exact ⟨_,rfl,.inr ⟨[.bool _],rfl,rfl⟩⟩
        | n+2=>simp at hy
       | false=>
        simp only at h1;exact ou f_ ⟨cj h h1 ⟨vc,rfl,r1⟩ (fun _ _ _ _ e=>by cases e),Ext.refl _ _⟩
      ·cases h1
     ·cases h1
    ·cases hk
   ·cases hk
  ·cases hk
 ·cases hk
theorem O0 {r:Nat} {es Gz:Array MapEntry} {clock zs:Nat} (hb:w.heap[r]?=some (.map es clock)):Ext w { w with heap:=w.heap.setIfInBounds r (.map Gz zs) } (b_ r 0 1):=by
 have GA:∀ b,b≠r->(w.heap.setIfInBounds r (.map Gz zs))[b]?=w.heap[b]?:=fun b fw=>by rw[iL (fun e=>fw e.symm)]
 refine ⟨by simp,fun b i hbs hz u hu=>?_,fun b n hn=>?_,fun b i hbs=>?_,rfl,rfl,rfl,fun b hbs hz=>?_,aN _⟩
 ·by_cases GB:b=r
  ·subst GB;by_cases hi:i=0
   ·subst hi;simp[b_] at hz
   ·simp[ce,hb,hi] at hu
  ·rw[wX (GA b GB)];exact hu
 ·obtain ⟨c,e,fr,h1,h2,h3⟩:=hn;have GB:b≠r:=fun e=>by subst e;rw[hb] at h1;cases h1
  exact ⟨c,e,fr,by rw[<-h1];exact GA b GB,h2,h3⟩
 ·by_cases GB:b=r
  ·subst GB;have aj:=(bR.1 hb).1;have he:=(bR.1 hb).2;simp[World.frozen?,aj,he]
  ·have:=GA b GB;simp only[World.frozen?] at *;rw[this]
 ·have GB:b≠r:=fun e=>by subst e;have:=hz 0;simp[b_] at this
  exact GA b GB
theorem O1 {k v:Ty} {t:TypeId} (hl:bd P (.map k v) (.inl t)=true) {x:k.den} {xc:List Value} (hx:Ro P w A k x xc) {z:v.den} {NS:List Value} (hzr:Ro P w A v z NS) {r:Nat} {es:Array MapEntry} {clock:Nat} (hb:w.heap[r]?=some (.map es clock)) {y:List (k.den×v.den)}
  (he:BB P w A k v (es.toList.map fun e=>(e.key,e.val)) y) :
  ∃ (Gz:Array MapEntry) (zs:Nat),(Instr.mapUpdate t (.map (some r)) (cg k xc) (cg v NS)).run P w=.ok () { w with heap:=w.heap.setIfInBounds r (.map Gz zs) }/\BB P w A k v (Gz.toList.map fun e=>(e.key,e.val)) (nP k y x z):=by
 obtain ⟨ki,vi,hu,K,hv,_⟩:=HU hl;have hc:=(KE (P:=P) (w:=w) (A:=A) k).1 ki 10000 false x xc K.lay K.qH (by have:=K.dep;omega) hx;have hf:=NQ (v:=v) K hx he;unfold nP
 cases KF:y.findIdx? (fun e=>k.eq x e.1) with
 | none=>
  rw[KF] at hf;simp only[Option.bind_none] at hf ⊢;refine ⟨es.push { key:=cg k xc,val:=cg v NS,born:=clock },clock+1,?_,?_,fun i q hq=>?_⟩
  ·simp[Instr.mapUpdate,run_underlying hu,MapKept.run_getObj_map hb,hc,hf,MapKept.run_setObj_map _ hb,Result.andThen]
  ·have:=he.1;simp at this ⊢;omega
  ·have hlen:(es.toList.map fun e=>(e.key,e.val)).length=y.length:=he.1;rw[Array.toList_push,gJ];by_cases hi:i < y.length
   ·rw[bW hi] at hq;rw[bW (by rw[hlen];exact hi)];exact he.2 i q hq
   ·have k8:i=y.length:=by
     have:=(aM.1 hq).1;simp at this;omega
    subst k8;rw[bV (aN _),Nat.sub_self] at hq;rw[bV (by rw[hlen];exact aN _),hlen,Nat.sub_self];simp at hq;subst hq;exact ⟨xc,NS,rfl,hx,hzr⟩
 | some j=>
  rw[KF] at hf;have hfj:=fN.1 KF;have hj:j < y.length:=hfj.1;obtain ⟨kc,vc,g1,g2,g3⟩:=he.2 j y[j] (aA hj);rw[eK] at g1;have hlen:es.size=y.length:=by have:=he.1;simpa using this
  have vT:es.toList[j]?=some es[j]:=by simp[hlen,hj]
  rw[vT] at g1;simp only[cD,aR,bS] at g1;simp only[aB] at hf ⊢;rw[vT] at hf;simp only[cD] at hf
  have aak:k.eq x (y[j]).1=true:=by
   have h1:=hfj.2;have h2:y.findIdx (fun e=>k.eq x e.1) < y.length:=by rw[h1];exact hj
   have:=List.findIdx_getElem (xs:=y) (p:=fun e=>k.eq x e.1) (w:=h2);simp only[h1] at this;exact this
  have YY:cg k kc=cg k xc:=by
   have:=Th k K.of hx g2 aak;rw[this]
  have Eh:(Instr.keyThatStays (cg k xc) (cg k xc)).run P w=.ok (cg k xc) w:=by
   simp[Instr.keyThatStays,Rg K.agg K.of hx]
  have ua:(es[j]?).map (·.key)=some (cg k xc):=by
   have:es[j]?=some es[j]:=by rw[cN (by omega)]
   rw[this,cD,g1.1,YY]
  refine ⟨es.modify j fun e=>{ e with key:=cg k xc,val:=cg v NS },clock,?_,?_,fun i q hq=>?_⟩
  ·simp[Instr.mapUpdate,run_underlying hu,MapKept.run_getObj_map hb,hc,hf,ua,Eh,MapKept.run_setObj_map _ hb,Result.andThen]
  ·simp[hlen]
  ·rw[fH] at hq;rw[eK,dE,dQ];by_cases oD:j=i
   ·subst oD;rw[aU rfl,aU hj] at hq;injection hq with hq;subst hq;rw[aU rfl,cN (by omega)];exact ⟨xc,NS,rfl,hx,hzr⟩
   ·rw[bA oD] at hq ⊢;have:=he.2 i q hq;rw[eK,dE] at this;exact this
theorem HV (h:du P C A σ a w F) (kS:∀ i T,E.TI i=some T->bd P T (.inl i)=true) {t:Nat} {y z u:Operand} (ho:o.op=.mapUpdate t y z u) (hd:o.dst=none) (bc:dj P y=true/\dj P z=true/\dj P u=true) {K:St->Option R}
  (hk:HF E σ t (dr σ y) (dr σ z) (dr σ u) K=some x):o.wp P a w (Nx P C K x) Q:=by
 unfold HF at hk;obtain ⟨T,hT,hk⟩:=fx hk;have gf:=kS _ _ hT;split at hk
 ·rename_i k v
  rcases fh h bc.1 with hs | ⟨xs,e⟩
  rotate_left
  ·rw[e] at hk;cases hk
  split at hk
  ·rename_i r p snap hv;rw[hv] at hs;split at hk
   ·rename_i ov;obtain ⟨hr,t',m',H',v',br,cr,F',h1,uX,h3,h4,h5,h6⟩:=mf h hk;split at h1
    ·rename_i hH;simp only[aF,bN] at hH;obtain ⟨fu,hH⟩:=hH;subst hH;obtain ⟨e1,h1⟩:=cv h1;subst e1;obtain ⟨pl,g1,g2,g3⟩:=hs.2 ov;rw[h3] at g1;injection g1 with g1;subst g1;split at h1
     ·rename_i t2 ix t3 uv NR huv
      have uW:cu P A σ a w (a.eval z) (.val t2 ix) (fun _ _=>0):=by
       rcases fh h bc.2.1 with uW | ⟨xs,e2⟩
       ·rw[NR] at uW;exact uW
       ·rw[NR] at e2;cases e2
      have hs3:cu P A σ a w (a.eval u) (.val t3 uv) (fun _ _=>0):=by
       rcases fh h bc.2.2 with uW | ⟨xs,e2⟩
       ·rw[huv] at uW;exact uW
       ·rw[huv] at e2;cases e2
      obtain ⟨e2,h1⟩:=cv h1;subst e2;obtain ⟨e3,h1⟩:=cv h1;subst e3;obtain ⟨kc,CC,mB⟩:=uW;obtain ⟨uc,hu1,mC⟩:=hs3;obtain ⟨hr,m2,H2,v2,c9,wl,F2,q1,q2,q3,q4,q5,q6⟩:=A4 h h1;obtain ⟨_,e2,e3,e4⟩:=At.inj ⟨uX⟩ q1;subst e2;subst e3;have e4:=iA e4;subst e4;rw[h3] at q2;injection q2 with q2;injection q2 with q21 q22 q23 q24;subst q23;subst q24;have fa:=q3;obtain ⟨f1,f2,b,es,clock,b1,b2,b3,b4⟩:=Dm q3;have b4:=b4 fu;simp only at g2;subst b1;rw[df (.map t2 t3) _ rfl] at g2;obtain ⟨Gz,zs,r1,r2⟩:=O1 (P:=P) gf mB mC b2 b3;generalize wr:({ w with heap:=w.heap.setIfInBounds b (.map Gz zs) }:World)=w2 at r1;have dm:Ext w w2 (b_ b 0 1):=by rw[<-wr];exact O0 b2
      have yf:∀ b i,F r b i<=1:=fun b i=>by have:=h.o5 b i;have:=c7 F hr b i;omega
      have f_:(execOp a.eval o).run P w=.ok .skip w2:=by
       simp[execOp,ho,g2,CC,hu1,r1]
      refine Kg f_ hd ?_
      have hA:∀ b' i,A b' i->∀ u,ce w b' i=some u->ce w2 b' i=some u:=fun b' i ha u hu=>by
       refine dm.cell b' i (h.kO b' i (.inr ha)) ?_ u hu;rcases bF (b_ b 0 1 b' i) with h0 | h0
       ·exact h0
       ·have:b'=b/\i=0:=by
         simp only[b_] at h0;split at h0
         ·omega
         ·omega
        obtain ⟨rfl,rfl⟩:=this;exact absurd ha (h.pW b' 0 (by have:=q4 b' 0;have:=c7 F hr b' 0;omega))
      have tM:ce w2 b 0=some (Bm (entriesOf Gz)):=by
       rw[<-wr];exact Qz (clock:=zs) (by simp[(bR.1 b2).1])
      have Ed:an P w2 A (.map t2 t3) m' [] (nP t2 v' ix uv) [.map (some b)] F2:=by
       simp only[an,hole,bT,aG,aL,fu,aI];refine ⟨f1,f2,b,entriesOf Gz,rfl,tM,b4,r2.1,fun i q hq=>?_⟩
       obtain ⟨kc',vc',j1,j2,j3⟩:=r2.2 i q hq;exact ⟨kc',vc',j1,Ro.mono hA (fun _ _ h=>h) t2 j2,Ro.mono hA (fun _ _ h=>h) t3 j3⟩
      have KG:∀ b' i,b_ b 0 1 b' i<=F2 b' i:=fun b' i=>by
       simp only[b_];split
       ·rename_i hc;obtain ⟨rfl,zV,vQ⟩:=hc;have:i=0:=by omega
        subst this;exact b4
       ·exact aW _
      have xS:∀ b' o',cr=some (b',o')->Has w2 b' o' [.map (some b)]:=fun b' o' ea j u hu=>by
       have hh1:=(q5 b' o' ea).1 j u hu;have hj:=(aM.1 hu).1;have W_:j=0:=by simpa using hj
       subst W_;have h2:=q4 b' (o'+0);have h4:=KG b' (o'+0);have h5:=yf b' (o'+0);have h7:=c7 F hr b' (o'+0)
       have h6:je cr (Ty.map t2 t3).sz b' (o'+0)=1:=by
        subst ea;simp[je,b_,Ty.sz]
       exact dm.cell _ _ (h.kO b' (o'+0) (.inl (by show 1<=0+_;omega))) (by omega) u hh1
      obtain ⟨A3,yj,Fr,n1,n2,n3,n4,n5⟩:=q6 w2 A [.map (some b)] F2 (fun _ _=>0) (dm.mono fun b' i hz=>by
        have hz:0+(F2 b' i+je cr (Ty.map t2 t3).sz b' i)=0:=hz
        have h2:=KG b' i;omega) (fun _ _ h=>h) (fun _ _ h=>.inl h) (fun b i=>by omega) xS (fun _=>rfl) Ed
      refine ⟨_,n1,A3,_,n5 v7 (xi (h.mo r)) (C7 (h.mo r)) rfl fun p' snap hb bc hlen=>?_⟩
      have h5:=E7 (h.mo r) hb bc;refine ⟨dh p'+1,False,by omega,fun _=>.inl (by omega),fun _=>by omega,?_⟩
      intro q pl hq hp
      cases q with
      | nil=>
       simp only[bh,aR] at hp;subst hp;exact ⟨_,_,rfl,fun _=>rfl⟩
      | cons s q=>cases s <;> simp[bh] at hp
     ·cases h1
    ·cases h1
   ·cases hk
  ·cases hk
 ·cases hk
theorem MA (h:du P C A σ a w F) (kS:∀ i T,E.TI i=some T->bd P T (.inl i)=true) {t:Nat} {y:Operand} (ho:o.op=.call { callee:=.builtin .len,args:=#[y],argTypes:=#[t] }) (bc:dj P y=true) {K:St->Option R}
  (hk:HG E σ t (dr σ y) (fun n=>K (σ.bY o.dst (.val (.int .i64) (n:Int))))=some x):o.wp P a w (Nx P C K x) Q:=by
 unfold HG at hk;obtain ⟨T,hT,hk⟩:=fx hk;have gf:=kS _ _ hT;split at hk
 ·rename_i k v
  rcases fh h bc with hs | ⟨xs,e⟩
  rotate_left
  ·rw[e] at hk;cases hk
  split at hk
  ·rename_i r p snap hv;rw[hv] at hs;split at hk
   ·rename_i ov;obtain ⟨hr,t',m',H',v',br,cr,F',h1,uX,h3,h4,h5,h6⟩:=mf h hk;split at h1
    ·rename_i hH;have hH:=bN.1 hH;subst hH;obtain ⟨e1,h1⟩:=cv h1;subst e1;obtain ⟨pl,g1,g2,g3⟩:=hs.2 ov;rw[h3] at g1;injection g1 with g1;subst g1;obtain ⟨f1,f2,b,es,clock,q1,q2,q3,q4⟩:=Dm h4;simp only at g2;subst q1;rw[df (.map k v) _ rfl] at g2;obtain ⟨ki,vi,hu,_,_,_⟩:=HU gf;have hlen:es.size=List.length v':=by have:=q3.1;simpa using this
     have f_:(execOp a.eval o).run P w=.ok (.value (.int .i64 ((List.length v':Nat):Int))) w:=by
      rw[zk ho];simp[Builtin.len_,g2,run_underlying hu,MapKept.run_getObj_map q2,goInt,hlen]
     exact ou f_ (cj h h1 ⟨[.int .i64 _],rfl,rfl⟩ (fun _ _ _ _ e=>by cases e))
    ·cases h1
   ·cases hk
  ·cases hk
 ·cases hk
end
end OT
namespace OT
open Go
structure sQ (P:Program) (E:Env):Prop where
 ti:∀ i T,E.TI i=some T->bd P T (.inl i)=true
 eq:UZ P E
 fn:∀ f g,E.G f=some g->Sound P f g/\tH P f g.cap
def O2 (P:Program) (t:TypeId):Bool:=match P.underlying t with
 | some (.slice _)=>true
 | some .string=>true
 | _=>false
theorem GC {P:Program} {t:TypeId} (h:O2 P t=true):(∃ e',P.underlying t=some (.slice e'))\/P.underlying t=some .string:=by
 unfold O2 at h;split at h
 ·rename_i e he;exact .inl ⟨e,he⟩
 ·rename_i he;exact .inr he
 ·cases h
def KH (P:Program) (c:Call):Bool:=match c.callee with
 | .builtin .append | .builtin .copy=>match c.argTypes.toList with
  | [_,tx]=>O2 P tx
  | _=>false
 | _=>true
def rt (P:Program):Op->Bool
 | .move x | .assign x | .nilCheck x | .box _ x | .load _ x | .unOp _ _ x | .convert _ _ x | .fieldAddr _ x _ | .field _ x _=>dj P x
 | .pick c a b=>dj P c&&dj P a&&dj P b
 | .mapUpdate _ m k v=>dj P m&&dj P k&&dj P v
 | .lookup _ a x _ | .store _ a x | .binOp _ _ a x _ | .indexAddr _ a x | .index _ a x | .makeSlice _ a x=>dj P a&&dj P x
 | .build _ ps | .buildSlice _ _ ps=>ps.toList.all fun p=>dj P p.2
 | .slice _ x lo hi _=>dj P x&&lo.all (dj P)&&hi.all (dj P)
 | .makeFunc (.func f) _ cs=>(P.funcs[f]?).any fun fn=>fn.nfree == cs.size
 | .call c=>c.args.toList.all (dj P)&&KH P c
 | _=>true
section
variable {P:Program} {C:Ctx} {A:Cells} {X:FP} {σ:St} {a:Act} {w:World} {F:Nat->FP} {R:Type} {x:R} {Q:Exit->Act->World->Prop} {o:Oper} {E:Env}
theorem xF {α:Type} {l:Array α} {m:List α} (h:l.toList=m):l=m.toArray:=by apply eX;simpa using h
def u0 (E:Env):Op->Bool
 | .move _ | .assign _ | .pick .. | .build .. | .load .. | .nilCheck _ | .binOp .. | .unOp .. | .fieldAddr .. | .field .. | .indexAddr .. | .index .. | .slice .. | .extract .. | .makeFunc ..=>true
 | .convert _ t _=>match E.TI t with
  | some T=>T.flat
  | none=>false
 | .call c=>match c.callee with
  | .builtin .len=>match c.argTypes.toList with
   | [t]=>!Qv (E.TI t)
   | _=>false
  | _=>false
 | _=>false
theorem Jy (hE:sQ P E) (h:du P C A σ a w F) {gk i:Nat} (c6:rt P o.op=true) (ng:u0 E o.op=true) {K:St->Option R} (hk:rm E gk i o σ K=some x):Tk P o a w (Nx P C K x):=by
 unfold rm at hk
 cases ho:o.op with
 | move y=>rw[ho] at hk c6;exact QO h ho c6 hk
 | assign y=>rw[ho] at hk c6;exact Mt h ho c6 hk
 | pick c y z=>
  rw[ho] at hk c6;simp only[rt,aF] at c6;exact QP h ho ⟨c6.1.1,c6.1.2,c6.2⟩ hk
 | build t ps=>rw[ho] at hk c6;exact OR h hE.ti ho c6 hk
 | load t y=>rw[ho] at hk c6;exact QQ h hE.ti ho c6 hk
 | nilCheck y=>rw[ho] at hk c6;exact Jh h ho c6 hk
 | binOp op t y z t2=>
  rw[ho] at hk c6;simp only[rt,aF] at c6;exact ON h hE.ti hE.eq ho c6 hk
 | unOp op t y=>
  rw[ho] at hk c6;refine QX h ho c6 (K:=K) ?_;clear c6 ng
  revert hk
  simp only;generalize dr σ y=s
  cases op <;> cases s <;> first
   | exact id
   | (rename_i t v;cases t <;> exact id)
 | convert s t y=>
  rw[ho] at hk c6 ng;refine Ko h hE.ti ho c6 (fun T hT=>?_) hk;simp only[u0,hT] at ng;exact ng
 | fieldAddr t y j=>rw[ho] at hk c6;exact HO h hE.ti ho c6 hk
 | field t y j=>rw[ho] at hk c6;exact OK h hE.ti ho c6 hk
 | indexAddr t y z=>
  rw[ho] at hk c6;simp only[rt,aF] at c6;exact HP h hE.ti ho c6 hk
 | index t y z=>
  rw[ho] at hk c6;simp only[rt,aF] at c6;exact OL h hE.ti ho c6 hk
 | slice t y lo hi mx=>
  rw[ho] at hk c6
  cases mx with
  | none=>
   simp only[rt,aF] at c6;refine OM h hE.ti ho ⟨c6.1.1,fun z hz=>?_,fun z hz=>?_⟩ hk
   ·have:=c6.1.2;rw[hz] at this;exact this
   ·have:=c6.2;rw[hz] at this;exact this
  | some m=>cases hk
 | extract y j=>
  rw[ho] at hk
  cases y with
  | tmp i=>exact Kq h ho hk
  | _=>cases hk
 | makeFunc fn first cs=>
  rw[ho] at hk c6
  cases fn with
  | func f=>exact Jl h ho c6 hk
  | _=>cases hk
 | call c=>
  rw[ho] at hk c6 ng;simp only[rt,aF] at c6;obtain ⟨lc,hc⟩:=c6;obtain ⟨callee,args,ts⟩:=c
  cases callee with
  | builtin b=>
   cases b with
   | len=>
    simp only at hk;split at hk
    ·rename_i y t h1 h2;have e1:=xF h1;have e2:=xF h2
     subst e1;subst e2;simp only[eF,aF] at lc;simp only[u0,cM] at ng;rw[ng] at hk;exact S8 h hE.ti ho lc.1 hk
    ·cases hk
   | _=>simp[u0] at ng
  | _=>simp[u0] at ng
 | _=>rw[ho] at ng;simp[u0] at ng
def quiet (E:Env):Op->Bool
 | .alloc _ | .box .. | .buildSlice .. | .makeSlice .. | .convert .. | .makeMap .. | .lookup ..=>true
 | .call c=>match c.callee with
  | .value (.func f)=>match E.G f with
   | some g=>wt g.ps
   | none=>false
  | _=>false
 | _=>false
theorem Rl (hE:sQ P E) (h:du P C A σ a w F) {gk i:Nat} (c6:rt P o.op=true) (ng:u0 E o.op=false) {K:St->Option R} (hk:rm E gk i o σ K=some x) :
  o.wp P a w (fun a' w'=>Nx P C K x a' w'/\(quiet E o.op=true->Ext w w' (fun _ _=>0))) Q:=by
 have wq:∀ {N:Act->World->Prop},o.wp P a w (fun a' w'=>N a' w'/\Ext w w' (fun _ _=>0)) Q->o.wp P a w (fun a' w'=>N a' w'/\(quiet E o.op=true->Ext w w' (fun _ _=>0))) Q:=fun h=>Oper.wp_mono (fun a' w' h=>⟨h.1,fun _=>h.2⟩) h;have wn:∀ {N:Act->World->Prop},quiet E o.op=false->o.wp P a w N Q->o.wp P a w (fun a' w'=>N a' w'/\(quiet E o.op=true->Ext w w' (fun _ _=>0))) Q:=fun hq h=>Oper.wp_mono (fun a' w' h=>⟨h,fun e=>by rw[hq] at e;cases e⟩) h;unfold rm at hk
 cases ho:o.op with
 | alloc t=>rw[ho] at hk;rw[<-ho];exact wq (Q6 h hE.ti ho hk)
 | box t y=>rw[ho] at hk c6;rw[<-ho];exact wq (V2 h ho c6 hk)
 | buildSlice t n ps=>rw[ho] at hk c6;rw[<-ho];exact wq (HR h hE.ti ho c6 hk)
 | store t y z=>
  rw[ho] at hk c6;simp only[rt,aF] at c6;rw[<-ho];refine wn (by rw[ho];rfl) ?_
  cases hd:o.dst with
  | none=>rw[hd] at hk;exact OH h hE.ti ho hd c6 hk
  | some d=>rw[hd] at hk;cases hk
 | convert s t y=>rw[ho] at hk c6;rw[<-ho];exact wq (Ms h hE.ti ho c6 hk)
 | makeMap t rv=>
  rw[ho] at hk;rw[<-ho]
  cases rv with
  | none=>exact wq (My h hE.ti ho hk)
  | some _=>cases hk
 | lookup t y z ok=>
  rw[ho] at hk c6;simp only[rt,aF] at c6;rw[<-ho];exact wq (Mz h hE.ti ho c6 hk)
 | mapUpdate t y z u=>
  rw[ho] at hk c6;simp only[rt,aF] at c6;rw[<-ho];refine wn (by rw[ho];rfl) ?_
  cases hd:o.dst with
  | none=>rw[hd] at hk;exact HV h hE.ti ho hd ⟨c6.1.1,c6.1.2,c6.2⟩ hk
  | some d=>rw[hd] at hk;cases hk
 | makeSlice t y z=>
  rw[ho] at hk c6;simp only[rt,aF] at c6;rw[<-ho];exact wq (Jj h hE.ti ho c6 hk)
 | call c=>
  rw[ho] at hk c6 ng;simp only[rt,aF] at c6;obtain ⟨lc,hc⟩:=c6;obtain ⟨callee,args,ts⟩:=c;rw[<-ho]
  cases callee with
  | builtin b=>
   cases b with
   | len=>
    simp only at hk;split at hk
    ·rename_i y t h1 h2;have e1:=xF h1;have e2:=xF h2
     subst e1;subst e2;simp only[eF,aF] at lc;simp only[u0,Bool.not_eq_false'] at ng;rw[ng] at hk;exact wn (by rw[ho];rfl) (MA h hE.ti ho lc.1 hk)
    ·cases hk
   | append=>
    simp only at hk;split at hk
    ·rename_i y z t ts' h1 h2;have e1:=xF h1;subst e1;simp only[KH] at hc;split at hc
     ·rename_i t0 tx h3;rw[h3] at h2;injection h2 with h2 h4;subst h2;have e2:=xF h3;subst e2;simp only[eF,aF] at lc;exact wn (by rw[ho];rfl) (step_append h hE.ti ho ⟨lc.1,lc.2.1⟩ (GC hc) hk)
     ·cases hc
    ·cases hk
   | copy=>
    simp only at hk;split at hk
    ·rename_i y z t ts' h1 h2;have e1:=xF h1;subst e1;simp only[KH] at hc;split at hc
     ·rename_i t0 tx h3;rw[h3] at h2;injection h2 with h2 h4;subst h2;have e2:=xF h3;subst e2;simp only[eF,aF] at lc;exact wn (by rw[ho];rfl) (Rb h hE.ti ho ⟨lc.1,lc.2.1⟩ (GC hc) hk)
     ·cases hc
    ·cases hk
   | _=>cases hk
  | value y=>
   cases y with
   | func f=>
    simp only at hk;split at hk
    ·rename_i g hg;split at hk
     ·rename_i k_;obtain ⟨h1,h2⟩:=hE.fn f g hg;rw[k_] at h2;refine Oper.wp_mono (fun a' w' h=>⟨h.1,fun e=>h.2 ?_⟩) (Mv h ho lc h1 h2 hk);rw[ho] at e;simp only[quiet,hg] at e;exact e
     ·cases hk
    ·cases hk
   | tmp i=>
    refine wn (by rw[ho];rfl) ?_;simp only at hk;split at hk
    ·rename_i f n oq;split at hk
     ·rename_i g hg;obtain ⟨h1,h2⟩:=hE.fn f g hg;refine Oper.wp_mono (fun a' w' h=>h.1) (Mw h ho lc oq h1 h2 (K:=K) (x:=x) ?_)
      cases k_:g.cap with
      | true=>rw[k_] at hk;exact hk
      | false=>rw[k_] at hk;exact hk
     ·cases hk
    ·cases hk
   | _=>cases hk
  | _=>cases hk
 | _=>rw[ho] at hk ng;first | (cases hk;done) | (simp[u0] at ng;done)
theorem V_ (hE:sQ P E) (h:du P C A σ a w F) {gk i:Nat} (c6:rt P o.op=true) {K:St->Option R} (hk:rm E gk i o σ K=some x):o.wp P a w (Nx P C K x) Q:=by
 cases ng:u0 E o.op with
 | true=>exact (Jy hE h c6 ng hk).wp
 | false=>exact Oper.wp_mono (fun a' w' h=>h.1) (Rl hE h c6 ng hk)
end
end OT
namespace OT
open Go
noncomputable def xG (E:Env):Op->Option Slot
 | .alloc t=>match E.TI t with
  | some T=>if T.uR then some (.box T (am T) [] T.zero) else none
  | none=>none
 | .buildSlice t n ps=>match E.TI t with
  | some (.U e)=>if Nat.beq n 0&&Nat.beq ps.size 0&&e.uR then some (.own (.U e) (.U true (am e)) [] []) else none
  | _=>none
 | _=>none
section
variable {P:Program} {C:Ctx} {A:Cells} {X:FP} {σ:St} {a:Act} {w:World} {F:Nat->FP} {R:Type} {x:R} {Q:Exit->Act->World->Prop} {o:Oper} {E:Env}
theorem Ti {s:Slot} (hs:xG E o.op=some s) {gk i:Nat} {K:St->Option R}:rm E gk i o σ K=K (σ.bY o.dst s):=by
 unfold xG at hs;split at hs
 ·rename_i t ho;unfold rm;simp only[ho];split at hs
  ·rename_i T hT;split at hs
   ·rename_i hz;injection hs with hs;simp only[pV,hT,hz,aI,hs]
   ·cases hs
  ·cases hs
 ·rename_i t n ps ho;unfold rm;simp only[ho];split at hs
  ·rename_i e hT;split at hs
   ·rename_i hc;injection hs with hs;simp only[aF,eI] at hc;obtain ⟨⟨h1,h2⟩,hz⟩:=hc;subst h1;have ui:ps=#[]:=fF h2;subst ui;simp[pV,hT,hz,E2,hs]
   ·cases hs
  ·cases hs
 ·cases hs
theorem Rm {N:Act->World->Prop} (hh:o.wp P a w N Q):o.wp P a w (fun a' w'=>(∀ d,o.dst≠some d->tmp a' d=tmp a d)/\N a' w') Q:=by
 have key:∀ (a0:Act) v,a0.tmps=a.tmps->∀ d,o.dst≠some d->tmp (a0.put o.dst v) d=tmp a d:=fun a0 v h0 d hd=>by
  unfold tmp Act.put
  cases ho:o.dst with
  | none=>simp[h0]
  | some e=>
   have:e≠d:=fun h=>hd (by rw[ho,h]);simp only[h0];simp[iT,this]
 unfold Oper.wp at *;generalize (execOp a.eval o).run P w=r at *
 cases r with
 | ok n w'=>
  cases n <;> simp only[Oper.upon] at hh ⊢ <;>
   first
    | exact ⟨key _ _ rfl,hh⟩
    | exact Calls.mono hh (fun e w'' he=>by cases e <;> first | exact ⟨key _ _ rfl,he⟩ | exact he)
    | exact Rows.mono hh (fun _ _ he=>⟨key _ _ rfl,he⟩)
 | halt x w'=>cases x <;> simp only[Oper.upon] at hh ⊢ <;> exact hh
theorem IJ {d:Nat} (h:HI σ d=true):d < σ.n/\σ.get d=.dead/\(∀ k,(d,k,false) ∉ σ.aT)/\∀ r p snap,(d,r,p,snap) ∉ σ.gh:=by
 unfold HI at h;simp only[aF,cM,gR] at h;obtain ⟨⟨⟨h1,h2⟩,h3⟩,h4⟩:=h;refine ⟨h1,?_,fun k hm=>?_,fun r p snap hm=>?_⟩
 ·split at h2
  ·assumption
  ·cases h2
 ·revert h3 hm
  generalize σ.aT=l
  induction l with
  | nil=>intro h3 hm;cases hm
  | cons e l ih=>
   obtain ⟨k1,n1,b1⟩:=e;intro h3 hm;simp only[Bf,iQ] at h3;rcases aY.1 hm with hm | hm
   ·injection hm with e1 e2;injection e2 with e2 e3;subst e1;subst e3;simp at h3
   ·exact ih h3.2 hm
 ·rw[jI] at h4;exact h4 _ hm (by simp)
theorem Rel.tmp (h:Rel P C A X σ a w F) {d:Nat} (hp:HI σ d=true) (v:Value):Rel P C A X σ (a.put (some d) v) w F:=by
 obtain ⟨hd,hg,hl,QI⟩:=IJ hp;have kt:=h.size
 have ht:∀ i,i≠d->OT.tmp (a.put (some d) v) i=OT.tmp a i:=fun i hi=>by
  rw[ot,bA (fun h=>hi h.1.symm)]
 have ip:∀ r p,place σ (a.put (some d) v) w r p=place σ a w r p:=fun r p=>by
  unfold place;by_cases hr:r=d
  ·subst hr;rw[hg];rfl
  ·rw[ht r hr]
 have nF:wZ σ a w σ (a.put (some d) v) w:=fun r p snap hb=>⟨hb,fun bc=>⟨bc,fun _ pl hp=>⟨pl.H,pl.cs,by rw[ip];exact hp,fun _=>rfl⟩⟩⟩
 refine { h with size:=by simp[Act.put,kt],defers:=by simpa [Act.put] using h.defers,im:=fun i hi=>?_,gh:=fun d' r p snap hm=>?_,oA:=fun j k hm=>?_,whole:=fun r t m H v' hr hk=>?_,nw:=fun j k hm R hR=>?_ }
 ·by_cases hid:i=d
  ·subst hid;rw[hg];trivial
  ·rw[ht i hid];exact cu.mY nF (fun _ _ h=>h) (fun _ _ _ _ h=>h) (fun _ _ h=>h) (fun _ _ _=>⟨fun _ h=>h,rfl⟩) (h.im i hi)
 ·rw[ht d' (fun e=>by subst e;exact QI _ _ _ hm)];exact qT.mY nF (h.gh d' r p snap hm)
 ·rw[ht j (fun e=>by subst e;exact hl _ hm)];exact h.oA j k hm
 ·rw[ht r (fun e=>by subst e;rw[hg] at hr;cases hr)];exact h.whole r t m H v' hr hk
 ·have:j≠d:=fun e=>by subst e;rw[hg] at hR;cases hR
  rw[ht j this] at hR;exact h.nw j k hm R hR
def PS (P:Program) (A:Cells) (w:World) (tv:Value):Slot->FP->Prop
 | .own t m H v,F=>∃ cs,tv=cg t cs/\an P w A t m H v cs F
 | .box t m H v,F=>∃ b L F1,tv=.pointer (some ⟨b,0,none⟩)/\L.length=t.sz/\Has w b 0 L/\(∀ j,j < t.sz->w.frozen? ⟨b,j,none⟩=false) /\
   (∀ x i,b_ b 0 t.sz x i+F1 x i<=F x i)/\an P w A t m H v L F1/\gc w b (t.sz,false)
 | _,_=>False
theorem PS.slot {tv:Value} {s:Slot} {G:FP} (h:PS P A w tv s G):cu P A σ a w tv s G:=by
 cases s with
 | own t m H v=>exact h
 | box t m H v=>
  obtain ⟨b,L,F1,h1,h2,h3,h4,h5,h6,h7⟩:=h;exact ⟨b,0,L,F1,h1,h2,h3,fun j hj=>by rw[bE];exact h4 j hj,h5,h6⟩
 | _=>exact h.elim
theorem PS.whole {tv:Value} {s:Slot} {G:FP} (h:PS P A w tv s G):∀ t m H v',s=.box t m H v'->∃ b,tv=.pointer (some ⟨b,0,none⟩)/\gc w b (t.sz,false):=by
 rintro t m H v rfl;obtain ⟨b,L,F1,h1,h2,h3,h4,h5,h6,h7⟩:=h;exact ⟨b,h1,h7⟩
theorem PS.mY {A':Cells} {w':World} {tv:Value} {s:Slot} {G:FP} (hA:∀ b i,A b i->A' b i) (hc:∀ b i,A b i->∀ u,ce w b i=some u->ce w' b i=some u) (hb:∀ b n,gc w b n->gc w' b n)
  (hF:∀ b i,1<=G b i->(∀ u,ce w b i=some u->ce w' b i=some u)/\w'.frozen? ⟨b,i,none⟩=w.frozen? ⟨b,i,none⟩) (h:PS P A w tv s G):PS P A' w' tv s G:=by
 cases s with
 | own t m H v=>obtain ⟨cs,h1,h2⟩:=h;exact ⟨cs,h1,an.mono hA hc hb t h2 (fun _ _=>aN _) (fun b i hp=>(hF b i hp).1)⟩
 | box t m H v=>
  obtain ⟨b,L,F1,h1,h2,h3,h4,h5,h6,h7⟩:=h
  have hr:∀ j,j < t.sz->1<=G b j:=fun j hj=>by
   have:=h5 b j;simp[b_,hj] at this;omega
  exact ⟨b,L,F1,h1,h2,fun j u hu=>(hF _ _ (by rw[bE];exact hr j (h2 ▸ (aM.1 hu).1))).1 u (h3 j u hu),fun j hj=>by rw[(hF _ _ (hr j hj)).2];exact h4 j hj,h5,
   an.mono hA hc hb t h6 (fun _ _=>aN _) (fun b i hp=>(hF b i (by have:=h5 b i;omega)).1),hb _ _ h7⟩
 | _=>exact h.elim
def PF (P:Program) (E:Env) (ops:Array Oper) (A:Cells) (a:Act) (w:World):List Nat->FP->Prop
 | [],_=>True
 | j::D,X=>∃ (o:Oper) (d:Nat) (s:Slot) (Fj X':FP),ops[j]?=some o/\o.dst=some d/\xG E o.op=some s/\PS P A w (tmp a d) s Fj/\(∀ b i,X' b i+Fj b i<=X b i)/\PF P E ops A a w D X'
theorem PF.mY {ops:Array Oper} {A':Cells} {a':Act} {w':World} (hA:∀ b i,A b i->A' b i) (hc:∀ b i,A b i->∀ u,ce w b i=some u->ce w' b i=some u) (hb:∀ b n,gc w b n->gc w' b n) :
  ∀ (D:List Nat) {X:FP},(∀ j ∈ D,∀ o d,ops[j]?=some o->o.dst=some d->tmp a' d=tmp a d)->(∀ b i,1<=X b i->(∀ u,ce w b i=some u->ce w' b i=some u)/\w'.frozen? ⟨b,i,none⟩=w.frozen? ⟨b,i,none⟩) ->
   PF P E ops A a w D X->PF P E ops A' a' w' D X
 | [],_,_,_,_=>trivial
 | j::D,X,ht,hF,h=>by
  obtain ⟨o,d,s,Fj,X',h1,h2,h3,h4,h5,h6⟩:=h
  exact ⟨o,d,s,Fj,X',h1,h2,h3,by
   rw[ht j (by simp) o d h1 h2]
   exact PS.mY hA hc hb (fun b i hp=>hF b i (by have:=h5 b i;omega)) h4,h5,PF.mY hA hc hb D (fun k hk=>ht k (by simp[hk])) (fun b i hp=>hF b i (by have:=h5 b i;omega)) h6⟩
theorem PF.grow {ops:Array Oper}:∀ (D:List Nat) {X X1:FP},(∀ b i,X b i<=X1 b i)->PF P E ops A a w D X->PF P E ops A a w D X1
 | [],_,_,_,_=>trivial
 | j::D,X,X1,hx,h=>by
  obtain ⟨o,d,s,Fj,X',h1,h2,h3,h4,h5,h6⟩:=h;exact ⟨o,d,s,Fj,X',h1,h2,h3,h4,fun b i=>bJ (h5 b i) (hx b i),h6⟩
theorem PF.take {ops:Array Oper} {j:Nat}:∀ (D:List Nat) {X:FP},j ∈ D->PF P E ops A a w D X ->
  ∃ (o:Oper) (d:Nat) (s:Slot) (Fj X':FP),ops[j]?=some o/\o.dst=some d/\xG E o.op=some s/\PS P A w (tmp a d) s Fj/\(∀ b i,X' b i+Fj b i<=X b i)/\PF P E ops A a w (D.erase j) X'
 | [],_,hj,_=>by cases hj
 | k::D,X,hj,h=>by
  by_cases zW:k=j
  ·subst zW;rw[List.erase_cons_head];exact h
  ·have vM:j ∈ D:=by
    rcases aY.1 hj with e | e
    ·exact absurd e.symm zW
    ·exact e
   obtain ⟨o,d,s,Fk,X1,h1,h2,h3,h4,h5,h6⟩:=h;obtain ⟨o',d',s',Fj,X2,g1,g2,g3,g4,g5,g6⟩:=PF.take D vM h6;rw[List.erase_cons_tail (by simpa using zW)];exact ⟨o',d',s',Fj,fun b i=>X2 b i+Fk b i,g1,g2,g3,g4,fun b i=>by have:=g5 b i;have:=h5 b i;show X2 b i+Fk b i+Fj b i<=X b i;omega,o,d,s,Fk,X2,h1,h2,h3,h4,fun b i=>aN _,g6⟩
theorem Tj (h:Rel P C A X σ a w F) (kS:∀ i T,E.TI i=some T->bd P T (.inl i)=true) {s:Slot} (hs:xG E o.op=some s) {d:Nat} (hp:HI σ d=true) :
  ∃ (v:Value) (w':World) (Fj:FP),(execOp a.eval o).run P w=.ok (.value v) w'/\Ext w w' (fun _ _=>0)/\Rel P C A (fun b i=>X b i+Fj b i) σ (a.put (some d) v) w' F/\PS P A w' v s Fj:=by
 unfold xG at hs;split at hs
 ·rename_i t ho;split at hs
  ·rename_i T hT;split at hs
   ·rename_i EB;injection hs with hs;subst hs;have gf:=kS _ _ hT;obtain ⟨L,hL⟩:=uh T EB;obtain ⟨z,wT,A5⟩:=xT (P:=P) (w:=w) gf hL;obtain ⟨r1,r2,r3⟩:=zU (P:=P) (w:=w) (A:=A) T hL gf;have hc:z.cells=L.toArray:=by apply eX;simpa using A5
    have h1:=h.alloc L.toArray t (0,0);have fu:=vO w L.toArray t (0,0) false (.inr (aN _));have hll:L.length=T.sz:=an.length T r1;simp only[dM,hll] at fu h1;have t8:=an.alloc h r1 (fun b i hp=>by simp at hp) (nG w (.cells L.toArray t));refine ⟨.pointer (some ⟨w.heap.size,0,none⟩),w.alloc (.cells L.toArray t),b_ w.heap.size 0 T.sz,?_,nG w _,h1.tmp hp _,w.heap.size,L,(fun _ _=>0),rfl,hll,vP w L.toArray t (0,0) (fun j u hu=>by simpa using hu) (an.one _ r1),fun j hj=>fu.frozen hj,fun _ _=>aN _,t8,fu⟩
    unfold execOp;simp[ho,Instr.alloc,wT,newVar,newRow,hc]
   ·cases hs
  ·cases hs
 ·rename_i t n ps ho;split at hs
  ·rename_i e hT;split at hs
   ·rename_i hc;injection hs with hs;subst hs;simp only[aF,eI] at hc;obtain ⟨⟨h1,h2⟩,hz⟩:=hc;subst h1;have ui:ps=#[]:=fF h2;subst ui;have hl:=kS _ _ hT;simp only[bd,aF] at hl;have h2:=hl.2;split at h2
    ·rename_i el hu;simp only[aF,dP] at h2;obtain ⟨kt,ox⟩:=h2;obtain ⟨inf,i1,i2,i3,i4⟩:=lz (lR ox)
     have f_:(execOp a.eval o).run P w=.ok (.value (.slice (some ⟨w.heap.size,0,none⟩) 0 0)) (w.alloc (.cells #[] el)):=by
      simp[execOp,ho,Instr.buildSlice,run_underlying hu,Go.sizeOf,typeInfo,i1,Instr.fill,newRow,show Array.range 0=#[] from rfl]
     have Db:=h.alloc #[] el (0,0);have fu:=vO w #[] el (0,0) (wY e) (.inr (aN _));refine ⟨_,_,fun b i=>b_ w.heap.size 0 0 b i+ba 0 (fun _ _ _=>0) b i,f_,nG w _,?_,?_⟩
     ·refine (Db.less (fun b i=>?_)).tmp hp _;simp[b_,ba]
     ·refine ⟨_,(df (.U e) _ rfl).symm,?_⟩
      simp only[an,hole,bT,aG,aL,Md.own,aI,Md.e];refine ⟨_,0,rfl,aN _,aW _,(fun e=>by cases e),fun ad fm=>?_⟩
      injection fm with fm;subst fm;refine ⟨rfl,rfl,by simpa using fu,fun _ _ _=>0,fun b i=>by simp,fun i y hy=>by cases hy⟩
    ·cases h2
   ·cases hs
  ·cases hs
 ·cases hs
theorem Rel.Wa (h:Rel P C A X σ a w F):∃ C':Ctx,C'.w0=w/\C'.A0=A/\(∀ b i,A b i->C'.F0 b i=0)/\Rel P C' A X σ a w F/\(∀ {A2:Cells} {X2:FP} {ly:St} {a2:Act} {w2:World} {F2:Nat->FP},Rel P C' A2 X2 ly a2 w2 F2->Rel P C A2 X2 ly a2 w2 F2):=by
 refine ⟨⟨w,A,fun b i=>X b i+ba σ.n F b i,C.args⟩,rfl,rfl,fun b i ha=>?_,?_,fun {A2 X2 ly a2 w2 F2} h2=>?_⟩
 ·show X b i+ba σ.n F b i=0;rcases bF (X b i+ba σ.n F b i) with h0 | h0
  ·exact h0
  ·exact absurd ha (h.pW b i h0)
 ·exact { h with ext:=Ext.refl _ _,own:=fun b i hp=>.inl hp,a0:=fun _ _ h=>h,a1:=fun _ _ h=>.inl h,oA:=h.oA,nw:=h.nw }
 ·have kt:C.w0.heap.size<=w.heap.size:=h.ext.size;refine { h2 with ext:=h.ext.trans h2.ext (fun b i hb hz=>?_),own:=fun b i hp=>?_,a0:=fun b i ha=>h2.a0 b i (h.a0 b i ha),a1:=fun b i ha=>?_,oA:=h2.oA,nw:=h2.nw }
  ·show X b i+ba σ.n F b i=0;rcases bF (X b i+ba σ.n F b i) with h0 | h0
   ·exact h0
   ·rcases h.own b i h0 with h1 | h1 <;> omega
  ·rcases h2.own b i hp with h1 | h1
   ·exact h.own b i h1
   ·exact .inr (bJ kt h1)
  ·rcases h2.a1 b i ha with h1 | h1 | h1
   ·exact h.a1 b i h1
   ·exact .inr (h.own b i h1)
   ·exact .inr (.inr (bJ kt h1))
theorem Rel.frame (h:Rel P C A X σ a w F):∃ C1:Ctx,du P C1 A σ a w F/\∀ {A2:Cells} {ly:St} {a2:Act} {w2:World} {F2:Nat->FP},du P C1 A2 ly a2 w2 F2->Rel P C A2 X ly a2 w2 F2 /\
  (∀ b i,A b i->A2 b i)/\(∀ b i,A b i->∀ u,ce w b i=some u->ce w2 b i=some u)/\(∀ b n,gc w b n->gc w2 b n)/\(∀ b i,1<=X b i->(∀ u,ce w b i=some u->ce w2 b i=some u)/\w2.frozen? ⟨b,i,none⟩=w.frozen? ⟨b,i,none⟩):=by
 have Xi:∀ b i,1<=X b i->ba σ.n F b i=0:=fun b i hp=>by have:=h.o5 b i;omega
 have Rn:∀ b i,1<=X b i->b < w.heap.size:=fun b i hp=>h.kO b i (.inl (by omega));refine ⟨⟨w,A,ba σ.n F,C.args⟩,?_,fun {A2 ly a2 w2 F2} h2=>⟨?_,h2.a0,fun b i ha u hu=>?_,h2.ext.tQ,fun b i hp=>⟨fun u hu=>h2.ext.cell b i (Rn b i hp) (Xi b i hp) u hu,h2.ext.xQ b i (Rn b i hp)⟩⟩⟩
 ·exact { h with
   o5:=fun b i=>by have:=h.o5 b i;show 0+ba σ.n F b i<=1;omega
   pW:=fun b i hp=>h.pW b i (by have hp:1<=0+ba σ.n F b i:=hp;omega)
   kO:=fun b i hp=>h.kO b i (hp.imp (fun hp=>by have hp:1<=0+ba σ.n F b i:=hp;omega) id)
   ext:=Ext.refl _ _
   own:=fun b i hp=>.inl (by have hp:1<=0+ba σ.n F b i:=hp;show 1<=ba σ.n F b i;omega)
   a0:=fun _ _ h=>h,a1:=fun _ _ h=>.inl h,oA:=h.oA,nw:=h.nw }
 ·have kt:C.w0.heap.size<=w.heap.size:=h.ext.size
  have Rp:∀ b i,1<=X b i->ba ly.n F2 b i=0:=fun b i hp=>by
   rcases bF (ba ly.n F2 b i) with h0 | h0
   ·exact h0
   ·rcases h2.own b i (by show 1<=0+ba ly.n F2 b i;omega) with h1 | h1
    ·have h1:1<=ba σ.n F b i:=h1;have:=Xi b i hp;omega
    ·have h1:w.heap.size<=b:=h1;have:=Rn b i hp;omega
  have fu:∀ b i,1<=ba σ.n F b i->1<=C.F0 b i\/C.w0.heap.size<=b:=fun b i hp=>h.own b i (by omega);refine { h2 with o5:=fun b i=>?_,pW:=fun b i hp=>?_,kO:=fun b i hp=>?_,ext:=h.ext.trans h2.ext (fun b i hb hz=>?_),own:=fun b i hp=>?_,a0:=fun b i ha=>h2.a0 b i (h.a0 b i ha),a1:=fun b i ha=>?_,oA:=h2.oA,nw:=h2.nw }
  ·have h1:0+ba ly.n F2 b i<=1:=h2.o5 b i;have:=Rp b i;have:=h.o5 b i;omega
  ·by_cases hx:1<=X b i
   ·intro ha;rcases h2.a1 b i ha with h1 | h1 | h1
    ·exact h.pW b i (by omega) h1
    ·have h1:1<=ba σ.n F b i:=h1;have:=Xi b i hx;omega
    ·have h1:w.heap.size<=b:=h1;have:=Rn b i hx;omega
   ·exact h2.pW b i (by show 1<=0+ba ly.n F2 b i;omega)
  ·by_cases hx:1<=X b i
   ·exact cP (Rn b i hx) h2.ext.size
   ·exact h2.kO b i (hp.imp (fun hp=>by show 1<=0+ba ly.n F2 b i;omega) id)
  ·show ba σ.n F b i=0;rcases bF (ba σ.n F b i) with h0 | h0
   ·exact h0
   ·rcases fu b i h0 with h1 | h1 <;> omega
  ·by_cases hx:1<=X b i
   ·exact h.own b i (by omega)
   ·rcases h2.own b i (by show 1<=0+ba ly.n F2 b i;omega) with h1 | h1
    ·exact fu b i h1
    ·exact .inr (bJ kt h1)
  ·rcases h2.a1 b i ha with h1 | h1 | h1
   ·exact h.a1 b i h1
   ·exact .inr (fu b i h1)
   ·exact .inr (.inr (bJ kt h1))
 ·refine h2.ext.cell b i (wk hu) ?_ u hu;show ba σ.n F b i=0;rcases bF (ba σ.n F b i) with h0 | h0
  ·exact h0
  ·exact absurd ha (h.pW b i (by omega))
end
end OT
namespace OT
open Go
section
variable {P:Program} {C:Ctx} {A:Cells} {X:FP} {σ:St} {a:Act} {w:World} {F:Nat->FP} {R:Type} {x:R} {Q:Exit->Act->World->Prop} {o:Oper} {E:Env}
theorem Rel.congr (h:Rel P C A X σ a w F) {σ':St} (hn:σ'.n=σ.n) (hg:∀ i,σ'.get i=σ.get i) (hv:∀ i,σ'.lw i=σ.lw i) (hl:∀ e,e ∈ σ'.aT↔e ∈ σ.aT) (QI:∀ e,e ∈ σ'.gh->e ∈ σ.gh):Rel P C A X σ' a w F:=by
 have nF:wZ σ a w σ' a w:=fun r p snap hb=>⟨by rw[hv];exact hb,fun bc=>by
  unfold St.ok at bc ⊢;rw[hv] at bc
  exact ⟨bc,fun _ pl ip=>⟨pl.H,pl.cs,by unfold place at ip ⊢;rw[hg];exact ip,fun _=>rfl⟩⟩⟩
 refine ⟨by rw[hn];exact h.size,h.defers,fun i hi=>?_,fun d r p snap hm=>qT.mY nF (h.gh d r p snap (QI _ hm)),fun b i=>by rw[hn];exact h.o5 b i,fun b i hp=>by rw[hn] at hp;exact h.pW b i hp,fun b i hp=>by rw[hn] at hp;exact h.kO b i hp,
  fun i=>by rw[hv];exact h.mo i,h.ext,fun b i hp=>by rw[hn] at hp;exact h.own b i hp,h.a0,h.a1,fun j k hm=>h.oA j k ((hl _).1 hm),fun r t m H v hr hk=>?_,fun j k hm R hR=>?_⟩
 ·rw[hg];exact cu.mY nF (fun _ _ h=>h) (fun _ _ _ _ h=>h) (fun _ _ h=>h) (fun _ _ _=>⟨fun _ h=>h,rfl⟩) (h.im i (by rw[<-hn];exact hi))
 ·rw[hg] at hr;exact h.whole r t m H v hr fun k hm=>hk k ((hl _).2 hm)
 ·rw[hg] at hR;exact h.nw j k ((hl _).1 hm) R hR
theorem Rel.same (h:Rel P C A X σ a w F) {t:Nat} {s:Slot} (hs:σ.get t=s):Rel P C A X (σ.JN t s) a w F:=
 h.congr rfl (fun i=>by
  rw[Ec];split
  ·rename_i hc;rw[<-hs,hc.1]
  ·rfl) (fun i=>rfl) (fun e=>jT) (fun e he=>he)
theorem KI (h:Rel P C A X σ a w F) {ops:Array Oper} {o:Oper} {K:Bool->St->Option R} (hk:CT ops.toList σ o.guard K=some x):∃ (b:Bool) (σ':St),K b σ'=some x/\Rel P C A X σ' a w F/\Region.wanted o (yielded ops a.tmps)=b:=by
 unfold CT at hk;split at hk
 ·rename_i hg;exact ⟨true,σ,hk,h,by simp[Region.wanted,hg]⟩
 ·rename_i j want hg;split at hk
  ·cases hk
  ·rename_i t ht;rw[dE] at ht
   have hy:∀ v,tmp a t=v->t < σ.n->yielded ops a.tmps j=match v with | .bool b=>some b | _=>none:=fun v hv CA=>by
    have aj:t < a.tmps.size:=by rw[h.size];exact CA
    unfold yielded;rw[ht];have:a.tmps[t]?=some v:=by rw[cN aj,<- hv];simp[tmp,aj]
    simp only[aB,this];cases v <;> rfl
   have aj:∀ s,σ.get t=s->s≠.dead->t < σ.n:=fun s hs fw=>by
    rcases bZ t σ.n with hi | hi
    ·exact hi
    ·rw[lY (dK.2 hi)] at hs;exact absurd hs.symm fw
   split at hk
   ·rename_i b EE;have CA:=aj _ EE (by intro e;cases e);have hs:=h.im t CA;rw[EE] at hs;have hv:=Kk hs;have NT:=hy _ hv CA;simp only at NT
    cases b with
    | true=>exact ⟨_,_,hk,Rel.same h EE,by simp only[Region.wanted,hg,NT];cases want <;> rfl⟩
    | false=>exact ⟨_,_,hk,Rel.same h EE,by simp only[Region.wanted,hg,NT];cases want <;> rfl⟩
   ·rename_i EE;have CA:=aj _ EE (by intro e;cases e);have hs:=h.im t CA;rw[EE] at hs;obtain ⟨vs,Fi,h1,_⟩:=hs;have NT:=hy _ h1 CA;simp only at NT;exact ⟨false,σ,hk,h,by simp only[Region.wanted,hg,NT];cases want <;> rfl⟩
   ·cases hk
theorem HW (h:Rel P C A X σ a w F) (o:Oper):∃ F',Rel P C A X (σ.bY o.dst (.rq [])) (a.put o.dst undef) w F':=
 h.bY o.dst (s:=.rq []) (v:=undef) (Fd:=fun _ _=>0) (X':=X) ⟨#[],fun _ _ _=>0,rfl,fun b i=>by simp[ba],fun j y hy=>by cases hy⟩ (fun b i=>aN _) (fun _ _ _ _ e=>by cases e)
theorem Xj (hE:sQ P E) {gk:Nat} {ops:Array Oper} (c6:∀ o ∈ ops.toList,rt P o.op=true) {K:St->Option R} (hQ:∀ a w,Nx P C K x a w->Q .normal a w) :
  ∀ (rest:List Oper) (i:Nat) {σ:St} {A:Cells} {a:Act} {w:World} {F:Nat->FP},ops.toList.drop i=rest->du P C A σ a w F->HH E gk ops.toList rest i σ K=some x->wpOps P ops Q (List.range' i rest.length) a w:=by
 intro rest
 induction rest with
 | nil=>intro i σ A a w F hd h hk;exact hQ a w ⟨σ,hk,A,F,h⟩
 | cons o rest ih=>
  intro i σ A a w F hd h hk
  have hi:ops[i]?=some o:=by
   have:(ops.toList.drop i)[0]?=some o:=by rw[hd];rfl
   rw[bM] at this
   simpa using this
  have sr:ops.toList.drop (i+1)=rest:=by rw[<-dA,hd];rfl
  have Dn:o ∈ ops.toList:=cB (i:=i) (by simpa using hi);simp only[HH] at hk;obtain ⟨b,o6,hk,h1,hw⟩:=KI h hk;show wpOps P ops Q (i::List.range' (i+1) rest.length) a w;simp only[wpOps,hi,hw]
  cases b with
  | true=>
   simp only[aI];refine .inl (Oper.wp_mono (fun a' w' hn=>?_) (V_ hE h1 (c6 o Dn) hk));obtain ⟨ly,mB,A2,F2,h2⟩:=hn;exact ih (i+1) sr h2 mB
  | false=>
   simp only[aG,aL];obtain ⟨F2,h2⟩:=HW h1 o;exact ih (i+1) sr h2 hk
theorem Rq (hE:sQ P E) {gk id:Nat} {ops:Array Oper} (c6:∀ o ∈ ops.toList,rt P o.op=true) (h:du P C A σ a w F) {K:St->Option R} (hk:HH E gk ops.toList ops.toList 0 σ K=some x) (hQ:∀ a w,Nx P C K x a w->Q .normal a w) :
  (Code.region id ops false).wp P Q a w:=by
 refine wp_region ?_;have:=Xj hE c6 hQ ops.toList 0 (by simp) h hk
 simpa [List.range_eq_range'] using this
def ul (P:Program) (md:Region.Mode) (ops:Array Oper) (Q:Exit->Act->World->Prop) (S:Array Bool->World->Prop):Nat->Array Bool->Act->World->Prop
 | 0,lL,a,w=>Region.ready md ops lL=[]/\Q .normal a w
 | fuel+1,lL,a,w=>
  (Region.ready md ops lL=[]->Q .normal a w) /\
  ∀ i ∈ Region.ready md ops lL,wpOp P ops Q i (fun a' w'=>S (lL.setIfInBounds i true) w'/\ul P md ops Q S fuel (lL.setIfInBounds i true) a' w') a w
theorem GD {md:Region.Mode} {ops:Array Oper} {S:Array Bool->World->Prop}:∀ (fuel:Nat) (lL:Array Bool) (a:Act) (w:World),ul P md ops Q S fuel lL a w->wpAny P md ops Q fuel lL a w
 | 0,_,_,_,h=>h
 | fuel+1,_,_,_,h=>⟨h.1,fun i hi=>wpOp_mono (fun a' w' h'=>GD fuel _ a' w' h'.2) (h.2 i hi)⟩
def A7 (md:Region.Mode) (ops:Array Oper) (l:Array Bool):Prop:=∀ j o,ops[j]?=some o->l.getD j false=true->∀ e ∈ o.after,Region.binds md e=true->l.getD e.on false=true
theorem BC {md:Region.Mode} {ops:Array Oper} {l:Array Bool} (h:A7 md ops l) {j:Nat} (hj:j ∈ Region.ready md ops l):A7 md ops (l.setIfInBounds j true):=by
 obtain ⟨_,oj,GE,pD⟩:=mem_ready.1 hj;intro k o hk hl e he hb;by_cases zW:j=k
 ·subst zW;rw[GE] at hk;injection hk with hk;subst hk;exact getD_set_true (pD e he hb)
 ·rw[getD_set_ne false zW] at hl;exact getD_set_true (h k o hk hl e he hb)
def SU (md:Region.Mode) (ops:Array Oper) (S:Array Bool->World->Prop) (i:Nat):World->Prop:=fun w'=>∃ l,A7 md ops l/\l.getD i true=false/\S l w'
theorem wu {md:Region.Mode} {ops:Array Oper} {S:Array Bool->World->Prop} {i:Nat} {oi:Oper} {v:Value} (hi:ops[i]?=some oi) (BD:∀ (j:Nat) (o:Oper) cs b,ops[j]?=some o->o.op≠.select cs b)
  (hQ:∀ c a w,Q (.panic c) (a.put oi.dst v) w->Q (.panic c) a w) (hS:∀ l w,S (l.setIfInBounds i true) w↔S l w) :
  ∀ (fuel:Nat) (lL:Array Bool) (a:Act) (w:World),
   (∀ j oj,ops[j]?=some oj->j≠i->lL.getD j true=false->(∀ e ∈ oj.after,Region.binds md e=true->e.on≠i)->oi.apart ops oj=true) ->
   i ∈ Region.ready md ops lL->A7 md ops lL->YieldsIf P ops (SU md ops S i) oi v a->S lL w ->
   ul P md ops Q S fuel (lL.setIfInBounds i true) (a.put oi.dst v) w->ul P md ops Q S (fuel+1) lL a w:=by
 intro fuel
 induction fuel with
 | zero=>
  intro lL a w _ hr hc hy hs H;have rD:lL.getD i true=false:=(mem_ready.1 hr).1;refine ⟨fun h=>(by rw[h] at hr;cases hr),fun j hj=>?_⟩
  by_cases mZ:j=i
  ·subst mZ;exact hy.wpOp hi ⟨lL,hc,rD,hs⟩ ⟨(hS _ _).2 hs,H⟩
  ·have:=ready_mono hj mZ;rw[H.1] at this;cases this
 | succ fuel ih=>
  intro lL a w Jz hr hc hy hs H;have rD:lL.getD i true=false:=(mem_ready.1 hr).1;refine ⟨fun h=>(by rw[h] at hr;cases hr),fun j hj=>?_⟩
  by_cases mZ:j=i
  ·subst mZ;exact hy.wpOp hi ⟨lL,hc,rD,hs⟩ ⟨(hS _ _).2 hs,H⟩
  ·have h1:=H.2 j (ready_mono hj mZ);obtain ⟨Xk,oj,GE,pD⟩:=mem_ready.1 hj
   have Tl:∀ e ∈ oj.after,Region.binds md e=true->e.on≠i:=fun e he hb heq=>by
    have h1:=pD e he hb;have h0:=(mem_ready.1 hr).1;rw[heq] at h1;rcases bZ i lL.size with h' | h'
    ·simp[h'] at h0 h1;rw[h0] at h1;cases h1
    ·simp[dL h'] at h1
   have h2:=wpOp_putIf GE (Jz j oj GE mZ Xk Tl) (fun cs b=>BD i oi cs b hi) (fun cs b=>BD j oj cs b GE) hQ hy h1
   have Xl:∀ k ok,ops[k]?=some ok->k≠i->(lL.setIfInBounds j true).getD k true=false ->
     (∀ e ∈ ok.after,Region.binds md e=true->e.on≠i)->oi.apart ops ok=true:=fun k ok hk hki rD qt=>by
    refine Jz k ok hk hki ?_ qt;by_cases Xm:j=k
    ·subst Xm;exact Xk
    ·rw[getD_set_ne true Xm] at rD;exact rD
   refine wpOp_mono (fun a' w' h3=>?_) h2;have h4:=h3.2.1;have h5:=h3.2.2;rw[Array.setIfInBounds_comm _ _ (Ne.symm mZ)] at h4 h5;have h6:=(hS _ _).1 h4;exact ⟨h6,ih (lL.setIfInBounds j true) a' w' Xl (ready_mono hr (Ne.symm mZ)) (BC hc hj) h3.1 h6 h5⟩
def IK (ops:Array Oper):Nat->Nat->Nat->Bool
 | 0,_,_=>false
 | n+1,d,i=>match ops[d]? with
  | some o=>o.after.toList.any fun e=>Region.binds .any e&&(Nat.beq e.on i||IK ops n e.on i)
  | none=>false
theorem uE {ops:Array Oper} {l:Array Bool} (h:A7 .any ops l):∀ (n d i:Nat),IK ops n d i=true->l.getD d false=true->l.getD i false=true
 | 0,_,_,ha,_=>by cases ha
 | n+1,d,i,ha,hd=>by
  simp only[IK] at ha;split at ha
  ·rename_i o ho;obtain ⟨e,he,hb⟩:=fZ.1 ha;simp only[aF,cX,eI] at hb;have hl:=h d o ho hd e (by simpa using he) hb.1;rcases hb.2 with hb | hb
   ·rw[<-hb];exact hl
   ·exact uE h n e.on i hb hl
  ·cases ha
def ql (E:Env) (ops:Array Oper) (d:Nat):Bool:=match ops[d]? with
 | some o=>!u0 E o.op&&!quiet E o.op
 | none=>false
def zX (l:Array Bool):List Nat->Array Bool
 | []=>l
 | j::js=>zX (l.setIfInBounds j true) js
def zt (E:Env) (gk:Nat) (ops:Array Oper) (pd:List Nat):List Nat->Array Bool->Bool->Bool
 | [],l,_=>(Region.ready .any ops l).isEmpty
 | i::is,l,f=>match ops[i]? with
  | none=>false
  | some o=>
   match pd.any (Nat.beq i) with
   | true=>!is.any (Nat.beq i)&&(Region.ready .any ops l).contains i&&(Region.ready .any ops (zX l (pd.filter fun j=>!Nat.beq i j))).all (fun j=>pd.any (Nat.beq j))&&zt E gk ops pd is (l.setIfInBounds i true) f
   | false=>
   match u0 E o.op&&(Region.free .any ops l i&&(Region.ready .any ops l).contains i&&(!reads o.op||JZ E gk i||Ou E gk i||(f&&(List.range ops.size).all fun d=>!ql E ops d||IK ops ops.size d i))) with
   | true=>zt E gk ops pd is (l.setIfInBounds i true) f
   | false=>(Region.ready .any ops l).contains i&&(Region.ready .any ops (zX l pd)).all (Nat.beq i)&&zt E gk ops pd is (l.setIfInBounds i true) false
noncomputable def Do (E:Env) (ops:Array Oper) (pd:List Nat):Bool:=pd.all fun j=>match ops[j]? with
 | some o=>(match o.guard with
  | none=>true
  | some _=>false)&&(xG E o.op).isSome&&(match o.dst with
   | some d=>(List.range ops.size).all fun k=>Nat.beq k j||(match ops[k]? with
    | some o'=>(match o'.dst with
     | some d'=>!Nat.beq d' d
     | none=>true)
    | none=>true)
   | none=>false)
 | none=>false
def GF:List Nat->Bool
 | []=>true
 | i::is=>!is.any (Nat.beq i)&&GF is
noncomputable def zu (E:Env) (ops:Array Oper) (pd:List Nat) (er:List (Nat×Nat)):Bool:=er.all fun e=>!pd.any (Nat.beq e.1)&&(Nat.ble ops.size e.2||(ql E ops e.2&&!pd.any (Nat.beq e.2)&&IK ops ops.size e.2 e.1))&&(match ops[e.1]? with
 | some o=>(match o.guard with
  | none=>true
  | some _=>false)&&(match o.op,o.dst with
   | .load _ (.tmp x),some d=>!Nat.beq x d&&(List.range ops.size).all fun k=>Nat.beq k e.1||(match ops[k]? with
    | some o'=>(match o'.dst with
     | some d'=>!Nat.beq d' d&&(!Nat.beq d' x||IK ops ops.size e.1 k)
     | none=>true)
    | none=>true)
   | _,_=>false)
 | none=>false)
noncomputable def KJ (E:Env) (gk:Nat) (ops:Array Oper) (is:List Nat):Bool:=
 Region.noSelect ops&&Nat.ble is.length ops.size&&(Do E ops (oo E.pd gk)&&(oo E.pd gk).all fun j=>is.any (Nat.beq j))&&(GF is&&(List.range ops.size).all (fun k=>is.any (Nat.beq k))&&zu E ops (oo E.pd gk) (FX E.er gk))&&zt E gk ops (oo E.pd gk) is (Array.replicate ops.size false) (match oo E.pd gk with
  | []=>true
  | _::_=>false)
theorem Va {K:St->Option R}:∀ (is:List Nat) {σ:St} {A:Cells} {F:Nat->FP},du P C A σ a w F->Ns σ is K=some x->∃ (A':Cells) (σ':St) (F':Nat->FP),K σ'=some x/\du P C A' σ' a w F':=by
 intro is
 induction is with
 | nil=>intro σ A F h hk;exact ⟨A,σ,F,hk,h⟩
 | cons i is ih=>
  intro σ A F h hk;simp only[Ns] at hk;split at hk
  ·rename_i t m H v hg;split at hk
   ·rename_i hc;simp only[aF,bN] at hc;obtain ⟨hH,zo⟩:=hc;subst hH;obtain ⟨A1,F1,_,h1,_,_⟩:=Rc h hg;exact ih h1 hk
   ·cases hk
  ·cases hk
theorem Rel.Xn (h:du P C A σ a w F):∃ C':Ctx,C'.w0=w/\C'.A0=A/\(∀ b i,A b i->C'.F0 b i=0)/\du P C' A σ a w F/\(∀ {A2:Cells} {ly:St} {a2:Act} {w2:World} {F2:Nat->FP},du P C' A2 ly a2 w2 F2->du P C A2 ly a2 w2 F2):=by
 have fu:∀ b i,1<=ba σ.n F b i->1<=C.F0 b i\/C.w0.heap.size<=b:=fun b i hp=>h.own b i (by show 1<=0+_;omega);refine ⟨⟨w,A,ba σ.n F,C.args⟩,rfl,rfl,fun b i ha=>?_,?_,fun {A2 ly a2 w2 F2} h2=>?_⟩
 ·rcases bF (ba σ.n F b i) with h0 | h0
  ·exact h0
  ·exact absurd ha (h.pW b i (by show 1<=0+_;omega))
 ·exact { h with ext:=Ext.refl _ _,own:=fun b i hp=>.inl (by have hp:1<=0+ba σ.n F b i:=hp;show 1<=ba σ.n F b i;omega),a0:=fun _ _ h=>h,a1:=fun _ _ h=>.inl h,oA:=h.oA,nw:=h.nw }
 ·have kt:C.w0.heap.size<=w.heap.size:=h.ext.size;refine { h2 with ext:=h.ext.trans h2.ext (fun b i hb hz=>?_),own:=fun b i hp=>?_,a0:=fun b i ha=>h2.a0 b i (h.a0 b i ha),a1:=fun b i ha=>?_,oA:=h2.oA,nw:=h2.nw }
  ·show ba σ.n F b i=0;rcases bF (ba σ.n F b i) with h0 | h0
   ·exact h0
   ·rcases fu b i h0 with h1 | h1 <;> omega
  ·rcases h2.own b i hp with h1 | h1
   ·exact fu b i h1
   ·exact .inr (bJ kt h1)
  ·rcases h2.a1 b i ha with h1 | h1 | h1
   ·exact h.a1 b i h1
   ·exact .inr (fu b i h1)
   ·exact .inr (.inr (bJ kt h1))
theorem Wb (h:du P C A σ a w F) (hE:sQ P E) {gk i:Nat} (c6:rt P o.op=true) (ng:u0 E o.op=true) (Dh:JY σ o=true) {K:St->Option R} (hk:rm E gk i o σ K=some x) :
  ∃ v,(∀ w',(∀ b i,A b i->∀ u,ce w b i=some u->ce w' b i=some u)->(execOp a.eval o).run P w'=.ok (.value v) w')/\Nx P C K x (a.put o.dst v) w:=by
 unfold JY at Dh;split at Dh
 ·rename_i t y ho;split at Dh
  ·rename_i t' v hv;unfold rm at hk;simp only[ho,hv,FV] at hk;obtain ⟨T,hT,hk⟩:=fx hk;have gf:=hE.ti _ _ hT;split at hk
   ·rename_i e;subst e;rw[ho] at c6
    rcases fh h c6 with hs | ⟨xs,e⟩
    rotate_left
    ·rw[e] at hv;cases hv
    rw[hv] at hs;obtain ⟨⟨b,off,sp⟩,h1,h2,L,h3,h4,h5⟩:=hs;simp only[cV,eJ] at h1;simp only at h2;subst h2;refine ⟨cg t' L,fun w' qJ=>?_,cj h hk ⟨L,rfl,h5⟩ (fun _ _ _ _ e=>by cases e)⟩
    simp[execOp,ho,h1,Instr.loadAt,Instr.sureAddr,xk gf (fun j u hu=>qJ _ _ (h4 j u hu).2 u (h4 j u hu).1) h3 (Ro.one _ h5)]
   ·cases hk
  ·cases Dh
 ·rename_i s t y ho;unfold rm at hk;simp only[ho] at hk;rw[ho] at c6;refine Gr h hE.ti ho c6 (fun T hT=>?_) Dh hk;rw[ho] at ng;simp only[u0,hT] at ng;exact ng
 ·cases Dh
def Ax (ops:Array Oper) (l:Array Bool) (u:Nat):Prop:=ops.size<=u\/l.getD u false=false
def SD (E:Env) (ops:Array Oper) (w0:World) (C:Ctx) (RC:List (Nat×Nat×Nat×Nat×List Value)):Array Bool->World->Prop:=fun l w'=>((∀ d,ql E ops d=true->l.getD d false=false)->Ext w0 w' (fun _ _=>0))/\(∀ b i,C.A0 b i->∀ u,ce C.w0 b i=some u->ce w' b i=some u)/\∀ e ∈ RC,Ax ops l e.2.1->Has w' e.2.2.1 e.2.2.2.1 e.2.2.2.2
theorem Wc {next:Act->World->Prop} (h:Tk P o a w next):o.wp P a w (fun a' w'=>w=w'/\next a' w') Q:=by
 obtain ⟨v,h1,h2⟩:=h;exact ou (h1 w fun _=>Ext.refl _ _) ⟨rfl,h2⟩
theorem Ay {md:Region.Mode} {ops:Array Oper} {S S':Array Bool->World->Prop} (hS:∀ l w,S l w->S' l w):∀ (fuel:Nat) (lL:Array Bool) (a:Act) (w:World),ul P md ops Q S fuel lL a w->ul P md ops Q S' fuel lL a w
 | 0,_,_,_,h=>h
 | fuel+1,_,_,_,h=>⟨h.1,fun i hi=>wpOp_mono (fun a' w' h'=>⟨hS _ _ h'.1,Ay hS fuel _ a' w' h'.2⟩) (h.2 i hi)⟩
theorem KK (a:Act) (d:Nat):a.put (some d) (tmp a d)=a:=by
 have:a.tmps.setIfInBounds d (tmp a d)=a.tmps:=by
  unfold tmp;apply Array.ext
  ·simp
  ·intro i h1 h2;rw[iZ];split
   ·rename_i e;subst e;simp[h2]
   ·rfl
 show { a with tmps:=a.tmps.setIfInBounds d (tmp a d) }=a;rw[this]
theorem YZ {ops:Array Oper} {K:St->Option R}:∀ (js:List Nat) {σ:St} {F:Nat->FP},du P C A σ a w F->Qw ops.toList σ js K=some x->∃ (σ':St) (F':Nat->FP),K σ'=some x/\du P C A σ' a w F':=by
 intro js
 induction js with
 | nil=>intro σ F h hk;exact ⟨σ,F,hk,h⟩
 | cons j js ih=>
  intro σ F h hk;simp only[Qw] at hk;split at hk
  ·rename_i d hd;obtain ⟨F1,h1⟩:=h.bY (some d) (s:=.dead) (v:=tmp a d) (Fd:=fun _ _=>0) (X':=fun _ _=>0) trivial (fun b i=>aN _) (fun _ _ _ _ e=>by cases e);rw[KK] at h1;exact ih h1 hk
  ·cases hk
theorem BE:∀ (js:List Nat) (l:Array Bool) (k:Nat) (b:Bool),(zX l js).getD k b=if k ∈ js/\k < l.size then true else l.getD k b
 | [],l,k,b=>by simp[zX]
 | j::js,l,k,b=>by
  rw[zX,BE js];simp only[Array.size_setIfInBounds];by_cases h1:k ∈ js/\k < l.size
  ·rw[aU h1,aU ⟨by simp[h1.1],h1.2⟩]
  ·rw[bA h1];by_cases zW:j=k
   ·subst zW;by_cases aj:j < l.size
    ·rw[aU ⟨by simp,aj⟩];simp[aj]
    ·rw[bA (fun h=>aj h.2)];simp[aj]
   ·rw[getD_set_ne b zW,bA];rintro ⟨h2,h3⟩;rcases aY.1 h2 with e | e
    ·exact zW e.symm
    ·exact h1 ⟨e,h3⟩
theorem qm {l:List Nat} {i:Nat}:l.any (Nat.beq i)=true↔i ∈ l:=by
 rw[fZ];constructor
 ·rintro ⟨y,h1,h2⟩;rw[cL h2];exact h1
 ·intro h;exact ⟨i,h,jA i⟩
theorem Az {ops:Array Oper} {pd:List Nat} (h:Do E ops pd=true) {j:Nat} (hj:j ∈ pd):∃ o d s,ops[j]?=some o/\o.guard=none/\o.dst=some d/\xG E o.op=some s/\∀ k o',ops[k]?=some o'->k≠j->o'.dst≠some d:=by
 unfold Do at h;have h:=cC.1 h j hj;split at h
 ·rename_i o ho;simp only[aF] at h;obtain ⟨⟨h1,h2⟩,h3⟩:=h;split at h3
  ·rename_i d hd;obtain ⟨s,hs⟩:=fW.1 h2;refine ⟨o,d,s,ho,?_,hd,hs,fun k o' hk zW e=>?_⟩
   ·split at h1
    ·assumption
    ·cases h1
   ·have:=cC.1 h3 k (dF.2 (bR.1 hk).1);rw[hk] at this;simp only[e,cX] at this;rcases this with h4 | h4
    ·exact zW (cL h4)
    ·simp at h4
  ·cases h3
 ·cases h
def RE (ops:Array Oper) (er:List (Nat×Nat)) (L:Array Bool) (a:Act) (w:World) (e:Nat×Nat×Nat×Nat×List Value):Prop:=(e.1,e.2.1) ∈ er/\L.getD e.1 false=true /\
 ∃ o t x d,ops[e.1]?=some o/\o.op=.load t (.tmp x)/\o.dst=some d/\tmp a x=.pointer (some ⟨e.2.2.1,e.2.2.2.1,none⟩)/\(tmp a d).cells.toList=e.2.2.2.2/\(Ax ops L e.2.1->Has w e.2.2.1 e.2.2.2.1 e.2.2.2.2)
theorem EF:∀ {is:List Nat},GF is=true->is.Nodup
 | [],_=>iG
 | i::is,h=>by
  simp only[GF,aF,cM] at h;refine dU.2 ⟨fun hm=>?_,EF h.2⟩;have:=h.1;rw[qm.2 hm] at this;cases this
theorem vj {E:Env} {ops:Array Oper} {pd:List Nat} {er:List (Nat×Nat)} (h:zu E ops pd er=true) {j u:Nat} (hj:(j,u) ∈ er):j ∉ pd/\(ops.size<=u\/(ql E ops u=true/\u ∉ pd/\IK ops ops.size u j=true))/\∃ o t x d,ops[j]?=some o/\o.guard=none/\o.op=.load t (.tmp x)/\o.dst=some d/\x≠d /\
  ∀ k o',ops[k]?=some o'->k≠j->o'.dst≠some d/\(o'.dst=some x->IK ops ops.size j k=true):=by
 unfold zu at h;have h1:=cC.1 h _ hj;simp only[aF,cX,cM,dP] at h1;obtain ⟨⟨h0,hu⟩,h1⟩:=h1;refine ⟨fun hm=>?_,hu.imp id fun q=>⟨q.1.1,fun hm=>?_,q.2⟩,?_⟩
 ·rw[qm.2 hm] at h0;cases h0
 ·have q2:=q.1.2;rw[qm.2 hm] at q2;cases q2
 split at h1
 ·rename_i o ho;simp only[aF] at h1;obtain ⟨h2,h3⟩:=h1;split at h3
  ·rename_i t x d Kp hd;simp only[aF,cM,cC,dF] at h3;obtain ⟨h4,h5⟩:=h3;refine ⟨o,t,x,d,ho,?_,Kp,hd,(fun e=>by subst e;rw[jA] at h4;cases h4),fun k o' hk zW=>?_⟩
   ·cases hg:o.guard with
    | none=>rfl
    | some g=>rw[hg] at h2;cases h2
   ·have h6:=h5 k (bR.1 hk).1;rw[hk] at h6;simp only[cX] at h6;rcases h6 with h6 | h6
    ·exact absurd (cL h6) zW
    ·cases sr:o'.dst with
     | none=>exact ⟨(fun e=>by cases e),fun e=>by cases e⟩
     | some d'=>
      rw[sr] at h6;simp only[aF,cX,cM] at h6;refine ⟨fun e=>?_,fun e=>?_⟩
      ·injection e with e;subst e;rw[jA] at h6;cases h6.1
      ·injection e with e;subst e;rcases h6.2 with h7 | h7
       ·rw[jA] at h7;cases h7
       ·exact h7
  ·cases h3
 ·cases h1
theorem w9:∀ {p q:Path},qj p q=true->p=q
 | [],[],_=>rfl
 | .fst::p,.fst::q,h=>by simp only[qj] at h;rw[w9 h]
 | .snd::p,.snd::q,h=>by simp only[qj] at h;rw[w9 h]
 | .idx i::p,.idx j::q,h=>by simp only[qj,aF] at h;rw[cL h.1,w9 h.2]
 | .o4 i::p,.o4 j::q,h=>by simp only[qj,aF] at h;rw[cL h.1,w9 h.2]
theorem Rr (h:Rel P C A X σ a w F) {o:Oper} (bc:SW σ o=true) {t x d:Nat} (ho:o.op=.load t (.tmp x)) (hd:o.dst=some d) {b off:Nat} (hx:tmp a x=.pointer (some ⟨b,off,none⟩)):Has w b off (tmp a d).cells.toList/\d < a.tmps.size:=by
 unfold SW at bc;rw[ho,hd] at bc;simp only at bc
 have lt:∀ {i:Nat},σ.get i≠.dead->i < σ.n:=fun {i} hi=>by
  rcases bZ i σ.n with h1 | h1
  ·exact h1
  ·exact absurd (lY (dK.2 h1)) hi
 split at bc
 ·rename_i r p s Vb;split at bc
  ·rename_i r' p' s' EG;simp only[aF] at bc;obtain ⟨⟨h1,h2,h3⟩,h4⟩:=bc;have e1:=cL h1;have e2:=w9 h4;subst e1;subst e2;have IL:=h.im x (lt (by rw[Vb];intro e;cases e));rw[Vb] at IL;obtain ⟨pl,b',o',g1,g2,g3,_⟩:=IL.2 h2;rw[hx] at g3;simp only[Value.pointer.injEq,aR,Addr.mk.injEq,eJ] at g3;obtain ⟨rfl,rfl⟩:=g3;have Rs:=h.im d (lt (by rw[EG];intro e;cases e));rw[EG] at Rs;obtain ⟨F8,k1,k2,_⟩:=Rs.2 h3;rw[g1] at k1;injection k1 with k1;subst k1;have hr:=sO g1;have ip:=g1;unfold place at ip
   cases hR:c_ w (tmp a r) (σ.get r) with
   | none=>rw[hR] at ip;cases ip
   | some R=>
    rw[hR] at ip;simp only[aB] at ip;obtain ⟨m,v,F1,q1,_,q2,_⟩:=wg (h.im r hr) hR;obtain ⟨z1,m',v',F',z2⟩:=Nv p R.t q1 (fun b o e=>(q2 b o e).1) ip;rw[k2,lQ (an.length _ z2) (an.one _ z2)];exact ⟨z1 _ _ g2,by rw[h.size];exact lt (by rw[EG];intro e;cases e)⟩
  ·cases bc
 ·rename_i tb mb Hb vb Vb;split at bc
  ·rename_i r' p' s' EG;simp only[aF] at bc;obtain ⟨⟨h1,h3⟩,h4⟩:=bc;have e1:=cL h1;have e2:=w9 h4;subst e1;subst e2;have Rs:=h.im d (lt (by rw[EG];intro e;cases e));rw[EG] at Rs;obtain ⟨F8,k1,k2,_⟩:=Rs.2 h3;have hr:=sO k1;have ip:=k1;unfold place at ip
   cases hR:c_ w (tmp a x) (σ.get x) with
   | none=>rw[hR] at ip;cases ip
   | some R=>
    rw[hR] at ip;simp only[aB] at ip;obtain ⟨m,v,F1,q1,_,q2,_⟩:=wg (h.im x hr) hR;obtain ⟨z1,m',v',F',z2⟩:=Nv [] R.t q1 (fun b o e=>(q2 b o e).1) ip;rw[k2,lQ (an.length _ z2) (an.one _ z2)]
    have fm:F8.ad=some (b,off):=by
     rw[Vb,hx] at hR;simp only[c_,aR] at hR;subst hR;simp only[bh,aR] at ip;subst ip;rfl
    exact ⟨z1 _ _ fm,by rw[h.size];exact lt (by rw[EG];intro e;cases e)⟩
  ·cases bc
 ·cases bc
theorem quiet_of {gk i:Nat} {o:Oper} {K:St->Option R} (hk:rm E gk i o σ K=some x) (hm:D_ o.op=false) (ht:u0 E o.op=false):quiet E o.op=true:=by
 unfold rm at hk;cases ho:o.op <;> rw[ho] at hk hm ht <;> first | rfl | (cases hm;done) | (cases ht;done) | (simp only[reduceCtorEq] at hk;done) | skip
theorem Wd (h:du P C A σ a w F) (hE:sQ P E) {gk i t x0:Nat} (c6:rt P o.op=true) (ho:o.op=.load t (.tmp x0)) {K:St->Option R} (hk:rm E gk i o σ K=some x) :
  ∃ b off v cs,tmp a x0=.pointer (some ⟨b,off,none⟩)/\Has w b off cs/\v.cells.toList=cs/\∀ w',Has w' b off cs->(execOp a.eval o).run P w'=.ok (.value v) w':=by
 unfold rm at hk;simp only[ho] at hk;unfold FV at hk;obtain ⟨T,hT,hk⟩:=fx hk;have gf:=hE.ti _ _ hT
 have run:∀ b off L,a.eval (.tmp x0)=.pointer (some ⟨b,off,none⟩)->L.length=T.sz->(∀ u ∈ L,u.oneCell'=true)->∀ w',Has w' b off L->(execOp a.eval o).run P w'=.ok (.value (cg T L)) w':=fun b off L hy hl mQ w' hL=>by
  simp[execOp,ho,hy,Instr.loadAt,Instr.sureAddr,xk gf hL hl mQ]
 rw[ho] at c6
 rcases fh h (show dj P (.tmp x0)=true from c6) with hs | ⟨xs,e⟩
 rotate_left
 ·rw[e] at hk;cases hk
 split at hk
 ·rename_i t' v hv;rw[hv] at hs;split at hk
  ·rename_i e;subst e;obtain ⟨⟨b,off,sp⟩,h1,h2,L,h3,h4,h5⟩:=hs;simp only[cV,eJ] at h1;simp only at h2;subst h2;exact ⟨b,off,cg t' L,L,h1,fun j u hu=>(h4 j u hu).1,lQ h3 (Ro.one _ h5),run b off L h1 h3 (Ro.one _ h5)⟩
  ·cases hk
 ·rename_i r p snap hv;rw[hv] at hs;split at hk
  ·rename_i ov;obtain ⟨hr,t',m',H',v',br,cr,F',h1,h2,h3,h4,h5,h6⟩:=mf h hk;obtain ⟨pl,b,off,g1,g2,g3,g4⟩:=hs.2 ov;rw[h3] at g1;injection g1 with g1;subst g1;simp only at g2;subst g2;split at h1
   ·rename_i e;subst e;have hh:Has w b off br:=by first | exact (h6 b off rfl).1 | exact h6 b off rfl | exact (h5 b off rfl).1 | exact h5 b off rfl
    exact ⟨b,off,cg t' br,br,g3,hh,lQ (an.length _ h4) (an.one _ h4),run b off br g3 (an.length _ h4) (an.one _ h4)⟩
   ·cases h1
  ·cases hk
 ·cases hk
structure Inv (P:Program) (E:Env) (ops:Array Oper) (pd:List Nat) (w0:World) (C:Ctx) (is:List Nat) (l:Array Bool) (f:Bool) (σ:St) (fuel:Nat) (A:Cells) (a:Act) (w:World) (X:FP) (F:Nat->FP) (D:List Nat) (L:Array Bool) (er:List (Nat×Nat)) (RC:List (Nat×Nat×Nat×Nat×List Value)):Prop where
 h:Rel P C A X σ a w F
 pf:PF P E ops A a w D X
 nd:D.Nodup
 IM:∀ j ∈ D,j ∈ pd
 dl:∀ j ∈ D,l.getD j false=false
 pW:∀ j ∈ D,j ∈ is
 Vc:∀ j ∈ pd,l.getD j false=true\/j ∈ is
 Vd:(is.filter fun k=>decide (k ∉ D)).length<=fuel
 cl:A7 .any ops L
 hS:(∀ d,ql E ops d=true->L.getD d false=false)->Ext w0 w (fun _ _=>0)
 hf:f=true->w=w0/\pd=[]
 GG:l.size=ops.size
 zw:L.size=ops.size
 hL:∀ k,L.getD k false=true↔(l.getD k false=true\/k ∈ D)
 Rt:is.Nodup
 Ru:∀ k,k < ops.size->l.getD k false=true\/k ∈ is
 io:∀ k ∈ is,l.getD k false=false
 rc:∀ e ∈ RC,RE ops er L a w e
theorem uF {l:Array Bool} {k:Nat} (h:k < l.size):l.getD k true=l.getD k false:=by simp[h]
theorem gn {l:Array Bool} {i k:Nat} (hi:i < l.size):(l.setIfInBounds i true).getD k false=true↔(k=i\/l.getD k false=true):=by
 by_cases hk:i=k
 ·subst hk;simp[hi]
 ·rw[getD_set_ne false hk];constructor
  ·exact .inr
  ·rintro (h | h)
   ·exact absurd h.symm hk
   ·exact h
theorem MB {D:List Nat} {j:Nat} (hD:j ∉ D):∀ (is:List Nat),j ∈ is->(is.filter fun k=>decide (k ∉ j::D)).length+1<=(is.filter fun k=>decide (k ∉ D)).length:=by
 have hle:∀ (is:List Nat),(is.filter fun k=>decide (k ∉ j::D)).length<=(is.filter fun k=>decide (k ∉ D)).length:=by
  intro is
  induction is with
  | nil=>exact aN _
  | cons i is ih=>
   simp only[gW];by_cases h1:i ∈ D
   ·have h2:i ∈ j::D:=by simp[h1]
    simp only[h1,h2,eU,aD,aG,aL];exact ih
   ·by_cases h2:i ∈ j::D
    ·simp only[h1,h2,eU,eV,aD,aC,aG,aL,aI,aP];omega
    ·simp only[h1,h2,eV,aC,aI,aP];omega
 intro is
 induction is with
 | nil=>intro h;cases h
 | cons i is ih=>
  intro h;simp only[gW];by_cases oD:i=j
  ·subst oD;have h2:i ∈ i::D:=by simp
   simp only[hD,h2,eU,eV,aD,aC,aG,aL,aI,aP];have:=hle is;omega
  ·have h3:j ∈ is:=by
    rcases aY.1 h with e | e
    ·exact absurd e.symm oD
    ·exact e
   have:=ih h3;by_cases h1:i ∈ D
   ·have h2:i ∈ j::D:=by simp[h1]
    simp only[h1,h2,eU,aD,aG,aL];exact this
   ·have h2:i ∉ j::D:=by simp[h1,oD]
    simp only[h1,h2,eV,aC,aI,aP];omega
section
variable {ops:Array Oper} {pd:List Nat} {w0:World} {is:List Nat} {l L:Array Bool} {f:Bool} {fuel:Nat} {D:List Nat} {i:Nat} {er:List (Nat×Nat)} {RC:List (Nat×Nat×Nat×Nat×List Value)}
theorem Inv.Fg (v:Inv P E ops pd w0 C is l f σ fuel A a w X F D L er RC) (hi:i ∈ Region.ready .any ops l) (hD:i ∉ D):i ∈ Region.ready .any ops L:=by
 obtain ⟨h0,o,ho,pD⟩:=mem_ready.1 hi;have aj:i < ops.size:=(bR.1 ho).1;refine mem_ready.2 ⟨?_,o,ho,fun e he hb=>(v.hL _).2 (.inl (pD e he hb))⟩;rw[uF (by rw[v.zw];exact aj)];rw[uF (by rw[v.GG];exact aj)] at h0
 cases hh:L.getD i false with
 | false=>rfl
 | true=>
  rcases (v.hL i).1 hh with h1 | h1
  ·rw[h0] at h1;cases h1
  ·exact absurd h1 hD
theorem Inv.Dp (v:Inv P E ops pd w0 C is l f σ fuel A a w X F D L er RC) {j:Nat} {S:List Nat} (hS:∀ k ∈ D,k ∈ S) (hj:j ∈ Region.ready .any ops L) (Ve:j ∉ S):j ∈ Region.ready .any ops (zX l S):=by
 obtain ⟨h0,o,ho,pD⟩:=mem_ready.1 hj;have aj:j < ops.size:=(bR.1 ho).1;refine mem_ready.2 ⟨?_,o,ho,fun e he hb=>?_⟩
 ·rw[BE,bA (fun h=>Ve h.1),uF (by rw[v.GG];exact aj)];rw[uF (by rw[v.zw];exact aj)] at h0
  cases hh:l.getD j false with
  | false=>rfl
  | true=>rw[(v.hL j).2 (.inl hh)] at h0;cases h0
 ·rw[BE];have h1:=pD e he hb;rcases (v.hL _).1 h1 with h2 | h2
  ·split
   ·rfl
   ·exact h2
  ·have aj:e.on < L.size:=by
    rcases bZ e.on L.size with h' | h'
    ·exact h'
    ·simp[dL h'] at h1
   rw[aU ⟨hS _ h2,by rw[v.GG,<- v.zw];exact aj⟩]
theorem Inv.GH (v:Inv P E ops pd w0 C is l f σ fuel A a w X F D L er RC) {j:Nat} (h:L.getD j true=false):j ∉ D/\l.getD j false=false/\l.getD j true=false:=by
 have aj:j < L.size:=by
  rcases bZ j L.size with h' | h'
  ·exact h'
  ·simp[dL h'] at h
 rw[uF aj] at h
 have h1:l.getD j false=false:=by
  cases hh:l.getD j false with
  | false=>rfl
  | true=>rw[(v.hL j).2 (.inl hh)] at h;cases h
 have h2:j ∉ D:=fun hD=>by
  rw[(v.hL j).2 (.inr hD)] at h;cases h
 exact ⟨h2,h1,by rw[uF (by rw[v.GG,<- v.zw];exact aj)];exact h1⟩
theorem Inv.next (v:Inv P E ops pd w0 C (i::is) l f σ (fuel+1) A a w X F D L er RC) (hD:i ∉ D) (hr:i ∈ Region.ready .any ops L) {C2:Ctx} {f2:Bool} {ly:St} {A2:Cells} {a2:Act} {w2:World} {F2:Nat->FP}
  (h2:Rel P C2 A2 X ly a2 w2 F2) (hp:PF P E ops A2 a2 w2 D X) (hS2:(∀ d,ql E ops d=true->(L.setIfInBounds i true).getD d false=false)->Ext w0 w2 (fun _ _=>0)) (KL:f2=true->w2=w0/\pd=[]) {RC2:List (Nat×Nat×Nat×Nat×List Value)} (hrc:∀ e ∈ RC2,RE ops er (L.setIfInBounds i true) a2 w2 e) :
  Inv P E ops pd w0 C2 is (l.setIfInBounds i true) f2 ly fuel A2 a2 w2 X F2 D (L.setIfInBounds i true) er RC2:=by
 obtain ⟨_,o,ho,_⟩:=mem_ready.1 hr;have aj:i < ops.size:=(bR.1 ho).1;have zx:i < l.size:=by rw[v.GG];exact aj
 have zy:i < L.size:=by rw[v.zw];exact aj
 refine ⟨h2,hp,v.nd,v.IM,fun j hj=>?_,fun j hj=>?_,fun j hj=>?_,?_,BC v.cl hr,hS2,KL,by simpa using v.GG,by simpa using v.zw,fun k=>?_,(dU.1 v.Rt).2,fun k hk=>?_,fun k hk=>?_,hrc⟩
 ·rw[getD_set_ne false (fun e=>by subst e;exact hD hj)];exact v.dl j hj
 ·rcases aY.1 (v.pW j hj) with e | e
  ·subst e;exact absurd hj hD
  ·exact e
 ·rcases v.Vc j hj with h | h
  ·exact .inl ((gn zx).2 (.inr h))
  ·rcases aY.1 h with e | e
   ·exact .inl ((gn zx).2 (.inl e))
   ·exact .inr e
 ·have:=v.Vd;simp only[gW,hD,eV,aC,aI,aP] at this;omega
 ·rw[gn zy,gn zx,v.hL];exact or_assoc.symm
 ·rcases v.Ru k hk with h | h
  ·exact .inl ((gn zx).2 (.inr h))
  ·rcases aY.1 h with e | e
   ·exact .inl ((gn zx).2 (.inl e))
   ·exact .inr e
 ·rw[getD_set_ne false (fun e=>by subst e;exact (dU.1 v.Rt).1 hk)];exact v.io k (aZ _ hk)
theorem Inv.O3 (v:Inv P E ops pd w0 C (i::is) l f σ fuel A a w X F D L er RC) (hD:i ∈ D) (CF:i ∉ is) {ly:St} {X2:FP} {F2:Nat->FP} (h2:Rel P C A X2 ly a w F2) (hp:PF P E ops A a w (D.erase i) X2) :
  Inv P E ops pd w0 C is (l.setIfInBounds i true) f ly fuel A a w X2 F2 (D.erase i) L er RC:=by
 have zy:i < L.size:=by
  have h1:=(v.hL i).2 (.inr hD);rcases bZ i L.size with h' | h'
  ·exact h'
  ·simp[dL h'] at h1
 have zx:i < l.size:=by rw[v.GG,<- v.zw];exact zy
 have Cy:∀ k,k ∈ D.erase i↔k≠i/\k ∈ D:=fun k=>v.nd.mem_erase_iff;refine ⟨h2,hp,v.nd.erase _,fun j hj=>v.IM j ((Cy j).1 hj).2,fun j hj=>?_,fun j hj=>?_,fun j hj=>?_,?_,v.cl,v.hS,v.hf,by simpa using v.GG,v.zw,fun k=>?_,(dU.1 v.Rt).2,fun k hk=>?_,fun k hk=>?_,v.rc⟩
 ·obtain ⟨h3,h4⟩:=(Cy j).1 hj;rw[getD_set_ne false (fun e=>h3 e.symm)];exact v.dl j h4
 ·obtain ⟨h3,h4⟩:=(Cy j).1 hj;rcases aY.1 (v.pW j h4) with e | e
  ·exact absurd e h3
  ·exact e
 ·rcases v.Vc j hj with h | h
  ·exact .inl ((gn zx).2 (.inr h))
  ·rcases aY.1 h with e | e
   ·exact .inl ((gn zx).2 (.inl e))
   ·exact .inr e
 ·have:=v.Vd;simp only[gW,hD,eU,aD,aG,aL] at this;refine bJ (Nat.le_of_eq (dB List.length (List.filter_congr fun k hk=>?_))) this;have:k≠i:=fun e=>by subst e;exact CF hk
  simp only[Cy,this,ne_eq,eV,dY]
 ·rw[v.hL,gn zx,Cy];constructor
  ·rintro (h | h)
   ·exact .inl (.inr h)
   ·by_cases hk:k=i
    ·exact .inl (.inl hk)
    ·exact .inr ⟨hk,h⟩
  ·rintro ((h | h) | h)
   ·subst h;exact .inr hD
   ·exact .inl h
   ·exact .inr h.2
 ·rcases v.Ru k hk with h | h
  ·exact .inl ((gn zx).2 (.inr h))
  ·rcases aY.1 h with e | e
   ·exact .inl ((gn zx).2 (.inl e))
   ·exact .inr e
 ·rw[getD_set_ne false (fun e=>by subst e;exact CF hk)];exact v.io k (aZ _ hk)
theorem unl {j:Nat} (aj:j < L.size) {k:Nat} (hu:(L.setIfInBounds j true).getD k false=false):L.getD k false=false:=by
 cases hl:L.getD k false with
 | false=>rfl
 | true=>rw[(gn aj).2 (.inr hl)] at hu;cases hu
theorem Inv.xN (v:Inv P E ops pd w0 C is l f σ fuel A a w X F D L er RC) (vT:zu E ops pd er=true) {j:Nat} {o':Oper} (hj:ops[j]?=some o') (rD:L.getD j false=false) {a2:Act} {w2:World}
  (ht:∀ d,o'.dst≠some d->tmp a2 d=tmp a d) (hh:∀ e ∈ RC,Ax ops (L.setIfInBounds j true) e.2.1->Has w2 e.2.2.1 e.2.2.2.1 e.2.2.2.2):∀ e ∈ RC,RE ops er (L.setIfInBounds j true) a2 w2 e:=by
 intro e he;obtain ⟨h1,h2,o,t,x,d,h3,h4,h5,h6,h7,h8⟩:=v.rc e he;obtain ⟨_,_,o1,t1,x1,d1,g1,_,g2,g3,_,g4⟩:=vj vT h1;rw[h3] at g1;injection g1 with g1;subst g1;rw[h4] at g2;injection g2 with _ g2;injection g2 with g2;subst g2;rw[h5] at g3;injection g3 with g3;subst g3;have fw:j≠e.1:=fun e'=>by rw[e'] at rD;rw[h2] at rD;cases rD
 obtain ⟨k1,k2⟩:=g4 j o' hj fw
 have k3:o'.dst≠some x:=fun e'=>by
  have:=uE v.cl _ _ _ (k2 e') h2;rw[this] at rD;cases rD
 exact ⟨h1,by rw[getD_set_ne false fw];exact h2,o,t,x,d,h3,h4,h5,by rw[ht x k3];exact h6,by rw[ht d k1];exact h7,hh e he⟩
theorem Inv.still (v:Inv P E ops pd w0 C (i::is) l f σ fuel A a w X F D L er RC) (vT:zu E ops pd er=true) {gk:Nat} (Rv:FX E.er gk=er) {o':Oper} (hj:ops[i]?=some o') (rD:L.getD i false=false) {C2:Ctx} {A2:Cells} {X2:FP} {ly:St} {a2:Act} {w2:World} {F2:Nat->FP} (h2:Rel P C2 A2 X2 ly a2 w2 F2)
  (ht:∀ d,o'.dst≠some d->tmp a2 d=tmp a d) (dm:D_ o'.op=false->Ext w w2 (fun _ _=>0)) (HX:FY E gk ops.toList i o' is ly=true):∀ e ∈ RC,Ax ops (L.setIfInBounds i true) e.2.1->Has w2 e.2.2.1 e.2.2.2.1 e.2.2.2.2:=by
 intro e he hu;obtain ⟨g1,g2,o,t,x,d,g3,g4,g5,g6,g7,g8⟩:=v.rc e he;have zy:i < L.size:=by rw[v.zw];exact (bR.1 hj).1
 have huL:Ax ops L e.2.1:=hu.imp id fun hu=>by
  cases hl:L.getD e.2.1 false with
  | false=>rfl
  | true=>rw[(gn zy).2 (.inr hl)] at hu;cases hu
 cases hm:D_ o'.op with
 | false=>exact (g8 huL).ext (dm hm)
 | true=>
  simp only[FY,hm,fO,aO,dX,Ov,Rv,cC] at HX;have:=HX _ g1;obtain ⟨Rw,mC,o1,t1,x1,d1,k1,_,k2,k3,_,k4⟩:=vj vT g1;rw[g3] at k1;injection k1 with k1;subst k1;rw[g4] at k2;injection k2 with _ k2;injection k2 with k2;subst k2;rw[g5] at k3;injection k3 with k3;subst k3;have fw:i≠e.1:=fun e'=>by rw[e'] at rD;rw[g2] at rD;cases rD
  have hl:l.getD e.1 false=true:=((v.hL e.1).1 g2).resolve_right fun hD=>Rw (v.IM _ hD)
  have Tm:is.any (Nat.beq e.1)=false:=by
   cases hb:is.any (Nat.beq e.1) with
   | false=>rfl
   | true=>
    have:=v.io e.1 (aZ _ (qm.1 hb));rw[hl] at this;cases this
  have Tn:(is.any (Nat.beq e.2.1)||Nat.ble ops.toList.length e.2.1)=true:=by
   rcases bZ e.2.1 ops.size with h9 | h9
   ·have Xo:=huL.resolve_left (by omega)
    have hui:e.2.1≠i:=fun e'=>by
     have:=hu.resolve_left (by omega);rw[(gn zy).2 (.inl e')] at this;cases this
    rcases v.Ru _ h9 with xy | xy
    ·rw[(v.hL _).2 (.inl xy)] at Xo;cases Xo
    ·rcases aY.1 xy with zT | zT
     ·exact absurd zT hui
     ·rw[qm.2 zT,fO]
   ·have:Nat.ble ops.toList.length e.2.1=true:=by simpa using h9
    rw[this,Bool.or_true]
  rw[Tm,Tn,aO,dX,dX,dE,g3] at this;simp only at this;obtain ⟨q1,q2⟩:=k4 i o' hj fw
  have q3:o'.dst≠some x:=fun e'=>by
   have:=uE v.cl _ _ _ (q2 e') g2;rw[this] at rD;cases rD
  have hx:tmp a2 x=.pointer (some ⟨e.2.2.1,e.2.2.2.1,none⟩):=by rw[ht x q3];exact g6
  obtain ⟨z1,z2⟩:=Rr h2 this g4 g5 hx;rw[ht d q1,g7] at z1;exact z1
theorem Inv.early (hE:sQ P E) (ui:Do E ops pd=true) {gk:Nat} (Rw:oo E.pd gk=pd) (vT:zu E ops pd er=true) (pD:Ow E gk ops.toList is σ=true) (hC:∀ b i,C.A0 b i->C.F0 b i=0)
  (v:Inv P E ops pd w0 C is l f σ (fuel+1) A a w X F D L er RC) {j:Nat} (hj:j ∈ pd) (hr:j ∈ Region.ready .any ops L) {S:Array Bool->World->Prop}
  (hS:∀ w',Ext w w' (fun _ _=>0)->((∀ d,ql E ops d=true->(L.setIfInBounds j true).getD d false=false)->Ext w0 w' (fun _ _=>0))->S (L.setIfInBounds j true) w')
  (next:∀ (a':Act) (w':World) (X':FP),Inv P E ops pd w0 C is l f σ fuel A a' w' X' F (j::D) (L.setIfInBounds j true) er RC->ul P .any ops Q S fuel (L.setIfInBounds j true) a' w') :
  wpOp P ops Q j (fun a' w'=>S (L.setIfInBounds j true) w'/\ul P .any ops Q S fuel (L.setIfInBounds j true) a' w') a w:=by
 obtain ⟨o,d,s,ho,hg,hd,hs,fw⟩:=Az ui hj;have zy:j < L.size:=by rw[v.zw];exact (bR.1 ho).1
 obtain ⟨Xp,NU,_⟩:=v.GH (mem_ready.1 hr).1;have To:j ∈ is:=(v.Vc j hj).resolve_left (by rw[NU];simp)
 have bc:HI σ d=true:=by
  unfold Ow at pD;rw[Rw] at pD;have:=cC.1 pD j hj;rw[dE,ho,qm.2 To] at this
  simpa [hd] using this
 obtain ⟨val,w',Fj,f_,dm,h2,hPS⟩:=Tj (o:=o) v.h hE.ti hs bc
 have um:(∀ d,ql E ops d=true->(L.setIfInBounds j true).getD d false=false)->Ext w0 w' (fun _ _=>0):=fun zY=>(v.hS fun d' sr=>by
  cases hh:L.getD d' false with
  | false=>rfl
  | true=>rw[<-zY d' sr,(gn zy).2 (.inr hh)]).trans dm (fun _ _ _ _=>rfl)
 have hw:Region.wanted o (yielded ops a.tmps)=true:=by simp[Region.wanted,hg]
 unfold wpOp;simp only[ho,hw,aI];refine .inl (ou f_ ⟨hS w' dm um,?_⟩);rw[hd];have hdn:d < σ.n:=(IJ bc).1
 refine next _ _ (fun b i=>X b i+Fj b i) ⟨h2,⟨o,d,s,Fj,X,ho,hd,hs,?_,fun b i=>aN _,?_⟩,dU.2 ⟨Xp,v.nd⟩,?_,?_,?_,v.Vc,?_,BC v.cl hr,um,fun hf=>?_,v.GG,by simpa using v.zw,fun k=>?_,v.Rt,v.Ru,v.io,v.xN vT ho (by have:=(mem_ready.1 hr).1;rw[uF zy] at this;exact this) (fun d' sr=>by rw[ot,bA (fun e=>sr (by rw[hd,e.1]))]) (fun e he hu=>by
  obtain ⟨_,_,_,_,_,_,_,_,_,_,_,q⟩:=v.rc e he
  exact (q (hu.imp id fun hu=>unl zy hu)).ext dm)⟩
 ·have:tmp (a.put (some d) val) d=val:=by rw[ot,v.h.size,aU ⟨rfl,hdn⟩]
  rw[this];exact hPS
 ·refine PF.mY (fun _ _ h=>h) (fun b i ha u hu=>dm.cell b i (wk hu) rfl u hu) dm.tQ D (fun k hk o' d' zZ sr=>?_) (fun b i hp=>⟨fun u hu=>dm.cell b i (wk hu) rfl u hu,dm.xQ b i (v.h.kO b i (.inl (by omega)))⟩) v.pf;have:d'≠d:=fun e=>fw k o' zZ (fun e'=>by subst e';exact Xp hk) (by rw[sr,e]);rw[ot,bA (fun h=>this h.1.symm)]
 ·intro k hk;rcases aY.1 hk with e | e
  ·subst e;exact hj
  ·exact v.IM k e
 ·intro k hk;rcases aY.1 hk with e | e
  ·subst e;exact NU
  ·exact v.dl k e
 ·intro k hk;rcases aY.1 hk with e | e
  ·subst e;exact To
  ·exact v.pW k e
 ·have:=MB Xp is To;have:=v.Vd;omega
 ·have:=(v.hf hf).2;rw[this] at hj;cases hj
 ·rw[gn zy,v.hL,aY];constructor
  ·rintro (h | h | h)
   ·exact .inr (.inl h)
   ·exact .inl h
   ·exact .inr (.inr h)
  ·rintro (h | h | h)
   ·exact .inr (.inl h)
   ·exact .inl h
   ·exact .inr (.inr h)
theorem Rx (hE:sQ P E) {gk:Nat} (c6:∀ o ∈ ops.toList,rt P o.op=true) {K:St->Option R} (hP:∀ c a w,¬ Q (.panic c) a w) (BD:Region.noSelect ops=true) (ui:Do E ops pd=true) (Rw:oo E.pd gk=pd) {er:List (Nat×Nat)} (Rv:FX E.er gk=er) (vT:zu E ops pd er=true) :
  ∀ (is:List Nat) (l:Array Bool) (f:Bool) {C:Ctx} {σ:St},(∀ a w,Nx P C K x a w->Q .normal a w)->(∀ b i,C.A0 b i->C.F0 b i=0)->zt E gk ops pd is l f=true->CU E gk ops.toList is σ K=some x ->
   ∀ (fuel:Nat) {A:Cells} {a:Act} {w:World} {X:FP} {F:Nat->FP} {D:List Nat} {L:Array Bool} {RC:List (Nat×Nat×Nat×Nat×List Value)},Inv P E ops pd w0 C is l f σ fuel A a w X F D L er RC->ul P .any ops Q (SD E ops w0 C RC) fuel L a w:=by
 intro is
 induction is with
 | nil=>
  intro l f C σ hQ hC hg hk fuel A a w X F D L RC v;simp only[zt,bN] at hg
  have hD:D=[]:=by
   cases D with
   | nil=>rfl
   | cons j D=>have:=v.pW j (by simp);cases this
  subst hD
  have hr:Region.ready .any ops L=[]:=by
   rw[List.eq_nil_iff_forall_not_mem];intro j hj;have:=v.Dp (S:=[]) (fun _ h=>h) hj (by simp);rw[zX,hg] at this;cases this
  have hq:=hQ a w ⟨σ,hk,A,F,v.h.less fun _ _=>aW _⟩
  cases fuel with
  | zero=>exact ⟨hr,hq⟩
  | succ fuel=>exact ⟨fun _=>hq,by rw[hr];simp⟩
 | cons i is ih=>
  intro l f C σ hQ hC hg hk;simp only[CU] at hk;split at hk
  ·cases hk
  rename_i pD;simp only[zt] at hg
  cases hi:ops[i]? with
  | none=>rw[hi] at hg;cases hg
  | some o=>
  rw[dE,hi] at hk;rw[hi] at hg;simp only at hk hg;have HS:i < ops.size:=(bR.1 hi).1;have Dn:o ∈ ops.toList:=cB (i:=i) (by simpa using hi)
  have O3:∀ (fuel:Nat) {A:Cells} {a:Act} {w:World} {X:FP} {F:Nat->FP} {D:List Nat} {L:Array Bool} {RC:List (Nat×Nat×Nat×Nat×List Value)},Inv P E ops pd w0 C (i::is) l f σ fuel A a w X F D L er RC->i ∈ D->ul P .any ops Q (SD E ops w0 C RC) fuel L a w:=by
   intro fuel A a w X F D L RC v hD;have EH:=v.IM i hD;rw[qm.2 EH] at hg;simp only[aF,cM] at hg;obtain ⟨⟨⟨CF,_⟩,_⟩,hg⟩:=hg;have CF:i ∉ is:=fun hm=>by rw[qm.2 hm] at CF;cases CF
   obtain ⟨o',d',s',zZ,Xq,sr,hs',_⟩:=Az ui EH;rw[hi] at zZ;injection zZ with zZ;subst zZ;obtain ⟨o2,d,s,Fi,X',g1,g2,g3,g4,g5,g6⟩:=PF.take D hD v.pf;rw[hi] at g1;injection g1 with g1;subst g1;simp only[CT,Xq] at hk;split at hk
   ·cases hk
   rw[Ti g3,g2] at hk;split at hk;rotate_left
   ·cases hk
   obtain ⟨F2,h2⟩:=v.h.bY (some d) g4.slot g5 g4.whole;rw[KK] at h2;exact ih _ f hQ hC hg hk fuel (v.O3 hD CF h2 g6)
  intro fuel
  induction fuel with
  | zero=>
   intro A a w X F D L RC v;by_cases hD:i ∈ D
   ·exact O3 0 v hD
   ·have:=v.Vd;simp[gW,hD] at this
  | succ fuel ihf=>
  intro A a w X F D L RC v;by_cases hD:i ∈ D
  ·exact O3 _ v hD
  have GI:∀ e ∈ RC,Ax ops L e.2.1->Has w e.2.2.1 e.2.2.2.1 e.2.2.2.2:=fun e he=>by obtain ⟨_,_,_,_,_,_,_,_,_,_,_,q⟩:=v.rc e he;exact q
  have aal:∀ w',Ext w w' (fun _ _=>0)->∀ (l':Array Bool),(∀ k,l'.getD k false=false->L.getD k false=false)->((∀ d,ql E ops d=true->l'.getD d false=false)->Ext w0 w' (fun _ _=>0))->SD E ops w0 C RC l' w':=fun w' qJ l' nH hh=>⟨hh,(fun b i ha u hu=>by
   have:=v.h.ext.cell b i (wk hu) (hC b i ha) u hu
   exact qJ.cell b i (wk this) rfl u this),fun e he hu=>(GI e he (hu.imp id (nH _))).ext qJ⟩
  have Ry:∀ j,j ∈ pd->j ∈ Region.ready .any ops L->wpOp P ops Q j (fun a' w'=>SD E ops w0 C RC (L.setIfInBounds j true) w'/\ul P .any ops Q (SD E ops w0 C RC) fuel (L.setIfInBounds j true) a' w') a w:=fun j hj hr=>
   v.early hE ui Rw vT pD hC hj hr (fun w' qJ hh=>aal w' qJ _ (fun k hk=>unl (by rw[v.zw];obtain ⟨_,oj,GE,_⟩:=mem_ready.1 hr;exact (bR.1 GE).1) hk) hh) (fun a' w' X' v'=>ihf v')
  have KM:SD E ops w0 C RC L w:=⟨v.hS,(fun b i ha u hu=>v.h.ext.cell b i (wk hu) (hC b i ha) u hu),GI⟩
  cases wv:pd.any (Nat.beq i) with
  | true=>
   rw[wv] at hg;simp only[aF,cM,cC] at hg;obtain ⟨⟨⟨CF,z6⟩,HX⟩,hg⟩:=hg;have sR:i ∈ Region.ready .any ops L:=v.Fg (by simpa using z6) hD;refine ⟨fun h0=>(by rw[h0] at sR;cases sR),fun j hj=>Ry j ?_ hj⟩
   by_cases Ve:j ∈ pd.filter (fun j=>!Nat.beq i j)
   ·exact (List.mem_filter.1 Ve).1
   ·refine qm.1 (HX j (v.Dp (fun k hk=>List.mem_filter.2 ⟨v.IM k hk,?_⟩) hj Ve))
    cases hb:Nat.beq i k with
    | false=>rfl
    | true=>rw[cL hb] at hD;exact absurd hk hD
  | false=>
  rw[wv] at hg;simp only at hg;have abq:i ∉ pd:=fun hm=>by rw[qm.2 hm] at wv;cases wv
  have Tp:∀ j ∈ D,∀ o' d,ops[j]?=some o'->o'.dst=some d->o.dst≠some d:=fun j hj o' d zZ sr=>by
   obtain ⟨o2,d2,s2,g1,_,g2,_,g3⟩:=Az ui (v.IM j hj);rw[zZ] at g1;injection g1 with g1;subst g1;rw[sr] at g2;injection g2 with g2;subst g2;exact g3 i o hi (fun e=>by subst e;exact hD hj)
  obtain ⟨b,o6,hk,h1,hw⟩:=KI v.h hk
  have o7:(match (generalizing:=false) b with
    | true=>rm E gk i o o6 fun σ=>match FY E gk ops.toList i o is σ with
     | true=>CU E gk ops.toList is σ K
     | false=>none
    | false=>CU E gk ops.toList is (o6.bY o.dst (.rq [])) K)=some x/\(b=true->JZ E gk i=true->JY o6 o=true):=by
   cases b with
   | true=>
    simp only at hk
    cases hn:(JZ E gk i&&!JY o6 o) with
    | true=>rw[hn] at hk;cases hk
    | false=>
     rw[hn] at hk;exact ⟨hk,fun _ Dh=>by rw[Dh] at hn;simpa using hn⟩
   | false=>exact ⟨hk,fun e=>by cases e⟩
  obtain ⟨hk,aam⟩:=o7
  have ue:∀ (val:Value),∀ j ∈ D,∀ o' d,ops[j]?=some o'->o'.dst=some d->tmp (a.put o.dst val) d=tmp a d:=fun val j hj o' d zZ sr=>by
   have:=Tp j hj o' d zZ sr
   cases Xr:o.dst with
   | none=>rfl
   | some e=>rw[ot,bA (fun h=>this (by rw[Xr,h.1]))]
  split at hg
  ·rename_i Vf;simp only[aF,cX,cM,cC,dF] at Vf;obtain ⟨ng,⟨Jz,KN⟩,z6⟩:=Vf;have sR:i ∈ Region.ready .any ops L:=v.Fg (by simpa using KN) hD;have GJ:∀ j oj,ops[j]?=some oj->j≠i->L.getD j true=false->(∀ e ∈ oj.after,Region.binds .any e=true->e.on≠i)->o.apart ops oj=true:=fun j oj GE mZ rD qt=>Region.free_spec hi Jz j oj GE mZ (v.GH rD).2.2 qt;have sF:ql E ops i=false:=by simp[ql,hi,ng]
   have zY:∀ (l':Array Bool),(∀ d,ql E ops d=true->(l'.setIfInBounds i true).getD d false=false)↔∀ d,ql E ops d=true->l'.getD d false=false:=fun l'=>by
    constructor
    ·intro hh d hd;have:=hh d hd;rw[getD_set_ne false (fun e=>by subst e;rw[sF] at hd;cases hd)] at this;exact this
    ·intro hh d hd;rw[getD_set_ne false (fun e=>by subst e;rw[sF] at hd;cases hd)];exact hh d hd
   have Vg:∀ (C:Ctx) (RC:List (Nat×Nat×Nat×Nat×List Value)),(∀ e ∈ RC,(e.1,e.2.1) ∈ er)->∀ l w,SD E ops w0 C RC (l.setIfInBounds i true) w↔SD E ops w0 C RC l w:=fun C RC jd l' w'=>by
    unfold SD;rw[zY];refine and_congr jT (and_congr jT (forall_congr' fun e=>forall_congr' fun he=>?_))
    have fw:i≠e.2.1:=fun e'=>by
     rcases (vj vT (jd e he)).2.1 with h | ⟨h,_⟩
     ·omega
     ·rw[<-e',sF] at h;cases h
    unfold Ax;rw[getD_set_ne false fw]
   have jd:∀ e ∈ RC,(e.1,e.2.1) ∈ er:=fun e he=>(v.rc e he).1
   have Y0:∀ {l':Array Bool} {u:Nat},(∃ j,(j,u) ∈ er)->(Ax ops (l'.setIfInBounds i true) u->Ax ops l' u):=fun {l' u} ⟨j,hj⟩ hu=>by
    have fw:i≠u:=fun e'=>by
     rcases (vj vT hj).2.1 with h | ⟨h,_⟩
     ·omega
     ·rw[<-e',sF] at h;cases h
    unfold Ax at hu ⊢
    rwa [getD_set_ne false fw] at hu
   have Vh:(∀ d,ql E ops d=true->(L.setIfInBounds i true).getD d false=false)->Ext w0 w (fun _ _=>0):=fun hd=>v.hS ((zY L).1 hd)
   have Fh:L.getD i false=false:=by
    have h0:=(mem_ready.1 sR).1;rw[uF (by rw[v.zw];exact HS)] at h0;exact h0
   have Eh:∀ (val:Value),∀ e ∈ RC,RE ops er (L.setIfInBounds i true) (a.put o.dst val) w e:=fun val=>v.xN vT hi Fh (fun d hd=>by
    cases ho:o.dst with
    | none=>rfl
    | some d'=>rw[ot,bA (fun e=>hd (by rw[ho,e.1]))]) (fun e he hu=>GI e he (Y0 ⟨_,jd e he⟩ hu))
   cases b with
   | true=>
    simp only at hk
    cases Xs:JZ E gk i with
    | true=>
     obtain ⟨C',c1,c2,c3,c4,c5⟩:=h1.Wa;obtain ⟨C1,f1,f2⟩:=c4.frame;obtain ⟨val,f_,ly,mB,A2,F2,h2⟩:=Wb f1 hE (c6 o Dn) ng (aam rfl Xs) hk;simp only at mB;split at mB;rotate_left
     ·cases mB
     have Xt:∀ b i,C'.A0 b i->C'.F0 b i=0:=fun b i ha=>c3 b i (by rw[<-c2];exact ha);obtain ⟨e1,e2,e3,e4,e5⟩:=f2 h2
     refine Ay (S:=SD E ops w0 C' RC) (fun l' w' hs=>⟨hs.1,(fun b i ha u hu=>hs.2.1 b i (by rw[c2];exact h1.a0 b i ha) u (by rw[c1];exact h1.ext.cell b i (wk hu) (hC b i ha) u hu)),hs.2.2⟩) _ _ _ _
      (wu hi (Region.noSelect_spec BD) (fun c a w hq=>(hP c _ _ hq).elim) (Vg C' RC jd) fuel L a w GJ sR v.cl (.inl ⟨hw,fun w' um=>f_ w' fun b i ha u hu=>?_⟩) ⟨v.hS,(fun b i ha u hu=>by rw[c1] at hu;exact hu),GI⟩
      (ih _ f (fun a w ⟨yj,q1,A3,F3,q2⟩=>hQ a w ⟨yj,q1,A3,F3,c5 q2⟩) Xt hg mB fuel (v.next hD sR e1 (PF.mY e2 e3 e4 D (ue val) e5 v.pf) Vh v.hf (Eh val))))
     obtain ⟨l',wb,rD,um⟩:=um;exact um.2.1 b i (by rw[c2];exact ha) u (by rw[c1];exact hu)
    | false=>
    cases KO:Ou E gk i with
    | true=>
     obtain ⟨u,JA⟩:∃ u,(i,u) ∈ er:=by
      unfold Ou at KO;rw[Rv] at KO;obtain ⟨e,he1,he2⟩:=fZ.1 KO;rw[cL he2];exact ⟨e.2,he1⟩
     obtain ⟨_,hu0,o1,t1,x1,d1,g1,_,g2,g3,g4,_⟩:=vj vT JA;rw[hi] at g1;injection g1 with g1;subst g1;obtain ⟨C1,f1,f2⟩:=h1.frame;obtain ⟨b0,off,aan,cs,q1,q2,q3,q4⟩:=Wd f1 hE (c6 o Dn) g2 hk;obtain ⟨val,f_,ly,mB,A2,F2,h2⟩:=Jy hE f1 (c6 o Dn) ng hk
     have Kj:val=aan:=by
      have r1:=f_ w fun _=>Ext.refl _ _;have r2:=q4 w q2;rw[r1] at r2;injection r2 with r2 _;injection r2
     subst Kj;simp only at mB;split at mB;rotate_left
     ·cases mB
     rename_i JB;obtain ⟨e1,e2,e3,e4,e5⟩:=f2 h2
     have tM:RE ops er (L.setIfInBounds i true) (a.put o.dst val) w (i,u,b0,off,cs):=by
      refine ⟨JA,(gn (by rw[v.zw];exact HS)).2 (.inl rfl),o,t1,x1,d1,hi,g2,g3,?_,?_,fun _=>q2⟩
      ·rw[g3,ot,bA (fun e=>g4 e.1.symm)];exact q1
      ·simp only[FY,KO,Bool.or_true,aO,dX,Ov,Rv,cC] at JB;have h9:=JB _ JA
       have Tm:is.any (Nat.beq i)=false:=by
        cases hb:is.any (Nat.beq i) with
        | false=>rfl
        | true=>exact absurd (qm.1 hb) (dU.1 v.Rt).1
       have Tn:(is.any (Nat.beq u)||Nat.ble ops.toList.length u)=true:=by
        rcases bZ u ops.size with k1 | k1
        ·obtain ⟨k2,_,k3⟩:=hu0.resolve_left (by omega);rcases v.Ru u k1 with k4 | k4
         ·have k5:=(v.hL u).2 (.inl k4);have:=uE v.cl _ _ _ k3 k5;rw[Fh] at this;cases this
         ·rcases aY.1 k4 with k5 | k5
          ·rw[k5,sF] at k2;cases k2
          ·rw[qm.2 k5,fO]
        ·have:Nat.ble ops.toList.length u=true:=by simpa using k1
         rw[this,Bool.or_true]
       rw[Tm,Tn,aO,dX,dX,dE,hi] at h9;simp only at h9;have xy:=(Rr h2 h9 g2 g3 (b:=b0) (off:=off) (by rw[g3,ot,bA (fun e=>g4 e.1.symm)];exact q1)).2;rw[g3] at xy ⊢;rw[ot,aU ⟨rfl,by simpa [Act.put] using xy⟩];exact q3
     refine Ay (S:=SD E ops w0 C ((i,u,b0,off,cs)::RC)) (fun l' w' hs=>⟨hs.1,hs.2.1,fun e he=>hs.2.2 e (aZ _ he)⟩) _ _ _ _
      (wu hi (Region.noSelect_spec BD) (fun c a w hq=>(hP c _ _ hq).elim) (Vg C _ (fun e he=>by rcases aY.1 he with rfl | he;exact JA;exact jd e he)) fuel L a w GJ sR v.cl (.inl ⟨hw,fun w' um=>?_⟩) ⟨KM.1,KM.2.1,fun e he hu=>?_⟩
      (ih _ f hQ hC hg mB fuel (v.next hD sR e1 (PF.mY e2 e3 e4 D (ue val) e5 v.pf) Vh v.hf (fun e he=>?_))))
     ·obtain ⟨l',wb,rD,um⟩:=um;refine q4 w' (um.2.2 _ bG ?_)
      rcases hu0 with k1 | ⟨_,_,k3⟩
      ·exact .inl k1
      ·right;show l'.getD u false=false
       cases Xu:l'.getD u false with
       | false=>rfl
       | true=>
        have:=uE wb _ _ _ k3 Xu;rcases bZ i l'.size with h' | h'
        ·simp[h'] at this rD;rw[rD] at this;cases this
        ·simp[dL h'] at this
     ·rcases aY.1 he with rfl | he
      ·exact q2
      ·exact GI e he hu
     ·rcases aY.1 he with rfl | he
      ·exact tM
      ·exact Eh val e he
    | false=>
    obtain ⟨C1,f1,f2⟩:=h1.frame;obtain ⟨val,f_,ly,mB,A2,F2,h2⟩:=Jy hE f1 (c6 o Dn) ng hk;simp only at mB;split at mB;rotate_left
    ·cases mB
    obtain ⟨e1,e2,e3,e4,e5⟩:=f2 h2;refine wu hi (Region.noSelect_spec BD) (fun c a w hq=>(hP c _ _ hq).elim) (Vg C RC jd) fuel L a w GJ sR v.cl (.inl ⟨hw,fun w' um=>f_ w' fun hr=>?_⟩) KM (ih _ f hQ hC hg mB fuel (v.next hD sR e1 (PF.mY e2 e3 e4 D (ue val) e5 v.pf) Vh v.hf (Eh val)))
    rcases z6 with ((z6 | z6) | z6) | ⟨n_,aao⟩
    ·rw[hr] at z6;cases z6
    ·rw[Xs] at z6;cases z6
    ·rw[KO] at z6;cases z6
    ·rw[(v.hf n_).1];obtain ⟨l',wb,rD,um⟩:=um;refine um.1 fun d hd=>?_
     have Rz:d < ops.size:=by
      unfold ql at hd;split at hd
      ·rename_i od Xr;exact (bR.1 Xr).1
      ·cases hd
     rcases aao d Rz with hh | hh
     ·rw[hd] at hh;cases hh
     ·cases Xu:l'.getD d false with
      | false=>rfl
      | true=>
       have:=uE wb _ _ _ hh Xu;rcases bZ i l'.size with h' | h'
       ·simp[h'] at this rD;rw[rD] at this;cases this
       ·simp[dL h'] at this
   | false=>
    obtain ⟨F2,h2⟩:=HW h1 o;exact wu hi (Region.noSelect_spec BD) (fun c a w hq=>(hP c _ _ hq).elim) (Vg C RC jd) fuel L a w GJ sR v.cl (v:=undef) (.inr ⟨hw,rfl⟩) KM (ih _ f hQ hC hg hk fuel (v.next hD sR h2 (PF.mY (fun _ _ h=>h) (fun _ _ _ _ h=>h) (fun _ _ h=>h) D (ue undef) (fun _ _ _=>⟨fun _ h=>h,rfl⟩) v.pf) Vh v.hf (Eh undef)))
  ·simp only[aF,cC] at hg;obtain ⟨⟨KN,HX⟩,hg⟩:=hg;have sR:i ∈ Region.ready .any ops L:=v.Fg (by simpa using KN) hD;have O4:i < L.size:=by rw[v.zw];exact HS
   have Fh:L.getD i false=false:=by
    have h0:=(mem_ready.1 sR).1;rw[uF O4] at h0;exact h0
   refine ⟨fun h0=>(by rw[h0] at sR;cases sR),fun j hj=>?_⟩
   by_cases hjp:j ∈ pd
   ·exact Ry j hjp hj
   have oD:i=j:=cL (HX j (v.Dp v.IM hj hjp));subst oD;unfold wpOp;simp only[hi,hw]
   have hold:∀ {d},(L.setIfInBounds i true).getD d false=false->L.getD d false=false:=fun {d} hh=>by
    cases hl:L.getD d false with
    | false=>rfl
    | true=>rw[(gn O4).2 (.inr hl)] at hh;cases hh
   have C0:(L.setIfInBounds i true).getD i false=true:=(gn O4).2 (.inl rfl)
   cases b with
   | true=>
    simp only[aI];obtain ⟨C1,f1,f2⟩:=h1.frame;have EG:∀ w',(∀ b i,A b i->∀ u,ce w b i=some u->ce w' b i=some u)->∀ b i,C.A0 b i->∀ u,ce C.w0 b i=some u->ce w' b i=some u:=fun w' he b i ha u hu=>he b i (v.h.a0 b i ha) u (v.h.ext.cell b i (wk hu) (hC b i ha) u hu)
    cases ng:u0 E o.op with
    | true=>
     refine .inl (Oper.wp_mono (fun a' w' hn=>?_) (Rm (Wc (Jy hE f1 (c6 o Dn) ng hk))));obtain ⟨ht,hww,ly,mB,A2,F2,h2⟩:=hn;subst hww;simp only at mB;split at mB;rotate_left
     ·cases mB
     obtain ⟨e1,e2,e3,e4,e5⟩:=f2 h2;have um:(∀ d,ql E ops d=true->(L.setIfInBounds i true).getD d false=false)->Ext w0 w (fun _ _=>0):=fun hd=>v.hS fun d zY=>hold (hd d zY);exact ⟨⟨um,EG _ e3,fun e he hu=>GI e he (hu.imp id hold)⟩,ih _ false hQ hC hg mB fuel (v.next hD sR e1 (PF.mY e2 e3 e4 D (fun j hj o' d zZ sr=>ht d (Tp j hj o' d zZ sr)) e5 v.pf) um (fun e=>by cases e) (v.xN vT hi Fh ht fun e he hu=>GI e he (hu.imp id hold)))⟩
    | false=>
    refine .inl (Oper.wp_mono (fun a' w' hn=>?_) (Rm (Rl hE f1 (c6 o Dn) ng hk)));obtain ⟨ht,⟨ly,mB,A2,F2,h2⟩,hq⟩:=hn;simp only at mB;split at mB;rotate_left
    ·cases mB
    rename_i JB;obtain ⟨e1,e2,e3,e4,e5⟩:=f2 h2
    have um:(∀ d,ql E ops d=true->(L.setIfInBounds i true).getD d false=false)->Ext w0 w' (fun _ _=>0):=fun hd=>by
     have Xv:quiet E o.op=true:=by
      cases Xv:quiet E o.op with
      | true=>rfl
      | false=>
       have hdj:ql E ops i=true:=by simp[ql,hi,ng,Xv]
       have:=hd i hdj;rw[C0] at this;cases this
     exact (v.hS fun d zY=>hold (hd d zY)).trans (hq Xv) (fun _ _ _ _=>rfl)
    have Xw:=v.still vT Rv hi Fh h2 ht (fun hm=>hq (quiet_of hk hm ng)) JB;exact ⟨⟨um,EG _ e3,Xw⟩,ih _ false hQ hC hg mB fuel (v.next hD sR e1 (PF.mY e2 e3 e4 D (fun j hj o' d zZ sr=>ht d (Tp j hj o' d zZ sr)) e5 v.pf) um (fun e=>by cases e) (v.xN vT hi Fh ht Xw))⟩
   | false=>
    simp only[aG,aL];obtain ⟨F2,h2⟩:=HW h1 o;have um:(∀ d,ql E ops d=true->(L.setIfInBounds i true).getD d false=false)->Ext w0 w (fun _ _=>0):=fun hd=>v.hS fun d zY=>hold (hd d zY)
    exact ⟨⟨um,KM.2.1,fun e he hu=>GI e he (hu.imp id hold)⟩,ih _ false hQ hC hg hk fuel (v.next hD sR h2 (PF.mY (fun _ _ h=>h) (fun _ _ _ _ h=>h) (fun _ _ h=>h) D (ue undef) (fun _ _ _=>⟨fun _ h=>h,rfl⟩) v.pf) um (fun e=>by cases e) (v.xN vT hi Fh (fun d hd=>by
     cases ho:o.dst with
     | none=>rfl
     | some d'=>rw[ot,bA (fun e=>hd (by rw[ho,e.1]))]) fun e he hu=>GI e he (hu.imp id hold)))⟩
end
theorem We (hE:sQ P E) (hm:P.follows .mixedOrders=true) {gk id:Nat} {ops:Array Oper} (c6:∀ o ∈ ops.toList,rt P o.op=true) {is bx:List Nat} (hd:KJ E gk ops is=true) (h:du P C A σ a w F) {K:St->Option R} (hk:Ns σ bx (fun σ=>Qw ops.toList σ (oo E.pd gk) fun σ=>CU E gk ops.toList is σ K)=some x)
  (hQ:∀ a w,Nx P C K x a w->Q .normal a w) (hP:∀ c a w,¬ Q (.panic c) a w):(Code.region id ops true).wp P Q a w:=by
 simp only[KJ,aF,dP] at hd;obtain ⟨⟨⟨⟨BD,hlen⟩,ui,aap⟩,⟨sF,aaq⟩,vT⟩,hg⟩:=hd;have h0:=h.drew;obtain ⟨A1,o6,F1,hk,h1⟩:=Va bx h0 hk;obtain ⟨ly,F2,hk,h1⟩:=YZ (oo E.pd gk) h1 hk;obtain ⟨C',c1,c2,c3,c4,c5⟩:=h1.Xn;have Xt:∀ b i,C'.A0 b i->C'.F0 b i=0:=fun b i ha=>c3 b i (by rw[<-c2];exact ha)
 have NL:∀ k,(Array.replicate ops.size false).getD k false=false:=fun k=>by
  by_cases hk:k < ops.size <;> simp[hk]
 refine wp_region_any hm (GD _ _ _ _ (Rx hE c6 hP BD ui rfl rfl vT is _ _ (fun a w ⟨yj,q1,A3,F3,q2⟩=>hQ a w ⟨yj,q1,A3,F3,c5 q2⟩) Xt hg hk ops.size (w0:=w.drew) (D:=[]) (RC:=[]) ⟨c4,trivial,iG,(fun _ h=>by cases h),(fun _ h=>by cases h),(fun _ h=>by cases h),fun j hj=>.inr (qm.1 (cC.1 aap j hj)),
  bJ (List.length_filter_le _ _) hlen,fun j o hj hl=>?_,fun _=>Ext.refl _ _,fun hf=>⟨rfl,?_⟩,by simp,by simp,(fun k=>by simp),EF sF,fun k hk=>.inr (qm.1 (cC.1 aaq k (dF.2 hk))),fun k _=>NL k,fun e he=>by cases he⟩))
 ·rw[NL] at hl;cases hl
 ·split at hf
  ·assumption
  ·cases hf
end
end OT
namespace OT
open Go
section
variable {P:Program} {C:Ctx} {A:Cells} {X:FP} {σ:St} {a:Act} {w:World} {F:Nat->FP} {R:Type} {x:R} {E:Env}
theorem KP (f:Nat->Slot):∀ (live:List Nat) (i:Nat),m9 (live.map fun j=>(j,f j)) i=if live.any (Nat.beq i) then some (f i) else none
 | [],i=>rfl
 | j::live,i=>by
  simp only[cR,m9,fV];by_cases oD:i=j
  ·subst oD;simp
  ·have h1:Nat.beq j i=false:=by
    cases hb:Nat.beq j i with
    | false=>rfl
    | true=>exact absurd (cL hb).symm oD
   have h2:Nat.beq i j=false:=by
    cases hb:Nat.beq i j with
    | false=>rfl
    | true=>exact absurd (cL hb) oD
   simp only[h1,h2,aG,aL,dX,KP f live i]
theorem zA (live:List Nat) (fr:List (Nat×Md)) (σ:St) (i:Nat):(ey live fr σ).get i=if i < σ.n/\live.any (Nat.beq i)=true then yZ fr i (jr live fr σ i) else .dead:=by
 unfold St.get ey;simp only[KP];by_cases hi:i < σ.n
 ·have h1:Nat.blt i σ.n=true:=by simpa [gR] using hi
  simp only[h1,aI,hi,dY];split <;> simp_all
 ·have h1:Nat.blt i σ.n=false:=by
   cases hb:Nat.blt i σ.n with
   | false=>rfl
   | true=>rw[gR] at hb;exact absurd hb hi
  simp[h1,hi]
theorem BF (live:List Nat) (fr:List (Nat×Md)) (σ:St) (i:Nat):(ey live fr σ).lw i=[0,0,0,0,0]:=rfl
theorem BG {s:List Nat} (h:s.length<=5):Below (s.map fun _=>0) [0,0,0,0,0]:=by
 intro j y hj;rw[eK] at hj
 cases hs:s[j]? with
 | none=>rw[hs] at hj;cases hj
 | some z=>
  rw[hs] at hj;injection hj with hj;have:=(aM.1 hs).1;subst hj
  match j,this with
  | 0,_ | 1,_ | 2,_ | 3,_ | 4,_=>exact ⟨0,rfl,aN _⟩
  | j+5,h'=>omega
theorem BH {live:List Nat} {fr:List (Nat×Md)} {r:Nat} (hr:CV live fr r=true) {p:Path} {pl:Pl} (hp:place σ a w r p=some pl):place (ey live fr σ) a w r p=some pl:=by
 have aj:=sO hp;simp only[CV,aF] at hr;unfold place at hp ⊢;rw[zA,aU ⟨aj,hr.1⟩]
 have n_:m9 fr r=none:=by
  cases hf:m9 fr r with
  | none=>rfl
  | some m=>have:=hr.2;rw[hf] at this;cases this
 have:yZ fr r (jr live fr σ r)=jr live fr σ r:=by simp only[yZ,n_]
 rw[this];unfold jr
 cases hg:σ.get r <;> rw[hg] at hp <;> first | exact hp | (simp[c_] at hp;done)
theorem RA {live:List Nat} {fr:List (Nat×Md)} {i:Nat} {G:FP} (hs:cu P A σ a w (tmp a i) (σ.get i) G) (hG:∀ b k,G b k<=1) :
  ∃ G':FP,(∀ b k,G' b k<=G b k)/\∀ A':Cells,(∀ b k,A b k->A' b k)->(∀ b k,1<=G b k->G' b k=0->A' b k)->cu P A' (ey live fr σ) a w (tmp a i) (yZ fr i (jr live fr σ i)) G':=by
 have same:∀ b k,A b k->∀ u,ce w b k=some u->ce w b k=some u:=fun _ _ _ _ h=>h;have dead:yZ fr i .dead=.dead:=by unfold yZ;split <;> rfl
 have BI:∀ {s:Slot},(∀ t m H v,s≠.own t m H v)->(∀ t m H v,s≠.box t m H v)->yZ fr i s=s:=fun {s} h1 h2=>by
  unfold yZ;split
  ·rfl
  ·cases s <;> first | rfl | exact absurd rfl (h1 _ _ _ _) | exact absurd rfl (h2 _ _ _ _)
 cases hg:σ.get i with
 | dead=>exact ⟨fun _ _=>0,fun _ _=>aW _,fun A' _ _=>by simp only[jr,hg,dead];trivial⟩
 | v6=>
  rw[hg] at hs;exact ⟨fun _ _=>0,fun _ _=>aW _,fun A' _ _=>by simp only[jr,hg];rw[BI (by intros;simp) (by intros;simp)];exact hs⟩
 | val t v=>
  rw[hg] at hs;obtain ⟨cs,h1,h2⟩:=hs;exact ⟨fun _ _=>0,fun _ _=>aW _,fun A' hA _=>by simp only[jr,hg];rw[BI (by intros;simp) (by intros;simp)];exact ⟨cs,h1,Ro.mono same hA t h2⟩⟩
 | cp t v=>
  rw[hg] at hs;exact ⟨fun _ _=>0,fun _ _=>aW _,fun A' hA _=>by simp only[jr,hg];rw[BI (by intros;simp) (by intros;simp)];exact Ro.mono same hA (.ptr t) hs⟩
 | own t m H v=>
  rw[hg] at hs;obtain ⟨cs,h1,h2⟩:=hs;have hk:jr live fr σ i=.own t m H v:=by simp only[jr,hg]
  rw[hk];unfold yZ;split
  ·exact ⟨G,fun _ _=>aN _,fun A' hA _=>⟨cs,h1,an.mono hA same (fun _ _ h=>h) t h2 (fun _ _=>aN _) (fun _ _ _ _ h=>h)⟩⟩
  ·rename_i m1 hm;simp only;split
   ·rename_i hc;simp only[aF,bN] at hc;obtain ⟨hH,hf⟩:=hc;subst hH;obtain ⟨G1,g1,g2⟩:=an.fits t hf h2 hG;refine ⟨G1,g1,fun A' hA vk=>?_⟩
    have hr:=g2 A' hA vk;split
    ·rename_i e;subst e;exact ⟨cs,h1,an.ro t (gm t) hr⟩
    ·exact ⟨cs,h1,hr⟩
   ·exact ⟨fun _ _=>0,fun _ _=>aW _,fun A' _ _=>trivial⟩
 | box t m H v=>
  rw[hg] at hs;obtain ⟨b,o,L,F1,s1,s2,s3,s4,s5,s6⟩:=hs;have hk:jr live fr σ i=.box t m H v:=by simp only[jr,hg]
  rw[hk];unfold yZ;split
  ·exact ⟨G,fun _ _=>aN _,fun A' hA _=>⟨b,o,L,F1,s1,s2,s3,s4,s5,an.mono hA same (fun _ _ h=>h) t s6 (fun _ _=>aN _) (fun _ _ _ _ h=>h)⟩⟩
  ·rename_i m1 hm;simp only;split
   ·rename_i hc;simp only[aF,bN] at hc;obtain ⟨hH,hf⟩:=hc;subst hH;obtain ⟨G1,g1,g2⟩:=an.fits t hf s6 (fun b' k=>by have:=s5 b' k;have:=hG b' k;omega);refine ⟨fun b' k=>b_ b o t.sz b' k+G1 b' k,fun b' k=>by have:=s5 b' k;have:=g1 b' k;show b_ b o t.sz b' k+G1 b' k<=G b' k;omega,fun A' hA vk=>⟨b,o,L,G1,s1,s2,s3,s4,fun _ _=>aN _,g2 A' hA fun b' k hp hz=>?_⟩⟩
    have h5:=s5 b' k;have h6:=hG b' k
    exact vk b' k (by omega) (by show b_ b o t.sz b' k+G1 b' k=0;omega)
   ·exact ⟨fun _ _=>0,fun _ _=>aW _,fun A' _ _=>trivial⟩
 | ref r p snap=>
  rw[hg] at hs;refine ⟨fun _ _=>0,fun _ _=>aW _,fun A' _ _=>?_⟩
  simp only[jr,hg];split
  ·rename_i hc;simp only[aF] at hc;rw[BI (by intros;simp) (by intros;simp)];obtain ⟨pl,h1,h2,h3⟩:=hs.2 hc.1;have hl:snap.length<=5:=by rcases h3 with h3 | h3 <;> omega
   exact ⟨by rw[BF];exact BG hl,fun _=>⟨pl,BH hc.2 h1,h2,by simpa using h3⟩⟩
  ·rw[dead];trivial
 | ptr r p snap=>
  rw[hg] at hs;refine ⟨fun _ _=>0,fun _ _=>aW _,fun A' _ _=>?_⟩
  simp only[jr,hg];split
  ·rename_i hc;simp only[aF] at hc;rw[BI (by intros;simp) (by intros;simp)];obtain ⟨pl,b,o,h1,h2,h3,h4⟩:=hs.2 hc.1;have hl:snap.length<=5:=by omega
   exact ⟨by rw[BF];exact BG hl,fun _=>⟨pl,b,o,BH hc.2 h1,h2,h3,by simpa using h4⟩⟩
  ·rw[dead];trivial
 | sub r p snap lo hi=>
  rw[hg] at hs;refine ⟨fun _ _=>0,fun _ _=>aW _,fun A' _ _=>?_⟩
  simp only[jr,hg];split
  ·rename_i hc;simp only[aF] at hc;rw[BI (by intros;simp) (by intros;simp)];obtain ⟨pl,e,xa,n,cap,uV,cap',h1,h2,h3,h4,h5,h6,h7,h8,h9,xy,zT⟩:=hs.2 hc.1;have hl:snap.length<=5:=by rcases zT with zT | zT <;> omega
   exact ⟨by rw[BF];exact BG hl,fun _=>⟨pl,e,xa,n,cap,uV,cap',BH hc.2 h1,h2,h3,h4,h5,h6,h7,h8,h9,xy,by simpa using zT⟩⟩
  ·rw[dead];trivial
 | rq xs=>
  rw[hg] at hs;obtain ⟨vs,Fi,h1,h2,h3⟩:=hs;refine ⟨G,fun _ _=>aN _,fun A' hA _=>?_⟩
  simp only[jr,hg];rw[BI (by intros;simp) (by intros;simp)]
  exact ⟨vs,Fi,h1,h2,fun j y hy=>by
   obtain ⟨v,g1,g2⟩:=h3 j y hy
   exact ⟨v,g1,g2.imp id fun ⟨cs,g3,g4⟩=>⟨cs,g3,an.mono hA same (fun _ _ h=>h) _ g4 (fun _ _=>aN _) (fun _ _ _ _ h=>h)⟩⟩⟩
theorem Fl (h:du P C A σ a w F) (live:List Nat) (fr:List (Nat×Md)):Dd P C (ey live fr σ) a w:=by
 have hle:∀ i,i < σ.n->∀ b k,F i b k<=1:=fun i hi b k=>by have:=h.o5 b k;have:=c7 F hi b k;omega
 have each:∀ i,∃ G':FP,(∀ b k,i < σ.n->G' b k<=F i b k)/\(¬ i < σ.n->∀ b k,G' b k=0)/\∀ A':Cells,(∀ b k,A b k->A' b k)->(∀ b k,1<=F i b k->G' b k=0->A' b k)->i < σ.n->cu P A' (ey live fr σ) a w (tmp a i) ((ey live fr σ).get i) G':=by
  intro i;by_cases hi:i < σ.n
  ·by_cases hl:live.any (Nat.beq i)=true
   ·obtain ⟨G',g1,g2⟩:=RA (live:=live) (fr:=fr) (h.im i hi) (hle i hi);exact ⟨G',fun b k _=>g1 b k,fun hn=>absurd hi hn,fun A' hA vk _=>by rw[zA,aU ⟨hi,hl⟩];exact g2 A' hA vk⟩
   ·exact ⟨fun _ _=>0,fun _ _ _=>aW _,fun _ _ _=>rfl,fun A' _ _ _=>by rw[zA,bA (fun hc=>hl hc.2)];trivial⟩
  ·exact ⟨fun _ _=>0,fun _ _ _=>aW _,fun _ _ _=>rfl,fun A' _ _ k8=>absurd k8 hi⟩
 obtain ⟨F',Xx⟩:=hY each;have mA:∀ b k,ba σ.n F' b k<=ba σ.n F b k:=fun b k=>HJ b k fun j hj=>(Xx j).1 b k hj;refine ⟨fun b k=>A b k\/∃ j,j < σ.n/\1<=F j b k/\F' j b k=0,F',?_⟩
 have hold:∀ {b k j},j < σ.n->1<=F j b k->1<=0+ba σ.n F b k:=fun {b k j} hj hp=>by have:=c7 F hj b k;omega
 refine ⟨h.size,h.defers,fun i hi=>(Xx i).2.2 _ (fun _ _ h=>.inl h) (fun b k hp hz=>.inr ⟨i,hi,hp,hz⟩) hi,(fun d r p snap hm=>by cases hm),fun b k=>by have:=h.o5 b k;have:=mA b k;show 0+ba σ.n F' b k<=1;omega,fun b k hp ha=>?_,fun b k hp=>?_,
  fun i=>by rw[BF];rfl,h.ext,fun b k hp=>h.own b k (by have:=mA b k;have hp:1<=0+ba σ.n F' b k:=hp;show 1<=0+ba σ.n F b k;omega),fun b k ha=>.inl (h.a0 b k ha),fun b k ha=>?_,h.oA,fun r t m H v hg hl=>?_,fun j k hm R' jV=>?_⟩
 ·have hp:1<=0+ba σ.n F' b k:=hp
  rcases ha with ha | ⟨j,hj,h1,h2⟩
  ·exact h.pW b k (by have:=mA b k;show 1<=0+ba σ.n F b k;omega) ha
  ·obtain ⟨i,hi,wv⟩:=J2 (show 1<=ba σ.n F' b k by omega);have fw:i≠j:=fun e=>by subst e;omega
   have:=tY F hi hj fw b k;have:=(Xx i).1 b k hi;have:=h.o5 b k;omega
 ·rcases hp with hp | (ha | ⟨j,hj,h1,_⟩)
  ·exact h.kO b k (.inl (by have:=mA b k;have hp:1<=0+ba σ.n F' b k:=hp;show 1<=0+ba σ.n F b k;omega))
  ·exact h.kO b k (.inr ha)
  ·exact h.kO b k (.inl (hold hj h1))
 ·rcases ha with ha | ⟨j,hj,h1,_⟩
  ·exact h.a1 b k ha
  ·exact .inr (h.own b k (hold hj h1))
 ·rw[zA] at hg;split at hg
  ·have:∃ m0 H0 v0,σ.get r=.box t m0 H0 v0:=by
    unfold yZ at hg;split at hg
    ·unfold jr at hg
     cases tq:σ.get r <;> rw[tq] at hg <;> simp only at hg <;> first
      | (cases hg;done)
      | (split at hg <;> cases hg;done)
      | (injection hg with e1;subst e1;exact ⟨_,_,_,rfl⟩)
    ·split at hg
     ·split at hg
      ·split at hg <;> cases hg
      ·cases hg
     ·rename_i t0 m0 H0 v0 hk;split at hg
      ·injection hg with e1;subst e1;unfold jr at hk
       cases tq:σ.get r <;> rw[tq] at hk <;> simp only at hk <;> first
        | (cases hk;done)
        | (split at hk <;> cases hk;done)
        | (injection hk with e1;subst e1;exact ⟨_,_,_,rfl⟩)
      ·cases hg
     ·rename_i Iy EA;exact absurd hg (EA _ _ _ _)
   obtain ⟨m0,H0,v0,QL⟩:=this;exact h.whole r t m0 H0 v0 QL hl
  ·cases hg
 ·have OE:c_ w (tmp a j) (σ.get j)=some R'\/∃ H0,c_ w (tmp a j) (σ.get j)=some { R' with H:=H0 }:=by
   rw[zA] at jV;split at jV
   ·unfold yZ at jV;split at jV
    ·left;unfold jr at jV
     cases tq:σ.get j <;> rw[tq] at jV <;> simp only at jV <;> first
      | exact jV
      | (simp[c_] at jV;done)
      | (split at jV <;> simp[c_] at jV;done)
    ·split at jV
     ·rename_i t0 m0 H0 v0 hk
      have tq:σ.get j=.own t0 m0 H0 v0:=by
       unfold jr at hk
       cases tq:σ.get j <;> rw[tq] at hk <;> simp only at hk <;> first
        | (cases hk;done)
        | (split at hk <;> cases hk;done)
        | exact hk
      split at jV
      ·split at jV
       ·simp[c_] at jV
       ·right;rw[tq];simp only[c_,aR] at jV ⊢;subst jV;exact ⟨H0,rfl⟩
      ·simp[c_] at jV
     ·rename_i t0 m0 H0 v0 hk
      have tq:σ.get j=.box t0 m0 H0 v0:=by
       unfold jr at hk
       cases tq:σ.get j <;> rw[tq] at hk <;> simp only at hk <;> first
        | (cases hk;done)
        | (split at hk <;> cases hk;done)
        | exact hk
      split at jV
      ·right;rw[tq];simp only[c_] at jV ⊢;split at jV
       ·simp only[aR] at jV ⊢;subst jV;exact ⟨H0,rfl⟩
       ·cases jV
      ·simp[c_] at jV
     ·rename_i Iy EA;left;unfold jr at jV Iy EA
      cases tq:σ.get j <;> rw[tq] at jV Iy EA <;> simp only at jV Iy EA <;> first
       | exact jV
       | (simp[c_] at jV;done)
       | (split at jV <;> simp[c_] at jV;done)
   ·simp[c_] at jV
  rcases OE with hr | ⟨H0,hr⟩
  ·exact h.nw j k hm R' hr
  ·have:=h.nw j k hm _ hr;exact this
theorem Wf (live:List Nat) (σ:St):xN live σ=ey live [] σ:=rfl
theorem Wg (h:du P C A σ a w F) (live:List Nat):Dd P C (xN live σ) a w:=by rw[Wf];exact Fl h live []
end
end OT
namespace OT
open Go
def QK (P:Program) (C:Ctx) {R:Type} (K:Ex->St->Option R) (fin:St->Option R) (x:R):Exit->Act->World->Prop
 | .normal,a,w=>∃ σ,K .normal σ=some x/\Dd P C σ a w
 | .exit id,a,w=>∃ σ,K (.exit id) σ=some x/\Dd P C σ a w
 | .ret,a,w=>∃ σ,fin σ=some x/\Dd P C σ a w
 | _,_,_=>False
noncomputable def codeOk (P:Program) (E:Env):Code->Bool
 | .skip=>true
 | .region id ops d=>ops.toList.all (fun o=>rt P o.op)&&(match d with
  | false=>true
  | true=>P.follows .mixedOrders&&KJ E id ops (oo E.od id))
 | .seq a b=>codeOk P E a&&codeOk P E b
 | .cond c a b=>dj P c&&codeOk P E a&&codeOk P E b
 | .block _ b=>codeOk P E b
 | .loop b=>codeOk P E b
 | .scope b=>codeOk P E b
 | .exit _=>true
 | .ret=>true
 | _=>true
section
variable {P:Program} {C:Ctx} {R:Type} {x:R} {E:Env} {fin:St->Option R} {n:Nat}
theorem Wh (hE:sQ P E):∀ (c:Code),codeOk P E c=true->∀ {σ:St} {A:Cells} {a:Act} {w:World} {F:Nat->FP} {K:Ex->St->Option R},du P C A σ a w F->tP E n fin c σ K=some x->c.wp P (QK P C K fin x) a w:=by
 intro c
 induction c with
 | skip=>intro _ σ A a w F K h hk;exact wp_skip ⟨σ,hk,A,F,h⟩
 | region id ops d=>
  intro hc σ A a w F K h hk;simp only[codeOk,aF] at hc;have c6:∀ o ∈ ops.toList,rt P o.op=true:=fun o ho=>cC.1 hc.1 o ho
  cases d with
  | false=>exact Rq hE c6 h hk (fun a w ⟨σ',h1,A',F',h2⟩=>by
    obtain ⟨A2,ly,F2,h3,h4⟩:=Va _ h2 h1
    exact ⟨ly,h3,A2,F2,h4⟩)
  | true=>
   have h2:=hc.2;simp only[aF] at h2;exact We hE h2.1 c6 h2.2 h hk (fun a w ⟨σ',h1,h2⟩=>⟨σ',h1,h2⟩) (fun c a w hq=>hq)
 | seq a b kN kE=>
  intro hc σ A ac w F K h hk;simp only[codeOk,aF] at hc;refine wp_seq (wp_mono (kN hc.1 h hk) fun e a' w' hq=>?_)
  cases e with
  | normal=>obtain ⟨σ',h1,A',F',h2⟩:=hq;exact kE hc.2 h2 h1
  | exit j=>obtain ⟨σ',h1,h2⟩:=hq;exact ⟨σ',h1,h2⟩
  | ret=>exact hq
  | _=>exact hq.elim
 | cond c a b kN kE=>
  intro hc σ A ac w F K h hk;simp only[codeOk,aF] at hc;simp only[tP] at hk
  rcases fh h hc.1.1 with hs | ⟨xs,e⟩
  rotate_left
  ·rw[e] at hk;cases hk
  obtain ⟨t,ht,hk⟩:=Gk hs hk
  cases t with
  | true=>exact wp_cond_true ht (kN hc.1.2 h hk)
  | false=>exact wp_cond_false ht (kE hc.2 h hk)
 | block id b ih=>
  intro hc σ A ac w F K h hk;refine wp_block (wp_mono (ih hc h hk) fun e a' w' hq=>?_)
  cases e with
  | normal=>exact hq
  | exit j=>
   obtain ⟨σ',h1,h2⟩:=hq;simp only[ag] at h1;simp only[Exit.inBlock];by_cases hj:j=id
   ·subst hj;rw[aU (by simp)] at h1;rw[aU rfl];exact ⟨σ',h1,h2⟩
   ·have:Nat.beq j id=false:=by
     cases hb:Nat.beq j id with
     | false=>rfl
     | true=>exact absurd (cL hb) hj
    rw[this,bA (by simp)] at h1;rw[bA hj];exact ⟨σ',h1,h2⟩
  | ret=>exact hq
  | _=>exact hq.elim
 | loop b ih=>
  intro hc σ A ac w F K h hk;simp only[tP] at hk
  have key:∀ (m:Nat) (σ:St) (ac:Act) (w:World),Dd P C σ ac w->Bl (tP E n fin b) (ey (oo E.lv (rY b)) (Ox E.lf (rY b))) K m σ=some x->Code.rounds P b (QK P C K fin x) m ac w:=by
   intro m
   induction m with
   | zero=>intro σ ac w h hk;cases hk
   | succ m Q5=>
    intro σ ac w h hk;obtain ⟨A',F',h⟩:=h;rw[rounds_succ];refine wp_mono (ih hc h hk) fun e a' w' hq=>?_
    cases e with
    | normal=>
     obtain ⟨σ',h1,A2,F2,h2⟩:=hq;exact Q5 _ a' w' (Fl h2 _ _) h1
    | exit j=>exact hq
    | ret=>exact hq
    | _=>exact hq.elim
  exact wp_loop_rounds n (key n _ ac w (Fl h _ _) hk)
 | scope b ih=>
  intro hc σ A ac w F K h hk;refine wp_scope_straight (wp_mono (ih hc h hk) fun e a' w' hq=>?_)
  cases e with
  | normal=>exact hq
  | exit j=>exact hq
  | ret=>exact hq
  | _=>exact hq.elim
 | exit id=>
  intro hc σ A ac w F K h hk;exact wp_exit ⟨_,hk,Wg h _⟩
 | ret=>
  intro hc σ A ac w F K h hk;exact wp_ret ⟨σ,hk,A,F,h⟩
 | _=>intros;rename_i hk;simp[tP] at hk
end
end OT
namespace OT
open Go
section
variable {P:Program} {C:Ctx} {A:Cells} {X:FP} {σ:St} {a:Act} {w:World} {F:Nat->FP} {R:Type} {x:R} {E:Env}
def BJ (tmps:Array Value):ResultVar->Sem Value
 | .tmp t=>pure (tmps.getD t undef)
 | .cell a t=>do loadVar t (<- asAddr (tmps.getD a undef))
theorem KQ {α:Type} (f:α->Sem Value):∀ (l:List α) (vs:List Value),l.length=vs.length->(∀ (j:Nat) (y:α) (v:Value),l[j]?=some y->vs[j]?=some v->(f y).run P w=.ok v w)->(l.mapM f).run P w=.ok vs w
 | [],[],_,_=>rfl
 | y::l,v::vs,hl,h=>by
  have h0:=h 0 y v rfl rfl;have ih:=KQ f l vs (by simpa using hl) (fun j y v hy hv=>h (j+1) y v hy hv);simp only[List.mapM_cons,Sem.run_bind,h0,Result.andThen_ok,ih,Sem.run_pure]
 | [],_::_,h,_=>by simp at h
 | _::_,[],h,_=>by simp at h
theorem MC {fn:Func} {tmps:Array Value} {vs:List Value} (hl:fn.results.toList.length=vs.length) (h:∀ (j:Nat) (y:ResultVar) (v:Value),fn.results.toList[j]?=some y->vs[j]?=some v->(BJ tmps y).run P w=.ok v w) :
  (results fn tmps).run P w=.ok (if h:vs.toArray.size=1 then vs.toArray[0] else .tuple vs.toArray) w:=by
 have h1:=KQ (P:=P) (w:=w) (BJ tmps) fn.results.toList vs hl h
 have h2:(fn.results.mapM (BJ tmps)).run P w=.ok vs.toArray w:=by
  have e:fn.results=fn.results.toList.toArray:=by simp
  rw[e,List.mapM_toArray,map_eq_pure_bind,Sem.run_bind,h1,Result.andThen_ok,Sem.run_pure]
 have e:results fn tmps=(do
  let vs <- fn.results.mapM (BJ tmps)
  pure (if h:vs.size=1 then vs[0] else .tuple vs)):=by
  unfold results;congr 1
 rw[e,Sem.run_bind,h2,Result.andThen_ok,Sem.run_pure]
def Fm (E:Env):List (Ty×Md)->List ResultVar->Bool
 | [],[]=>true
 | _::rs,.tmp _::xs=>Fm E rs xs
 | (t,_)::rs,.cell _ ty::xs=>(match E.TI ty with
  | some T=>decide (T=t)
  | none=>false)&&Fm E rs xs
 | _,_=>false
theorem Y1 (hE:sQ P E) (h:Rel P C A X σ a w F) {rv:ResultVar} {t:Ty} (zi:∀ b ty,rv=.cell b ty->E.TI ty=some t) {mv:Bool} {K:Md->t.den->St->Option R} (hk:nD σ (FZ σ rv) mv t K=some x) :
  ∃ (tv:Value),(BJ a.tmps rv).run P w=.ok tv w/\∃ (A':Cells) (σ':St) (F':Nat->FP) (m:Md) (v:t.den) (cs:List Value) (Fv:FP),K m v σ'=some x/\(∀ b i,A b i->A' b i)/\Rel P C A' (fun b i=>X b i+Fv b i) σ' a w F'/\tv=cg t cs/\an P w A' t m [] v cs Fv:=by
 cases rv with
 | tmp i=>
  rcases fh h (o:=.tmp i) rfl with hs | ⟨xs,e⟩
  rotate_left
  ·simp only[FZ] at hk;rw[e] at hk;simp[nD] at hk
  obtain ⟨A',σ',F',m,v,cs,Fv,k1,k2,k3,k4,kr,k5,k6⟩:=ud h hs hk;exact ⟨_,rfl,A',σ',F',m,v,cs,Fv,k1,k2,k3,k5,k6⟩
 | cell i ty=>
  have hT:=zi i ty rfl;have gf:=hE.ti _ _ hT;simp only[FZ] at hk;split at hk
  ·rename_i t0 m0 H0 v0 hg
   have hi:i < σ.n:=by
    rcases bZ i σ.n with hi | hi
    ·exact hi
    ·rw[lY (dK.2 hi)] at hg;cases hg
   have hs:=h.im i hi;rw[hg] at hs;obtain ⟨b,o,L,F1,s1,s2,s3,s4,s5,s6⟩:=hs
   have ip:place σ a w i []=some ⟨t0,H0,L,some (b,o)⟩:=by
    unfold place;rw[hg,s1];simp only[c_,dt s3 s2,aB,bh]
   have Jw:cu P A σ a w (cg t0 L) (.ref i [] (σ.lw i)) (fun _ _=>0):=⟨Below.refl _,fun _=>⟨_,ip,rfl,.inr (h.mo i)⟩⟩
   have ht:t0=t:=by
    have o7:=hk;simp only[nD] at o7;split at o7
    ·obtain ⟨_,t',m',H',v',br,cr,F',h1,h2,h3,_⟩:=mf h o7;rw[ip] at h3;injection h3 with h3;injection h3 with e1;subst e1;split at h1
     ·exact (cv h1).1
     ·cases h1
    ·cases o7
   subst ht;obtain ⟨A',σ',F',m,v,cs,Fv,k1,k2,k3,k4,kr,k5,k6⟩:=ud h Jw hk;refine ⟨cg t0 L,?_,A',σ',F',m,v,cs,Fv,k1,k2,k3,k5,k6⟩
   have e:a.tmps.getD i undef=.pointer (some ⟨b,o,none⟩):=s1;have f_:=xk (P:=P) gf s3 s2 (an.one _ s6);simp only[BJ,Sem.run_bind,e];show (Sem.run P (asAddr (.pointer (some ⟨b,o,none⟩))) w).andThen _=_;rw[show Sem.run P (asAddr (.pointer (some ⟨b,o,none⟩))) w=.ok ⟨b,o,none⟩ w from rfl,Result.andThen_ok,f_]
  ·simp[nD] at hk
theorem Xy (hE:sQ P E) {ts:List Ty} {mv:Nat->Bool} {fin:St->((c8 ts).den->Option R)->Option R}:∀ (rs:List (Ty×Md)) (AV:List ResultVar) (j:Nat) {σ:St} {A:Cells} {X:FP} {F:Nat->FP} {K:(c8 (rs.map (·.1)++ts)).den->Option R},
  Fm E rs AV=true->Rel P C A X σ a w F->Oy σ ts mv fin rs AV j K=some x ->
  ∃ (A':Cells) (σ':St) (X':FP) (F':Nat->FP) (BK:List Value) (L:List FS) (Fi:Nat->FP) (pre:(c8 ts).den->(c8 (rs.map (·.1)++ts)).den),(∀ b i,A b i->A' b i)/\Rel P C A' X' σ' a w F'/\fin σ' (fun y=>K (pre y))=some x/\(∀ y,lK rs (pre y)=(L,y)) /\
   BK.length=L.length/\BK.length=AV.length/\(∀ (k:Nat) (y:ResultVar) (v:Value),AV[k]?=some y->BK[k]?=some v->(BJ a.tmps y).run P w=.ok v w)/\(∀ b i,X b i+ba L.length Fi b i<=X' b i) /\
   ∀ A2:Cells,(∀ b i,A' b i->A2 b i)->(∀ b i,1<=X' b i->X b i=0->ba L.length Fi b i=0->A2 b i)->∀ k y,L[k]?=some y->∃ v cs,BK[k]?=some v/\v=cg y.t cs/\an P w A2 y.t y.m [] y.v cs (Fi k):=by
 intro rs
 induction rs with
 | nil=>
  intro AV j σ A X F K GK h hk
  cases AV with
  | nil=>exact ⟨A,σ,X,F,[],[],fun _ _ _=>0,id,fun _ _ h=>h,h,hk,fun y=>rfl,rfl,rfl,(fun k y v hy=>by cases hy),(fun b i=>by simp[ba]),fun A2 _ _ k y hy=>by cases hy⟩
  | cons _ _=>cases GK
 | cons p rs ih=>
  intro AV j σ A X F K GK h hk;obtain ⟨t,m⟩:=p
  cases AV with
  | nil=>cases hk
  | cons rv AV=>
   simp only[Oy] at hk
   have zi:∀ b ty,rv=.cell b ty->E.TI ty=some t:=fun b ty e=>by
    subst e;simp only[Fm,aF] at GK;have h1:=GK.1;split at h1
    ·rename_i T hT;rw[hT];simpa using h1
    ·cases h1
   have aar:Fm E rs AV=true:=by
    cases rv with
    | tmp i=>exact GK
    | cell b ty=>simp only[Fm,aF] at GK;exact GK.2
   obtain ⟨tv,f_,A1,o6,F1,m1,v1,cs,Fv,k1,k2,k3,k4,k5⟩:=Y1 hE h zi hk;split at k1
   ·rename_i hm;obtain ⟨A',σ',X',F',BK,L,Fi,pre,g1,g2,g3,g4,g5,g6,g7,g8,g9⟩:=ih AV (j+1) aar k3 k1;have po:∀ b i,X' b i<=1:=fun b i=>by have:=g2.o5 b i;omega
    have zo:∃ G:FP,(∀ b i,G b i<=Fv b i)/\∀ A2:Cells,(∀ b i,A1 b i->A2 b i)->(∀ b i,1<=Fv b i->G b i=0->A2 b i)->an P w A2 t m [] v1 cs G:=by
     by_cases Xz:m1=m
     ·subst Xz;exact ⟨Fv,fun _ _=>aN _,fun A2 hA _=>an.mono hA (fun _ _ _ _ h=>h) (fun _ _ h=>h) t k5 (fun _ _=>aN _) (fun _ _ _ _ h=>h)⟩
     ·rcases hm with hm | hm
      ·exact absurd hm Xz
      ·exact an.fits t hm k5 (fun b i=>by have:=g8 b i;have:=po b i;omega)
    obtain ⟨G,G1,G2⟩:=zo
    have mA:∀ b i,ba (L.length+1) (fun k=>match k with | 0=>G | k+1=>Fi k) b i=G b i+ba L.length Fi b i:=fun b i=>by
     rw[jB,sM];congr 1
     ·simp[ba]
     ·refine iE (iE (qw fun j hj=>?_) b) i;rw[jB]
    refine ⟨A',σ',X',F',tv::BK,⟨t,m,v1⟩::L,fun k=>match k with | 0=>G | k+1=>Fi k,fun y=>(v1,pre y),fun b i ha=>g1 b i (k2 b i ha),g2,g3,fun y=>by simp only[lK,g4],by simp[g5],by simp[g6],fun k y v hy hv=>?_,fun b i=>?_,fun A2 hA vk k y hy=>?_⟩
    ·cases k with
     | zero=>injection hy with hy;injection hv with hv;subst hy;subst hv;exact f_
     | succ k=>exact g7 k y v hy hv
    ·show X b i+ba (L.length+1) _ b i<=X' b i;rw[mA];have:=g8 b i;have:=G1 b i;omega
    ·have XA:∀ b i,1<=X' b i->X b i=0->G b i+ba L.length Fi b i=0->A2 b i:=fun b i h1 h2 h3=>vk b i h1 h2 (by show ba (L.length+1) _ b i=0;rw[mA];exact h3)
     cases k with
     | zero=>
      injection hy with hy;subst hy;refine ⟨tv,cs,rfl,k4,G2 A2 (fun b i ha=>hA b i (g1 b i ha)) fun b i hp hz=>?_⟩
      have h8:=g8 b i;have h9:=po b i
      exact XA b i (by omega) (by omega) (by omega)
     | succ k=>
      refine g9 A2 hA (fun b i h1 h2 h3=>XA b i h1 (by omega) (by have:=G1 b i;omega)) k y hy
   ·cases k1
theorem KR {l:List (Nat×Nat×Bool)} {i j:Nat} {c:Bool} (h:AT l i j c=true):(i,j,c) ∈ l:=by
 induction l with
 | nil=>cases h
 | cons y l ih=>
  obtain ⟨k,n,b⟩:=y;simp only[AT,cX,aF,eI,jN] at h;rcases h with ⟨⟨h1,h2⟩,h3⟩ | h
  ·rw[h1,h2,h3];exact bG
  ·exact aZ _ (ih h)
def ol (F:Nat->FP):List Nat->FP
 | []=>fun _ _=>0
 | i::l=>fun b k=>F i b k+ol F l b k
theorem BL (F:Nat->FP) (i:Nat) (G:FP) (b k:Nat):∀ (l:List Nat),i ∉ l->ol (fd F i G) l b k=ol F l b k
 | [],_=>rfl
 | j::l,hj=>by
  simp only[aY,not_or] at hj;simp only[ol,BL F i G b k l hj.2];rw[show fd F i G j=F j by simp only[fd];rw[bA (fun e=>hj.1 e.symm)]]
theorem NV:∀ (l:List Nat) {n:Nat} (F:Nat->FP),l.Nodup->(∀ i ∈ l,i < n)->∀ b k,ol F l b k<=ba n F b k
 | [],n,F,_,_,b,k=>aW _
 | i::l,n,F,hn,hl,b,k=>by
  have U4:=dU.1 hn;have h1:=NV l (fd F i fun _ _=>0) U4.2 (fun j hj=>hl j (aZ _ hj)) b k;have h2:=BL F i (fun _ _=>0) b k l U4.1;have h3:=sL F (hl i bG) (fun _ _=>0) b k;rw[h2] at h1;simp only[ol];omega
theorem KS {F:Nat->FP} {b k:Nat}:∀ {l:List Nat},1<=ol F l b k->∃ i ∈ l,1<=F i b k
 | [],h=>by simp[ol] at h
 | i::l,h=>by
  simp only[ol] at h;rcases bF (F i b k) with h0 | h0
  ·obtain ⟨j,hj,hp⟩:=KS (F:=F) (b:=b) (k:=k) (l:=l) (by omega);exact ⟨j,aZ _ hj,hp⟩
  ·exact ⟨i,bG,h0⟩
def Fo:List (PM×Ty)->Bool
 | []=>true
 | _::ps=>Fo ps
theorem Wi (h:Rel P C A X σ a w F):∀ (j:Nat) (ps:List (PM×Ty)) (es:List Nat) {K:(c8 (lJ ps)).den->Option R},Fo ps=true->es.Nodup->j+ps.length<=C.args.size->wa σ j ps es K=some x ->
  ∃ (vs:(c8 (lJ ps)).den) (us:List Nat) (Gi:Nat->FP),K vs=some x/\(∀ i ∈ us,i ∈ es)/\us.Nodup/\(∀ i ∈ us,i < σ.n)/\(∀ i b k,i ∈ us->Gi i b k<=F i b k) /\
   ∀ A2:Cells,(∀ b k,A b k->A2 b k)->(∀ i b k,i ∈ us->1<=F i b k->Gi i b k=0->A2 b k)->m8 P w A2 ps vs (C.args.toList.drop j) (ol Gi us):=by
 intro j ps
 induction ps generalizing j with
 | nil=>intro es K _ _ _ hk;exact ⟨(),[],fun _ _ _=>0,by cases es <;> exact hk,(fun i hi=>by cases hi),iG,(fun i hi=>by cases hi),(fun i b k hi=>by cases hi),fun _ _ _=>trivial⟩
 | cons p ps ih=>
  intro es K hp sF hj hk;obtain ⟨pm,t⟩:=p;have vM:j+1+ps.length<=C.args.size:=by simp only[aP] at hj;omega
  have z7:(C.args.toList.drop j).tail=C.args.toList.drop (j+1):=by rw[List.tail_drop]
  have Vi:(C.args.toList.drop j).head?=some (C.args.getD j undef):=by
   simp only[aP] at hj;rw[List.head?_drop,dE,cN (by omega)];simp[show j < C.args.size by omega]
  have Gh:∀ i,i < σ.n->∀ b k,F i b k<=1:=fun i hi b k=>by have:=h.o5 b k;have:=c7 F hi b k;omega
  cases pm with
  | ro=>
   obtain ⟨vs,us,Gi,g1,g2,g3,g4,g5,g6⟩:=ih (j+1) es hp sF vM hk;exact ⟨vs,us,Gi,g1,g2,g3,g4,g5,fun A2 hA vk=>by simp only[m8,z7];exact g6 A2 hA vk⟩
  | fix f=>
   obtain ⟨vs,us,Gi,g1,g2,g3,g4,g5,g6⟩:=ih (j+1) es hp sF vM hk;exact ⟨vs,us,Gi,g1,g2,g3,g4,g5,fun A2 hA vk=>by simp only[m8,z7];exact g6 A2 hA vk⟩
  | sB f=>
   obtain ⟨vs,us,Gi,g1,g2,g3,g4,g5,g6⟩:=ih (j+1) es hp sF vM hk;exact ⟨vs,us,Gi,g1,g2,g3,g4,g5,fun A2 hA vk=>by simp only[m8,z7];exact g6 A2 hA vk⟩
  | nc f=>
   obtain ⟨vs,us,Gi,g1,g2,g3,g4,g5,g6⟩:=ih (j+1) es hp sF vM hk;exact ⟨vs,us,Gi,g1,g2,g3,g4,g5,fun A2 hA vk=>by simp only[m8,z7];exact g6 A2 hA vk⟩
  | py m=>
   cases es with
   | nil=>cases hk
   | cons i es=>
    have KU:=dU.1 sF;simp only[wa] at hk;split at hk
    ·rename_i t' m' H v hg;split at hk
     ·rename_i hc;simp only[aF,bN,cX,bO] at hc;obtain ⟨⟨hH,hm⟩,Br⟩:=hc;subst hH;obtain ⟨e,hk⟩:=cv hk;subst e;obtain ⟨vs,us,Gi,g1,g2,g3,g4,g5,g6⟩:=ih (j+1) es hp KU.2 vM hk
      have hi:i < σ.n:=by
       rcases bZ i σ.n with hi | hi
       ·exact hi
       ·rw[lY (dK.2 hi)] at hg;cases hg
      have hs:=h.im i hi;rw[hg] at hs;obtain ⟨b,o,L,F1,s1,s2,s3,s4,s5,s6⟩:=hs;have aas:=h.oA i j (KR Br);have KV:i ∉ us:=fun hu=>KU.1 (g2 i hu)
      have zo:∃ G:FP,(∀ b k,G b k<=F1 b k)/\∀ A2:Cells,(∀ b i,A b i->A2 b i)->(∀ b i,1<=F1 b i->G b i=0->A2 b i)->an P w A2 t' m [] v L G:=by
       rcases hm with hm | hm
       ·subst hm;exact ⟨F1,fun _ _=>aN _,fun A2 hA _=>an.mono hA (fun _ _ _ _ h=>h) (fun _ _ h=>h) t' s6 (fun _ _=>aN _) (fun _ _ _ _ h=>h)⟩
       ·exact an.fits t' hm s6 (fun b' k=>by have:=s5 b' k;have:=Gh i hi b' k;omega)
      obtain ⟨G,G1,G2⟩:=zo;refine ⟨(v,vs),i::us,fd Gi i fun b' k=>b_ b o t'.sz b' k+G b' k,g1,fun i' k8=>?_,dU.2 ⟨KV,g3⟩,fun i' k8=>?_,fun i' b' k k8=>?_,fun A2 hA vk=>?_⟩
      ·rcases aY.1 k8 with rfl | k8
       ·exact bG
       ·exact aZ _ (g2 i' k8)
      ·rcases aY.1 k8 with rfl | k8
       ·exact hi
       ·exact g4 i' k8
      ·by_cases KW:i'=i
       ·subst KW;simp only[fd,aI];have:=s5 b' k;have:=G1 b' k;omega
       ·simp only[fd,bA KW];exact g5 i' b' k ((aY.1 k8).resolve_left KW)
      ·refine ⟨fun b' k=>b_ b o t'.sz b' k+G b' k,ol Gi us,fun b' k=>?_,⟨b,o,L,G,by rw[Vi,<- aas,s1],s2,s3,fun _ _=>aN _,G2 A2 hA fun b' k hp hz=>?_⟩,?_⟩
       ·simp only[ol,BL Gi i _ b' k us KV];simp only[fd,aI];exact aN _
       ·refine vk i b' k bG (by have:=s5 b' k;omega) ?_;simp only[fd,aI];have:=s5 b' k;have:=Gh i hi b' k;omega
       ·rw[z7];refine g6 A2 hA fun i' b' k k8 hp hz=>vk i' b' k (aZ _ k8) hp ?_;have fw:i'≠i:=fun e=>by subst e;exact KV k8
        simp only[fd,bA fw];exact hz
     ·cases hk
    ·cases hk
  | nO m=>
   cases es with
   | nil=>cases hk
   | cons i es=>
    have KU:=dU.1 sF;simp only[wa] at hk
    have main:∀ (t':Ty) (m':Md) (H:List Path) (v:t'.den),(σ.get i=.own t' m' H v\/σ.get i=.box t' m' H v)->(if H.isEmpty&&(decide (m'=m)||fits m' m)&&AT σ.aT i j true then j_ t' t v fun v=>wa σ (j+1) ps es fun vs=>K (v,vs) else none)=some x ->
      ∃ (vs:(c8 (lJ ((PM.nO m,t)::ps))).den) (us:List Nat) (Gi:Nat->FP),K vs=some x/\(∀ i' ∈ us,i' ∈ i::es)/\us.Nodup/\(∀ i ∈ us,i < σ.n)/\(∀ i b k,i ∈ us->Gi i b k<=F i b k) /\
       ∀ A2:Cells,(∀ b k,A b k->A2 b k)->(∀ i b k,i ∈ us->1<=F i b k->Gi i b k=0->A2 b k)->m8 P w A2 ((PM.nO m,t)::ps) vs (C.args.toList.drop j) (ol Gi us):=by
     intro t' m' H v hg hk;split at hk
     ·rename_i hc;simp only[aF,bN,cX,bO] at hc;obtain ⟨⟨hH,hm⟩,Br⟩:=hc;subst hH;obtain ⟨e,hk⟩:=cv hk;subst e;obtain ⟨vs,us,Gi,g1,g2,g3,g4,g5,g6⟩:=ih (j+1) es hp KU.2 vM hk
      have hi:i < σ.n:=by
       rcases bZ i σ.n with hi | hi
       ·exact hi
       ·rw[lY (dK.2 hi)] at hg;rcases hg with hg | hg <;> cases hg
      have hs:=h.im i hi
      have fa:∃ (cs:List Value) (F1:FP),cg t' cs=C.args.getD j undef/\(∀ b k,F1 b k<=F i b k)/\an P w A t' m' [] v cs F1:=by
       have hl:=h.nw i j (KR Br);rcases hg with hg | hg
       ·rw[hg] at hs hl;obtain ⟨cs,h1,h2⟩:=hs;have:=hl _ rfl;simp only[h1,lQ (an.length _ h2) (an.one _ h2)] at this;exact ⟨cs,F i,this,fun _ _=>aN _,h2⟩
       ·rw[hg] at hs hl;obtain ⟨b,o,L,F1,s1,s2,s3,s4,s5,s6⟩:=hs;rw[s1] at hl;have:=hl _ rfl;simp only[dt s3 s2] at this;exact ⟨L,F1,this,fun b k=>by have:=s5 b k;omega,s6⟩
      obtain ⟨oE,F1,aat,hF,s6⟩:=fa;have KV:i ∉ us:=fun hu=>KU.1 (g2 i hu)
      have zo:∃ G:FP,(∀ b k,G b k<=F1 b k)/\∀ A2:Cells,(∀ b i,A b i->A2 b i)->(∀ b i,1<=F1 b i->G b i=0->A2 b i)->an P w A2 t' m [] v oE G:=by
       rcases hm with hm | hm
       ·subst hm;exact ⟨F1,fun _ _=>aN _,fun A2 hA _=>an.mono hA (fun _ _ _ _ h=>h) (fun _ _ h=>h) t' s6 (fun _ _=>aN _) (fun _ _ _ _ h=>h)⟩
       ·exact an.fits t' hm s6 (fun b' k=>by have:=hF b' k;have:=Gh i hi b' k;omega)
      obtain ⟨G,G1,G2⟩:=zo;refine ⟨(v,vs),i::us,fd Gi i G,g1,fun i' k8=>?_,dU.2 ⟨KV,g3⟩,fun i' k8=>?_,fun i' b' k k8=>?_,fun A2 hA vk=>?_⟩
      ·rcases aY.1 k8 with rfl | k8
       ·exact bG
       ·exact aZ _ (g2 i' k8)
      ·rcases aY.1 k8 with rfl | k8
       ·exact hi
       ·exact g4 i' k8
      ·by_cases KW:i'=i
       ·subst KW;simp only[fd,aI];have:=hF b' k;have:=G1 b' k;omega
       ·simp only[fd,bA KW];exact g5 i' b' k ((aY.1 k8).resolve_left KW)
      ·refine ⟨G,ol Gi us,fun b' k=>?_,⟨oE,by rw[Vi,aat],G2 A2 hA fun b' k hp hz=>?_⟩,?_⟩
       ·simp only[ol,BL Gi i _ b' k us KV];simp only[fd,aI];exact aN _
       ·refine vk i b' k bG (by have:=hF b' k;omega) ?_;simp only[fd,aI];exact hz
       ·rw[z7];refine g6 A2 hA fun i' b' k k8 hp hz=>vk i' b' k (aZ _ k8) hp ?_;have fw:i'≠i:=fun e=>by subst e;exact KV k8
        simp only[fd,bA fw];exact hz
     ·cases hk
    split at hk
    ·rename_i t' m' H v hg;exact main t' m' H v (.inl hg) hk
    ·rename_i t' m' H v hg;exact main t' m' H v (.inr hg) hk
    ·cases hk
end
end OT
