/- The proof's parts, merged: Calls, second part  arguments.. No conditions but those that each states. -/
import Derived.Test.YtljankkghppaiaaGreatQb
import Derived.MapKept
import Derived.WideMake
import Derived.OrdersHeld
import Derived.LoopN
import Derived.Scope
set_option linter.unusedVariables false
set_option linter.unusedSimpArgs false
namespace OT
open Go
section
variable {P:Program} {C:Ctx} {A:Cells} {X:FP} {σ:St} {a:Act} {w:World} {F:Nat->FP} {R:Type} {x:R}
theorem trim_ok {K:St->Option R}:∀ (ps:List (PM×Ty)) (xs:List Operand) {σ:St} {A:Cells} {F:Nat->FP},Rel0 P C A σ a w F->trimK σ ps xs K=some x ->
  ∃ (A':Cells) (σ':St) (F':Nat->FP),K σ'=some x/\(∀ b i,A b i->A' b i)/\Rel0 P C A' σ' a w F'/\σ'.n=σ.n:=by
 intro ps
 induction ps with
 | nil=>intro xs σ A F h hk;exact ⟨A,σ,F,by cases xs <;> exact hk,fun _ _ h=>h,h,rfl⟩
 | cons p ps ih=>
  intro xs σ A F h hk
  cases xs with
  | nil=>obtain ⟨pm,t⟩:=p;exact ⟨A,σ,F,by cases pm <;> exact hk,fun _ _ h=>h,h,rfl⟩
  | cons y xs=>
   obtain ⟨pm,t⟩:=p
   have fin:∀ {m' m:Md} {r:Nat} {p:Path},(if m'=m then trimK σ ps xs K else freezeToK σ r p m fun σ=>trimK σ ps xs K)=some x ->
     ∃ (A':Cells) (σ':St) (F':Nat->FP),K σ'=some x/\(∀ b i,A b i->A' b i)/\Rel0 P C A' σ' a w F'/\σ'.n=σ.n:=fun hk=>by
    split at hk
    ·exact ih xs h hk
    ·obtain ⟨A1,σ1,F1,k1,k2,k3,k4,_⟩:=freezeTo_ok h hk;obtain ⟨A2,σ2,F2,q1,q2,q3,q4⟩:=ih xs k3 k1;exact ⟨A2,σ2,F2,q1,fun b i ha=>q2 b i (k2 b i ha),q3,q4.trans k4⟩
   cases pm with
   | ro=>exact ih xs h hk
   | fix f=>exact ih xs h hk
   | mutp m=>
    simp only[trimK] at hk;split at hk
    ·split at hk
     ·obtain ⟨hr,t',m',H',v',cs',ad',F',h1,_⟩:=at_ok h hk;exact fin h1
     ·cases hk
    ·cases hk
   | eat m=>
    simp only[trimK] at hk;split at hk
    ·split at hk
     ·obtain ⟨hr,t',m',H',v',cs',ad',F',h1,_⟩:=at_ok h hk;exact fin h1
     ·cases hk
    ·cases hk
   | muts m=>
    simp only[trimK] at hk;split at hk
    ·split at hk
     ·obtain ⟨hr,t',m',H',v',cs',ad',F',h1,_⟩:=at_ok h hk;exact fin h1
     ·cases hk
    ·cases hk
   | eatv m=>
    simp only[trimK] at hk;split at hk
    ·split at hk
     ·obtain ⟨hr,t',m',H',v',cs',ad',F',h1,_⟩:=at_ok h hk;exact fin h1
     ·cases hk
    ·cases hk
theorem box_cp (h:Rel0 P C A σ a w F) {r:Nat} {t:Ty} {m:Md} {v:t.den} (hg:σ.get r=.box t m [] v):∃ (A':Cells) (F':Nat->FP),(∀ b i,A b i->A' b i)/\Rel0 P C A' ((σ.put r .dead).put r (.cp t v)) a w F'/\Ro P w A' (.ptr t) v [tmp a r]/\r < σ.n:=by
 have hi:r < σ.n:=by
  rcases cB r σ.n with hi | hi
  ·exact hi
  ·rw[get_out (dG.2 hi)] at hg;cases hg
 have hs:=h.slots r hi;rw[hg] at hs;obtain ⟨b,off,L,F1,s1,s2,s3,s4,s5,s6⟩:=hs;have h1:=h.put hi (s:=.dead) (v:=tmp a r) (Fd:=fun _ _=>0) (X':=F r) trivial (fun b k=>by omega) (fun _ _ _ _ e=>by cases e);rw[put_same] at h1;have h2:=h1.giveUp (A1:=fun b' i'=>A b' i'\/1<=F r b' i') (X1:=fun _ _=>0) (fun _ _ h=>.inl h) (fun b' i' ha=>ha.imp id fun hp=>⟨hp,rfl⟩) (fun _ _=>aW _)
 have hro:Ro P w (fun b' i'=>A b' i'\/1<=F r b' i') (.ptr t) v [tmp a r]:=
  ⟨⟨b,off,none⟩,by rw[s1],rfl,L,s2,(fun j u hu=>⟨s3 j u hu,.inr (by
   have hj:=(aJ.1 hu).1;have h9:rng b off t.sz b (off+j)=1:=by simp only[rng];rw[aV ⟨trivial,by omega,by omega⟩]
   have:=s5 b (off+j);show 1<=F r b (off+j)
   omega)⟩),Rep.toRo (fun _ _ h=>.inl h) t s6 (fun b' i' hp=>.inr (by have:=s5 b' i';omega))⟩
 have h3:=h2.put (d:=r) hi (s:=.cp t v) (v:=tmp a r) (Fd:=fun _ _=>0) (X':=fun _ _=>0) hro (fun b k=>by omega) (fun _ _ _ _ e=>by cases e);rw[put_same] at h3;exact ⟨_,_,fun b i ha=>.inl ha,h3,hro,hi⟩
theorem slot_cp (h:Rel0 P C A σ a w F) {i:Nat} (hi:i < σ.n) {t:Ty} {v:t.den} (hro:Ro P w A (.ptr t) v [tmp a i]):∃ F':Nat->FP,Rel0 P C A ((σ.put i .dead).put i (.cp t v)) a w F':=by
 have h1:=h.put hi (s:=.dead) (v:=tmp a i) (Fd:=fun _ _=>0) (X':=F i) trivial (fun b k=>by omega) (fun _ _ _ _ e=>by cases e);rw[put_same] at h1;have h2:=h1.giveUp (A1:=A) (X1:=fun _ _=>0) (fun _ _ h=>h) (fun b' i' ha=>.inl ha) (fun _ _=>aW _);have h3:=h2.put (d:=i) hi (s:=.cp t v) (v:=tmp a i) (Fd:=fun _ _=>0) (X':=fun _ _=>0) hro (fun b k=>by omega) (fun _ _ _ _ e=>by cases e);rw[put_same] at h3;exact ⟨_,h3⟩
theorem ptr_same (h:Rel0 P C A σ a w F) {i r:Nat} {snap:List Nat} {t:Ty} {m:Md} {H:List Path} {v:t.den} (hi:i < σ.n) (hs:σ.get i=.ptr r [] snap) (hok:σ.ok r snap=true) (hg:σ.get r=.box t m H v):tmp a i=tmp a r:=by
 have h1:=h.slots i hi;rw[hs] at h1;obtain ⟨pl,b,o,p1,p2,p3,p4⟩:=h1.2 hok
 have hr:r < σ.n:=by
  rcases cB r σ.n with hr | hr
  ·exact hr
  ·rw[get_out (dG.2 hr)] at hg;cases hg
 have h2:=h.slots r hr;rw[hg] at h2;obtain ⟨b2,off,L,F1,s1,_⟩:=h2;rw[p3,s1];unfold place at p1;rw[hg,s1] at p1;simp only[rootPl,aB,plc] at p1;injection p1 with p1;subst p1;injection p2 with p2;injection p2 with p2 p5;subst p2;subst p5;rfl
theorem frz_ok {K:St->Option R}:∀ (ps:List (PM×Ty)) (xs:List Operand) {σ:St} {A:Cells} {F:Nat->FP},Rel0 P C A σ a w F->frzK σ ps xs K=some x ->
  ∃ (A':Cells) (σ':St) (F':Nat->FP),K σ'=some x/\(∀ b i,A b i->A' b i)/\Rel0 P C A' σ' a w F'/\σ'.n=σ.n:=by
 intro ps
 induction ps with
 | nil=>intro xs σ A F h hk;exact ⟨A,σ,F,by cases xs <;> exact hk,fun _ _ h=>h,h,rfl⟩
 | cons p ps ih=>
  intro xs σ A F h hk
  cases xs with
  | nil=>obtain ⟨pm,t⟩:=p;exact ⟨A,σ,F,by cases pm <;> exact hk,fun _ _ h=>h,h,rfl⟩
  | cons y xs=>
   obtain ⟨pm,t⟩:=p
   have fin:∀ {r:Nat} {p:Path},(freezeK σ r p fun σ=>frzK σ ps xs K)=some x ->
     ∃ (A':Cells) (σ':St) (F':Nat->FP),K σ'=some x/\(∀ b i,A b i->A' b i)/\Rel0 P C A' σ' a w F'/\σ'.n=σ.n:=fun hk=>by
    obtain ⟨A1,σ1,F1,_,_,_,_,_,k1,k2,k3,k4,_⟩:=freeze_ok h hk;obtain ⟨A2,σ2,F2,q1,q2,q3,q4⟩:=ih xs k3 k1;exact ⟨A2,σ2,F2,q1,fun b i ha=>q2 b i (k2 b i ha),q3,q4.trans k4⟩
   cases pm with
   | fix f=>exact ih xs h hk
   | mutp m=>exact ih xs h hk
   | eat m=>exact ih xs h hk
   | muts m=>exact ih xs h hk
   | eatv m=>exact ih xs h hk
   | ro=>
    simp only[frzK] at hk;split at hk
    ·exact ih xs h hk
    ·split at hk
     ·split at hk
      ·exact fin hk
      ·cases hk
     ·split at hk
      ·exact fin hk
      ·cases hk
     ·rename_i r p snap hop;split at hk
      ·rename_i hok;split at hk
       ·rename_i t m H v hg;split at hk
        ·rename_i hc;simp only[aC,bJ] at hc;obtain ⟨hH,hfit⟩:=hc;subst hH;obtain ⟨A1,F1,hA1,h3,h4,h5⟩:=box_cp h hg
         have go:∀ {σ2:St} {F2:Nat->FP},Rel0 P C A1 σ2 a w F2->frzK σ2 ps xs K=some x->σ2.n=σ.n->∃ (A':Cells) (σ':St) (F':Nat->FP),K σ'=some x/\(∀ b i,A b i->A' b i)/\Rel0 P C A' σ' a w F'/\σ'.n=σ.n:=fun h3 hk hn=>by
          obtain ⟨A2,σ2,F2,q1,q2,q3,q4⟩:=ih xs h3 hk;exact ⟨A2,σ2,F2,q1,fun b i ha=>q2 b i (hA1 b i ha),q3,q4.trans hn⟩
         cases y with
         | tmp i=>
          simp only[cpAt] at hk;split at hk
          ·exact go h3 hk rfl
          ·rename_i hc2;simp only[iE,Bool.not_eq_false',gI] at hc2;obtain ⟨g1,g2⟩:=hc2;have hi:i < σ.n:=g2;have hir:i≠r:=fun e=>by subst e;rw[iU] at g1;cases g1
           have hs:σ.get i=.ptr r [] snap:=by
            have hop2:=hop;simp only[opd] at hop2;split at hop2
            ·cases hop2
            ·injection hop2 with e1;exact absurd e1 hir
            ·exact hop2
           have he:=ptr_same h hi hs hok hg;rw[<-he] at h4;obtain ⟨F3,h6⟩:=slot_cp h3 (i:=i) g2 h4;exact go h6 hk rfl
         | const c=>exact go h3 hk rfl
         | func f=>exact go h3 hk rfl
         | global g=>exact go h3 hk rfl
        ·cases hk
       ·cases hk
      ·cases hk
     ·exact ih xs h hk
def AX (A:Cells) (F:Nat->FP) (n r0:Nat) (ow:Bool):Cells:=fun b i=>A b i\/(ow=true/\∃ j,j < n/\j≠r0/\1<=F j b i)
def ArgOk (P:Program) (A:Cells) (σ:St) (a:Act) (w:World) (F:Nat->FP) (ow:Bool) (pm:PM) (t:Ty) (v:t.den) (s:Slot) (tv:Value) (wp:Option (Nat×Path)):Prop:=
 match pm with
 | .ro=>wp=none/\∃ cs,tv=mkV t cs/\Ro P w (fun b i=>A b i\/(ow=true/\∃ r ∈ slotRoot s,r < σ.n/\1<=F r b i)) t v cs
 | .fix f=>wp=none/\(∃ cs,tv=mkV t cs/\Ro P w A t v cs)/\∀ e:t=.fn,(e ▸ v:Ty.fn.den).1=f
 | .mutp m=>∃ r p snap b o cs,s=.ptr r p snap/\wp=some (r,p)/\At σ r p t m [] v/\tv=.pointer (some ⟨b,o,none⟩)/\place σ a w r p=some ⟨t,[],cs,some (b,o)⟩
 | .muts m=>∃ r p snap cs ad,s=.ref r p snap/\wp=some (r,p)/\At σ r p t m [] v/\tv=mkV t cs/\place σ a w r p=some ⟨t,[],cs,ad⟩
 | .eatv m=>∃ H r p snap cs ad,s=.ref r p snap/\wp=some (r,p)/\At σ r p t m H v/\tv=mkV t cs/\place σ a w r p=some ⟨t,H,cs,ad⟩
 | .eat m=>∃ r p snap b o cs,s=.ptr r p snap/\wp=some (r,p)/\At σ r p t m [] v/\tv=.pointer (some ⟨b,o,none⟩)/\place σ a w r p=some ⟨t,[],cs,some (b,o)⟩
def ArgsOk (P:Program) (A:Cells) (σ:St) (a:Act) (w:World) (F:Nat->FP) (ow:Bool):(ps:List (PM×Ty))->(tupT (ps.map (·.2))).den->List Slot->List Value->List (Nat×Path)->Prop
 | [],_,ss,tvs,ws=>ss=[]/\tvs=[]/\ws=[]
 | (pm,t)::ps,v,ss,tvs,ws=>∃ s ss' tv tvs' wp ws',ss=s::ss'/\tvs=tv::tvs'/\ws=(match (generalizing:=false) wp with | some x=>x::ws' | none=>ws')/\ArgOk P A σ a w F ow pm t v.1 s tv wp/\ArgsOk P A σ a w F ow ps v.2 ss' tvs' ws'
def SlotsRel (P:Program) (A:Cells) (σ:St) (a:Act) (w:World):List Slot->List Value->Prop
 | [],[]=>True
 | s::ss,tv::tvs=>(SlotRel P A σ a w tv s (fun _ _=>0)\/∃ xs,s=.tup xs)/\SlotsRel P A σ a w ss tvs
 | _,_=>False
theorem slots_opds (h:Rel0 P C A σ a w F):∀ (xs:List Operand) {ss:List Slot} {tvs:List Value},xs.all (opdOk P)=true->SlotsRel P A σ a w ss tvs->SlotsRel P A σ a w (xs.map (opd σ)++ss) (xs.map a.eval++tvs)
 | [],_,_,_,h2=>h2
 | y::xs,_,_,hok,h2=>by
  simp only[eL,aC] at hok;exact ⟨opd_ok h hok.1,slots_opds h xs hok.2 h2⟩
theorem ro_ok (h:Rel0 P C A σ a w F) {s:Slot} {tv:Value} {G:FP} (hs:SlotRel P A σ a w tv s G) {t:Ty} {K:t.den->Option R} (hk:roK σ s t K=some x) :
  ∃ (v:t.den) (cs:List Value),K v=some x/\tv=mkV t cs/\Ro P w A t v cs:=by
 cases s with
 | val t' v=>
  obtain ⟨e,hk⟩:=castK_some hk;subst e;obtain ⟨cs,h1,h2⟩:=hs;exact ⟨v,cs,hk,h1,h2⟩
 | cp t' v=>
  obtain ⟨e,hk⟩:=castK_some hk;subst e;exact ⟨v,[tv],hk,(mkV_one _ _ rfl).symm,hs⟩
 | nils=>
  simp only[roK] at hk;split at hk
  ·rename_i t e;have hs:tv=.slice none 0 0:=hs;subst hs;exact ⟨[],_,hk,(mkV_one _ _ rfl).symm,none,0,rfl,aK _,fun _=>rfl,fun ad had=>by cases had⟩
  ·cases hk
 | ref r p snap=>
  simp only[roK] at hk;split at hk
  ·rename_i hok;obtain ⟨hr,t',m',H',v',cs',ad',F',h1,h2,h3,h4,h5,h6⟩:=at_ok h hk;obtain ⟨pl,g1,g2,g3⟩:=hs.2 hok;rw[h3] at g1;injection g1 with g1;subst g1;split at h1
   ·rename_i hc;simp only[aC,bJ,cW,bU] at hc;obtain ⟨hH,hm⟩:=hc;subst hH;obtain ⟨e,h1⟩:=castK_some h1;subst e;refine ⟨v',cs',h1,g2,?_⟩
    rcases hm with hm | hm
    ·exact Rep.flat _ hm h4
    ·subst hm;exact Rep.ro _ (roMd_noOwn _) h4
   ·cases h1
  ·cases hk
 | sub r p snap lo hi=>
  simp only[roK] at hk;split at hk
  ·rename_i hok;obtain ⟨hr,t',m',H',v',cs',ad',F',h1,h2,h3,h4,h5,h6⟩:=at_ok h hk;obtain ⟨pl,e,xa,n,cap,xa',cap',g1,g2,g3,g4,g5,g6,g7,g7',g8,g9,g10⟩:=hs.2 hok;rw[h3] at g1;injection g1 with g1;subst g1;simp only at g2 g3;subst g2;subst g3;split at h1
   ·rename_i hc;simp only[aC,bJ,bU] at hc;obtain ⟨hH,hm⟩:=hc;subst hH;subst hm;obtain ⟨e',h1⟩:=castK_some h1;subst e';exact ⟨_,_,h1,by rw[mkV_one _ _ rfl];exact g6,Ro.piece (Rep.ro _ (roMd_noOwn _) h4) g4 g5 g7 g8 g9⟩
   ·cases h1
  ·cases hk
 | _=>simp[roK] at hk
theorem arg_ok (h:Rel0 P C A σ a w F) {ow:Bool} {pm:PM} {t:Ty} {s:Slot} {tv:Value} (hs:SlotRel P A σ a w tv s (fun _ _=>0)\/∃ xs,s=.tup xs) {K:t.den->Option (Nat×Path)->Option R} (hk:argK σ ow pm t s K=some x) :
  ∃ v wp,K v wp=some x/\ArgOk P A σ a w F ow pm t v s tv wp:=by
 rcases hs with hs | ⟨xs,rfl⟩
 rotate_left
 ·cases pm with
  | ro=>cases ow <;> simp[argK,readK,roK] at hk
  | _=>simp[argK] at hk
 cases pm with
 | ro=>
  cases ow with
  | true=>
   simp only[argK] at hk;have hlt:=slot_root_lt h hk;obtain ⟨v,cs,h1,h2,h3⟩:=read_root h hs hk;exact ⟨v,none,h1,rfl,cs,h2,Ro.mono (fun _ _ _ _ h=>h) (fun b i ha=>ha.imp id fun ⟨r,hr,hp⟩=>⟨rfl,r,hr,hlt r hr,hp⟩) t h3⟩
  | false=>
   simp only[argK] at hk;obtain ⟨v,cs,h1,h2,h3⟩:=ro_ok h hs hk;exact ⟨v,none,h1,rfl,cs,h2,Ro.mono (fun _ _ _ _ h=>h) (fun b i ha=>.inl ha) t h3⟩
 | fix f=>
  simp only[argK] at hk;split at hk
  ·rename_i v;split at hk
   ·rename_i hf;obtain ⟨e,hk⟩:=castK_some hk;subst e;obtain ⟨cs,h1,h2⟩:=hs;exact ⟨v,none,hk,rfl,⟨cs,h1,h2⟩,fun e=>by simpa using hf⟩
   ·cases hk
  ·cases hk
 | mutp m=>
  simp only[argK] at hk;split at hk
  ·rename_i r p snap;split at hk
   ·rename_i hok;obtain ⟨hr,t',m',H',v',cs',ad',F',h1,h2,h3,h4,h5,h6⟩:=at_ok h hk;obtain ⟨pl,b,o,g1,g2,g3,g4⟩:=hs.2 hok;rw[h3] at g1;injection g1 with g1;subst g1;simp only at g2;subst g2;split at h1
    ·rename_i hc;simp only[aC,bJ,bU] at hc;obtain ⟨hH,hm⟩:=hc;subst hH;subst hm;obtain ⟨e,h1⟩:=castK_some h1;subst e;exact ⟨v',_,h1,r,p,snap,b,o,cs',rfl,rfl,⟨h2⟩,g3,h3⟩
    ·cases h1
   ·cases hk
  ·cases hk
 | eat m=>
  simp only[argK] at hk;split at hk
  ·rename_i r p snap;split at hk
   ·rename_i hok;obtain ⟨hr,t',m',H',v',cs',ad',F',h1,h2,h3,h4,h5,h6⟩:=at_ok h hk;obtain ⟨pl,b,o,g1,g2,g3,g4⟩:=hs.2 hok;rw[h3] at g1;injection g1 with g1;subst g1;simp only at g2;subst g2;split at h1
    ·rename_i hc;simp only[aC,bJ,bU] at hc;obtain ⟨hH,hm⟩:=hc;subst hH;subst hm;obtain ⟨e,h1⟩:=castK_some h1;subst e;exact ⟨v',_,h1,r,p,snap,b,o,cs',rfl,rfl,⟨h2⟩,g3,h3⟩
    ·cases h1
   ·cases hk
  ·cases hk
 | muts m=>
  simp only[argK] at hk;split at hk
  ·rename_i r p snap;split at hk
   ·rename_i hok;obtain ⟨hr,t',m',H',v',cs',ad',F',h1,h2,h3,h4,h5,h6⟩:=at_ok h hk;obtain ⟨pl,g1,g2,g3⟩:=hs.2 hok;rw[h3] at g1;injection g1 with g1;subst g1;split at h1
    ·rename_i hc;simp only[aC,bJ,bU] at hc;obtain ⟨hH,hm⟩:=hc;subst hH;subst hm;obtain ⟨e,h1⟩:=castK_some h1;subst e;exact ⟨v',_,h1,r,p,snap,cs',ad',rfl,rfl,⟨h2⟩,g2,h3⟩
    ·cases h1
   ·cases hk
  ·cases hk
 | eatv m=>
  simp only[argK] at hk;split at hk
  ·rename_i r p snap;split at hk
   ·rename_i hok;obtain ⟨hr,t',m',H',v',cs',ad',F',h1,h2,h3,h4,h5,h6⟩:=at_ok h hk;obtain ⟨pl,g1,g2,g3⟩:=hs.2 hok;rw[h3] at g1;injection g1 with g1;subst g1;split at h1
    ·rename_i hm;subst hm;obtain ⟨e,h1⟩:=castK_some h1;subst e;exact ⟨v',_,h1,H',r,p,snap,cs',ad',rfl,rfl,⟨h2⟩,g2,h3⟩
    ·cases h1
   ·cases hk
  ·cases hk
theorem args_ok (h:Rel0 P C A σ a w F) {ow:Bool}:∀ (ps:List (PM×Ty)) {ss:List Slot} {tvs:List Value} {K:(tupT (ps.map (·.2))).den->List (Nat×Path)->Option R},SlotsRel P A σ a w ss tvs->argsK σ ow ps ss K=some x ->
  ∃ v ws,K v ws=some x/\ArgsOk P A σ a w F ow ps v ss tvs ws:=by
 intro ps
 induction ps with
 | nil=>
  intro ss tvs K hs hk
  cases ss with
  | nil=>
   cases tvs with
   | nil=>exact ⟨(),[],hk,rfl,rfl,rfl⟩
   | cons _ _=>exact hs.elim
  | cons _ _=>cases hk
 | cons p ps ih=>
  intro ss tvs K hs hk;obtain ⟨pm,t⟩:=p
  cases ss with
  | nil=>cases hk
  | cons s ss=>
   cases tvs with
   | nil=>exact hs.elim
   | cons tv tvs=>
    simp only[argsK] at hk;obtain ⟨v,wp,h1,h2⟩:=arg_ok h hs.1 hk;obtain ⟨vs,ws,h3,h4⟩:=ih hs.2 h1;exact ⟨(v,vs),_,h3,s,ss,tv,tvs,wp,ws,rfl,rfl,rfl,h2,h4⟩
theorem argsOk_none {ow:Bool} {A0:Cells} (hA:∀ b i,A b i->A0 b i) {r0:Nat} (hX:ow=true->∀ b i j,j < σ.n->j≠r0->1<=F j b i->A0 b i):∀ (ps:List (PM×Ty)) {v:(tupT (ps.map (·.2))).den} {ss:List Slot} {tvs:List Value},
  ArgsOk P A σ a w F ow ps v ss tvs []->(∀ r ∈ ss.flatMap slotRoot,r < σ.n->r≠r0)->(∀ ho,ArgsRel P w A0 ho ps v tvs (fun _ _=>0))/\(∀ (σ':St) (K:St->Option R) (out:(tupT (mutTys ps)).den),backK σ' ps [] out K=K σ'):=by
 intro ps
 induction ps with
 | nil=>intro v ss tvs h hr;exact ⟨fun _=>h.2.1,fun σ' K out=>rfl⟩
 | cons p ps ih=>
  intro v ss tvs h hr;obtain ⟨pm,t⟩:=p;obtain ⟨s,ss',tv,tvs',wp,ws',rfl,rfl,hw,hao,hrest⟩:=h;have hcs:∀ b i,A b i->∀ u,ce w b i=some u->ce w b i=some u:=fun _ _ _ _ h=>h
  cases wp with
  | some y=>cases hw
  | none=>
   have hw:[]=ws':=hw;subst hw;obtain ⟨i1,i2⟩:=ih hrest (fun r hm=>hr r (by simp only[eA,cM];exact .inr hm))
   cases pm with
   | ro=>
    obtain ⟨_,cs,h1,h2⟩:=hao;refine ⟨fun ho=>⟨tv,tvs',fun _ _=>0,fun _ _=>0,rfl,fun _ _=>aK _,⟨cs,h1,Ro.mono (fun _ _ _ _ h=>h) (fun b i ha=>?_) t h2⟩,i1 ho⟩,fun σ' K out=>i2 σ' K out⟩
    rcases ha with ha | ⟨how,r,hm,hlt,hp⟩
    ·exact hA b i ha
    ·exact hX how b i r hlt (hr r (by simp only[eA,cM];exact .inl hm) hlt) hp
   | fix f=>
    obtain ⟨_,⟨cs,h1,h2⟩,h3⟩:=hao;exact ⟨fun ho=>⟨tv,tvs',fun _ _=>0,fun _ _=>0,rfl,fun _ _=>aK _,⟨⟨cs,h1,Ro.mono (fun _ _ _ _ h=>h) hA t h2⟩,h3⟩,i1 ho⟩,fun σ' K out=>i2 σ' K out⟩
   | mutp m=>obtain ⟨r,p,snap,b,o,cs,_,e,_⟩:=hao;cases e
   | eat m=>obtain ⟨r,p,snap,b,o,cs,_,e,_⟩:=hao;cases e
   | muts m=>obtain ⟨r,p,snap,cs,ad,_,e,_⟩:=hao;cases e
   | eatv m=>obtain ⟨H,r,p,snap,cs,ad,_,e,_⟩:=hao;cases e
theorem mkV_inj {t:Ty} {cs cs':List Value} (h1:cs.length=t.sz) (h2:∀ x ∈ cs,x.oneCell'=true) (h3:cs'.length=t.sz) (h4:∀ x ∈ cs',x.oneCell'=true) (h:mkV t cs=mkV t cs'):cs=cs':=by
 rw[<-mkV_cells h1 h2,<- mkV_cells h3 h4,h]
theorem argsOk_one {ow:Bool} {r:Nat} {p:Path}:∀ (ps:List (PM×Ty)) {v:(tupT (ps.map (·.2))).den} {ss:List Slot} {tvs:List Value},
  ArgsOk P A σ a w F ow ps v ss tvs [(r,p)]->(ss.flatMap slotRoot).count r<=1 ->
  1<=(ss.flatMap slotRoot).count r/\∃ (isE isP isV:Bool) (t:Ty) (m:Md) (H:List Path) (v1:t.den) (cs:List Value) (ad:Option (Nat×Nat)),((isV=false->H=[])/\(isV=true->hasV ps=true))/\At σ r p t m H v1/\place σ a w r p=some ⟨t,H,cs,ad⟩/\(isP=true->∃ b o,ad=some (b,o)) /\
   (allOwnP ps=true->(t.flat||decide (m=ownMd t))=true/\t.nofn=true) /\
   (∀ (A0:Cells) (F0 Fp:FP),(∀ b i,A b i->A0 b i)->(ow=true->∀ b i j,j < σ.n->j≠r->1<=F j b i->A0 b i)->Rep P w A0 t m H v1 cs Fp ->
    (isP=true->∀ b o,ad=some (b,o)->Has w b o cs/\(∀ j,j < t.sz->w.frozen? ⟨b,o+j,none⟩=false)/\∀ b' i,rng b o t.sz b' i+Fp b' i<=F0 b' i)->(isP=false->∀ b i,Fp b i<=F0 b i)->∀ ho,(isV=true->ho H=true)->ArgsRel P w A0 ho ps v tvs F0) /\
   (isV=true->isE=true/\isP=false/\∀ (σ':St) (K:St->Option R) (out:(tupT (mutTys ps)).den),backK σ' ps [(r,p)] out K=takeK σ' r p K) /\
   (isE=true->isV=false->∀ (σ':St) (K:St->Option R) (out:(tupT (mutTys ps)).den),backK σ' ps [(r,p)] out K=match setK σ' r p t m t.zero (fun _=>some ()) with | some _=>K (σ'.put r .dead) | none=>none) /\
   (isE=false->∀ out:(tupT (mutTys ps)).den,∃ o1:t.den,
    (∀ (σ':St) (K:St->Option R),backK σ' ps [(r,p)] out K=setK σ' r p t m o1 fun σ''=>K (match isP with | true=>σ'' | false=>{ σ'' with vr:=(σ'.setVer r (bumpAt (nidx p+1))).vr,lent:=σ'.lent })) /\
    ∀ (w':World) (A':Cells) (GM:FP),MutsRel P w' A' ps out tvs GM->∃ cs' F3,Rep P w' A' t m [] o1 cs' F3/\(∀ b i,F3 b i<=GM b i)/\(isP=true->∀ b o,ad=some (b,o)->Has w' b o cs'/\∀ b' i,rng b o t.sz b' i+F3 b' i<=GM b' i) /\
     (isP=false->mkV t cs'=mkV t cs)):=by
 intro ps
 induction ps with
 | nil=>intro v ss tvs h hc;cases h.2.2
 | cons p0 ps ih=>
  intro v ss tvs h hc;obtain ⟨pm,t⟩:=p0;obtain ⟨s,ss',tv,tvs',wp,ws',rfl,rfl,hw,hao,hrest⟩:=h;simp only[eA,List.count_append] at hc ⊢
  cases pm with
  | ro=>
   obtain ⟨hwp,cs,h1,h2⟩:=hao;subst hwp;have hw:[(r,p)]=ws':=hw;subst hw;obtain ⟨c1,isE,isP,isV,t1,m1,H1,v1,cs1,ad1,q0,q1,q2,q3,q4,q5,q8,q7,q6⟩:=ih hrest (by omega);refine ⟨by omega,isE,isP,isV,t1,m1,H1,v1,cs1,ad1,q0,q1,q2,q3,q4,fun A0 F0 Fp a1 a2 a3 a4 a5 ho a6=>⟨tv,tvs',fun _ _=>0,F0,rfl,fun b i=>by simp,⟨cs,h1,Ro.mono (fun _ _ _ _ h=>h) (fun b i ha=>?_) t h2⟩,q5 A0 F0 Fp a1 a2 a3 a4 a5 ho a6⟩,fun hV=>⟨(q8 hV).1,(q8 hV).2.1,fun σ' K out=>(q8 hV).2.2 σ' K out⟩,fun hE hV σ' K out=>q7 hE hV σ' K out,fun hE out=>q6 hE out⟩
   rcases ha with ha | ⟨how,r',hm,hlt,hp⟩
   ·exact a1 b i ha
   ·refine a2 how b i r' hlt (fun e=>?_) hp;subst e;have:=eH.2 hm;omega
  | fix f=>
   obtain ⟨hwp,⟨cs,h1,h2⟩,h3⟩:=hao;subst hwp;have hw:[(r,p)]=ws':=hw;subst hw;obtain ⟨c1,isE,isP,isV,t1,m1,H1,v1,cs1,ad1,q0,q1,q2,q3,q4,q5,q8,q7,q6⟩:=ih hrest (by omega);exact ⟨by omega,isE,isP,isV,t1,m1,H1,v1,cs1,ad1,q0,q1,q2,q3,q4,fun A0 F0 Fp a1 a2 a3 a4 a5 ho a6=>⟨tv,tvs',fun _ _=>0,F0,rfl,fun b i=>by simp,⟨⟨cs,h1,Ro.mono (fun _ _ _ _ h=>h) a1 t h2⟩,h3⟩,q5 A0 F0 Fp a1 a2 a3 a4 a5 ho a6⟩,fun hV=>⟨(q8 hV).1,(q8 hV).2.1,fun σ' K out=>(q8 hV).2.2 σ' K out⟩,fun hE hV σ' K out=>q7 hE hV σ' K out,fun hE out=>q6 hE out⟩
  | eat m=>
   obtain ⟨r1,p1,snap,b,o,cs,rfl,hwp,hat,htv,hpl⟩:=hao;subst hwp;have hw:[(r,p)]=(r1,p1)::ws':=hw;injection hw with hw1 hw2;injection hw1 with hw1 hw3;subst hw1;subst hw2;subst hw3;have hself:(slotRoot (.ptr r p snap)).count r=1:=by simp[slotRoot]
   obtain ⟨n1,n2⟩:=argsOk_none (R:=R) (P:=P) (A0:=fun b i=>True) (fun _ _ _=>trivial) (r0:=r) (fun _ _ _ _ _ _ _=>trivial) ps hrest (fun r' hm _ e=>by subst e;have:=eH.2 hm;omega);refine ⟨by omega,true,true,false,t,m,[],v.1,cs,some (b,o),⟨fun _=>rfl,fun e=>by cases e⟩,hat,hpl,fun _=>⟨b,o,rfl⟩,fun ho=>?_,fun A0 F0 Fp a1 a2 a3 a4 a5 ho _=>?_,(fun e=>by cases e),fun _ _ σ' K out=>?_,fun e=>by cases e⟩
   ·simp only[allOwnP,aC] at ho;exact ho.1
   ·obtain ⟨b1,b2,b3⟩:=a4 rfl b o rfl;obtain ⟨k1,_⟩:=argsOk_none (R:=R) (P:=P) a1 (r0:=r) a2 ps hrest (fun r' hm _ e=>by subst e;have:=eH.2 hm;omega);exact ⟨tv,tvs',F0,fun _ _=>0,rfl,fun b i=>aK _,⟨b,o,cs,Fp,htv,Rep.length _ a3,b1,b2,b3,a3⟩,k1 ho⟩
   ·show (match setK σ' r p t m t.zero (fun _=>some ()) with | some _=>backK (σ'.put r .dead) ps [] out K | none=>none)=_;split
    ·exact n2 _ K out
    ·rfl
  | mutp m=>
   obtain ⟨r1,p1,snap,b,o,cs,rfl,hwp,hat,htv,hpl⟩:=hao;subst hwp;have hw:[(r,p)]=(r1,p1)::ws':=hw;injection hw with hw1 hw2;injection hw1 with hw1 hw3;subst hw1;subst hw2;subst hw3;have hself:(slotRoot (.ptr r p snap)).count r=1:=by simp[slotRoot]
   obtain ⟨n1,n2⟩:=argsOk_none (R:=R) (P:=P) (A0:=fun b i=>True) (fun _ _ _=>trivial) (r0:=r) (fun _ _ _ _ _ _ _=>trivial) ps hrest (fun r' hm _ e=>by subst e;have:=eH.2 hm;omega);refine ⟨by omega,false,true,false,t,m,[],v.1,cs,some (b,o),⟨fun _=>rfl,fun e=>by cases e⟩,hat,hpl,fun _=>⟨b,o,rfl⟩,fun ho=>?_,fun A0 F0 Fp a1 a2 a3 a4 a5 ho _=>?_,(fun e=>by cases e),(fun e=>by cases e),fun _ out=>⟨out.1,fun σ' K=>?_,fun w' A' GM hm=>?_⟩⟩
   ·simp only[allOwnP,aC] at ho;exact ho.1
   ·obtain ⟨b1,b2,b3⟩:=a4 rfl b o rfl;obtain ⟨k1,_⟩:=argsOk_none (R:=R) (P:=P) a1 (r0:=r) a2 ps hrest (fun r' hm _ e=>by subst e;have:=eH.2 hm;omega);exact ⟨tv,tvs',F0,fun _ _=>0,rfl,fun b i=>aK _,⟨b,o,cs,Fp,htv,Rep.length _ a3,b1,b2,b3,a3⟩,k1 ho⟩
   ·show setK σ' r p t m out.1 (fun σ=>backK σ ps [] out.2 K)=_;congr 1;funext σ'';exact n2 σ'' K out.2
   ·obtain ⟨F1,F2,h1,⟨b',o',L,F3,h2,h3,h4,h5,h6⟩,h7⟩:=hm;simp only[List.head?_cons,aO,htv,Value.pointer.injEq,Addr.mk.injEq,eC] at h2;obtain ⟨rfl,rfl⟩:=h2;refine ⟨L,F3,h6,fun b' i=>by have:=h5 b' i;have:=h1 b' i;omega,fun _ b2 o2 e=>?_,fun e=>by cases e⟩
    simp only[aO,bO] at e;obtain ⟨rfl,rfl⟩:=e;exact ⟨h4,fun b' i=>by have:=h5 b' i;have:=h1 b' i;omega⟩
  | muts m=>
   obtain ⟨r1,p1,snap,cs,ad,rfl,hwp,hat,htv,hpl⟩:=hao;subst hwp;have hw:[(r,p)]=(r1,p1)::ws':=hw;injection hw with hw1 hw2;injection hw1 with hw1 hw3;subst hw1;subst hw2;subst hw3;have hself:(slotRoot (.ref r p snap)).count r=1:=by simp[slotRoot]
   obtain ⟨n1,n2⟩:=argsOk_none (R:=R) (P:=P) (A0:=fun b i=>True) (fun _ _ _=>trivial) (r0:=r) (fun _ _ _ _ _ _ _=>trivial) ps hrest (fun r' hm _ e=>by subst e;have:=eH.2 hm;omega);refine ⟨by omega,false,false,false,t,m,[],v.1,cs,ad,⟨fun _=>rfl,fun e=>by cases e⟩,hat,hpl,(fun e=>by cases e),fun ho=>?_,fun A0 F0 Fp a1 a2 a3 a4 a5 ho _=>?_,(fun e=>by cases e),(fun e=>by cases e),fun _ out=>⟨out.1,fun σ' K=>?_,fun w' A' GM hm=>?_⟩⟩
   ·simp only[allOwnP,aC] at ho;exact ho.1
   ·obtain ⟨k1,_⟩:=argsOk_none (R:=R) (P:=P) a1 (r0:=r) a2 ps hrest (fun r' hm _ e=>by subst e;have:=eH.2 hm;omega);exact ⟨tv,tvs',F0,fun _ _=>0,rfl,fun b i=>aK _,⟨cs,htv,a3.le (a5 rfl)⟩,k1 ho⟩
   ·show setK σ' r p t m out.1 (fun σ''=>backK { σ'' with vr:=(σ'.setVer r (bumpAt (nidx p+1))).vr,lent:=σ'.lent } ps [] out.2 K)=_;congr 1;funext σ'';exact n2 _ K out.2
   ·obtain ⟨F1,F2,h1,⟨cs',h2,h3⟩,h7⟩:=hm;simp only[List.head?_cons,aO,htv] at h2;exact ⟨cs',F1,h3,fun b' i=>by have:=h1 b' i;omega,(fun e=>by cases e),fun _=>h2.symm⟩
  | eatv m=>
   obtain ⟨H,r1,p1,snap,cs,ad,rfl,hwp,hat,htv,hpl⟩:=hao;subst hwp;have hw:[(r,p)]=(r1,p1)::ws':=hw;injection hw with hw1 hw2;injection hw1 with hw1 hw3;subst hw1;subst hw2;subst hw3;have hself:(slotRoot (.ref r p snap)).count r=1:=by simp[slotRoot]
   obtain ⟨n1,n2⟩:=argsOk_none (R:=R) (P:=P) (A0:=fun b i=>True) (fun _ _ _=>trivial) (r0:=r) (fun _ _ _ _ _ _ _=>trivial) ps hrest (fun r' hm _ e=>by subst e;have:=eH.2 hm;omega);refine ⟨by omega,true,false,true,t,m,H,v.1,cs,ad,⟨fun e=>(by cases e),fun _=>rfl⟩,hat,hpl,(fun e=>by cases e),fun ho=>?_,fun A0 F0 Fp a1 a2 a3 a4 a5 ho a6=>?_,fun _=>⟨rfl,rfl,fun σ' K out=>?_⟩,(fun _ e=>by cases e),fun e=>by cases e⟩
   ·simp only[allOwnP,aC] at ho;exact ho.1
   ·obtain ⟨k1,_⟩:=argsOk_none (R:=R) (P:=P) a1 (r0:=r) a2 ps hrest (fun r' hm _ e=>by subst e;have:=eH.2 hm;omega);exact ⟨tv,tvs',F0,fun _ _=>0,rfl,fun b i=>aK _,⟨H,cs,a6 rfl,htv,a3.le (a5 rfl)⟩,k1 ho⟩
   ·show takeK σ' r p (fun σ''=>backK σ'' ps [] out K)=_;congr 1;funext σ'';exact n2 _ K out
theorem ret_ok {rs:List Res} {rv:Value} {G:FP} (h:RetRel P w A rs rv G):SlotRel P A σ a w rv (resSlot rs) G/\∀ t m H v,resSlot rs=.box t m H v->∃ b,rv=.pointer (some ⟨b,0,none⟩)/\OwnBlk w b (t.sz,false):=by
 match rs,h with
 | [],_=>exact ⟨trivial,fun _ _ _ _ e=>by cases e⟩
 | [x],h=>
  obtain ⟨cs,rfl,h2⟩:=h;exact laid_ok h2
 | x::y::rs,h=>
  obtain ⟨vs,Fi,h1,h2,h3⟩:=h
  exact ⟨⟨vs,Fi,h1,h2,fun j z hz=>by
   obtain ⟨v,cs,g1,g2,g3⟩:=h3 j z hz
   exact ⟨v,g1,.inr ⟨cs,g2,g3⟩⟩⟩,fun _ _ _ _ e=>by cases e⟩
theorem RetRel.free {A':Cells}:∀ {rs:List Res} {rv:Value} {G:FP},(∀ x ∈ rs,(x.t.flat||decide (x.m=ownMd x.t))=true/\x.t.nofn=true)->RetRel P w A rs rv G->RetRel P w A' rs rv G
 | [],_,_,_,_=>trivial
 | [x],_,_,ho,⟨cs,h1,h2⟩=>⟨cs,h1,Rep.free (ho x (by simp)).1 (ho x (by simp)).2 h2⟩
 | x::y::rs,_,_,ho,⟨vs,Fi,h1,h2,h3⟩=>⟨vs,Fi,h1,h2,fun j z hz=>by
  obtain ⟨v,cs,g1,g2,g3⟩:=h3 j z hz;have hm:z ∈ x::y::rs:=bW hz
  exact ⟨v,cs,g1,g2,Rep.free (ho z hm).1 (ho z hm).2 g3⟩⟩
theorem split_own:∀ (rs:List (Ty×Md)) {ts:List Ty} (out:(tupT (rs.map (·.1)++ts)).den),allOwn rs=true->∀ x ∈ (splitR rs out).1,(x.t.flat||decide (x.m=ownMd x.t))=true/\x.t.nofn=true
 | [],_,_,_=>fun x hx=>by cases hx
 | (t,m)::rs,_,out,h=>fun x hx=>by
  simp only[allOwn,aC] at h;simp only[splitR,aS] at hx;rcases hx with rfl | hx
  ·exact h.1
  ·exact split_own rs out.2 h.2 x hx
theorem RetRel.mono {A':Cells} (hA:∀ b i,A b i->A' b i):∀ {rs:List Res} {rv:Value} {G:FP},RetRel P w A rs rv G->RetRel P w A' rs rv G
 | [],_,_,_=>trivial
 | [x],_,_,⟨cs,h1,h2⟩=>⟨cs,h1,Rep.mono hA (fun _ _ _ _ h=>h) (fun _ _ h=>h) _ h2 (fun _ _=>aK _) (fun _ _ _ _ h=>h)⟩
 | x::y::rs,_,_,⟨vs,Fi,h1,h2,h3⟩=>⟨vs,Fi,h1,h2,fun j z hz=>by
  obtain ⟨v,cs,g1,g2,g3⟩:=h3 j z hz
  exact ⟨v,cs,g1,g2,Rep.mono hA (fun _ _ _ _ h=>h) (fun _ _ h=>h) _ g3 (fun _ _=>aK _) (fun _ _ _ _ h=>h)⟩⟩
end
end OT
namespace OT
open Go
section
variable {P:Program} {C:Ctx} {A:Cells} {X:FP} {σ:St} {a:Act} {w:World} {F:Nat->FP} {R:Type} {x:R} {Q:Exit->Act->World->Prop} {o:Oper} {E:Env}
def pickN (b:Bool) (n:Nat):Nat:=match b with
 | true=>n
 | false=>0
theorem plc_head {w2:World} {A2:Cells}:∀ (q:Path) (t:Ty) {m':Md} {v':t.den} {cs:List Value} {G':FP} {ad:Option (Nat×Nat)} {pl:Pl},Rep P w2 A2 t m' [] v' cs G'->nidx q<=1->plc w q t [] cs ad=some pl ->
  ∃ H' cs',plc w2 q t [] cs ad=some ⟨pl.t,H',cs',pl.ad⟩/\(nidx q < 1->isSlc pl.t=true->cs'=pl.cs):=by
 intro q
 induction q with
 | nil=>
  intro t m' v' cs G' ad pl h2 hq hp;simp only[plc,aO] at hp;subst hp;exact ⟨_,_,rfl,fun _ _=>rfl⟩
 | cons s q ih=>
  intro t m' v' cs G' ad pl h2 hq hp
  cases t with
  | pair a b=>
   obtain ⟨h0,F1,F2,hs,r1,r2⟩:=h2
   cases s with
   | fst=>
    simp only[plc,h0,aM] at hp ⊢;exact ih a r1 (by simpa [nidx] using hq) (by simpa using hp)
   | snd=>
    simp only[plc,h0,aM] at hp ⊢;exact ih b r2 (by simpa [nidx] using hq) (by simpa using hp)
   | idx i=>simp[plc] at hp
   | aix i=>simp[plc] at hp
  | slc e=>
   cases s with
   | idx i=>
    obtain ⟨xa,cap,news,Fi,r1,r2,r3,r4,r5,r6,r7,r8⟩:=slc_elems h2;subst r1
    cases xa with
    | none=>simp[plc,hole] at hp
    | some ad'=>
     simp only[plc,hole,bQ,aD,aM,eF] at hp ⊢;split at hp
     ·rename_i hi;rw[aV hi];have hrep:=r6 i _ (aA hi);obtain ⟨g1,g2⟩:=r3 ad' rfl;have hl:=Rep.length _ hrep
      have hh:Has w2 ad'.block (ad'.off+i*e.sz) ((news.drop (i*e.sz)).take e.sz):=fun j u hu=>by
       rw[bF] at hu;split at hu
       ·rw[bH] at hu;rw[cG];exact g2 _ u hu
       ·cases hu
      rw[rd_of_has hh hl];obtain ⟨H',cs',h1,h2⟩:=plc_typed (A:=fun _ _=>True) (m:=.leaf) (v:=v'[i]) (F:=fun _ _=>0) q e hrep (.inl (by simp only[nidx] at hq;omega)) hp;exact ⟨H',cs',h1,fun h=>by simp only[nidx] at h;omega⟩
     ·cases hp
   | _=>simp[plc] at hp
  | arr n e=>
   cases s with
   | fst=>simp[plc] at hp
   | snd=>simp[plc] at hp
   | idx i=>simp[plc] at hp
   | aix i=>
    obtain ⟨_,hf,hl,hlen,hr⟩:=h2;simp only[plc,cQ,aH] at hp ⊢;split at hp
    ·rename_i hi;rw[aV hi];exact ih e (Ro.flat e (m:=.leaf) (fun _ _=>0) hf (hr i _ (aA (by rw[hl];exact hi)))) (by simpa [nidx] using hq) hp
    ·cases hp
  | _=>cases s <;> simp[plc] at hp
theorem stab_head {t:Ty} {m':Md} {v':t.den} {cs:List Value} {G':FP} {w2:World} {A2:Cells} (ad:Option (Nat×Nat)) (h2:Rep P w2 A2 t m' [] v' cs G'):Stab 1 False w t [] cs ad w2 [] cs:=by
 intro q pl hq hp;obtain ⟨H',cs',h1,h3⟩:=plc_head q t h2 hq hp;exact ⟨H',cs',h1,fun h=>by rcases h with ⟨h,hs⟩ | h;exact h3 h hs;exact h.elim⟩
theorem ax_bnd (h:Rel0 P C A σ a w F) {r:Nat} {ow:Bool} {b i:Nat} (ha:AX A F σ.n r ow b i):b < w.heap.size:=by
 rcases ha with ha | ⟨_,j,hj,_,hp⟩
 ·exact h.bnd b i (.inr ha)
 ·exact h.bnd b i (.inl (by have:=le_sumF F hj b i;show 1<=0+sumF σ.n F b i;omega))
def noMut:List (PM×Ty)->Bool
 | []=>true
 | (.mutp _,_)::_=>false
 | (.muts _,_)::_=>false
 | (.eat _,_)::_=>false
 | (.eatv _,_)::_=>false
 | _::ps=>noMut ps
theorem argsOk_mut {ow:Bool} {y:Nat×Path} {ws:List (Nat×Path)}:∀ (ps:List (PM×Ty)) {v:(tupT (ps.map (·.2))).den} {ss:List Slot} {tvs:List Value},noMut ps=true->ArgsOk P A σ a w F ow ps v ss tvs (y::ws)->False
 | [],_,_,_,_,h=>by cases h.2.2
 | (pm,t)::ps,_,_,_,hm,h=>by
  obtain ⟨s,ss',tv,tvs',wp,ws',_,_,hw,hao,hrest⟩:=h
  cases pm with
  | ro=>obtain ⟨hwp,_⟩:=hao;subst hwp;have hw:_=ws':=hw;subst hw;exact argsOk_mut ps hm hrest
  | fix f=>obtain ⟨hwp,_⟩:=hao;subst hwp;have hw:_=ws':=hw;subst hw;exact argsOk_mut ps hm hrest
  | mutp m=>cases hm
  | muts m=>cases hm
  | eat m=>cases hm
  | eatv m=>cases hm
theorem callGo_eat (h:Rel0 P C A σ a w F) {f:FuncId} {g:Sig} (hs:Sound P f g) {ow:Bool} (how:ow=true->(allOwn g.rs&&allOwnP g.ps)=true) {r:Nat} {p:Path} {t:Ty} {m:Md} {v1:t.den} {cs:List Value} {ad:Option (Nat×Nat)} {isP:Bool} {v:(tupT (g.ps.map (·.2))).den} {tvs:List Value} {out:(tupT (g.rs.map (·.1)++mutTys g.ps)).den} (hF:g.F v=some out)
  (b1:At σ r p t m [] v1) (b2:place σ a w r p=some ⟨t,[],cs,ad⟩) (b3:isP=true->∃ b o,ad=some (b,o))
  (b5 : ∀ (A0:Cells) (F0 Fp:FP),(∀ b i,A b i->A0 b i)->(ow=true->∀ b i j,j < σ.n->j≠r->1<=F j b i->A0 b i)->Rep P w A0 t m [] v1 cs Fp ->
      (isP=true->∀ b o,ad=some (b,o)->Has w b o cs/\(∀ j,j < t.sz->w.frozen? ⟨b,o+j,none⟩=false)/\∀ b' i,rng b o t.sz b' i+Fp b' i<=F0 b' i)->(isP=false->∀ b i,Fp b i<=F0 b i)->ArgsRel P w A0 (g.hol v) g.ps v tvs F0)
  {d:Option Tmp} {K:St->Option R} (q1:(match setK σ r p t m t.zero (fun _=>some ()) with | some _=>K ((σ.put r .dead).putD d (resSlot (splitR g.rs out).1)) | none=>none)=some x) (hmut:noMut g.ps=true->False) :
  Calls P f tvs.toArray w fun e w'=>∃ rv,e=.returned rv/\Nx P C K x (a.put d rv) w'/\(noMut g.ps=true->Ext w w' (fun _ _=>0)):=by
 cases hset:setK σ r p t m t.zero (fun _=>some ()) with
 | none=>rw[hset] at q1;cases q1
 | some u=>
 rw[hset] at q1;simp only at q1;obtain ⟨hr,m2,H2,v2,cs2,ad2,F2,s1,s2,s3,s4,s5,_⟩:=set_ok h hset;obtain ⟨_,e3,e4,e5⟩:=b1.inj s1;subst e3;subst e4;have e5:=gV e5;subst e5;rw[b2] at s2;simp only[aO,Pl.mk.injEq,dZ] at s2;obtain ⟨rfl,rfl⟩:=s2;obtain ⟨fp1,fp2⟩:=Rep.fp t s3
 obtain ⟨F0,hF0⟩:∃ F0:FP,∀ b i,F0 b i=pickN isP (rngO ad t.sz b i)+fpOf w t m [] cs b i:=⟨fun b i=>pickN isP (rngO ad t.sz b i)+fpOf w t m [] cs b i,fun _ _=>rfl⟩
 have hF0r:∀ b i,F0 b i<=rngO ad t.sz b i+fpOf w t m [] cs b i:=fun b i=>by
  rw[hF0];cases isP <;> simp[pickN]
 have hF0F:∀ b i,F0 b i<=F r b i:=fun b i=>by have:=hF0r b i;have:=fp2 b i;have:=s4 b i;omega
 have hsum:∀ b i,F r b i<=sumF σ.n F b i:=fun b i=>le_sumF F hr b i;have htot:∀ b i,sumF σ.n F b i<=1:=fun b i=>by have:=h.tot b i;omega
 have hA0:∀ b i,A b i->AX A F σ.n r ow b i:=fun b i h=>.inl h;have hbn:∀ b i,1<=F r b i->b < w.heap.size:=fun b i hp=>h.bnd b i (.inl (by have:=hsum b i;show 1<=0+_;omega))
 have hargs:=b5 (AX A F σ.n r ow) F0 (fpOf w t m [] cs) hA0 (fun how b i j hj hne hp=>.inr ⟨how,j,hj,hne,hp⟩)
  (Rep.mono hA0 (fun _ _ _ _ h=>h) (fun _ _ h=>h) t fp1 (fun _ _=>aK _) (fun _ _ _ _ h=>h))
  (fun hP b o e=>⟨(s5 b o e).1,(s5 b o e).2,fun b' i=>by rw[hF0,hP,e];exact aK _⟩) (fun hP b i=>by rw[hF0,hP];simp[pickN])
 refine (hs w _ F0 v _ hargs (fun b i=>by have:=hF0F b i;have:=hsum b i;have:=htot b i;omega) (fun b i hp ha=>?_) (fun b i hp=>?_) out hF).mono fun e w' hpost=>?_
 ·have h1:=hF0F b i;have h2:=hsum b i
  rcases ha with ha | ⟨_,j,hj,hne,hpj⟩
  ·exact h.dis b i (by show 1<=0+_;omega) ha
  ·have:=le_sumF2 F hj hr hne b i;have:=htot b i;omega
 ·rcases hp with hp | hp
  ·exact hbn b i (by have:=hF0F b i;omega)
  ·exact ax_bnd h hp
 ·obtain ⟨rv,rfl,hext,A',G,GR,GM,g1,g2,g3,g4,g5,g6,g7,g8,g9⟩:=hpost;refine ⟨rv,rfl,?_⟩
  obtain ⟨x1,x2⟩:=ext_news hext
  obtain ⟨A2f,A2,a1,a2,a3,a4,a6⟩:∃ A2f A2:Cells,(∀ b i,A b i->A2f b i)/\(∀ b i,A2f b i->A b i\/(w.heap.size<=b/\b < w'.heap.size/\G b i=0))/\(∀ b i,A2f b i->A2 b i)/\(∀ b i,A2 b i->A2f b i\/(1<=F0 b i/\G b i=0)) /\
    RetRel P w' A2 (splitR g.rs out).1 rv GR:=by
   cases ow with
   | true=>
    have ho:=how rfl;simp only[aC] at ho;exact ⟨A,A,fun _ _ h=>h,fun _ _ h=>.inl h,fun _ _ h=>h,fun _ _ h=>.inl h,RetRel.free (split_own g.rs out ho.1) g8⟩
   | false=>
    have hno:∀ b i,A' b i->G b i=0:=fun b i ha=>by
     rcases bA (G b i) with h0 | h0
     ·exact h0
     ·exact absurd ha (g5 b i h0)
    refine ⟨fun b i=>A b i\/(w.heap.size<=b/\A' b i),A',fun _ _ h=>.inl h,fun b i ha=>ha.imp id fun ⟨h1,h2⟩=>⟨h1,g6 b i (.inr h2),hno b i h2⟩,fun b i ha=>?_,fun b i ha=>?_,g8⟩
    ·rcases ha with ha | ⟨_,ha⟩
     ·exact g1 b i (.inl ha)
     ·exact ha
    ·rcases g2 b i ha with (ha' | ⟨e,_⟩) | h0 | hn
     ·exact .inl (.inl ha')
     ·cases e
     ·exact .inr ⟨h0,hno b i ha⟩
     ·exact .inl (.inr ⟨hn,ha⟩)
  have hszn:=news_size hext.size;have h1:=h.put hr (s:=.dead) (v:=tmp a r) (Fd:=fun _ _=>0) (X':=F r) trivial (fun b k=>by omega) (fun _ _ _ _ e=>by cases e);rw[put_same] at h1;have hgr:=h1.grow x1 (A1:=A2f) (X1:=fun b i=>if w.heap.size<=b then G b i else F r b i) a1 (fun b i ha=>?_) (fun b i=>?_);rotate_left
  ·rcases a2 b i ha with ha | ⟨h1,h2,h3⟩
   ·exact .inl ha
   ·exact .inr ⟨h1,by rw[hszn];exact h2,by rw[aV h1];exact h3⟩
  ·by_cases hb:w.heap.size<=b
   ·rw[aV hb];rcases bA (G b i) with h0 | h0
    ·left;omega
    ·exact .inr ⟨hb,by rw[hszn];exact g6 b i (.inl h0),g4 b i⟩
   ·rw[aY hb];left;omega
  have h3:=hgr.world x2 (fun b i hp=>by
   have h4:=hF0F b i;have h5:=hbn b i (by omega)
   rw[aY (by omega)];omega)
  have h4:=h3.giveUp (A1:=A2) (X1:=GR) a3 (fun b i ha=>by
   rcases a4 b i ha with ha | ⟨h5,h6⟩
   ·exact .inl ha
   ·have h7:=hF0F b i;have h8:=hbn b i (by omega)
    exact .inr ⟨by rw[aY (by omega)];omega,by have:=g7 b i;omega⟩) (fun b i=>by
   have h7:=g7 b i;by_cases hb:w.heap.size<=b
   ·rw[aV hb];omega
   ·rw[aY hb];rcases bA (GR b i) with h0 | h0
    ·omega
    ·have h8:=g4 b i;rcases g3 b i (by omega) with h9 | h9
     ·have:=hF0F b i;omega
     ·omega)
  have hret:=ret_ok (σ:=σ.put r .dead) (a:=a) a6;exact ⟨fin_val h4 q1 hret.1 (fun _ _=>aK _) hret.2,fun hm=>(hmut hm).elim⟩
theorem callGo_take (h:Rel0 P C A σ a w F) {f:FuncId} {g:Sig} (hs:Sound P f g) {ow:Bool} (how:ow=true->(allOwn g.rs&&allOwnP g.ps)=true) {r:Nat} {p:Path} {t:Ty} {m:Md} {H:List Path} {v1:t.den} {cs:List Value} {ad:Option (Nat×Nat)} {isP:Bool} {v:(tupT (g.ps.map (·.2))).den} {tvs:List Value} {out:(tupT (g.rs.map (·.1)++mutTys g.ps)).den} (hF:g.F v=some out)
  (b1:At σ r p t m H v1) (b2:place σ a w r p=some ⟨t,H,cs,ad⟩) (hP:isP=false)
  (b5 : ∀ (A0:Cells) (F0 Fp:FP),(∀ b i,A b i->A0 b i)->(ow=true->∀ b i j,j < σ.n->j≠r->1<=F j b i->A0 b i)->Rep P w A0 t m H v1 cs Fp ->
      (isP=true->∀ b o,ad=some (b,o)->Has w b o cs/\(∀ j,j < t.sz->w.frozen? ⟨b,o+j,none⟩=false)/\∀ b' i,rng b o t.sz b' i+Fp b' i<=F0 b' i)->(isP=false->∀ b i,Fp b i<=F0 b i)->ArgsRel P w A0 (g.hol v) g.ps v tvs F0)
  {d:Option Tmp} {K:St->Option R} (q1:takeK σ r p (fun σ=>K (σ.putD d (resSlot (splitR g.rs out).1)))=some x) (hmut:noMut g.ps=true->False) :
  Calls P f tvs.toArray w fun e w'=>∃ rv,e=.returned rv/\Nx P C K x (a.put d rv) w'/\(noMut g.ps=true->Ext w w' (fun _ _=>0)):=by
 have hr:r < σ.n:=place_lt b2;obtain ⟨A1,σ1,F1,cs1,ad1,F0,k1,k2,k3,k4,_,k5,k6,k7⟩:=take_okF h q1 b1;rw[b2] at k5;simp only[aO,Pl.mk.injEq,dZ] at k5;obtain ⟨rfl,rfl⟩:=k5;have hsum:∀ b i,F r b i<=sumF σ.n F b i:=fun b i=>le_sumF F hr b i;have htot:∀ b i,sumF σ.n F b i<=1:=fun b i=>by have:=h.tot b i;omega
 have k3t:∀ b i,F0 b i+sumF σ1.n F1 b i<=1:=fun b i=>by have h:=k3.tot b i;simpa using h
 have k3d:∀ b i,1<=F0 b i->¬ A1 b i:=fun b i hp=>k3.dis b i (by show 1<=0+F0 b i+_;omega);have k3b:∀ b i,1<=F0 b i\/A1 b i->b < w.heap.size:=fun b i hp=>k3.bnd b i (hp.imp (fun hp=>by show 1<=0+F0 b i+_;omega) id);have hA0:∀ b i,A1 b i->AX A1 F σ.n r ow b i:=fun b i h=>.inl h
 have hargs:=b5 (AX A1 F σ.n r ow) F0 F0 (fun b i h=>.inl (k2 b i h)) (fun how b i j hj hne hp=>.inr ⟨how,j,hj,hne,hp⟩)
  (Rep.mono (fun b i h=>.inl (k2 b i h)) (fun _ _ _ _ h=>h) (fun _ _ h=>h) t k6 (fun _ _=>aK _) (fun _ _ _ _ h=>h))
  (fun e=>by rw[hP] at e;cases e) (fun _ b i=>aK _)
 refine (hs w _ F0 v _ hargs (fun b i=>by have:=k3t b i;omega) (fun b i hp ha=>?_) (fun b i hp=>?_) out hF).mono fun e w' hpost=>?_
 ·rcases ha with ha | ⟨_,j,hj,hne,hpj⟩
  ·exact k3d b i hp ha
  ·have:=k7 b i;have:=le_sumF2 F hj hr hne b i;have:=htot b i;omega
 ·rcases hp with hp | hp | ⟨_,j,hj,hne,hpj⟩
  ·exact k3b b i (.inl hp)
  ·exact k3b b i (.inr hp)
  ·exact h.bnd b i (.inl (by have:=le_sumF F hj b i;show 1<=0+_;omega))
 ·obtain ⟨rv,rfl,hext,A',G,GR,GM,g1,g2,g3,g4,g5,g6,g7,g8,g9⟩:=hpost;refine ⟨rv,rfl,?_⟩
  obtain ⟨x1,x2⟩:=ext_news hext
  obtain ⟨A2f,A2,a1,a2,a3,a4,a6⟩:∃ A2f A2:Cells,(∀ b i,A1 b i->A2f b i)/\(∀ b i,A2f b i->A1 b i\/(w.heap.size<=b/\b < w'.heap.size/\G b i=0))/\(∀ b i,A2f b i->A2 b i)/\(∀ b i,A2 b i->A2f b i\/(1<=F0 b i/\G b i=0)) /\
    RetRel P w' A2 (splitR g.rs out).1 rv GR:=by
   cases ow with
   | true=>
    have ho:=how rfl;simp only[aC] at ho;exact ⟨A1,A1,fun _ _ h=>h,fun _ _ h=>.inl h,fun _ _ h=>h,fun _ _ h=>.inl h,RetRel.free (split_own g.rs out ho.1) g8⟩
   | false=>
    have hno:∀ b i,A' b i->G b i=0:=fun b i ha=>by
     rcases bA (G b i) with h0 | h0
     ·exact h0
     ·exact absurd ha (g5 b i h0)
    refine ⟨fun b i=>A1 b i\/(w.heap.size<=b/\A' b i),A',fun _ _ h=>.inl h,fun b i ha=>ha.imp id fun ⟨h1,h2⟩=>⟨h1,g6 b i (.inr h2),hno b i h2⟩,fun b i ha=>?_,fun b i ha=>?_,g8⟩
    ·rcases ha with ha | ⟨_,ha⟩
     ·exact g1 b i (.inl ha)
     ·exact ha
    ·rcases g2 b i ha with (ha' | ⟨e,_⟩) | h0 | hn
     ·exact .inl (.inl ha')
     ·cases e
     ·exact .inr ⟨h0,hno b i ha⟩
     ·exact .inl (.inr ⟨hn,ha⟩)
  have hszn:=news_size hext.size;have hgr:=k3.grow x1 (A1:=A2f) (X1:=fun b i=>if w.heap.size<=b then G b i else F0 b i) a1 (fun b i ha=>?_) (fun b i=>?_);rotate_left
  ·rcases a2 b i ha with ha | ⟨h1,h2,h3⟩
   ·exact .inl ha
   ·exact .inr ⟨h1,by rw[hszn];exact h2,by rw[aV h1];exact h3⟩
  ·by_cases hb:w.heap.size<=b
   ·rw[aV hb];rcases bA (G b i) with h0 | h0
    ·left;omega
    ·exact .inr ⟨hb,by rw[hszn];exact g6 b i (.inl h0),g4 b i⟩
   ·rw[aY hb];left;show _<=0+F0 b i;omega
  have h3:=hgr.world x2 (fun b i hp=>by
   have h5:=k3b b i (.inl hp)
   rw[aY (by omega)];exact hp)
  have h4:=h3.giveUp (A1:=A2) (X1:=GR) a3 (fun b i ha=>by
   rcases a4 b i ha with ha | ⟨h5,h6⟩
   ·exact .inl ha
   ·have h8:=k3b b i (.inl h5)
    exact .inr ⟨by rw[aY (by omega)];exact h5,by have:=g7 b i;omega⟩) (fun b i=>by
   have h7:=g7 b i;by_cases hb:w.heap.size<=b
   ·rw[aV hb];omega
   ·rw[aY hb];rcases bA (GR b i) with h0 | h0
    ·omega
    ·have h8:=g4 b i;rcases g3 b i (by omega) with h9 | h9
     ·omega
     ·omega)
  have hret:=ret_ok (σ:=σ1) (a:=a) a6;exact ⟨fin_val h4 k1 hret.1 (fun _ _=>aK _) hret.2,fun hm=>(hmut hm).elim⟩
theorem callGo_ok (h:Rel0 P C A σ a w F) {f:FuncId} {g:Sig} (hs:Sound P f g) {ow:Bool} (how:ow=true->(allOwn g.rs&&allOwnP g.ps)=true) {xs:List Operand} {ex:List Slot} {exv:List Value} (hok:xs.all (opdOk P)=true)
  (hex:∀ (A':Cells) (σ':St),(∀ b i,A b i->A' b i)->SlotsRel P A' σ' a w ex exv) {d:Option Tmp} {K:St->Option R} (hk:callGo g ow σ xs ex d K=some x) :
  Calls P f (xs.map a.eval++exv).toArray w fun e w'=>∃ rv,e=.returned rv/\Nx P C K x (a.put d rv) w'/\(noMut g.ps=true->Ext w w' (fun _ _=>0)):=by
 unfold callGo at hk;obtain ⟨A1,σ1,F1,k1,k2,k3,k4⟩:=trim_ok g.ps xs h hk;have hsl:=slots_opds k3 xs hok (hex A1 σ1 k2);obtain ⟨v,ws,q1,q2⟩:=args_ok k3 g.ps hsl k1;split at q1;rotate_left
 ·cases q1
 rename_i hc;simp only[aC,dL] at hc;obtain ⟨hlen,hap⟩:=hc
 match ws,hlen with
 | [],_=>
  have q1:((g.F v).bind fun out=>backK σ1 g.ps [] (splitR g.rs out).2 fun σ=>K (σ.putD d (resSlot (splitR g.rs out).1)))=some x:=by
   unfold holK at q1;split at q1
   ·rename_i e;cases e
   ·exact q1
  cases hF:g.F v with
  | none=>rw[hF] at q1;cases q1
  | some out=>
  rw[hF] at q1;simp only[aB] at q1;obtain ⟨n1,n2⟩:=argsOk_none (R:=R) (A0:=AX A1 F1 σ1.n σ1.n ow) (fun b i h=>.inl h) (r0:=σ1.n) (fun how b i j hj hne hp=>.inr ⟨how,j,hj,hne,hp⟩) g.ps q2 (fun r _ hlt=>by omega);rw[n2] at q1;refine (hs w _ (fun _ _=>0) v _ (n1 _) (fun _ _=>aW _) (fun b i hp=>by omega) (fun b i hp=>?_) out hF).mono fun e w' hpost=>?_
  ·rcases hp with hp | hp
   ·omega
   ·exact ax_bnd k3 hp
  ·obtain ⟨rv,rfl,hext,A',G,GR,GM,g1,g2,g3,g4,g5,g6,g7,g8,g9⟩:=hpost
   have hX:∀ b i,GR b i<=0\/(w.heap.size<=b/\b < w'.heap.size/\GR b i<=1):=fun b i=>by
    rcases bA (GR b i) with h0 | h0
    ·left;omega
    ·have h7:=g7 b i;right;refine ⟨?_,g6 b i (.inl (by omega)),by have:=g4 b i;omega⟩
     rcases g3 b i (by omega) with h1 | h1
     ·omega
     ·exact h1
   refine ⟨rv,rfl,?_⟩
   cases ow with
   | true=>
    have ho:=how rfl;simp only[aC] at ho;have hgr:=k3.grow hext (A1:=A1) (X1:=GR) (fun _ _ h=>h) (fun _ _ h=>.inl h) hX;have hret:=ret_ok (σ:=σ1) (a:=a) (RetRel.free (A':=A1) (split_own g.rs out ho.1) g8);exact ⟨fin_val hgr q1 hret.1 (fun _ _=>aK _) hret.2,fun _=>hext⟩
   | false=>
    have hgr:=k3.grow hext (A1:=A') (X1:=GR) (fun b i ha=>g1 b i (.inl ha)) (fun b i ha=>by
     rcases g2 b i ha with (ha' | ⟨e,_⟩) | h0 | hn
     ·exact .inl ha'
     ·cases e
     ·omega
     ·refine .inr ⟨hn,g6 b i (.inr ha),?_⟩;rcases bA (GR b i) with h0 | h0
      ·exact h0
      ·exact absurd ha (g5 b i (by have:=g7 b i;omega))) hX
    have hret:=ret_ok (σ:=σ1) (a:=a) g8;exact ⟨fin_val hgr q1 hret.1 (fun _ _=>aK _) hret.2,fun _=>hext⟩
 | [(r,p)],_=>
  simp only[apart,aC,dL,eC] at hap;obtain ⟨_,isE,isP,isV,t,m,H,v1,cs,ad,b0,b1,b2,b3,b4,b5,b8,b7,b6⟩:=argsOk_one g.ps q2 hap
  have q3:(isV=true->g.hol v H=true)/\((g.F v).bind fun out=>backK σ1 g.ps [(r,p)] (splitR g.rs out).2 fun σ=>K (σ.putD d (resSlot (splitR g.rs out).1)))=some x:=by
   cases hv:hasV g.ps with
   | false=>
    rw[hv] at q1;exact ⟨fun e=>(by have:=b0.2 e;rw[hv] at this;exact (Bool.false_ne_true this).elim),q1⟩
   | true=>
    rw[hv] at q1;simp only[holK] at q1;rw[b1.eq] at q1
    cases hh:g.hol v H with
    | true=>rw[hh] at q1;exact ⟨fun _=>rfl,q1⟩
    | false=>rw[hh] at q1;cases q1
  obtain ⟨q0,q1⟩:=q3;replace b5:=fun A0 F0 Fp a1 a2 a3 a4 a5=>b5 A0 F0 Fp a1 a2 a3 a4 a5 (g.hol v) q0
  cases hF:g.F v with
  | none=>rw[hF] at q1;cases q1
  | some out=>
  rw[hF] at q1;simp only[aB] at q1
  cases isV with
  | true=>
   obtain ⟨hE,hP,_⟩:=b8 rfl;subst hE;exact callGo_take k3 hs how hF b1 b2 (b8 rfl).2.1 b5 (((b8 rfl).2.2 σ1 (fun σ=>K (σ.putD d (resSlot (splitR g.rs out).1))) (splitR g.rs out).2).symm.trans q1) (fun hm=>argsOk_mut g.ps hm q2)
  | false=>
  obtain rfl:=b0.1 rfl
  cases isE with
  | true=>exact callGo_eat k3 hs how hF b1 b2 b3 b5 ((b7 rfl rfl σ1 (fun σ=>K (σ.putD d (resSlot (splitR g.rs out).1))) (splitR g.rs out).2).symm.trans q1) (fun hm=>argsOk_mut g.ps hm q2)
  | false=>
  obtain ⟨o1,e1,e2⟩:=b6 rfl (splitR g.rs out).2;rw[e1] at q1;have q1':=q1;obtain ⟨hr,m2,H2,v2,cs2,ad2,F2,s1,s2,s3,s4,s5,_⟩:=set_ok k3 q1;obtain ⟨_,e3,e4,e5⟩:=b1.inj s1;subst e3;subst e4;have e5:=gV e5;subst e5;rw[b2] at s2;simp only[aO,Pl.mk.injEq,dZ] at s2;obtain ⟨rfl,rfl⟩:=s2;obtain ⟨fp1,fp2⟩:=Rep.fp t s3
  obtain ⟨F0,hF0⟩:∃ F0:FP,∀ b i,F0 b i=pickN isP (rngO ad t.sz b i)+fpOf w t m [] cs b i:=⟨fun b i=>pickN isP (rngO ad t.sz b i)+fpOf w t m [] cs b i,fun _ _=>rfl⟩
  have hF0r:∀ b i,F0 b i<=rngO ad t.sz b i+fpOf w t m [] cs b i:=fun b i=>by
   rw[hF0];cases isP <;> simp[pickN]
  have hF0F:∀ b i,F0 b i<=F1 r b i:=fun b i=>by have:=hF0r b i;have:=fp2 b i;have:=s4 b i;omega
  have hsum:∀ b i,F1 r b i<=sumF σ1.n F1 b i:=fun b i=>le_sumF F1 hr b i;have htot:∀ b i,sumF σ1.n F1 b i<=1:=fun b i=>by have:=k3.tot b i;omega
  have hA0:∀ b i,A1 b i->AX A1 F1 σ1.n r ow b i:=fun b i h=>.inl h
  have hargs:=b5 (AX A1 F1 σ1.n r ow) F0 (fpOf w t m [] cs) hA0 (fun how b i j hj hne hp=>.inr ⟨how,j,hj,hne,hp⟩)
   (Rep.mono hA0 (fun _ _ _ _ h=>h) (fun _ _ h=>h) t fp1 (fun _ _=>aK _) (fun _ _ _ _ h=>h))
   (fun hP b o e=>⟨(s5 b o e).1,(s5 b o e).2,fun b' i=>by rw[hF0,hP,e];exact aK _⟩) (fun hP b i=>by rw[hF0,hP];simp[pickN])
  refine (hs w _ F0 v _ hargs (fun b i=>by have:=hF0F b i;have:=hsum b i;have:=htot b i;omega) (fun b i hp ha=>?_) (fun b i hp=>?_) out hF).mono fun e w' hpost=>?_
  ·have h1:=hF0F b i;have h2:=hsum b i
   rcases ha with ha | ⟨_,j,hj,hne,hpj⟩
   ·exact k3.dis b i (by show 1<=0+_;omega) ha
   ·have:=le_sumF2 F1 hj hr hne b i;have:=htot b i;omega
  ·rcases hp with hp | hp
   ·exact k3.bnd b i (.inl (by have:=hF0F b i;have:=hsum b i;show 1<=0+_;omega))
   ·exact ax_bnd k3 hp
  ·obtain ⟨rv,rfl,hext,A',G,GR,GM,g1,g2,g3,g4,g5,g6,g7,g8,g9⟩:=hpost;refine ⟨rv,rfl,?_⟩
   obtain ⟨cs3,F3,t1,t2,t3,t4⟩:=e2 w' A' GM g9;obtain ⟨x1,x2⟩:=ext_news hext
   obtain ⟨A2f,A2,a1,a2,a3,a4,a5,a6⟩:∃ A2f A2:Cells,(∀ b i,A1 b i->A2f b i)/\(∀ b i,A2f b i->A1 b i\/(w.heap.size<=b/\b < w'.heap.size/\G b i=0))/\(∀ b i,A2f b i->A2 b i)/\(∀ b i,A2 b i->A2f b i\/(1<=F0 b i/\G b i=0)) /\
     Rep P w' A2 t m [] o1 cs3 F3/\RetRel P w' A2 (splitR g.rs out).1 rv GR:=by
    cases ow with
    | true=>
     have ho:=how rfl;simp only[aC] at ho;exact ⟨A1,A1,fun _ _ h=>h,fun _ _ h=>.inl h,fun _ _ h=>h,fun _ _ h=>.inl h,Rep.free (b4 ho.2).1 (b4 ho.2).2 t1,RetRel.free (split_own g.rs out ho.1) g8⟩
    | false=>
     have hno:∀ b i,A' b i->G b i=0:=fun b i ha=>by
      rcases bA (G b i) with h0 | h0
      ·exact h0
      ·exact absurd ha (g5 b i h0)
     refine ⟨fun b i=>A1 b i\/(w.heap.size<=b/\A' b i),A',fun _ _ h=>.inl h,fun b i ha=>ha.imp id fun ⟨h1,h2⟩=>⟨h1,g6 b i (.inr h2),hno b i h2⟩,fun b i ha=>?_,fun b i ha=>?_,t1,g8⟩
     ·rcases ha with ha | ⟨_,ha⟩
      ·exact g1 b i (.inl ha)
      ·exact ha
     ·rcases g2 b i ha with (ha' | ⟨e,_⟩) | h0 | hn
      ·exact .inl (.inl ha')
      ·cases e
      ·exact .inr ⟨h0,hno b i ha⟩
      ·exact .inl (.inr ⟨hn,ha⟩)
   have hszn:=news_size hext.size;have hgr:=k3.grow x1 (A1:=A2f) (X1:=fun b i=>if w.heap.size<=b then G b i else 0) a1 (fun b i ha=>?_) (fun b i=>?_);rotate_left
   ·rcases a2 b i ha with ha | ⟨h1,h2,h3⟩
    ·exact .inl ha
    ·exact .inr ⟨h1,by rw[hszn];exact h2,by rw[aV h1];exact h3⟩
   ·by_cases hb:w.heap.size<=b
    ·rw[aV hb];rcases bA (G b i) with h0 | h0
     ·left;omega
     ·exact .inr ⟨hb,by rw[hszn];exact g6 b i (.inl h0),g4 b i⟩
    ·rw[aY hb];left;omega
   obtain ⟨_,m4,H4,v4,cs4,ad4,F4,u1,u2,u3,u4,u5,u6⟩:=set_ok hgr q1';obtain ⟨_,e3,e4,e5⟩:=b1.inj u1;subst e3;subst e4;have e5:=gV e5;subst e5;have hbn:∀ b i,1<=F1 r b i->b < w.heap.size:=fun b i hp=>k3.bnd b i (.inl (by have:=hsum b i;show 1<=0+_;omega));have hpl:=place_frame (σ':=σ1) (a':=a) (w2:=World.news w w') (k3.slots r hr) rfl rfl (fun b i ha u hu=>x1.cell b i (k3.bnd b i (.inr ha)) rfl u hu) (fun b i hp u hu=>x1.cell b i (hbn b i hp) rfl u hu) b2;rw[hpl] at u2;simp only[aO,Pl.mk.injEq,dZ] at u2;obtain ⟨rfl,rfl⟩:=u2;have hfr:fpOf (World.news w w') t m [] cs=fpOf w t m [] cs:=fpOf_frame t s3 (fun b i hp u hu=>x1.cell b i (hbn b i (by have:=s4 b i;omega)) rfl u hu);have hfp:∀ b i,fpOf w t m [] cs b i<=F4 b i:=fun b i=>by have:=(Rep.fp t u3).2 b i;rw[hfr] at this;exact this
   have hl3:=Rep.length _ t1;have hl:=Rep.length _ s3;have hcs:isP=false->cs3=cs:=fun hP=>mkV_inj hl3 (Rep.one _ t1) hl (Rep.one _ s3) (t4 hP)
   have hself:∀ b i,1<=rngO ad t.sz b i->F4 b i=0:=fun b i hp=>by
    have:=u4 b i;have:=hsum b i;have:=htot b i;omega
   have hkey:∀ b i,b < w.heap.size->1<=G b i->1<=rngO ad t.sz b i\/1<=F4 b i:=fun b i hb hp=>by
    rcases g3 b i hp with h1 | h1
    ·have:=hF0r b i;have:=hfp b i;omega
    ·omega
   have hsumG:∀ b i,GR b i+F3 b i<=(if w.heap.size<=b then G b i else 0)+F4 b i:=fun b i=>by
    have h7:=g7 b i;have h2:=t2 b i
    by_cases hb:w.heap.size<=b
    ·rw[aV hb];omega
    ·rw[aY hb];rcases bA (GR b i+F3 b i) with h0 | h0
     ·omega
     ·have h4:=g4 b i;rcases g3 b i (by omega) with h1 | h1
      ·rw[hF0] at h1
       cases hP:isP with
       | true=>
        obtain ⟨b',o',had⟩:=b3 hP;obtain ⟨_,h8⟩:=t3 hP b' o' had;have h9:=h8 b i;rw[hP,had] at h1;simp only[pickN,rngO] at h1;have:=hfp b i;omega
       | false=>
        rw[hP] at h1;simp only[pickN,bD] at h1;have:=hfp b i;omega
      ·omega
   obtain ⟨A3,σ3,Fr,n1,n2,n3,n4,n5⟩:=u6 w' A2 cs3 F3 GR (x2.mono fun b i hz=>by
     have hz:(if w.heap.size<=b then G b i else 0)+(F4 b i+rngO ad t.sz b i)=0:=hz
     have:=hF0r b i;have:=hfp b i;omega) a3 (fun b i ha=>by
     rcases a4 b i ha with ha | ⟨h1,h2⟩
     ·exact .inl ha
     ·refine .inr ⟨?_,by have:=g7 b i;have:=t2 b i;omega⟩;have hb:b < w.heap.size:=hbn b i (by have:=hF0F b i;omega);rw[aY (by omega)];rw[hF0] at h1
      cases hP:isP with
      | true=>
       obtain ⟨b',o',had⟩:=b3 hP;obtain ⟨_,h8⟩:=t3 hP b' o' had;have h9:=h8 b i;rw[hP,had] at h1;simp only[pickN,rngO] at h1;have:=hfp b i;have:=g7 b i
       omega
      | false=>
       rw[hP] at h1;simp only[pickN,bD] at h1;have:=hfp b i
       omega) hsumG (fun b o e=>by
     cases hP:isP with
     | true=>exact (t3 hP b o e).1
     | false=>
      rw[hcs hP];intro j u hu;have hj:=(aJ.1 hu).1;have h9:rngO ad t.sz b (o+j)=1:=by rw[e];simp only[rngO,rng];rw[aV ⟨trivial,by omega,by omega⟩]
      have h8:=hself b (o+j) (by omega);refine x2.cell b (o+j) ?_ ?_ u ((u5 b o e).1 j u hu)
      ·rw[hszn];exact cL (hbn b (o+j) (by have:=u4 b (o+j);omega)) hext.size
      ·rw[hF0,hP];have:=hfp b (o+j)
       simp only[pickN,bD];omega) (fun e=>by
     cases hP:isP with
     | true=>obtain ⟨b',o',had⟩:=b3 hP;rw[e] at had;cases had
     | false=>exact hcs hP) a5
   have hret:=ret_ok (σ:=σ3) (a:=a) (RetRel.mono n2 a6)
   cases hP:isP with
   | true=>
    subst hP;exact ⟨fin_val n3 n1 hret.1 (fun _ _=>aK _) hret.2,fun hm=>(argsOk_mut g.ps hm q2).elim⟩
   | false=>
    subst hP;have hc:=hcs rfl;subst hc
    have h5:=n5 (bumpAt (nidx p+1)) (below_bumpAt _ (k3.vlen r)) (len_bumpAt _ (k3.vlen r)) rfl (fun p' snap hb hok hlen=>by
     have:=ok_bumpAt (nidx p+1) (k3.vlen r) hb hok
     exact ⟨1,False,by omega,fun _=>.inl (by omega),fun _=>by omega,stab_head ad a5⟩)
    have hret':=ret_ok (σ:={ σ3 with vr:=(σ1.setVer r (bumpAt (nidx p+1))).vr,lent:=σ1.lent }) (a:=a) (RetRel.mono n2 a6);exact ⟨fin_val h5 n1 hret'.1 (fun _ _=>aK _) hret'.2,fun hm=>(argsOk_mut g.ps hm q2).elim⟩
 | _::_::_,hl=>simp at hl
theorem callK_ok (h:Rel0 P C A σ a w F) {f:FuncId} {g:Sig} (hs:Sound P f g) {xs:List Operand} {ex:List Slot} {exv:List Value} (hok:xs.all (opdOk P)=true)
  (hex:∀ (A':Cells) (σ':St),(∀ b i,A b i->A' b i)->SlotsRel P A' σ' a w ex exv) {d:Option Tmp} {K:St->Option R} (hk:callK g σ xs ex d K=some x) :
  Calls P f (xs.map a.eval++exv).toArray w fun e w'=>∃ rv,e=.returned rv/\Nx P C K x (a.put d rv) w'/\(noMut g.ps=true->Ext w w' (fun _ _=>0)):=by
 unfold callK at hk;split at hk
 ·rename_i ho;exact callGo_ok h hs (fun _=>ho) hok hex hk
 ·obtain ⟨A1,σ1,F1,k1,k2,k3,k4⟩:=frz_ok g.ps xs h hk;exact callGo_ok k3 hs (fun e=>by cases e) hok (fun A' σ' hA=>hex A' σ' fun b i ha=>hA b i (k2 b i ha)) k1
theorem enter_run {f:FuncId} {cap:Bool} (he:EnterOk P f cap) (args:Array Value):(callFunc f args).run P w=.ok (.enter f args) w:=by
 obtain ⟨fn,h1,h2,h3,_⟩:=he
 have h2':fn.name ≠ "runtime.NumGoroutine" := by simpa using h2
 have h3':fn.body≠none:=by intro e;rw[e] at h3;cases h3
 simp[callFunc,h1,h2',h3']
theorem step_call_f (h:Rel0 P C A σ a w F) {f:FuncId} {args:Array Operand} {ts:Array TypeId} (ho:o.op=.call { callee:=.value (.func f),args:=args,argTypes:=ts }) (hok:args.toList.all (opdOk P)=true) {g:Sig} (hs:Sound P f g) (he:EnterOk P f false)
  {K:St->Option R} (hk:callK g σ args.toList [] o.dst K=some x):o.wp P a w (fun a' w'=>Nx P C K x a' w'/\(noMut g.ps=true->Ext w w' (fun _ _=>0))) Q:=by
 have hrun:(execOp a.eval o).run P w=.ok (.enter f (args.map a.eval)) w:=by
  have e:a.eval (.func f)=.func (.func f) #[] #[]:=rfl;simp[execOp,ho,resolve,Deferred.ofValue,e,invoke,enter_run he]
 unfold Oper.wp;rw[hrun,Oper.upon_enter];have hc:=callK_ok h hs (ex:=[]) (exv:=[]) hok (fun _ _ _=>trivial) hk;have:(args.toList.map a.eval++[]).toArray=args.map a.eval:=by apply eP;simp
 rw[this] at hc;exact hc.mono fun e w' ⟨rv,he,hn⟩=>by subst he;exact hn
theorem step_call_t (h:Rel0 P C A σ a w F) {i:Tmp} {args:Array Operand} {ts:Array TypeId} (ho:o.op=.call { callee:=.value (.tmp i),args:=args,argTypes:=ts }) (hok:args.toList.all (opdOk P)=true) {f:FuncId} {n:Int} (hsl:slotFn (σ.get i)=some (f,n)) {g:Sig} (hs:Sound P f g) (he:EnterOk P f g.cap)
  {K:St->Option R} (hk:callK g σ args.toList (match g.cap with | true=>[.cp (.int .i64) n] | false=>[]) o.dst K=some x):o.wp P a w (fun a' w'=>Nx P C K x a' w'/\(noMut g.ps=true->Ext w w' (fun _ _=>0))) Q:=by
 have hi:i < σ.n:=by
  rcases cB i σ.n with hi | hi
  ·exact hi
  ·rw[get_out (dG.2 hi)] at hsl;cases hsl
 have hsi:=h.slots i hi;unfold slotFn at hsl;split at hsl;rotate_left
 ·cases hsl
 rename_i v hg;injection hsl with hv;subst hv;rw[hg] at hsi;obtain ⟨cs,h1,caps,rfl,fn,h3,h4⟩:=hsi;have e:a.eval (.tmp i)=.func (.func f) #[] caps:=h1
 have hrun:(execOp a.eval o).run P w=.ok (.enter f (args.map a.eval++caps)) w:=by
  simp[execOp,ho,resolve,Deferred.ofValue,e,invoke,enter_run he]
 unfold Oper.wp;rw[hrun,Oper.upon_enter];obtain ⟨fn',f1,f2,f3,f4⟩:=he;rw[h3] at f1;injection f1 with f1;subst f1
 have hex:∃ exv:List Value,(args.toList.map a.eval++exv).toArray=args.map a.eval++caps/\∀ (A':Cells) (σ':St),(∀ b i,A b i->A' b i)->SlotsRel P A' σ' a w (match g.cap with | true=>[.cp (.int .i64) n] | false=>[]) exv:=by
  rcases h4 with ⟨h4,rfl⟩ | ⟨h4,ad,rfl,h5,h6,h7⟩
  ·have:g.cap=false:=by cases hg:g.cap with | false=>rfl | true=>rw[hg,h4] at f4;cases f4
   rw[this];exact ⟨[],by apply eP;simp,fun _ _ _=>trivial⟩
  ·have:g.cap=true:=by cases hg:g.cap with | true=>rfl | false=>rw[hg,h4] at f4;cases f4
   rw[this];refine ⟨[.pointer (some ad)],by apply eP;simp,fun A' σ' hA=>⟨.inl ⟨ad,rfl,h5,[.int .i64 n],rfl,(fun j u hu=>?_),rfl⟩,trivial⟩⟩
   cases j with
   | zero=>injection hu with hu;subst hu;exact ⟨h6,hA _ _ h7⟩
   | succ j=>cases hu
 obtain ⟨exv,hexv,hex⟩:=hex;have hc:=callK_ok h hs hok hex hk;rw[hexv] at hc;exact hc.mono fun e w' ⟨rv,he,hn⟩=>by subst he;exact hn
end
end OT
namespace OT
open Go
section
variable {P:Program} {w:World} {A:Cells}
def simpleV:Value->Bool
 | .int _ _ | .bool _ | .string _=>true
 | _=>false
theorem Ro.simple:∀ (t:Ty) {v:t.den} {cs:List Value},t.eqOk=true->Ro P w A t v cs->∀ x ∈ cs,simpleV x=true:=by
 intro t
 induction t with
 | int k=>intro v cs _ h x hx;simp only[Ro] at h;subst h;simp at hx;subst hx;rfl
 | bool=>intro v cs _ h x hx;simp only[Ro] at h;subst h;simp at hx;subst hx;rfl
 | str=>intro v cs _ h x hx;simp only[Ro] at h;subst h;simp at hx;subst hx;rfl
 | unit=>intro v cs _ h x hx;simp only[Ro] at h;subst h;cases hx
 | pair a b iha ihb=>
  intro v cs he h x hx;simp only[Ty.eqOk,aC] at he;rw[<-cO a.sz cs] at hx;rcases cM.1 hx with hx | hx
  ·exact iha he.1 h.1 x hx
  ·exact ihb he.2 h.2 x hx
 | arr n e ih=>
  intro v cs he h x hx;obtain ⟨_,hv,hl,hr⟩:=h;obtain ⟨j,hj,rfl⟩:=dH.1 hx
  have hs:0 < e.sz:=by
   rcases bA e.sz with h0 | h0
   ·rw[h0,Nat.mul_zero] at hl;omega
   ·exact h0
  have hi:j / e.sz < n:=by
   rw[gF hs];omega
  have h1:=hr (j / e.sz) _ (aA (by omega));refine ih he h1 _ (iB.2 ⟨j % e.sz,?_⟩);have hm:=iD j hs;have hd:=gC j e.sz;rw[eM hm,bH,fN,hd,aA hj]
 | _=>intro v cs he;simp[Ty.eqOk] at he
theorem bits_simple {x:Value} (h:simpleV x=true) (n:Nat):Instr.sameBits n x x=true:=by
 cases x <;> simp[simpleV] at h <;> cases n <;> simp[Instr.sameBits,MapKept.bytes_beq]
theorem bits_self {t:Ty} {v:t.den} {cs:List Value} (ha:isAgg t=true) (he:t.eqOk=true) (h:Ro P w A t v cs):Instr.sameBits 10000 (mkV t cs) (mkV t cs)=true:=by
 have hs:=Ro.simple t he h;simp only[mkV,ha,aH,Instr.sameBits,fT,fF,cC];rintro ⟨x,y⟩ hxy;have hz:(x,y) ∈ cs.zip cs:=by simpa using hxy
 have hxe:x=y/\x ∈ cs:=by
  clear h hs hxy
  induction cs with
  | nil=>simp at hz
  | cons c cs ih=>
   simp only[iX,aS,bO] at hz;rcases hz with ⟨rfl,rfl⟩ | hz
   ·exact ⟨rfl,by simp⟩
   ·have:=ih hz;exact ⟨this.1,by simp[this.2]⟩
 rw[<-hxe.1];exact bits_simple (hs x hxe.2) _
theorem check_ok:∀ (t:Ty),(∀ (i:TypeId) (d:Nat) (e:Bool) (v:t.den) (cs:List Value),layB P t (.inl i)=true->eqB P t (.inl i)=true->dep t<=d->Ro P w A t v cs->(Instr.checkKey e d i (mkV t cs)).run P w=.ok () w) /\
  (∀ (fs:List Field) (off d:Nat) (e:Bool) (v:t.den) (xs:Array Value),layB P t (.inr (fs,off))=true->eqB P t (.inr fs)=true->dep t<=d+1->Ro P w A t v (xs.toList.drop off) ->
   (forIn fs PUnit.unit fun f _=>(if f.name ≠ "_" then do
     let x <- part f.type xs f.offset
     Instr.checkKey e d f.type x
     pure (ForInStep.yield PUnit.unit)
    else pure (ForInStep.yield PUnit.unit):Sem (ForInStep PUnit))).run P w=.ok () w):=by
 intro t
 induction t with
 | int k=>
  refine ⟨fun i d e v cs hl he hd h=>?_,fun fs off d e v xs hl=>by simp[layB] at hl⟩
  simp only[Ro] at h;subst h
  cases d with
  | zero=>simp[dep] at hd
  | succ d=>rw[mkV_one _ _ rfl];simp[Instr.checkKey,run_underlying (lay_int hl)]
 | bool=>
  refine ⟨fun i d e v cs hl he hd h=>?_,fun fs off d e v xs hl=>by simp[layB] at hl⟩
  simp only[Ro] at h;subst h
  have hu:P.underlying i=some .bool:=by
   simp only[layB,aC] at hl;have h2:=hl.2;split at h2
   ·assumption
   ·cases h2
  cases d with
  | zero=>simp[dep] at hd
  | succ d=>rw[mkV_one _ _ rfl];simp[Instr.checkKey,run_underlying hu]
 | str=>
  refine ⟨fun i d e v cs hl he hd h=>?_,fun fs off d e v xs hl=>by simp[layB] at hl⟩
  simp only[Ro] at h;subst h
  cases d with
  | zero=>simp[dep] at hd
  | succ d=>rw[mkV_one _ _ rfl];simp[Instr.checkKey,run_underlying (lay_str hl)]
 | unit=>
  refine ⟨fun i d e v cs hl he hd h=>?_,fun fs off d e v xs hl he hd h=>?_⟩
  ·simp only[Ro] at h;subst h;simp only[layB,aC] at hl;have h3:=hl.2;split at h3
   ·rename_i fs hu;have hnil:fs.toList=[]:=bJ.1 h3
    cases d with
    | zero=>simp[dep] at hd
    | succ d=>
     show (Instr.checkKey e (d+1) i (.agg #[])).run P w=_;rw[Instr.checkKey];simp only[Sem.run_bind,run_underlying hu,Result.andThen_ok];rw[<-Array.forIn_toList,hnil];simp
   ·cases h3
  ·simp only[layB,bJ] at hl;subst hl;simp
 | pair a b iha ihb=>
  have second:∀ (fs:List Field) (off d:Nat) (e:Bool) (v:(Ty.pair a b).den) (xs:Array Value),layB P (.pair a b) (.inr (fs,off))=true->eqB P (.pair a b) (.inr fs)=true->dep (.pair a b)<=d+1->Ro P w A (.pair a b) v (xs.toList.drop off) ->
    (forIn fs PUnit.unit fun f _=>(if f.name ≠ "_" then do
      let x <- part f.type xs f.offset
      Instr.checkKey e d f.type x
      pure (ForInStep.yield PUnit.unit)
     else pure (ForInStep.yield PUnit.unit):Sem (ForInStep PUnit))).run P w=.ok () w:=by
   intro fs off d e v xs hl he hd h1
   cases fs with
   | nil=>simp[layB] at hl
   | cons f r=>
    simp only[layB,aC,dX,dL] at hl;simp only[eqB,aC,bne_iff_ne,ne_eq] at he;simp only[dep] at hd;obtain ⟨h1a,h1b⟩:=h1;have p1:=run_part (P:=P) (w:=w) hl.1.2 (cs:=xs) (off:=off) (Ro.length _ h1a);have e1:=iha.1 f.type d e v.1 _ hl.1.2 he.1.2 (by omega) h1a;rw[dB] at h1b;have e2:=ihb.2 r (off+a.sz) d e v.2 xs hl.2 he.2 (by omega) h1b;simp only[List.forIn_cons,Sem.run_bind,ne_eq,he.1.1,eK,aH,hl.1.1.1,p1,e1,Result.andThen_ok,Sem.run_pure];exact e2
  refine ⟨fun i d e v cs hl he hd h=>?_,second⟩
  simp only[layB,aC] at hl;simp only[eqB,aC,cN] at he;have h3:=hl.2;have h4:=he.2;split at h3
  ·rename_i fs hu;rw[hu] at h4;simp only at h4;split at h3
   ·rename_i f r hfs;rw[hfs] at h4;simp only at h4
    cases d with
    | zero =>have:1<=dep (.pair a b):=by simp only[dep];omega
             omega
    | succ d=>
     show (Instr.checkKey e (d+1) i (.agg cs.toArray)).run P w=_;rw[Instr.checkKey];simp only[Sem.run_bind,run_underlying hu,Result.andThen_ok];rw[<-Array.forIn_toList,hfs];have:=second (f::r) 0 d e v cs.toArray (by simp only[layB,bD];exact h3) (by simp only[eqB];exact h4) hd (by simpa using h);rw[this];rfl
   ·cases h3
  ·cases h3
 | arr n e ih=>
  refine ⟨fun i d em v cs hl he hd h=>?_,fun fs off d em v xs hl=>by simp[layB] at hl⟩
  simp only[layB,aC] at hl;have h3:=hl.2;simp only[eqB] at he;split at h3
  ·rename_i n' el hu;simp only[aC,dX,dL] at h3;obtain ⟨⟨rfl,_⟩,hle⟩:=h3;rw[hu] at he;simp only at he;obtain ⟨inf,i1,i2,_⟩:=infoOk_some (layB_info hle);have hsz:P.cellsOf el=e.sz:=by simp[Program.cellsOf,i1,i2]
   obtain ⟨_,l1,_,r1⟩:=h
   cases d with
   | zero=>simp[dep] at hd
   | succ d=>
    simp only[dep] at hd;show (Instr.checkKey em (d+1) i (.agg cs.toArray)).run P w=_;rw[Instr.checkKey];simp only[Sem.run_bind,run_underlying hu,Result.andThen_ok,Std.Legacy.Range.forIn_eq_forIn_range',Std.Legacy.Range.size,Nat.sub_zero,Nat.add_one_sub_one,Nat.div_one]
    have key:∀ (m j:Nat),j+m=n->(forIn (List.range' j m) PUnit.unit fun i _=>(do
       let x <- part el cs.toArray (i*(<- Go.sizeOf el))
       Instr.checkKey em d el x
       pure (ForInStep.yield PUnit.unit):Sem (ForInStep PUnit))).run P w=.ok () w:=by
     intro m
     induction m with
     | zero=>intro j hj;rfl
     | succ m ihm=>
      intro j hj;have a1:=r1 j _ (aA (l:=v) (i:=j) (by omega));have p1:=run_part (P:=P) (w:=w) hle (cs:=cs.toArray) (off:=j*e.sz) (Ro.length _ a1);have e1:=ih.1 el d em _ _ hle he (by omega) a1;rw[List.range'_succ];simp only[List.forIn_cons,Sem.run_bind,run_sizeOf hle,p1,e1,Result.andThen_ok,Sem.run_pure];exact ihm (j+1) (by omega)
    have:=key n 0 (by omega);rw[this];rfl
  ·cases h3
 | _=>exact ⟨fun i d e v cs hl he=>by simp[eqB] at he,fun fs off d e v xs hl he=>by simp[eqB] at he⟩
def EntOk (P:Program) (w:World) (A:Cells) (k v:Ty) (es:List (Value×Value)) (m:List (k.den×v.den)):Prop:=
 es.length=m.length/\∀ (i:Nat) (y:k.den×v.den),m[i]?=some y->∃ (kc vc:List Value),es[i]?=some (mkV k kc,mkV v vc)/\Ro P w A k y.1 kc/\Ro P w A v y.2 vc
structure KeyOk (P:Program) (k:Ty) (i:TypeId):Prop where
 lay:layB P k (.inl i)=true
 agg:isAgg k=true
 eqOk:k.eqOk=true
 flat:k.flat=true
 eqB:eqB P k (.inl i)=true
 dep:dep k<=9000
theorem lay_map {k v:Ty} {i:TypeId} (h:layB P (.map k v) (.inl i)=true):∃ ki vi,P.underlying i=some (.map ki vi)/\KeyOk P k ki/\layB P v (.inl vi)=true/\zvB P v vi=true:=by
 simp only[layB,aC] at h;have h2:=h.2;split at h2
 ·rename_i ki vi hu;simp only[aC,keyB,dL] at h2;obtain ⟨⟨⟨h3,h4⟩,⟨⟨⟨⟨h5,h6⟩,h7⟩,h8⟩,h9⟩⟩,h10⟩:=h2;exact ⟨ki,vi,hu,⟨h3,h5,h6,h7,h8,h9⟩,h4,h10⟩
 ·cases h2
theorem find_asks {k v:Ty} {ki:TypeId} (K:KeyOk P k ki) {x:k.den} {xc:List Value} (hx:Ro P w A k x xc):∀ (es:List MapEntry) (m:List (k.den×v.den)) (i:Nat),EntOk P w A k v (es.map fun e=>(e.key,e.val)) m ->
  (Instr.findAsking ki (mkV k xc) es i).run P w=.ok ((m.findIdx? fun y=>k.eq x y.1).bind fun j=>(es[j]?).map fun e=>(i+j,e.val)) w:=by
 intro es
 induction es with
 | nil=>
  intro m i h;have:m=[]:=bE (by have:=h.1;simpa using this.symm);subst this;simp[Instr.findAsking]
 | cons e es ih=>
  intro m i h
  cases m with
  | nil=>have:=h.1;simp at this
  | cons y m=>
   obtain ⟨kc,vc,h1,h2,h3⟩:=h.2 0 y rfl;simp only[cS,eB,aO,bO] at h1;have heq:(Op.equal ki (mkV k xc) (mkV k kc)).run P w=.ok (k.eq x y.1) w:=(eq_ok (P:=P) (w:=w) (A:=A) k).1 ki Op.maxDepth x y.1 xc kc K.lay K.eqB (by have:=K.dep;simp only[Op.maxDepth];omega) hx h2
   have hrest:EntOk P w A k v (es.map fun e=>(e.key,e.val)) m:=⟨by have:=h.1;simpa using this,fun j z hz=>by
    have:=h.2 (j+1) z (by simpa using hz)
    simpa using this⟩
   simp only[Instr.findAsking,Sem.run_bind,h1.1,heq,Result.andThen_ok,List.findIdx?_cons]
   cases hq:k.eq x y.1 with
   | true=>simp
   | false=>
    simp only[aD,aM,ih m (i+1) hrest,Option.bind_map];congr 2;funext j;simp[cG,iV 1 j]
theorem agg_under {k:Ty} {ki:TypeId} (K:KeyOk P k ki):∃ d,P.underlying ki=some d/\∀ x y,Instr.sameNow d x y=none:=by
 have hl:=K.lay;have ha:=K.agg;have he:=K.eqOk
 cases k with
 | pair a b=>
  simp only[layB,aC] at hl;have h3:=hl.2;split at h3
  ·rename_i fs hu;exact ⟨_,hu,fun _ _=>rfl⟩
  ·cases h3
 | unit=>
  simp only[layB,aC] at hl;have h3:=hl.2;split at h3
  ·rename_i fs hu;exact ⟨_,hu,fun _ _=>rfl⟩
  ·cases h3
 | arr n e=>
  simp only[layB,aC] at hl;have h3:=hl.2;split at h3
  ·rename_i n' el hu;exact ⟨_,hu,fun _ _=>rfl⟩
  ·cases h3
 | _=>simp[isAgg] at ha
theorem find_ok {k v:Ty} {ki:TypeId} (K:KeyOk P k ki) {x:k.den} {xc:List Value} (hx:Ro P w A k x xc) {es:List MapEntry} {m:List (k.den×v.den)} (h:EntOk P w A k v (es.map fun e=>(e.key,e.val)) m) :
  (Instr.findKey ki (mkV k xc) es).run P w=.ok ((m.findIdx? fun y=>k.eq x y.1).bind fun j=>(es[j]?).map fun e=>(j,e.val)) w:=by
 obtain ⟨d,hu,hd⟩:=agg_under K;have ha:=find_asks (v:=v) K hx es m 0 h;simp only[bD] at ha;unfold Instr.findKey;simp only[Sem.run_bind,run_underlying hu,Result.andThen_ok]
 cases es with
 | nil=>
  have:m=[]:=bE (by have:=h.1;simpa using this.symm);subst this;simp[Instr.findNow]
 | cons e es=>
  simp only[Instr.findNow,hd];exact ha
theorem map_block {k v:Ty} {m:Md} {y:List (k.den×v.den)} {cs:List Value} {F:FP} (h:Rep P w A (.map k v) m [] y cs F) :
  k.flat=true/\v.flat=true/\∃ (r:Nat) (es:Array MapEntry) (clock:Nat),cs=[.map (some r)]/\w.heap[r]?=some (.map es clock)/\EntOk P w A k v (es.toList.map fun e=>(e.key,e.val)) y/\(m.own=true->1<=F r 0):=by
 simp only[Rep,hole,bQ,aD,aM] at h;split at h
 ·rename_i hm;obtain ⟨h1,h2,r,kvs,h3,h4,h5,h6,h7⟩:=h;obtain ⟨es,clock,q1,q2⟩:=ce_map h4;refine ⟨h1,h2,r,es,clock,h3,q1,?_,fun _=>h5⟩
  have q2:(es.toList.map fun e=>(e.key,e.val))=kvs:=q2;rw[q2];exact ⟨h6,h7⟩
 ·rename_i hm;obtain ⟨_,_,h1,h2,r,kvs,h3,h4,h5,h6,h7⟩:=h;obtain ⟨es,clock,q1,q2⟩:=ce_map h4;refine ⟨h1,h2,r,es,clock,h3,q1,?_,fun e=>absurd e hm⟩
  have q2:(es.toList.map fun e=>(e.key,e.val))=kvs:=q2;rw[q2];exact ⟨h6,h7⟩
theorem mapGet_eq {α:Type} {k:Ty} (m:List (k.den×α)) (x:k.den):mapGet k m x=(m.findIdx? fun e=>k.eq x e.1).bind fun j=>(m[j]?).map (·.2):=by
 unfold mapGet
 induction m with
 | nil=>rfl
 | cons y m ih=>
  simp only[List.find?_cons,List.findIdx?_cons]
  cases hq:k.eq x y.1 with
  | true=>simp
  | false=>
   simp only[aD,aM];rw[ih];cases m.findIdx? (fun e=>k.eq x e.1) <;> simp
theorem zero_mkV {v:Ty} {i:TypeId} (hz:zvB P v i=true) (hv:layB P v (.inl i)=true) {z:Value} {L:List Value} (h1:(zeroValue i).run P w=.ok z w) (h2:z.cells.toList=L) (hl:L.length=v.sz):z=mkV v L:=by
 obtain ⟨inf,i1,i2,i3,i4⟩:=infoOk_some (layB_info hv);unfold zvB at hz;rw[i1] at hz;simp only at hz
 cases hzz:inf.zero with
 | none=>rw[hzz] at hz;cases hz
 | some z0=>
  have:z=z0:=by
   simp[zeroValue,typeInfo,i1,hzz] at h1;exact h1.symm
  subst this;rw[hzz] at hz;unfold mkV
  cases ha:isAgg v with
  | true=>
   rw[ha] at hz;cases z <;> simp at hz;simp only[Value.cells] at h2;subst h2;simp
  | false=>
   rw[ha] at hz;have hs:=isAgg_sz ha;simp only[aD,aM]
   cases z <;> simp at hz <;> (simp only[Value.cells] at h2;subst h2;rfl)
theorem eqOk_inj:∀ (t:Ty),t.eqOk=true->∀ {v1 v2:t.den} {cs1 cs2:List Value},Ro P w A t v1 cs1->Ro P w A t v2 cs2->t.eq v1 v2=true->cs2=cs1:=by
 intro t
 induction t with
 | int k=>
  intro _ v1 v2 cs1 cs2 h1 h2 he;simp only[Ro] at h1 h2;subst h1;subst h2;have:v1=v2:=by cases k <;> simpa [Ty.eq] using he
  rw[this]
 | bool=>
  intro _ v1 v2 cs1 cs2 h1 h2 he;simp only[Ro] at h1 h2;subst h1;subst h2;have:v1=v2:=by simpa [Ty.eq] using he
  rw[this]
 | str=>
  intro _ v1 v2 cs1 cs2 h1 h2 he;simp only[Ro] at h1 h2;subst h1;subst h2;have:v1=v2:=by simpa [Ty.eq] using he
  rw[this]
 | unit=>
  intro _ v1 v2 cs1 cs2 h1 h2 he;simp only[Ro] at h1 h2;rw[h1,h2]
 | pair a b iha ihb=>
  intro hq v1 v2 cs1 cs2 h1 h2 he;simp only[Ty.eqOk,aC] at hq;simp only[Ty.eq,aC] at he;have e1:=iha hq.1 h1.1 h2.1 he.1;have e2:=ihb hq.2 h1.2 h2.2 he.2;rw[<-cO a.sz cs2,e1,e2,cO]
 | arr n e ih=>
  intro hq v1 v2 cs1 cs2 h1 h2 he;obtain ⟨_,l1,c1,r1⟩:=h1;obtain ⟨_,l2,c2,r2⟩:=h2;refine List.ext_getElem (by omega) fun j hj2 hj1=>?_
  have hs:0 < e.sz:=by
   rcases bA e.sz with h0 | h0
   ·rw[h0,Nat.mul_zero] at c1;omega
   ·exact h0
  have hi:j / e.sz < n:=by
   rw[gF hs];omega
  have a1:=r1 (j / e.sz) _ (aA (by omega));have a2:=r2 (j / e.sz) _ (aA (by omega))
  have he':e.eq (v1[j / e.sz]'(by omega)) (v2[j / e.sz]'(by omega))=true:=by
   simp only[Ty.eq,cC] at he;exact he (_,_) (iB.2 ⟨j / e.sz,by rw[List.getElem?_zip_eq_some];exact ⟨aA (by omega),aA (by omega)⟩⟩)
  have h3:=ih hq a1 a2 he';have hm:=iD j hs;have hd:=gC j e.sz;have h4:=dF (·[j % e.sz]?) h3;simp only[eM hm,bH] at h4;rw[fN,hd,aA hj1,aA hj2] at h4;exact Option.some.inj h4
 | _=>intro hq;simp[Ty.eqOk] at hq
theorem run_lookup {k v:Ty} {t:TypeId} (hl:layB P (.map k v) (.inl t)=true) (hz:v.zok=true) {x:k.den} {xc:List Value} (hx:Ro P w A k x xc) {r:Nat} {es:Array MapEntry} {clock:Nat} (hb:w.heap[r]?=some (.map es clock)) {y:List (k.den×v.den)}
  (he:EntOk P w A k v (es.toList.map fun e=>(e.key,e.val)) y) (ok:Bool) :
  ∃ vc,Ro P w A v (orZ (mapGet k y x) v.zero) vc/\(Instr.lookup t (.map (some r)) (mkV k xc) ok).run P w=.ok (if ok then .tuple #[mkV v vc,.bool (mapGet k y x).isSome] else mkV v vc) w:=by
 obtain ⟨ki,vi,hu,K,hv,hzv0⟩:=lay_map hl;have hc:=(check_ok (P:=P) (w:=w) (A:=A) k).1 ki 10000 es.isEmpty x xc K.lay K.eqB (by have:=K.dep;omega) hx;have hf:=find_ok (v:=v) K hx he;obtain ⟨L,hL⟩:=zok_some v hz;obtain ⟨z,hz1,hz2⟩:=run_zeroValue (P:=P) (w:=w) hv hL;obtain ⟨r1,r2,r3⟩:=zc_ok (P:=P) (w:=w) (A:=A) v hL hv;rw[mapGet_eq]
 cases hfi:y.findIdx? (fun e=>k.eq x e.1) with
 | none=>
  rw[hfi] at hf;simp only[Option.bind_none] at hf ⊢;refine ⟨L,r2,?_⟩
  have hzv:z=mkV v L:=zero_mkV hzv0 hv hz1 hz2 r3;cases ok <;> simp[Instr.lookup,run_underlying hu,MapKept.run_getObj_map hb,hc,hf,hz1,hzv]
 | some j=>
  rw[hfi] at hf;have hj:j < y.length:=(gS.1 hfi).1;obtain ⟨kc,vc,g1,g2,g3⟩:=he.2 j y[j] (aA hj);rw[dY] at g1
  cases hej:es.toList[j]? with
  | none=>rw[hej] at g1;cases g1
  | some e=>
   rw[hej] at g1;simp only[cA,aO,bO] at g1;simp only[hej,aB,cA,aA hj] at hf ⊢;refine ⟨vc,g3,?_⟩
   cases ok <;> simp[Instr.lookup,run_underlying hu,MapKept.run_getObj_map hb,hc,hf,g1.2]
end
section
variable {P:Program} {C:Ctx} {A:Cells} {X:FP} {σ:St} {a:Act} {w:World} {F:Nat->FP} {R:Type} {x:R} {Q:Exit->Act->World->Prop} {o:Oper} {E:Env}
theorem new_makeMap (h:Rel0 P C A σ a w F) (hti:∀ i T,E.TI i=some T->layB P T (.inl i)=true) {t:Nat} (ho:o.op=.makeMap t none) {K:St->Option R}
  (hk:(tiK E t fun t=>match t with
  | .map k v=>if k.flat&&v.flat then K (σ.putD o.dst (.own (.map k v) (ownMd (.map k v)) [] [])) else none
  | _=>none)=some x):o.wp P a w (fun a' w'=>Nx P C K x a' w'/\Ext w w' (fun _ _=>0)) Q:=by
 obtain ⟨T,hT,hk⟩:=tiK_some hk;split at hk
 ·rename_i k v;split at hk
  ·rename_i hc;simp only[aC] at hc
   have hrun:(execOp a.eval o).run P w=.ok (.value (.map (some w.heap.size))) (w.alloc (.map #[] 0)):=by
    simp[execOp,ho,run_makeMap_plain]
   have hext:=ext_alloc w (.map #[] 0)
   have h1:Rel P C A (fun b i=>0+rng w.heap.size 0 1 b i) σ a (w.alloc (.map #[] 0)) F:=by
    refine h.grow hext (fun _ _ h=>h) (fun _ _ h=>.inl h) (fun b i=>?_);by_cases hb:b=w.heap.size
    ·subst hb;right;exact ⟨aK _,by simp,by simp only[rng];split <;> omega⟩
    ·left;simp[rng,hb]
   have hnew:(w.alloc (.map #[] 0)).heap[w.heap.size]?=some (.map #[] 0):=heap_alloc_new w _;refine wp_val hrun ⟨fin_val h1 hk (Fd:=rng w.heap.size 0 1) ⟨_,(mkV_one (.map k v) _ rfl).symm,?_⟩ (fun b i=>by simp) (fun _ _ _ _ e=>by cases e),hext⟩;simp only[Rep,hole,bQ,aD,aM,ownMd,mdOf,Md.own,aH];refine ⟨hc.1,hc.2,w.heap.size,[],rfl,?_,by simp[rng],rfl,fun i y hy=>by cases hy⟩
   exact map_ce hnew
  ·cases hk
 ·cases hk
theorem step_lookup (h:Rel0 P C A σ a w F) (hti:∀ i T,E.TI i=some T->layB P T (.inl i)=true) {t:Nat} {y z:Operand} {ok:Bool} (ho:o.op=.lookup t y z ok) (hok:opdOk P y=true/\opdOk P z=true) {K:St->Option R}
  (hk:lookupK E σ t (opd σ y) (opd σ z) ok o.dst K=some x):o.wp P a w (fun a' w'=>Nx P C K x a' w'/\Ext w w' (fun _ _=>0)) Q:=by
 unfold lookupK at hk;obtain ⟨T,hT,hk⟩:=tiK_some hk;have hlay:=hti _ _ hT;split at hk
 ·rename_i k v;split at hk
  ·rename_i hz
   rcases opd_ok h hok.1 with hs | ⟨xs,e⟩
   rotate_left
   ·rw[e] at hk;cases hk
   rcases opd_ok h hok.2 with hs2 | ⟨xs,e2⟩
   rotate_left
   ·exfalso;rw[e2] at hk;split at hk
    ·split at hk
     ·obtain ⟨_,_,_,_,_,_,_,_,h1,_⟩:=at_ok h hk;split at h1
      ·obtain ⟨_,h1⟩:=castK_some h1;cases h1
      ·cases h1
     ·cases hk
    ·cases hk
   split at hk
   ·rename_i r p snap hv;rw[hv] at hs;split at hk
    ·rename_i hsn;obtain ⟨hr,t',m',H',v',cs',ad',F',h1,hat,h3,h4,h5,h6⟩:=at_ok h hk;split at h1
     ·rename_i hH;have hH:=bJ.1 hH;subst hH;obtain ⟨e1,h1⟩:=castK_some h1;subst e1;obtain ⟨pl,g1,g2,g3⟩:=hs.2 hsn;rw[h3] at g1;injection g1 with g1;subst g1;obtain ⟨f1,f2,b,es,clock,q1,q2,q3,q4⟩:=map_block h4;simp only at g2;subst q1;rw[mkV_one (.map k v) _ rfl] at g2;split at h1
      ·rename_i t2 ix hix;rw[hix] at hs2;obtain ⟨e2,h1⟩:=castK_some h1;subst e2;obtain ⟨kc,hk1,hk2⟩:=hs2;obtain ⟨vc,r1,r2⟩:=run_lookup (P:=P) hlay hz hk2 q2 q3 ok
       have hrun:(execOp a.eval o).run P w=.ok (.value (if ok then .tuple #[mkV v vc,.bool (mapGet t2 v' ix).isSome] else mkV v vc)) w:=by
        simp[execOp,ho,g2,hk1,r2]
       cases ok with
       | true=>
        simp only at h1;refine wp_val hrun ⟨fin_flat h h1 ⟨#[mkV v vc,.bool (mapGet t2 v' ix).isSome],fun _ _ _=>0,rfl,fun b i=>by rw[sumF_zero];exact aK _,fun j y hy=>?_⟩ (fun _ _ _ _ e=>by cases e),Ext.refl _ _⟩
        match j with
        | 0=>simp at hy;subst hy;exact ⟨_,rfl,.inr ⟨vc,rfl,Ro.rep v _ (roMd_noOwn v) r1⟩⟩
        | 1=>simp at hy;subst hy;exact ⟨_,rfl,.inr ⟨[.bool _],rfl,rfl⟩⟩
        | n+2=>simp at hy
       | false=>
        simp only at h1;exact wp_val hrun ⟨fin_flat h h1 ⟨vc,rfl,r1⟩ (fun _ _ _ _ e=>by cases e),Ext.refl _ _⟩
      ·cases h1
     ·cases h1
    ·cases hk
   ·cases hk
  ·cases hk
 ·cases hk
theorem ext_setMap {r:Nat} {es es':Array MapEntry} {clock clock':Nat} (hb:w.heap[r]?=some (.map es clock)):Ext w { w with heap:=w.heap.setIfInBounds r (.map es' clock') } (rng r 0 1):=by
 have hother:∀ b,b≠r->(w.heap.setIfInBounds r (.map es' clock'))[b]?=w.heap[b]?:=fun b hne=>by rw[iA (fun e=>hne e.symm)]
 refine ⟨by simp,fun b i hbs hz u hu=>?_,fun b n hn=>?_,fun b i hbs=>?_,rfl,rfl,rfl,fun b hbs hz=>?_,aK _⟩
 ·by_cases hbr:b=r
  ·subst hbr;by_cases hi:i=0
   ·subst hi;simp[rng] at hz
   ·simp[ce,hb,hi] at hu
  ·rw[ce_block (hother b hbr)];exact hu
 ·obtain ⟨c,e,fr,h1,h2,h3⟩:=hn;have hbr:b≠r:=fun e=>by subst e;rw[hb] at h1;cases h1
  exact ⟨c,e,fr,by rw[<-h1];exact hother b hbr,h2,h3⟩
 ·by_cases hbr:b=r
  ·subst hbr;have hlt:=(bN.1 hb).1;have he:=(bN.1 hb).2;simp[World.frozen?,hlt,he]
  ·have:=hother b hbr;simp only[World.frozen?] at *;rw[this]
 ·have hbr:b≠r:=fun e=>by subst e;have:=hz 0;simp[rng] at this
  exact hother b hbr
theorem run_update {k v:Ty} {t:TypeId} (hl:layB P (.map k v) (.inl t)=true) {x:k.den} {xc:List Value} (hx:Ro P w A k x xc) {z:v.den} {zc':List Value} (hzr:Ro P w A v z zc') {r:Nat} {es:Array MapEntry} {clock:Nat} (hb:w.heap[r]?=some (.map es clock)) {y:List (k.den×v.den)}
  (he:EntOk P w A k v (es.toList.map fun e=>(e.key,e.val)) y) :
  ∃ (es':Array MapEntry) (clock':Nat),(Instr.mapUpdate t (.map (some r)) (mkV k xc) (mkV v zc')).run P w=.ok () { w with heap:=w.heap.setIfInBounds r (.map es' clock') }/\EntOk P w A k v (es'.toList.map fun e=>(e.key,e.val)) (mapPut k y x z):=by
 obtain ⟨ki,vi,hu,K,hv,_⟩:=lay_map hl;have hc:=(check_ok (P:=P) (w:=w) (A:=A) k).1 ki 10000 false x xc K.lay K.eqB (by have:=K.dep;omega) hx;have hf:=find_ok (v:=v) K hx he;unfold mapPut
 cases hfi:y.findIdx? (fun e=>k.eq x e.1) with
 | none=>
  rw[hfi] at hf;simp only[Option.bind_none] at hf ⊢;refine ⟨es.push { key:=mkV k xc,val:=mkV v zc',born:=clock },clock+1,?_,?_,fun i q hq=>?_⟩
  ·simp[Instr.mapUpdate,run_underlying hu,MapKept.run_getObj_map hb,hc,hf,MapKept.run_setObj_map _ hb,Result.andThen]
  ·have:=he.1;simp at this ⊢;omega
  ·have hlen:(es.toList.map fun e=>(e.key,e.val)).length=y.length:=he.1;rw[Array.toList_push,iK];by_cases hi:i < y.length
   ·rw[bX hi] at hq;rw[bX (by rw[hlen];exact hi)];exact he.2 i q hq
   ·have hi':i=y.length:=by
     have:=(aJ.1 hq).1;simp at this;omega
    subst hi';rw[bR (aK _),Nat.sub_self] at hq;rw[bR (by rw[hlen];exact aK _),hlen,Nat.sub_self];simp at hq;subst hq;exact ⟨xc,zc',rfl,hx,hzr⟩
 | some j=>
  rw[hfi] at hf;have hfj:=gS.1 hfi;have hj:j < y.length:=hfj.1;obtain ⟨kc,vc,g1,g2,g3⟩:=he.2 j y[j] (aA hj);rw[dY] at g1;have hlen:es.size=y.length:=by have:=he.1;simpa using this
  have hes:es.toList[j]?=some es[j]:=by simp[hlen,hj]
  rw[hes] at g1;simp only[cA,aO,bO] at g1;simp only[aB] at hf ⊢;rw[hes] at hf;simp only[cA] at hf
  have hkeq:k.eq x (y[j]).1=true:=by
   have h1:=hfj.2;have h2:y.findIdx (fun e=>k.eq x e.1) < y.length:=by rw[h1];exact hj
   have:=List.findIdx_getElem (xs:=y) (p:=fun e=>k.eq x e.1) (w:=h2);simp only[h1] at this;exact this
  have hbits:mkV k kc=mkV k xc:=by
   have:=eqOk_inj k K.eqOk hx g2 hkeq;rw[this]
  have hkeep:(Instr.keyThatStays (mkV k xc) (mkV k xc)).run P w=.ok (mkV k xc) w:=by
   simp[Instr.keyThatStays,bits_self K.agg K.eqOk hx]
  have hget:(es[j]?).map (·.key)=some (mkV k xc):=by
   have:es[j]?=some es[j]:=by rw[cK (by omega)]
   rw[this,cA,g1.1,hbits]
  refine ⟨es.modify j fun e=>{ e with key:=mkV k xc,val:=mkV v zc' },clock,?_,?_,fun i q hq=>?_⟩
  ·simp[Instr.mapUpdate,run_underlying hu,MapKept.run_getObj_map hb,hc,hf,hget,hkeep,MapKept.run_setObj_map _ hb,Result.andThen]
  ·simp[hlen]
  ·rw[fB] at hq;rw[dY,cZ,dM];by_cases hij:j=i
   ·subst hij;rw[aV rfl,aV hj] at hq;injection hq with hq;subst hq;rw[aV rfl,cK (by omega)];exact ⟨xc,zc',rfl,hx,hzr⟩
   ·rw[aY hij] at hq ⊢;have:=he.2 i q hq;rw[dY,cZ] at this;exact this
theorem step_mapUpdate (h:Rel0 P C A σ a w F) (hti:∀ i T,E.TI i=some T->layB P T (.inl i)=true) {t:Nat} {y z u:Operand} (ho:o.op=.mapUpdate t y z u) (hd:o.dst=none) (hok:opdOk P y=true/\opdOk P z=true/\opdOk P u=true) {K:St->Option R}
  (hk:mapUpdK E σ t (opd σ y) (opd σ z) (opd σ u) K=some x):o.wp P a w (Nx P C K x) Q:=by
 unfold mapUpdK at hk;obtain ⟨T,hT,hk⟩:=tiK_some hk;have hlay:=hti _ _ hT;split at hk
 ·rename_i k v
  rcases opd_ok h hok.1 with hs | ⟨xs,e⟩
  rotate_left
  ·rw[e] at hk;cases hk
  split at hk
  ·rename_i r p snap hv;rw[hv] at hs;split at hk
   ·rename_i hsn;obtain ⟨hr,t',m',H',v',cs',ad',F',h1,hat,h3,h4,h5,h6⟩:=at_ok h hk;split at h1
    ·rename_i hH;simp only[aC,bJ] at hH;obtain ⟨hown,hH⟩:=hH;subst hH;obtain ⟨e1,h1⟩:=castK_some h1;subst e1;obtain ⟨pl,g1,g2,g3⟩:=hs.2 hsn;rw[h3] at g1;injection g1 with g1;subst g1;split at h1
     ·rename_i t2 ix t3 uv hix huv
      have hs2:SlotRel P A σ a w (a.eval z) (.val t2 ix) (fun _ _=>0):=by
       rcases opd_ok h hok.2.1 with hs2 | ⟨xs,e2⟩
       ·rw[hix] at hs2;exact hs2
       ·rw[hix] at e2;cases e2
      have hs3:SlotRel P A σ a w (a.eval u) (.val t3 uv) (fun _ _=>0):=by
       rcases opd_ok h hok.2.2 with hs2 | ⟨xs,e2⟩
       ·rw[huv] at hs2;exact hs2
       ·rw[huv] at e2;cases e2
      obtain ⟨e2,h1⟩:=castK_some h1;subst e2;obtain ⟨e3,h1⟩:=castK_some h1;subst e3;obtain ⟨kc,hk1,hk2⟩:=hs2;obtain ⟨uc,hu1,hu2⟩:=hs3;obtain ⟨hr,m2,H2,v2,cs2,ad2,F2,q1,q2,q3,q4,q5,q6⟩:=set_ok h h1;obtain ⟨_,e2,e3,e4⟩:=At.inj ⟨hat⟩ q1;subst e2;subst e3;have e4:=gV e4;subst e4;rw[h3] at q2;injection q2 with q2;injection q2 with q21 q22 q23 q24;subst q23;subst q24;have hrep:=q3;obtain ⟨f1,f2,b,es,clock,b1,b2,b3,b4⟩:=map_block q3;have b4:=b4 hown;simp only at g2;subst b1;rw[mkV_one (.map t2 t3) _ rfl] at g2;obtain ⟨es',clock',r1,r2⟩:=run_update (P:=P) hlay hk2 hu2 b2 b3;generalize hw2:({ w with heap:=w.heap.setIfInBounds b (.map es' clock') }:World)=w2 at r1;have hext:Ext w w2 (rng b 0 1):=by rw[<-hw2];exact ext_setMap b2
      have hFr:∀ b i,F r b i<=1:=fun b i=>by have:=h.tot b i;have:=le_sumF F hr b i;omega
      have hrun:(execOp a.eval o).run P w=.ok .skip w2:=by
       simp[execOp,ho,g2,hk1,hu1,r1]
      refine wp_skip' hrun hd ?_
      have hA:∀ b' i,A b' i->∀ u,ce w b' i=some u->ce w2 b' i=some u:=fun b' i ha u hu=>by
       refine hext.cell b' i (h.bnd b' i (.inr ha)) ?_ u hu;rcases bA (rng b 0 1 b' i) with h0 | h0
       ·exact h0
       ·have:b'=b/\i=0:=by
         simp only[rng] at h0;split at h0
         ·omega
         ·omega
        obtain ⟨rfl,rfl⟩:=this;exact absurd ha (h.dis b' 0 (by have:=q4 b' 0;have:=le_sumF F hr b' 0;omega))
      have hnew:ce w2 b 0=some (mapV (entriesOf es')):=by
       rw[<-hw2];exact map_ce (clock:=clock') (by simp[(bN.1 b2).1])
      have hrep2:Rep P w2 A (.map t2 t3) m' [] (mapPut t2 v' ix uv) [.map (some b)] F2:=by
       simp only[Rep,hole,bQ,aD,aM,hown,aH];refine ⟨f1,f2,b,entriesOf es',rfl,hnew,b4,r2.1,fun i q hq=>?_⟩
       obtain ⟨kc',vc',j1,j2,j3⟩:=r2.2 i q hq;exact ⟨kc',vc',j1,Ro.mono hA (fun _ _ h=>h) t2 j2,Ro.mono hA (fun _ _ h=>h) t3 j3⟩
      have hF2:∀ b' i,rng b 0 1 b' i<=F2 b' i:=fun b' i=>by
       simp only[rng];split
       ·rename_i hc;obtain ⟨rfl,hc1,hc2⟩:=hc;have:i=0:=by omega
        subst this;exact b4
       ·exact aW _
      have hhas:∀ b' o',ad'=some (b',o')->Has w2 b' o' [.map (some b)]:=fun b' o' ea j u hu=>by
       have hh1:=(q5 b' o' ea).1 j u hu;have hj:=(aJ.1 hu).1;have hj0:j=0:=by simpa using hj
       subst hj0;have h2:=q4 b' (o'+0);have h4:=hF2 b' (o'+0);have h5:=hFr b' (o'+0);have h7:=le_sumF F hr b' (o'+0)
       have h6:rngO ad' (Ty.map t2 t3).sz b' (o'+0)=1:=by
        subst ea;simp[rngO,rng,Ty.sz]
       exact hext.cell _ _ (h.bnd b' (o'+0) (.inl (by show 1<=0+_;omega))) (by omega) u hh1
      obtain ⟨A3,σ3,Fr,n1,n2,n3,n4,n5⟩:=q6 w2 A [.map (some b)] F2 (fun _ _=>0) (hext.mono fun b' i hz=>by
        have hz:0+(F2 b' i+rngO ad' (Ty.map t2 t3).sz b' i)=0:=hz
        have h2:=hF2 b' i;omega) (fun _ _ h=>h) (fun _ _ h=>.inl h) (fun b i=>by omega) hhas (fun _=>rfl) hrep2
      refine ⟨_,n1,A3,_,n5 bumpW (below_bumpW (h.vlen r)) (len_bumpW (h.vlen r)) rfl fun p' snap hb hok hlen=>?_⟩
      have h5:=ok_bumpW (h.vlen r) hb hok;refine ⟨nidx p'+1,False,by omega,fun _=>.inl (by omega),fun _=>by omega,?_⟩
      intro q pl hq hp
      cases q with
      | nil=>
       simp only[plc,aO] at hp;subst hp;exact ⟨_,_,rfl,fun _=>rfl⟩
      | cons s q=>cases s <;> simp[plc] at hp
     ·cases h1
    ·cases h1
   ·cases hk
  ·cases hk
 ·cases hk
theorem step_mapLen (h:Rel0 P C A σ a w F) (hti:∀ i T,E.TI i=some T->layB P T (.inl i)=true) {t:Nat} {y:Operand} (ho:o.op=.call { callee:=.builtin .len,args:=#[y],argTypes:=#[t] }) (hok:opdOk P y=true) {K:St->Option R}
  (hk:mapLenK E σ t (opd σ y) (fun n=>K (σ.putD o.dst (.val (.int .i64) (n:Int))))=some x):o.wp P a w (Nx P C K x) Q:=by
 unfold mapLenK at hk;obtain ⟨T,hT,hk⟩:=tiK_some hk;have hlay:=hti _ _ hT;split at hk
 ·rename_i k v
  rcases opd_ok h hok with hs | ⟨xs,e⟩
  rotate_left
  ·rw[e] at hk;cases hk
  split at hk
  ·rename_i r p snap hv;rw[hv] at hs;split at hk
   ·rename_i hsn;obtain ⟨hr,t',m',H',v',cs',ad',F',h1,hat,h3,h4,h5,h6⟩:=at_ok h hk;split at h1
    ·rename_i hH;have hH:=bJ.1 hH;subst hH;obtain ⟨e1,h1⟩:=castK_some h1;subst e1;obtain ⟨pl,g1,g2,g3⟩:=hs.2 hsn;rw[h3] at g1;injection g1 with g1;subst g1;obtain ⟨f1,f2,b,es,clock,q1,q2,q3,q4⟩:=map_block h4;simp only at g2;subst q1;rw[mkV_one (.map k v) _ rfl] at g2;obtain ⟨ki,vi,hu,_,_,_⟩:=lay_map hlay;have hlen:es.size=List.length v':=by have:=q3.1;simpa using this
     have hrun:(execOp a.eval o).run P w=.ok (.value (.int .i64 ((List.length v':Nat):Int))) w:=by
      rw[run_len_call ho];simp[Builtin.len_,g2,run_underlying hu,MapKept.run_getObj_map q2,goInt,hlen]
     exact wp_val hrun (fin_flat h h1 ⟨[.int .i64 _],rfl,rfl⟩ (fun _ _ _ _ e=>by cases e))
    ·cases h1
   ·cases hk
  ·cases hk
 ·cases hk
end
end OT
namespace OT
open Go
structure EnvOk (P:Program) (E:Env):Prop where
 ti:∀ i T,E.TI i=some T->layB P T (.inl i)=true
 eq:eqTab P E
 fn:∀ f g,E.G f=some g->Sound P f g/\EnterOk P f g.cap
def kindB (P:Program) (t:TypeId):Bool:=match P.underlying t with
 | some (.slice _)=>true
 | some .string=>true
 | _=>false
theorem kindB_some {P:Program} {t:TypeId} (h:kindB P t=true):(∃ e',P.underlying t=some (.slice e'))\/P.underlying t=some .string:=by
 unfold kindB at h;split at h
 ·rename_i e he;exact .inl ⟨e,he⟩
 ·rename_i he;exact .inr he
 ·cases h
def callOk (P:Program) (c:Call):Bool:=match c.callee with
 | .builtin .append | .builtin .copy=>match c.argTypes.toList with
  | [_,tx]=>kindB P tx
  | _=>false
 | _=>true
def opOk (P:Program):Op->Bool
 | .move x | .assign x | .nilCheck x | .box _ x | .load _ x | .unOp _ _ x | .convert _ _ x | .fieldAddr _ x _ | .field _ x _=>opdOk P x
 | .pick c a b=>opdOk P c&&opdOk P a&&opdOk P b
 | .mapUpdate _ m k v=>opdOk P m&&opdOk P k&&opdOk P v
 | .lookup _ a x _ | .store _ a x | .binOp _ _ a x _ | .indexAddr _ a x | .index _ a x | .makeSlice _ a x=>opdOk P a&&opdOk P x
 | .build _ ps | .buildSlice _ _ ps=>ps.toList.all fun p=>opdOk P p.2
 | .slice _ x lo hi _=>opdOk P x&&lo.all (opdOk P)&&hi.all (opdOk P)
 | .makeFunc (.func f) _ cs=>(P.funcs[f]?).any fun fn=>fn.nfree == cs.size
 | .call c=>c.args.toList.all (opdOk P)&&callOk P c
 | _=>true
section
variable {P:Program} {C:Ctx} {A:Cells} {X:FP} {σ:St} {a:Act} {w:World} {F:Nat->FP} {R:Type} {x:R} {Q:Exit->Act->World->Prop} {o:Oper} {E:Env}
theorem arr_of {α:Type} {l:Array α} {m:List α} (h:l.toList=m):l=m.toArray:=by apply eP;simpa using h
def tkOp (E:Env):Op->Bool
 | .move _ | .assign _ | .pick .. | .build .. | .load .. | .nilCheck _ | .binOp .. | .unOp .. | .fieldAddr .. | .field .. | .indexAddr .. | .index .. | .slice .. | .extract .. | .makeFunc ..=>true
 | .convert _ t _=>match E.TI t with
  | some T=>T.flat
  | none=>false
 | .call c=>match c.callee with
  | .builtin .len=>match c.argTypes.toList with
   | [t]=>!isMapT (E.TI t)
   | _=>false
  | _=>false
 | _=>false
theorem tk_ok (hE:EnvOk P E) (h:Rel0 P C A σ a w F) {rid i:Nat} (hst:opOk P o.op=true) (htk:tkOp E o.op=true) {K:St->Option R} (hk:stepK E rid i o σ K=some x):Tk P o a w (Nx P C K x):=by
 unfold stepK at hk
 cases ho:o.op with
 | move y=>rw[ho] at hk hst;exact take_move h ho hst hk
 | assign y=>rw[ho] at hk hst;exact take_assign h ho hst hk
 | pick c y z=>
  rw[ho] at hk hst;simp only[opOk,aC] at hst;exact take_pick h ho ⟨hst.1.1,hst.1.2,hst.2⟩ hk
 | build t ps=>rw[ho] at hk hst;exact take_build h hE.ti ho hst hk
 | load t y=>rw[ho] at hk hst;exact take_load h hE.ti ho hst hk
 | nilCheck y=>rw[ho] at hk hst;exact take_nilCheck h ho hst hk
 | binOp op t y z t2=>
  rw[ho] at hk hst;simp only[opOk,aC] at hst;exact take_binOp h hE.ti hE.eq ho hst hk
 | unOp op t y=>
  rw[ho] at hk hst;refine take_unOp h ho hst (K:=K) ?_;clear hst htk
  revert hk
  simp only;generalize opd σ y=s
  cases op <;> cases s <;> first
   | exact id
   | (rename_i t v;cases t <;> exact id)
 | convert s t y=>
  rw[ho] at hk hst htk;refine take_convert h hE.ti ho hst (fun T hT=>?_) hk;simp only[tkOp,hT] at htk;exact htk
 | fieldAddr t y j=>rw[ho] at hk hst;exact take_fieldAddr h hE.ti ho hst hk
 | field t y j=>rw[ho] at hk hst;exact take_field h hE.ti ho hst hk
 | indexAddr t y z=>
  rw[ho] at hk hst;simp only[opOk,aC] at hst;exact take_indexAddr h hE.ti ho hst hk
 | index t y z=>
  rw[ho] at hk hst;simp only[opOk,aC] at hst;exact take_index h hE.ti ho hst hk
 | slice t y lo hi mx=>
  rw[ho] at hk hst
  cases mx with
  | none=>
   simp only[opOk,aC] at hst;refine take_slice h hE.ti ho ⟨hst.1.1,fun z hz=>?_,fun z hz=>?_⟩ hk
   ·have:=hst.1.2;rw[hz] at this;exact this
   ·have:=hst.2;rw[hz] at this;exact this
  | some m=>cases hk
 | extract y j=>
  rw[ho] at hk
  cases y with
  | tmp i=>exact take_extract h ho hk
  | _=>cases hk
 | makeFunc fn first cs=>
  rw[ho] at hk hst
  cases fn with
  | func f=>exact take_makeFunc h ho hst hk
  | _=>cases hk
 | call c=>
  rw[ho] at hk hst htk;simp only[opOk,aC] at hst;obtain ⟨hargs,hc⟩:=hst;obtain ⟨callee,args,ts⟩:=c
  cases callee with
  | builtin b=>
   cases b with
   | len=>
    simp only at hk;split at hk
    ·rename_i y t h1 h2;have e1:=arr_of h1;have e2:=arr_of h2
     subst e1;subst e2;simp only[eL,aC] at hargs;simp only[tkOp,cN] at htk;rw[htk] at hk;exact take_len h hE.ti ho hargs.1 hk
    ·cases hk
   | _=>simp[tkOp] at htk
  | _=>simp[tkOp] at htk
 | _=>rw[ho] at htk;simp[tkOp] at htk
def quiet (E:Env):Op->Bool
 | .alloc _ | .box .. | .buildSlice .. | .makeSlice .. | .convert .. | .makeMap .. | .lookup ..=>true
 | .call c=>match c.callee with
  | .value (.func f)=>match E.G f with
   | some g=>noMut g.ps
   | none=>false
  | _=>false
 | _=>false
theorem not_tk (hE:EnvOk P E) (h:Rel0 P C A σ a w F) {rid i:Nat} (hst:opOk P o.op=true) (htk:tkOp E o.op=false) {K:St->Option R} (hk:stepK E rid i o σ K=some x) :
  o.wp P a w (fun a' w'=>Nx P C K x a' w'/\(quiet E o.op=true->Ext w w' (fun _ _=>0))) Q:=by
 have wq:∀ {N:Act->World->Prop},o.wp P a w (fun a' w'=>N a' w'/\Ext w w' (fun _ _=>0)) Q->o.wp P a w (fun a' w'=>N a' w'/\(quiet E o.op=true->Ext w w' (fun _ _=>0))) Q:=fun h=>Oper.wp_mono (fun a' w' h=>⟨h.1,fun _=>h.2⟩) h;have wn:∀ {N:Act->World->Prop},quiet E o.op=false->o.wp P a w N Q->o.wp P a w (fun a' w'=>N a' w'/\(quiet E o.op=true->Ext w w' (fun _ _=>0))) Q:=fun hq h=>Oper.wp_mono (fun a' w' h=>⟨h,fun e=>by rw[hq] at e;cases e⟩) h;unfold stepK at hk
 cases ho:o.op with
 | alloc t=>rw[ho] at hk;rw[<-ho];exact wq (new_alloc h hE.ti ho hk)
 | box t y=>rw[ho] at hk hst;rw[<-ho];exact wq (new_box h ho hst hk)
 | buildSlice t n ps=>rw[ho] at hk hst;rw[<-ho];exact wq (new_buildSlice h hE.ti ho hst hk)
 | store t y z=>
  rw[ho] at hk hst;simp only[opOk,aC] at hst;rw[<-ho];refine wn (by rw[ho];rfl) ?_
  cases hd:o.dst with
  | none=>rw[hd] at hk;exact step_store h hE.ti ho hd hst hk
  | some d=>rw[hd] at hk;cases hk
 | convert s t y=>rw[ho] at hk hst;rw[<-ho];exact wq (new_convert h hE.ti ho hst hk)
 | makeMap t rv=>
  rw[ho] at hk;rw[<-ho]
  cases rv with
  | none=>exact wq (new_makeMap h hE.ti ho hk)
  | some _=>cases hk
 | lookup t y z ok=>
  rw[ho] at hk hst;simp only[opOk,aC] at hst;rw[<-ho];exact wq (step_lookup h hE.ti ho hst hk)
 | mapUpdate t y z u=>
  rw[ho] at hk hst;simp only[opOk,aC] at hst;rw[<-ho];refine wn (by rw[ho];rfl) ?_
  cases hd:o.dst with
  | none=>rw[hd] at hk;exact step_mapUpdate h hE.ti ho hd ⟨hst.1.1,hst.1.2,hst.2⟩ hk
  | some d=>rw[hd] at hk;cases hk
 | makeSlice t y z=>
  rw[ho] at hk hst;simp only[opOk,aC] at hst;rw[<-ho];exact wq (new_makeSlice h hE.ti ho hst hk)
 | call c=>
  rw[ho] at hk hst htk;simp only[opOk,aC] at hst;obtain ⟨hargs,hc⟩:=hst;obtain ⟨callee,args,ts⟩:=c;rw[<-ho]
  cases callee with
  | builtin b=>
   cases b with
   | len=>
    simp only at hk;split at hk
    ·rename_i y t h1 h2;have e1:=arr_of h1;have e2:=arr_of h2
     subst e1;subst e2;simp only[eL,aC] at hargs;simp only[tkOp,Bool.not_eq_false'] at htk;rw[htk] at hk;exact wn (by rw[ho];rfl) (step_mapLen h hE.ti ho hargs.1 hk)
    ·cases hk
   | append=>
    simp only at hk;split at hk
    ·rename_i y z t ts' h1 h2;have e1:=arr_of h1;subst e1;simp only[callOk] at hc;split at hc
     ·rename_i t0 tx h3;rw[h3] at h2;injection h2 with h2 h4;subst h2;have e2:=arr_of h3;subst e2;simp only[eL,aC] at hargs;exact wn (by rw[ho];rfl) (step_append h hE.ti ho ⟨hargs.1,hargs.2.1⟩ (kindB_some hc) hk)
     ·cases hc
    ·cases hk
   | copy=>
    simp only at hk;split at hk
    ·rename_i y z t ts' h1 h2;have e1:=arr_of h1;subst e1;simp only[callOk] at hc;split at hc
     ·rename_i t0 tx h3;rw[h3] at h2;injection h2 with h2 h4;subst h2;have e2:=arr_of h3;subst e2;simp only[eL,aC] at hargs;exact wn (by rw[ho];rfl) (step_copy h hE.ti ho ⟨hargs.1,hargs.2.1⟩ (kindB_some hc) hk)
     ·cases hc
    ·cases hk
   | _=>cases hk
  | value y=>
   cases y with
   | func f=>
    simp only at hk;split at hk
    ·rename_i g hg;split at hk
     ·rename_i hcap;obtain ⟨h1,h2⟩:=hE.fn f g hg;rw[hcap] at h2;refine Oper.wp_mono (fun a' w' h=>⟨h.1,fun e=>h.2 ?_⟩) (step_call_f h ho hargs h1 h2 hk);rw[ho] at e;simp only[quiet,hg] at e;exact e
     ·cases hk
    ·cases hk
   | tmp i=>
    refine wn (by rw[ho];rfl) ?_;simp only at hk;split at hk
    ·rename_i f n hsl;split at hk
     ·rename_i g hg;obtain ⟨h1,h2⟩:=hE.fn f g hg;refine Oper.wp_mono (fun a' w' h=>h.1) (step_call_t h ho hargs hsl h1 h2 (K:=K) (x:=x) ?_)
      cases hcap:g.cap with
      | true=>rw[hcap] at hk;exact hk
      | false=>rw[hcap] at hk;exact hk
     ·cases hk
    ·cases hk
   | _=>cases hk
  | _=>cases hk
 | _=>rw[ho] at hk htk;first | (cases hk;done) | (simp[tkOp] at htk;done)
theorem step_ok (hE:EnvOk P E) (h:Rel0 P C A σ a w F) {rid i:Nat} (hst:opOk P o.op=true) {K:St->Option R} (hk:stepK E rid i o σ K=some x):o.wp P a w (Nx P C K x) Q:=by
 cases htk:tkOp E o.op with
 | true=>exact (tk_ok hE h hst htk hk).wp
 | false=>exact Oper.wp_mono (fun a' w' h=>h.1) (not_tk hE h hst htk hk)
end
end OT
namespace OT
open Go
noncomputable def pdSlot (E:Env):Op->Option Slot
 | .alloc t=>match E.TI t with
  | some T=>if T.zok then some (.box T (ownMd T) [] T.zero) else none
  | none=>none
 | .buildSlice t n ps=>match E.TI t with
  | some (.slc e)=>if Nat.beq n 0&&Nat.beq ps.size 0&&e.zok then some (.own (.slc e) (.slc true (ownMd e)) [] []) else none
  | _=>none
 | _=>none
section
variable {P:Program} {C:Ctx} {A:Cells} {X:FP} {σ:St} {a:Act} {w:World} {F:Nat->FP} {R:Type} {x:R} {Q:Exit->Act->World->Prop} {o:Oper} {E:Env}
theorem stepK_pd {s:Slot} (hs:pdSlot E o.op=some s) {rid i:Nat} {K:St->Option R}:stepK E rid i o σ K=K (σ.putD o.dst s):=by
 unfold pdSlot at hs;split at hs
 ·rename_i t ho;unfold stepK;simp only[ho];split at hs
  ·rename_i T hT;split at hs
   ·rename_i hz;injection hs with hs;simp only[tiK,hT,hz,aH,hs]
   ·cases hs
  ·cases hs
 ·rename_i t n ps ho;unfold stepK;simp only[ho];split at hs
  ·rename_i e hT;split at hs
   ·rename_i hc;injection hs with hs;simp only[aC,dX] at hc;obtain ⟨⟨h1,h2⟩,hz⟩:=hc;subst h1;have hps:ps=#[]:=eY h2;subst hps;simp[tiK,hT,hz,seqK,hs]
   ·cases hs
  ·cases hs
 ·cases hs
theorem wp_put {N:Act->World->Prop} (hh:o.wp P a w N Q):o.wp P a w (fun a' w'=>(∀ d,o.dst≠some d->tmp a' d=tmp a d)/\N a' w') Q:=by
 have key:∀ (a0:Act) v,a0.tmps=a.tmps->∀ d,o.dst≠some d->tmp (a0.put o.dst v) d=tmp a d:=fun a0 v h0 d hd=>by
  unfold tmp Act.put
  cases ho:o.dst with
  | none=>simp[h0]
  | some e=>
   have:e≠d:=fun h=>hd (by rw[ho,h]);simp only[h0];simp[iJ,this]
 unfold Oper.wp at *;generalize (execOp a.eval o).run P w=r at *
 cases r with
 | ok n w'=>
  cases n <;> simp only[Oper.upon] at hh ⊢ <;>
   first
    | exact ⟨key _ _ rfl,hh⟩
    | exact Calls.mono hh (fun e w'' he=>by cases e <;> first | exact ⟨key _ _ rfl,he⟩ | exact he)
    | exact Rows.mono hh (fun _ _ he=>⟨key _ _ rfl,he⟩)
 | halt x w'=>cases x <;> simp only[Oper.upon] at hh ⊢ <;> exact hh
theorem pdOk_spec {d:Nat} (h:pdOk σ d=true):d < σ.n/\σ.get d=.dead/\(∀ k,(d,k,false) ∉ σ.lent)/\∀ r p snap,(d,r,p,snap) ∉ σ.gh:=by
 unfold pdOk at h;simp only[aC,cN,gI] at h;obtain ⟨⟨⟨h1,h2⟩,h3⟩,h4⟩:=h;refine ⟨h1,?_,fun k hm=>?_,fun r p snap hm=>?_⟩
 ·split at h2
  ·assumption
  ·cases h2
 ·revert h3 hm
  generalize σ.lent=l
  induction l with
  | nil=>intro h3 hm;cases hm
  | cons e l ih=>
   obtain ⟨k1,n1,b1⟩:=e;intro h3 hm;simp only[lentB,iE] at h3;rcases aS.1 hm with hm | hm
   ·injection hm with e1 e2;injection e2 with e2 e3;subst e1;subst e3;simp at h3
   ·exact ih h3.2 hm
 ·rw[List.any_eq_false] at h4;exact h4 _ hm (by simp)
theorem Rel.tmp (h:Rel P C A X σ a w F) {d:Nat} (hp:pdOk σ d=true) (v:Value):Rel P C A X σ (a.put (some d) v) w F:=by
 obtain ⟨hd,hg,hl,hgh⟩:=pdOk_spec hp;have hsz:=h.size
 have ht:∀ i,i≠d->OT.tmp (a.put (some d) v) i=OT.tmp a i:=fun i hi=>by
  rw[tmp_put,aY (fun h=>hi h.1.symm)]
 have hpl:∀ r p,place σ (a.put (some d) v) w r p=place σ a w r p:=fun r p=>by
  unfold place;by_cases hr:r=d
  ·subst hr;rw[hg];rfl
  ·rw[ht r hr]
 have hpres:Pres σ a w σ (a.put (some d) v) w:=fun r p snap hb=>⟨hb,fun hok=>⟨hok,fun _ pl hp=>⟨pl.H,pl.cs,by rw[hpl];exact hp,fun _=>rfl⟩⟩⟩
 refine { h with size:=by simp[Act.put,hsz],defers:=by simpa [Act.put] using h.defers,slots:=fun i hi=>?_,gh:=fun d' r p snap hm=>?_,lentP:=fun j k hm=>?_,whole:=fun r t m H v' hr hk=>?_,lentS:=fun j k hm R hR=>?_ }
 ·by_cases hid:i=d
  ·subst hid;rw[hg];trivial
  ·rw[ht i hid];exact SlotRel.pres hpres (fun _ _ h=>h) (fun _ _ _ _ h=>h) (fun _ _ h=>h) (fun _ _ _=>⟨fun _ h=>h,rfl⟩) (h.slots i hi)
 ·rw[ht d' (fun e=>by subst e;exact hgh _ _ _ hm)];exact RefRel.pres hpres (h.gh d' r p snap hm)
 ·rw[ht j (fun e=>by subst e;exact hl _ hm)];exact h.lentP j k hm
 ·rw[ht r (fun e=>by subst e;rw[hg] at hr;cases hr)];exact h.whole r t m H v' hr hk
 ·have:j≠d:=fun e=>by subst e;rw[hg] at hR;cases hR
  rw[ht j this] at hR;exact h.lentS j k hm R hR
def PS (P:Program) (A:Cells) (w:World) (tv:Value):Slot->FP->Prop
 | .own t m H v,F=>∃ cs,tv=mkV t cs/\Rep P w A t m H v cs F
 | .box t m H v,F=>∃ b L F1,tv=.pointer (some ⟨b,0,none⟩)/\L.length=t.sz/\Has w b 0 L/\(∀ j,j < t.sz->w.frozen? ⟨b,j,none⟩=false) /\
   (∀ x i,rng b 0 t.sz x i+F1 x i<=F x i)/\Rep P w A t m H v L F1/\OwnBlk w b (t.sz,false)
 | _,_=>False
theorem PS.slot {tv:Value} {s:Slot} {G:FP} (h:PS P A w tv s G):SlotRel P A σ a w tv s G:=by
 cases s with
 | own t m H v=>exact h
 | box t m H v=>
  obtain ⟨b,L,F1,h1,h2,h3,h4,h5,h6,h7⟩:=h;exact ⟨b,0,L,F1,h1,h2,h3,fun j hj=>by rw[bD];exact h4 j hj,h5,h6⟩
 | _=>exact h.elim
theorem PS.whole {tv:Value} {s:Slot} {G:FP} (h:PS P A w tv s G):∀ t m H v',s=.box t m H v'->∃ b,tv=.pointer (some ⟨b,0,none⟩)/\OwnBlk w b (t.sz,false):=by
 rintro t m H v rfl;obtain ⟨b,L,F1,h1,h2,h3,h4,h5,h6,h7⟩:=h;exact ⟨b,h1,h7⟩
theorem PS.pres {A':Cells} {w':World} {tv:Value} {s:Slot} {G:FP} (hA:∀ b i,A b i->A' b i) (hc:∀ b i,A b i->∀ u,ce w b i=some u->ce w' b i=some u) (hb:∀ b n,OwnBlk w b n->OwnBlk w' b n)
  (hF:∀ b i,1<=G b i->(∀ u,ce w b i=some u->ce w' b i=some u)/\w'.frozen? ⟨b,i,none⟩=w.frozen? ⟨b,i,none⟩) (h:PS P A w tv s G):PS P A' w' tv s G:=by
 cases s with
 | own t m H v=>obtain ⟨cs,h1,h2⟩:=h;exact ⟨cs,h1,Rep.mono hA hc hb t h2 (fun _ _=>aK _) (fun b i hp=>(hF b i hp).1)⟩
 | box t m H v=>
  obtain ⟨b,L,F1,h1,h2,h3,h4,h5,h6,h7⟩:=h
  have hr:∀ j,j < t.sz->1<=G b j:=fun j hj=>by
   have:=h5 b j;simp[rng,hj] at this;omega
  exact ⟨b,L,F1,h1,h2,fun j u hu=>(hF _ _ (by rw[bD];exact hr j (h2 ▸ (aJ.1 hu).1))).1 u (h3 j u hu),fun j hj=>by rw[(hF _ _ (hr j hj)).2];exact h4 j hj,h5,
   Rep.mono hA hc hb t h6 (fun _ _=>aK _) (fun b i hp=>(hF b i (by have:=h5 b i;omega)).1),hb _ _ h7⟩
 | _=>exact h.elim
def PF (P:Program) (E:Env) (ops:Array Oper) (A:Cells) (a:Act) (w:World):List Nat->FP->Prop
 | [],_=>True
 | j::D,X=>∃ (o:Oper) (d:Nat) (s:Slot) (Fj X':FP),ops[j]?=some o/\o.dst=some d/\pdSlot E o.op=some s/\PS P A w (tmp a d) s Fj/\(∀ b i,X' b i+Fj b i<=X b i)/\PF P E ops A a w D X'
theorem PF.pres {ops:Array Oper} {A':Cells} {a':Act} {w':World} (hA:∀ b i,A b i->A' b i) (hc:∀ b i,A b i->∀ u,ce w b i=some u->ce w' b i=some u) (hb:∀ b n,OwnBlk w b n->OwnBlk w' b n) :
  ∀ (D:List Nat) {X:FP},(∀ j ∈ D,∀ o d,ops[j]?=some o->o.dst=some d->tmp a' d=tmp a d)->(∀ b i,1<=X b i->(∀ u,ce w b i=some u->ce w' b i=some u)/\w'.frozen? ⟨b,i,none⟩=w.frozen? ⟨b,i,none⟩) ->
   PF P E ops A a w D X->PF P E ops A' a' w' D X
 | [],_,_,_,_=>trivial
 | j::D,X,ht,hF,h=>by
  obtain ⟨o,d,s,Fj,X',h1,h2,h3,h4,h5,h6⟩:=h
  exact ⟨o,d,s,Fj,X',h1,h2,h3,by
   rw[ht j (by simp) o d h1 h2]
   exact PS.pres hA hc hb (fun b i hp=>hF b i (by have:=h5 b i;omega)) h4,h5,PF.pres hA hc hb D (fun k hk=>ht k (by simp[hk])) (fun b i hp=>hF b i (by have:=h5 b i;omega)) h6⟩
theorem PF.grow {ops:Array Oper}:∀ (D:List Nat) {X X1:FP},(∀ b i,X b i<=X1 b i)->PF P E ops A a w D X->PF P E ops A a w D X1
 | [],_,_,_,_=>trivial
 | j::D,X,X1,hx,h=>by
  obtain ⟨o,d,s,Fj,X',h1,h2,h3,h4,h5,h6⟩:=h;exact ⟨o,d,s,Fj,X',h1,h2,h3,h4,fun b i=>bK (h5 b i) (hx b i),h6⟩
theorem PF.take {ops:Array Oper} {j:Nat}:∀ (D:List Nat) {X:FP},j ∈ D->PF P E ops A a w D X ->
  ∃ (o:Oper) (d:Nat) (s:Slot) (Fj X':FP),ops[j]?=some o/\o.dst=some d/\pdSlot E o.op=some s/\PS P A w (tmp a d) s Fj/\(∀ b i,X' b i+Fj b i<=X b i)/\PF P E ops A a w (D.erase j) X'
 | [],_,hj,_=>by cases hj
 | k::D,X,hj,h=>by
  by_cases hkj:k=j
  ·subst hkj;rw[List.erase_cons_head];exact h
  ·have hj':j ∈ D:=by
    rcases aS.1 hj with e | e
    ·exact absurd e.symm hkj
    ·exact e
   obtain ⟨o,d,s,Fk,X1,h1,h2,h3,h4,h5,h6⟩:=h;obtain ⟨o',d',s',Fj,X2,g1,g2,g3,g4,g5,g6⟩:=PF.take D hj' h6;rw[List.erase_cons_tail (by simpa using hkj)];exact ⟨o',d',s',Fj,fun b i=>X2 b i+Fk b i,g1,g2,g3,g4,fun b i=>by have:=g5 b i;have:=h5 b i;show X2 b i+Fk b i+Fj b i<=X b i;omega,o,d,s,Fk,X2,h1,h2,h3,h4,fun b i=>aK _,g6⟩
theorem early_ok (h:Rel P C A X σ a w F) (hti:∀ i T,E.TI i=some T->layB P T (.inl i)=true) {s:Slot} (hs:pdSlot E o.op=some s) {d:Nat} (hp:pdOk σ d=true) :
  ∃ (v:Value) (w':World) (Fj:FP),(execOp a.eval o).run P w=.ok (.value v) w'/\Ext w w' (fun _ _=>0)/\Rel P C A (fun b i=>X b i+Fj b i) σ (a.put (some d) v) w' F/\PS P A w' v s Fj:=by
 unfold pdSlot at hs;split at hs
 ·rename_i t ho;split at hs
  ·rename_i T hT;split at hs
   ·rename_i hzk;injection hs with hs;subst hs;have hlay:=hti _ _ hT;obtain ⟨L,hL⟩:=zok_some T hzk;obtain ⟨z,hz1,hz2⟩:=run_zeroValue (P:=P) (w:=w) hlay hL;obtain ⟨r1,r2,r3⟩:=zc_ok (P:=P) (w:=w) (A:=A) T hL hlay;have hc:z.cells=L.toArray:=by apply eP;simpa using hz2
    have h1:=h.alloc L.toArray t (0,0);have hown:=own_alloc w L.toArray t (0,0) false (.inr (aK _));have hll:L.length=T.sz:=Rep.length T r1;simp only[dJ,hll] at hown h1;have hr1:=Rep.alloc h r1 (fun b i hp=>by simp at hp) (ext_alloc w (.cells L.toArray t));refine ⟨.pointer (some ⟨w.heap.size,0,none⟩),w.alloc (.cells L.toArray t),rng w.heap.size 0 T.sz,?_,ext_alloc w _,h1.tmp hp _,w.heap.size,L,(fun _ _=>0),rfl,hll,has_alloc w L.toArray t (0,0) (fun j u hu=>by simpa using hu) (Rep.one _ r1),fun j hj=>hown.frozen hj,fun _ _=>aK _,hr1,hown⟩
    unfold execOp;simp[ho,Instr.alloc,hz1,newVar,newRow,hc]
   ·cases hs
  ·cases hs
 ·rename_i t n ps ho;split at hs
  ·rename_i e hT;split at hs
   ·rename_i hc;injection hs with hs;subst hs;simp only[aC,dX] at hc;obtain ⟨⟨h1,h2⟩,hz⟩:=hc;subst h1;have hps:ps=#[]:=eY h2;subst hps;have hl:=hti _ _ hT;simp only[layB,aC] at hl;have h2:=hl.2;split at h2
    ·rename_i el hu;simp only[aC,dL] at h2;obtain ⟨hsz,hel⟩:=h2;obtain ⟨inf,i1,i2,i3,i4⟩:=infoOk_some (layB_info hel)
     have hrun:(execOp a.eval o).run P w=.ok (.value (.slice (some ⟨w.heap.size,0,none⟩) 0 0)) (w.alloc (.cells #[] el)):=by
      simp[execOp,ho,Instr.buildSlice,run_underlying hu,Go.sizeOf,typeInfo,i1,Instr.fill,newRow,show Array.range 0=#[] from rfl]
     have hA1:=h.alloc #[] el (0,0);have hown:=own_alloc w #[] el (0,0) (isU8 e) (.inr (aK _));refine ⟨_,_,fun b i=>rng w.heap.size 0 0 b i+sumF 0 (fun _ _ _=>0) b i,hrun,ext_alloc w _,?_,?_⟩
     ·refine (hA1.less (fun b i=>?_)).tmp hp _;simp[rng,sumF]
     ·refine ⟨_,(mkV_one (.slc e) _ rfl).symm,?_⟩
      simp only[Rep,hole,bQ,aD,aM,Md.own,aH,Md.e];refine ⟨_,0,rfl,aK _,aW _,(fun e=>by cases e),fun ad had=>?_⟩
      injection had with had;subst had;refine ⟨rfl,rfl,by simpa using hown,fun _ _ _=>0,fun b i=>by simp,fun i y hy=>by cases hy⟩
    ·cases h2
   ·cases hs
  ·cases hs
 ·cases hs
theorem Rel.rebaseX (h:Rel P C A X σ a w F):∃ C':Ctx,C'.w0=w/\C'.A0=A/\(∀ b i,A b i->C'.F0 b i=0)/\Rel P C' A X σ a w F/\(∀ {A2:Cells} {X2:FP} {σ2:St} {a2:Act} {w2:World} {F2:Nat->FP},Rel P C' A2 X2 σ2 a2 w2 F2->Rel P C A2 X2 σ2 a2 w2 F2):=by
 refine ⟨⟨w,A,fun b i=>X b i+sumF σ.n F b i,C.args⟩,rfl,rfl,fun b i ha=>?_,?_,fun {A2 X2 σ2 a2 w2 F2} h2=>?_⟩
 ·show X b i+sumF σ.n F b i=0;rcases bA (X b i+sumF σ.n F b i) with h0 | h0
  ·exact h0
  ·exact absurd ha (h.dis b i h0)
 ·exact { h with ext:=Ext.refl _ _,own:=fun b i hp=>.inl hp,a0:=fun _ _ h=>h,a1:=fun _ _ h=>.inl h,lentP:=h.lentP,lentS:=h.lentS }
 ·have hsz:C.w0.heap.size<=w.heap.size:=h.ext.size;refine { h2 with ext:=h.ext.trans h2.ext (fun b i hb hz=>?_),own:=fun b i hp=>?_,a0:=fun b i ha=>h2.a0 b i (h.a0 b i ha),a1:=fun b i ha=>?_,lentP:=h2.lentP,lentS:=h2.lentS }
  ·show X b i+sumF σ.n F b i=0;rcases bA (X b i+sumF σ.n F b i) with h0 | h0
   ·exact h0
   ·rcases h.own b i h0 with h1 | h1 <;> omega
  ·rcases h2.own b i hp with h1 | h1
   ·exact h.own b i h1
   ·exact .inr (bK hsz h1)
  ·rcases h2.a1 b i ha with h1 | h1 | h1
   ·exact h.a1 b i h1
   ·exact .inr (h.own b i h1)
   ·exact .inr (.inr (bK hsz h1))
theorem Rel.frame (h:Rel P C A X σ a w F):∃ C1:Ctx,Rel0 P C1 A σ a w F/\∀ {A2:Cells} {σ2:St} {a2:Act} {w2:World} {F2:Nat->FP},Rel0 P C1 A2 σ2 a2 w2 F2->Rel P C A2 X σ2 a2 w2 F2 /\
  (∀ b i,A b i->A2 b i)/\(∀ b i,A b i->∀ u,ce w b i=some u->ce w2 b i=some u)/\(∀ b n,OwnBlk w b n->OwnBlk w2 b n)/\(∀ b i,1<=X b i->(∀ u,ce w b i=some u->ce w2 b i=some u)/\w2.frozen? ⟨b,i,none⟩=w.frozen? ⟨b,i,none⟩):=by
 have hX0:∀ b i,1<=X b i->sumF σ.n F b i=0:=fun b i hp=>by have:=h.tot b i;omega
 have hXb:∀ b i,1<=X b i->b < w.heap.size:=fun b i hp=>h.bnd b i (.inl (by omega));refine ⟨⟨w,A,sumF σ.n F,C.args⟩,?_,fun {A2 σ2 a2 w2 F2} h2=>⟨?_,h2.a0,fun b i ha u hu=>?_,h2.ext.blk,fun b i hp=>⟨fun u hu=>h2.ext.cell b i (hXb b i hp) (hX0 b i hp) u hu,h2.ext.froz b i (hXb b i hp)⟩⟩⟩
 ·exact { h with
   tot:=fun b i=>by have:=h.tot b i;show 0+sumF σ.n F b i<=1;omega
   dis:=fun b i hp=>h.dis b i (by have hp:1<=0+sumF σ.n F b i:=hp;omega)
   bnd:=fun b i hp=>h.bnd b i (hp.imp (fun hp=>by have hp:1<=0+sumF σ.n F b i:=hp;omega) id)
   ext:=Ext.refl _ _
   own:=fun b i hp=>.inl (by have hp:1<=0+sumF σ.n F b i:=hp;show 1<=sumF σ.n F b i;omega)
   a0:=fun _ _ h=>h,a1:=fun _ _ h=>.inl h,lentP:=h.lentP,lentS:=h.lentS }
 ·have hsz:C.w0.heap.size<=w.heap.size:=h.ext.size
  have hx2:∀ b i,1<=X b i->sumF σ2.n F2 b i=0:=fun b i hp=>by
   rcases bA (sumF σ2.n F2 b i) with h0 | h0
   ·exact h0
   ·rcases h2.own b i (by show 1<=0+sumF σ2.n F2 b i;omega) with h1 | h1
    ·have h1:1<=sumF σ.n F b i:=h1;have:=hX0 b i hp;omega
    ·have h1:w.heap.size<=b:=h1;have:=hXb b i hp;omega
  have hown:∀ b i,1<=sumF σ.n F b i->1<=C.F0 b i\/C.w0.heap.size<=b:=fun b i hp=>h.own b i (by omega);refine { h2 with tot:=fun b i=>?_,dis:=fun b i hp=>?_,bnd:=fun b i hp=>?_,ext:=h.ext.trans h2.ext (fun b i hb hz=>?_),own:=fun b i hp=>?_,a0:=fun b i ha=>h2.a0 b i (h.a0 b i ha),a1:=fun b i ha=>?_,lentP:=h2.lentP,lentS:=h2.lentS }
  ·have h1:0+sumF σ2.n F2 b i<=1:=h2.tot b i;have:=hx2 b i;have:=h.tot b i;omega
  ·by_cases hx:1<=X b i
   ·intro ha;rcases h2.a1 b i ha with h1 | h1 | h1
    ·exact h.dis b i (by omega) h1
    ·have h1:1<=sumF σ.n F b i:=h1;have:=hX0 b i hx;omega
    ·have h1:w.heap.size<=b:=h1;have:=hXb b i hx;omega
   ·exact h2.dis b i (by show 1<=0+sumF σ2.n F2 b i;omega)
  ·by_cases hx:1<=X b i
   ·exact cL (hXb b i hx) h2.ext.size
   ·exact h2.bnd b i (hp.imp (fun hp=>by show 1<=0+sumF σ2.n F2 b i;omega) id)
  ·show sumF σ.n F b i=0;rcases bA (sumF σ.n F b i) with h0 | h0
   ·exact h0
   ·rcases hown b i h0 with h1 | h1 <;> omega
  ·by_cases hx:1<=X b i
   ·exact h.own b i (by omega)
   ·rcases h2.own b i (by show 1<=0+sumF σ2.n F2 b i;omega) with h1 | h1
    ·exact hown b i h1
    ·exact .inr (bK hsz h1)
  ·rcases h2.a1 b i ha with h1 | h1 | h1
   ·exact h.a1 b i h1
   ·exact .inr (hown b i h1)
   ·exact .inr (.inr (bK hsz h1))
 ·refine h2.ext.cell b i (ce_lt hu) ?_ u hu;show sumF σ.n F b i=0;rcases bA (sumF σ.n F b i) with h0 | h0
  ·exact h0
  ·exact absurd ha (h.dis b i (by omega))
end
end OT
namespace OT
open Go
section
variable {P:Program} {C:Ctx} {A:Cells} {X:FP} {σ:St} {a:Act} {w:World} {F:Nat->FP} {R:Type} {x:R} {Q:Exit->Act->World->Prop} {o:Oper} {E:Env}
theorem Rel.congr (h:Rel P C A X σ a w F) {σ':St} (hn:σ'.n=σ.n) (hg:∀ i,σ'.get i=σ.get i) (hv:∀ i,σ'.ver i=σ.ver i) (hl:∀ e,e ∈ σ'.lent↔e ∈ σ.lent) (hgh:∀ e,e ∈ σ'.gh->e ∈ σ.gh):Rel P C A X σ' a w F:=by
 have hpres:Pres σ a w σ' a w:=fun r p snap hb=>⟨by rw[hv];exact hb,fun hok=>by
  unfold St.ok at hok ⊢;rw[hv] at hok
  exact ⟨hok,fun _ pl hpl=>⟨pl.H,pl.cs,by unfold place at hpl ⊢;rw[hg];exact hpl,fun _=>rfl⟩⟩⟩
 refine ⟨by rw[hn];exact h.size,h.defers,fun i hi=>?_,fun d r p snap hm=>RefRel.pres hpres (h.gh d r p snap (hgh _ hm)),fun b i=>by rw[hn];exact h.tot b i,fun b i hp=>by rw[hn] at hp;exact h.dis b i hp,fun b i hp=>by rw[hn] at hp;exact h.bnd b i hp,
  fun i=>by rw[hv];exact h.vlen i,h.ext,fun b i hp=>by rw[hn] at hp;exact h.own b i hp,h.a0,h.a1,fun j k hm=>h.lentP j k ((hl _).1 hm),fun r t m H v hr hk=>?_,fun j k hm R hR=>?_⟩
 ·rw[hg];exact SlotRel.pres hpres (fun _ _ h=>h) (fun _ _ _ _ h=>h) (fun _ _ h=>h) (fun _ _ _=>⟨fun _ h=>h,rfl⟩) (h.slots i (by rw[<-hn];exact hi))
 ·rw[hg] at hr;exact h.whole r t m H v hr fun k hm=>hk k ((hl _).2 hm)
 ·rw[hg] at hR;exact h.lentS j k ((hl _).1 hm) R hR
theorem Rel.same (h:Rel P C A X σ a w F) {t:Nat} {s:Slot} (hs:σ.get t=s):Rel P C A X (σ.upd t s) a w F:=
 h.congr rfl (fun i=>by
  rw[get_upd];split
  ·rename_i hc;rw[<-hs,hc.1]
  ·rfl) (fun i=>rfl) (fun e=>jQ) (fun e he=>he)
theorem guard_ok (h:Rel P C A X σ a w F) {ops:Array Oper} {o:Oper} {K:Bool->St->Option R} (hk:guardK ops.toList σ o.guard K=some x):∃ (b:Bool) (σ':St),K b σ'=some x/\Rel P C A X σ' a w F/\Region.wanted o (yielded ops a.tmps)=b:=by
 unfold guardK at hk;split at hk
 ·rename_i hg;exact ⟨true,σ,hk,h,by simp[Region.wanted,hg]⟩
 ·rename_i j want hg;split at hk
  ·cases hk
  ·rename_i t ht;rw[cZ] at ht
   have hy:∀ v,tmp a t=v->t < σ.n->yielded ops a.tmps j=match v with | .bool b=>some b | _=>none:=fun v hv ht'=>by
    have hlt:t < a.tmps.size:=by rw[h.size];exact ht'
    unfold yielded;rw[ht];have:a.tmps[t]?=some v:=by rw[cK hlt,<- hv];simp[tmp,hlt]
    simp only[aB,this];cases v <;> rfl
   have hlt:∀ s,σ.get t=s->s≠.dead->t < σ.n:=fun s hs hne=>by
    rcases cB t σ.n with hi | hi
    ·exact hi
    ·rw[get_out (dG.2 hi)] at hs;exact absurd hs.symm hne
   split at hk
   ·rename_i b hgt;have ht':=hlt _ hgt (by intro e;cases e);have hs:=h.slots t ht';rw[hgt] at hs;have hv:=val_bool hs;have hyy:=hy _ hv ht';simp only at hyy
    cases b with
    | true=>exact ⟨_,_,hk,Rel.same h hgt,by simp only[Region.wanted,hg,hyy];cases want <;> rfl⟩
    | false=>exact ⟨_,_,hk,Rel.same h hgt,by simp only[Region.wanted,hg,hyy];cases want <;> rfl⟩
   ·rename_i hgt;have ht':=hlt _ hgt (by intro e;cases e);have hs:=h.slots t ht';rw[hgt] at hs;obtain ⟨vs,Fi,h1,_⟩:=hs;have hyy:=hy _ h1 ht';simp only at hyy;exact ⟨false,σ,hk,h,by simp only[Region.wanted,hg,hyy];cases want <;> rfl⟩
   ·cases hk
theorem skip_ok (h:Rel P C A X σ a w F) (o:Oper):∃ F',Rel P C A X (σ.putD o.dst (.tup [])) (a.put o.dst undef) w F':=
 h.putD o.dst (s:=.tup []) (v:=undef) (Fd:=fun _ _=>0) (X':=X) ⟨#[],fun _ _ _=>0,rfl,fun b i=>by simp[sumF],fun j y hy=>by cases hy⟩ (fun b i=>aK _) (fun _ _ _ _ e=>by cases e)
theorem ops_ok (hE:EnvOk P E) {rid:Nat} {ops:Array Oper} (hst:∀ o ∈ ops.toList,opOk P o.op=true) {K:St->Option R} (hQ:∀ a w,Nx P C K x a w->Q .normal a w) :
  ∀ (rest:List Oper) (i:Nat) {σ:St} {A:Cells} {a:Act} {w:World} {F:Nat->FP},ops.toList.drop i=rest->Rel0 P C A σ a w F->opsK E rid ops.toList rest i σ K=some x->wpOps P ops Q (List.range' i rest.length) a w:=by
 intro rest
 induction rest with
 | nil=>intro i σ A a w F hd h hk;exact hQ a w ⟨σ,hk,A,F,h⟩
 | cons o rest ih=>
  intro i σ A a w F hd h hk
  have hi:ops[i]?=some o:=by
   have:(ops.toList.drop i)[0]?=some o:=by rw[hd];rfl
   rw[bH] at this
   simpa using this
  have hd':ops.toList.drop (i+1)=rest:=by rw[<-dB,hd];rfl
  have hmem:o ∈ ops.toList:=bW (i:=i) (by simpa using hi);simp only[opsK] at hk;obtain ⟨b,σ1,hk,h1,hw⟩:=guard_ok h hk;show wpOps P ops Q (i::List.range' (i+1) rest.length) a w;simp only[wpOps,hi,hw]
  cases b with
  | true=>
   simp only[aH];refine .inl (Oper.wp_mono (fun a' w' hn=>?_) (step_ok hE h1 (hst o hmem) hk));obtain ⟨σ2,hk2,A2,F2,h2⟩:=hn;exact ih (i+1) hd' h2 hk2
  | false=>
   simp only[aD,aM];obtain ⟨F2,h2⟩:=skip_ok h1 o;exact ih (i+1) hd' h2 hk
theorem region_ok (hE:EnvOk P E) {rid id:Nat} {ops:Array Oper} (hst:∀ o ∈ ops.toList,opOk P o.op=true) (h:Rel0 P C A σ a w F) {K:St->Option R} (hk:opsK E rid ops.toList ops.toList 0 σ K=some x) (hQ:∀ a w,Nx P C K x a w->Q .normal a w) :
  (Code.region id ops false).wp P Q a w:=by
 refine wp_region ?_;have:=ops_ok hE hst hQ ops.toList 0 (by simp) h hk
 simpa [List.range_eq_range'] using this
def wpAnyL (P:Program) (md:Region.Mode) (ops:Array Oper) (Q:Exit->Act->World->Prop) (S:Array Bool->World->Prop):Nat->Array Bool->Act->World->Prop
 | 0,listed,a,w=>Region.ready md ops listed=[]/\Q .normal a w
 | fuel+1,listed,a,w=>
  (Region.ready md ops listed=[]->Q .normal a w) /\
  ∀ i ∈ Region.ready md ops listed,wpOp P ops Q i (fun a' w'=>S (listed.setIfInBounds i true) w'/\wpAnyL P md ops Q S fuel (listed.setIfInBounds i true) a' w') a w
theorem wpAny_of_L {md:Region.Mode} {ops:Array Oper} {S:Array Bool->World->Prop}:∀ (fuel:Nat) (listed:Array Bool) (a:Act) (w:World),wpAnyL P md ops Q S fuel listed a w->wpAny P md ops Q fuel listed a w
 | 0,_,_,_,h=>h
 | fuel+1,_,_,_,h=>⟨h.1,fun i hi=>wpOp_mono (fun a' w' h'=>wpAny_of_L fuel _ a' w' h'.2) (h.2 i hi)⟩
def Closed (md:Region.Mode) (ops:Array Oper) (l:Array Bool):Prop:=∀ j o,ops[j]?=some o->l.getD j false=true->∀ e ∈ o.after,Region.binds md e=true->l.getD e.on false=true
theorem closed_set {md:Region.Mode} {ops:Array Oper} {l:Array Bool} (h:Closed md ops l) {j:Nat} (hj:j ∈ Region.ready md ops l):Closed md ops (l.setIfInBounds j true):=by
 obtain ⟨_,oj,hoj,hall⟩:=mem_ready.1 hj;intro k o hk hl e he hb;by_cases hkj:j=k
 ·subst hkj;rw[hoj] at hk;injection hk with hk;subst hk;exact getD_set_true (hall e he hb)
 ·rw[getD_set_ne false hkj] at hl;exact getD_set_true (h k o hk hl e he hb)
def SU (md:Region.Mode) (ops:Array Oper) (S:Array Bool->World->Prop) (i:Nat):World->Prop:=fun w'=>∃ l,Closed md ops l/\l.getD i true=false/\S l w'
theorem wpAnyL_first {md:Region.Mode} {ops:Array Oper} {S:Array Bool->World->Prop} {i:Nat} {oi:Oper} {v:Value} (hi:ops[i]?=some oi) (hsel:∀ (j:Nat) (o:Oper) cs b,ops[j]?=some o->o.op≠.select cs b)
  (hQ:∀ c a w,Q (.panic c) (a.put oi.dst v) w->Q (.panic c) a w) (hS:∀ l w,S (l.setIfInBounds i true) w↔S l w) :
  ∀ (fuel:Nat) (listed:Array Bool) (a:Act) (w:World),
   (∀ j oj,ops[j]?=some oj->j≠i->listed.getD j true=false->(∀ e ∈ oj.after,Region.binds md e=true->e.on≠i)->oi.apart ops oj=true) ->
   i ∈ Region.ready md ops listed->Closed md ops listed->YieldsIf P ops (SU md ops S i) oi v a->S listed w ->
   wpAnyL P md ops Q S fuel (listed.setIfInBounds i true) (a.put oi.dst v) w->wpAnyL P md ops Q S (fuel+1) listed a w:=by
 intro fuel
 induction fuel with
 | zero=>
  intro listed a w _ hr hc hy hs H;have hun:listed.getD i true=false:=(mem_ready.1 hr).1;refine ⟨fun h=>(by rw[h] at hr;cases hr),fun j hj=>?_⟩
  by_cases hji:j=i
  ·subst hji;exact hy.wpOp hi ⟨listed,hc,hun,hs⟩ ⟨(hS _ _).2 hs,H⟩
  ·have:=ready_mono hj hji;rw[H.1] at this;cases this
 | succ fuel ih=>
  intro listed a w hfree hr hc hy hs H;have hun:listed.getD i true=false:=(mem_ready.1 hr).1;refine ⟨fun h=>(by rw[h] at hr;cases hr),fun j hj=>?_⟩
  by_cases hji:j=i
  ·subst hji;exact hy.wpOp hi ⟨listed,hc,hun,hs⟩ ⟨(hS _ _).2 hs,H⟩
  ·have h1:=H.2 j (ready_mono hj hji);obtain ⟨hjun,oj,hoj,hall⟩:=mem_ready.1 hj
   have hnot:∀ e ∈ oj.after,Region.binds md e=true->e.on≠i:=fun e he hb heq=>by
    have h1:=hall e he hb;have h0:=(mem_ready.1 hr).1;rw[heq] at h1;rcases cB i listed.size with h' | h'
    ·simp[h'] at h0 h1;rw[h0] at h1;cases h1
    ·simp[dI h'] at h1
   have h2:=wpOp_putIf hoj (hfree j oj hoj hji hjun hnot) (fun cs b=>hsel i oi cs b hi) (fun cs b=>hsel j oj cs b hoj) hQ hy h1
   have hfree':∀ k ok,ops[k]?=some ok->k≠i->(listed.setIfInBounds j true).getD k true=false ->
     (∀ e ∈ ok.after,Region.binds md e=true->e.on≠i)->oi.apart ops ok=true:=fun k ok hk hki hun hno=>by
    refine hfree k ok hk hki ?_ hno;by_cases hjk:j=k
    ·subst hjk;exact hjun
    ·rw[getD_set_ne true hjk] at hun;exact hun
   refine wpOp_mono (fun a' w' h3=>?_) h2;have h4:=h3.2.1;have h5:=h3.2.2;rw[Array.setIfInBounds_comm _ _ (Ne.symm hji)] at h4 h5;have h6:=(hS _ _).1 h4;exact ⟨h6,ih (listed.setIfInBounds j true) a' w' hfree' (ready_mono hr (Ne.symm hji)) (closed_set hc hj) h3.1 h6 h5⟩
def anc (ops:Array Oper):Nat->Nat->Nat->Bool
 | 0,_,_=>false
 | n+1,d,i=>match ops[d]? with
  | some o=>o.after.toList.any fun e=>Region.binds .any e&&(Nat.beq e.on i||anc ops n e.on i)
  | none=>false
theorem anc_closed {ops:Array Oper} {l:Array Bool} (h:Closed .any ops l):∀ (n d i:Nat),anc ops n d i=true->l.getD d false=true->l.getD i false=true
 | 0,_,_,ha,_=>by cases ha
 | n+1,d,i,ha,hd=>by
  simp only[anc] at ha;split at ha
  ·rename_i o ho;obtain ⟨e,he,hb⟩:=fU.1 ha;simp only[aC,cW,dX] at hb;have hl:=h d o ho hd e (by simpa using he) hb.1;rcases hb.2 with hb | hb
   ·rw[<-hb];exact hl
   ·exact anc_closed h n e.on i hb hl
  ·cases ha
def dirty (E:Env) (ops:Array Oper) (d:Nat):Bool:=match ops[d]? with
 | some o=>!tkOp E o.op&&!quiet E o.op
 | none=>false
def pdAdd (l:Array Bool):List Nat->Array Bool
 | []=>l
 | j::js=>pdAdd (l.setIfInBounds j true) js
def drawGo (E:Env) (rid:Nat) (ops:Array Oper) (pd:List Nat):List Nat->Array Bool->Bool->Bool
 | [],l,_=>(Region.ready .any ops l).isEmpty
 | i::is,l,f=>match ops[i]? with
  | none=>false
  | some o=>
   match pd.any (Nat.beq i) with
   | true=>!is.any (Nat.beq i)&&(Region.ready .any ops l).contains i&&(Region.ready .any ops (pdAdd l (pd.filter fun j=>!Nat.beq i j))).all (fun j=>pd.any (Nat.beq j))&&drawGo E rid ops pd is (l.setIfInBounds i true) f
   | false=>
   match tkOp E o.op&&(Region.free .any ops l i&&(Region.ready .any ops l).contains i&&(!reads o.op||arIn E rid i||erIn E rid i||(f&&(List.range ops.size).all fun d=>!dirty E ops d||anc ops ops.size d i))) with
   | true=>drawGo E rid ops pd is (l.setIfInBounds i true) f
   | false=>(Region.ready .any ops l).contains i&&(Region.ready .any ops (pdAdd l pd)).all (Nat.beq i)&&drawGo E rid ops pd is (l.setIfInBounds i true) false
noncomputable def pdStat (E:Env) (ops:Array Oper) (pd:List Nat):Bool:=pd.all fun j=>match ops[j]? with
 | some o=>(match o.guard with
  | none=>true
  | some _=>false)&&(pdSlot E o.op).isSome&&(match o.dst with
   | some d=>(List.range ops.size).all fun k=>Nat.beq k j||(match ops[k]? with
    | some o'=>(match o'.dst with
     | some d'=>!Nat.beq d' d
     | none=>true)
    | none=>true)
   | none=>false)
 | none=>false
def nodupB:List Nat->Bool
 | []=>true
 | i::is=>!is.any (Nat.beq i)&&nodupB is
noncomputable def erStat (E:Env) (ops:Array Oper) (pd:List Nat) (er:List (Nat×Nat)):Bool:=er.all fun e=>!pd.any (Nat.beq e.1)&&(Nat.ble ops.size e.2||(dirty E ops e.2&&!pd.any (Nat.beq e.2)&&anc ops ops.size e.2 e.1))&&(match ops[e.1]? with
 | some o=>(match o.guard with
  | none=>true
  | some _=>false)&&(match o.op,o.dst with
   | .load _ (.tmp x),some d=>!Nat.beq x d&&(List.range ops.size).all fun k=>Nat.beq k e.1||(match ops[k]? with
    | some o'=>(match o'.dst with
     | some d'=>!Nat.beq d' d&&(!Nat.beq d' x||anc ops ops.size e.1 k)
     | none=>true)
    | none=>true)
   | _,_=>false)
 | none=>false)
noncomputable def drawOk (E:Env) (rid:Nat) (ops:Array Oper) (is:List Nat):Bool:=
 Region.noSelect ops&&Nat.ble is.length ops.size&&(pdStat E ops (liveOf E.pd rid)&&(liveOf E.pd rid).all fun j=>is.any (Nat.beq j))&&(nodupB is&&(List.range ops.size).all (fun k=>is.any (Nat.beq k))&&erStat E ops (liveOf E.pd rid) (ersOf E.er rid))&&drawGo E rid ops (liveOf E.pd rid) is (Array.replicate ops.size false) (match liveOf E.pd rid with
  | []=>true
  | _::_=>false)
theorem bx_ok {K:St->Option R}:∀ (is:List Nat) {σ:St} {A:Cells} {F:Nat->FP},Rel0 P C A σ a w F->bxK σ is K=some x->∃ (A':Cells) (σ':St) (F':Nat->FP),K σ'=some x/\Rel0 P C A' σ' a w F':=by
 intro is
 induction is with
 | nil=>intro σ A F h hk;exact ⟨A,σ,F,hk,h⟩
 | cons i is ih=>
  intro σ A F h hk;simp only[bxK] at hk;split at hk
  ·rename_i t m H v hg;split at hk
   ·rename_i hc;simp only[aC,bJ] at hc;obtain ⟨hH,hfit⟩:=hc;subst hH;obtain ⟨A1,F1,_,h1,_,_⟩:=box_cp h hg;exact ih h1 hk
   ·cases hk
  ·cases hk
theorem Rel.rebase (h:Rel0 P C A σ a w F):∃ C':Ctx,C'.w0=w/\C'.A0=A/\(∀ b i,A b i->C'.F0 b i=0)/\Rel0 P C' A σ a w F/\(∀ {A2:Cells} {σ2:St} {a2:Act} {w2:World} {F2:Nat->FP},Rel0 P C' A2 σ2 a2 w2 F2->Rel0 P C A2 σ2 a2 w2 F2):=by
 have hown:∀ b i,1<=sumF σ.n F b i->1<=C.F0 b i\/C.w0.heap.size<=b:=fun b i hp=>h.own b i (by show 1<=0+_;omega);refine ⟨⟨w,A,sumF σ.n F,C.args⟩,rfl,rfl,fun b i ha=>?_,?_,fun {A2 σ2 a2 w2 F2} h2=>?_⟩
 ·rcases bA (sumF σ.n F b i) with h0 | h0
  ·exact h0
  ·exact absurd ha (h.dis b i (by show 1<=0+_;omega))
 ·exact { h with ext:=Ext.refl _ _,own:=fun b i hp=>.inl (by have hp:1<=0+sumF σ.n F b i:=hp;show 1<=sumF σ.n F b i;omega),a0:=fun _ _ h=>h,a1:=fun _ _ h=>.inl h,lentP:=h.lentP,lentS:=h.lentS }
 ·have hsz:C.w0.heap.size<=w.heap.size:=h.ext.size;refine { h2 with ext:=h.ext.trans h2.ext (fun b i hb hz=>?_),own:=fun b i hp=>?_,a0:=fun b i ha=>h2.a0 b i (h.a0 b i ha),a1:=fun b i ha=>?_,lentP:=h2.lentP,lentS:=h2.lentS }
  ·show sumF σ.n F b i=0;rcases bA (sumF σ.n F b i) with h0 | h0
   ·exact h0
   ·rcases hown b i h0 with h1 | h1 <;> omega
  ·rcases h2.own b i hp with h1 | h1
   ·exact hown b i h1
   ·exact .inr (bK hsz h1)
  ·rcases h2.a1 b i ha with h1 | h1 | h1
   ·exact h.a1 b i h1
   ·exact .inr (hown b i h1)
   ·exact .inr (.inr (bK hsz h1))
theorem take_ar (h:Rel0 P C A σ a w F) (hE:EnvOk P E) {rid i:Nat} (hst:opOk P o.op=true) (htk:tkOp E o.op=true) (har:arOk σ o=true) {K:St->Option R} (hk:stepK E rid i o σ K=some x) :
  ∃ v,(∀ w',(∀ b i,A b i->∀ u,ce w b i=some u->ce w' b i=some u)->(execOp a.eval o).run P w'=.ok (.value v) w')/\Nx P C K x (a.put o.dst v) w:=by
 unfold arOk at har;split at har
 ·rename_i t y ho;split at har
  ·rename_i t' v hv;unfold stepK at hk;simp only[ho,hv,loadK] at hk;obtain ⟨T,hT,hk⟩:=tiK_some hk;have hlay:=hE.ti _ _ hT;split at hk
   ·rename_i e;subst e;rw[ho] at hst
    rcases opd_ok h hst with hs | ⟨xs,e⟩
    rotate_left
    ·rw[e] at hv;cases hv
    rw[hv] at hs;obtain ⟨⟨b,off,sp⟩,h1,h2,L,h3,h4,h5⟩:=hs;simp only[cT,eC] at h1;simp only at h2;subst h2;refine ⟨mkV t' L,fun w' hw'=>?_,fin_flat h hk ⟨L,rfl,h5⟩ (fun _ _ _ _ e=>by cases e)⟩
    simp[execOp,ho,h1,Instr.loadAt,Instr.sureAddr,run_loadVar hlay (fun j u hu=>hw' _ _ (h4 j u hu).2 u (h4 j u hu).1) h3 (Ro.one _ h5)]
   ·cases hk
  ·cases har
 ·rename_i s t y ho;unfold stepK at hk;simp only[ho] at hk;rw[ho] at hst;refine take_convert_ar h hE.ti ho hst (fun T hT=>?_) har hk;rw[ho] at htk;simp only[tkOp,hT] at htk;exact htk
 ·cases har
def Act0 (ops:Array Oper) (l:Array Bool) (u:Nat):Prop:=ops.size<=u\/l.getD u false=false
def SD (E:Env) (ops:Array Oper) (w0:World) (C:Ctx) (RC:List (Nat×Nat×Nat×Nat×List Value)):Array Bool->World->Prop:=fun l w'=>((∀ d,dirty E ops d=true->l.getD d false=false)->Ext w0 w' (fun _ _=>0))/\(∀ b i,C.A0 b i->∀ u,ce C.w0 b i=some u->ce w' b i=some u)/\∀ e ∈ RC,Act0 ops l e.2.1->Has w' e.2.2.1 e.2.2.2.1 e.2.2.2.2
theorem wp_same {next:Act->World->Prop} (h:Tk P o a w next):o.wp P a w (fun a' w'=>w=w'/\next a' w') Q:=by
 obtain ⟨v,h1,h2⟩:=h;exact wp_val (h1 w fun _=>Ext.refl _ _) ⟨rfl,h2⟩
theorem wpAnyL_mono {md:Region.Mode} {ops:Array Oper} {S S':Array Bool->World->Prop} (hS:∀ l w,S l w->S' l w):∀ (fuel:Nat) (listed:Array Bool) (a:Act) (w:World),wpAnyL P md ops Q S fuel listed a w->wpAnyL P md ops Q S' fuel listed a w
 | 0,_,_,_,h=>h
 | fuel+1,_,_,_,h=>⟨h.1,fun i hi=>wpOp_mono (fun a' w' h'=>⟨hS _ _ h'.1,wpAnyL_mono hS fuel _ a' w' h'.2⟩) (h.2 i hi)⟩
theorem put_self (a:Act) (d:Nat):a.put (some d) (tmp a d)=a:=by
 have:a.tmps.setIfInBounds d (tmp a d)=a.tmps:=by
  unfold tmp;apply Array.ext
  ·simp
  ·intro i h1 h2;rw[iT];split
   ·rename_i e;subst e;simp[h2]
   ·rfl
 show { a with tmps:=a.tmps.setIfInBounds d (tmp a d) }=a;rw[this]
theorem pd_ok {ops:Array Oper} {K:St->Option R}:∀ (js:List Nat) {σ:St} {F:Nat->FP},Rel0 P C A σ a w F->pdK ops.toList σ js K=some x->∃ (σ':St) (F':Nat->FP),K σ'=some x/\Rel0 P C A σ' a w F':=by
 intro js
 induction js with
 | nil=>intro σ F h hk;exact ⟨σ,F,hk,h⟩
 | cons j js ih=>
  intro σ F h hk;simp only[pdK] at hk;split at hk
  ·rename_i d hd;obtain ⟨F1,h1⟩:=h.putD (some d) (s:=.dead) (v:=tmp a d) (Fd:=fun _ _=>0) (X':=fun _ _=>0) trivial (fun b i=>aK _) (fun _ _ _ _ e=>by cases e);rw[put_self] at h1;exact ih h1 hk
  ·cases hk
theorem getD_pdAdd:∀ (js:List Nat) (l:Array Bool) (k:Nat) (b:Bool),(pdAdd l js).getD k b=if k ∈ js/\k < l.size then true else l.getD k b
 | [],l,k,b=>by simp[pdAdd]
 | j::js,l,k,b=>by
  rw[pdAdd,getD_pdAdd js];simp only[Array.size_setIfInBounds];by_cases h1:k ∈ js/\k < l.size
  ·rw[aV h1,aV ⟨by simp[h1.1],h1.2⟩]
  ·rw[aY h1];by_cases hkj:j=k
   ·subst hkj;by_cases hlt:j < l.size
    ·rw[aV ⟨by simp,hlt⟩];simp[hlt]
    ·rw[aY (fun h=>hlt h.2)];simp[hlt]
   ·rw[getD_set_ne b hkj,aY];rintro ⟨h2,h3⟩;rcases aS.1 h2 with e | e
    ·exact hkj e.symm
    ·exact h1 ⟨e,h3⟩
theorem mem_any {l:List Nat} {i:Nat}:l.any (Nat.beq i)=true↔i ∈ l:=by
 rw[fU];constructor
 ·rintro ⟨y,h1,h2⟩;rw[cJ h2];exact h1
 ·intro h;exact ⟨i,h,iU i⟩
theorem pdStat_spec {ops:Array Oper} {pd:List Nat} (h:pdStat E ops pd=true) {j:Nat} (hj:j ∈ pd):∃ o d s,ops[j]?=some o/\o.guard=none/\o.dst=some d/\pdSlot E o.op=some s/\∀ k o',ops[k]?=some o'->k≠j->o'.dst≠some d:=by
 unfold pdStat at h;have h:=cC.1 h j hj;split at h
 ·rename_i o ho;simp only[aC] at h;obtain ⟨⟨h1,h2⟩,h3⟩:=h;split at h3
  ·rename_i d hd;obtain ⟨s,hs⟩:=fP.1 h2;refine ⟨o,d,s,ho,?_,hd,hs,fun k o' hk hkj e=>?_⟩
   ·split at h1
    ·assumption
    ·cases h1
   ·have:=cC.1 h3 k (dC.2 (bN.1 hk).1);rw[hk] at this;simp only[e,cW] at this;rcases this with h4 | h4
    ·exact hkj (cJ h4)
    ·simp at h4
  ·cases h3
 ·cases h
def RE (ops:Array Oper) (er:List (Nat×Nat)) (L:Array Bool) (a:Act) (w:World) (e:Nat×Nat×Nat×Nat×List Value):Prop:=(e.1,e.2.1) ∈ er/\L.getD e.1 false=true /\
 ∃ o t x d,ops[e.1]?=some o/\o.op=.load t (.tmp x)/\o.dst=some d/\tmp a x=.pointer (some ⟨e.2.2.1,e.2.2.2.1,none⟩)/\(tmp a d).cells.toList=e.2.2.2.2/\(Act0 ops L e.2.1->Has w e.2.2.1 e.2.2.2.1 e.2.2.2.2)
theorem nodupB_spec:∀ {is:List Nat},nodupB is=true->is.Nodup
 | [],_=>iZ
 | i::is,h=>by
  simp only[nodupB,aC,cN] at h;refine dP.2 ⟨fun hm=>?_,nodupB_spec h.2⟩;have:=h.1;rw[mem_any.2 hm] at this;cases this
theorem erStat_spec {E:Env} {ops:Array Oper} {pd:List Nat} {er:List (Nat×Nat)} (h:erStat E ops pd er=true) {j u:Nat} (hj:(j,u) ∈ er):j ∉ pd/\(ops.size<=u\/(dirty E ops u=true/\u ∉ pd/\anc ops ops.size u j=true))/\∃ o t x d,ops[j]?=some o/\o.guard=none/\o.op=.load t (.tmp x)/\o.dst=some d/\x≠d /\
  ∀ k o',ops[k]?=some o'->k≠j->o'.dst≠some d/\(o'.dst=some x->anc ops ops.size j k=true):=by
 unfold erStat at h;have h1:=cC.1 h _ hj;simp only[aC,cW,cN,dL] at h1;obtain ⟨⟨h0,hu⟩,h1⟩:=h1;refine ⟨fun hm=>?_,hu.imp id fun q=>⟨q.1.1,fun hm=>?_,q.2⟩,?_⟩
 ·rw[mem_any.2 hm] at h0;cases h0
 ·have q2:=q.1.2;rw[mem_any.2 hm] at q2;cases q2
 split at h1
 ·rename_i o ho;simp only[aC] at h1;obtain ⟨h2,h3⟩:=h1;split at h3
  ·rename_i t x d hop hd;simp only[aC,cN,cC,dC] at h3;obtain ⟨h4,h5⟩:=h3;refine ⟨o,t,x,d,ho,?_,hop,hd,(fun e=>by subst e;rw[iU] at h4;cases h4),fun k o' hk hkj=>?_⟩
   ·cases hg:o.guard with
    | none=>rfl
    | some g=>rw[hg] at h2;cases h2
   ·have h6:=h5 k (bN.1 hk).1;rw[hk] at h6;simp only[cW] at h6;rcases h6 with h6 | h6
    ·exact absurd (cJ h6) hkj
    ·cases hd':o'.dst with
     | none=>exact ⟨(fun e=>by cases e),fun e=>by cases e⟩
     | some d'=>
      rw[hd'] at h6;simp only[aC,cW,cN] at h6;refine ⟨fun e=>?_,fun e=>?_⟩
      ·injection e with e;subst e;rw[iU] at h6;cases h6.1
      ·injection e with e;subst e;rcases h6.2 with h7 | h7
       ·rw[iU] at h7;cases h7
       ·exact h7
  ·cases h3
 ·cases h1
theorem pathB_eq:∀ {p q:Path},pathB p q=true->p=q
 | [],[],_=>rfl
 | .fst::p,.fst::q,h=>by simp only[pathB] at h;rw[pathB_eq h]
 | .snd::p,.snd::q,h=>by simp only[pathB] at h;rw[pathB_eq h]
 | .idx i::p,.idx j::q,h=>by simp only[pathB,aC] at h;rw[cJ h.1,pathB_eq h.2]
 | .aix i::p,.aix j::q,h=>by simp only[pathB,aC] at h;rw[cJ h.1,pathB_eq h.2]
theorem er_has (h:Rel P C A X σ a w F) {o:Oper} (hok:erOk σ o=true) {t x d:Nat} (ho:o.op=.load t (.tmp x)) (hd:o.dst=some d) {b off:Nat} (hx:tmp a x=.pointer (some ⟨b,off,none⟩)):Has w b off (tmp a d).cells.toList/\d < a.tmps.size:=by
 unfold erOk at hok;rw[ho,hd] at hok;simp only at hok
 have lt:∀ {i:Nat},σ.get i≠.dead->i < σ.n:=fun {i} hi=>by
  rcases cB i σ.n with h1 | h1
  ·exact h1
  ·exact absurd (get_out (dG.2 h1)) hi
 split at hok
 ·rename_i r p s hsx;split at hok
  ·rename_i r' p' s' hsd;simp only[aC] at hok;obtain ⟨⟨h1,h2,h3⟩,h4⟩:=hok;have e1:=cJ h1;have e2:=pathB_eq h4;subst e1;subst e2;have hx1:=h.slots x (lt (by rw[hsx];intro e;cases e));rw[hsx] at hx1;obtain ⟨pl,b',o',g1,g2,g3,_⟩:=hx1.2 h2;rw[hx] at g3;simp only[Value.pointer.injEq,aO,Addr.mk.injEq,eC] at g3;obtain ⟨rfl,rfl⟩:=g3;have hd1:=h.slots d (lt (by rw[hsd];intro e;cases e));rw[hsd] at hd1;obtain ⟨pl2,k1,k2,_⟩:=hd1.2 h3;rw[g1] at k1;injection k1 with k1;subst k1;have hr:=place_lt g1;have hpl:=g1;unfold place at hpl
   cases hR:rootPl w (tmp a r) (σ.get r) with
   | none=>rw[hR] at hpl;cases hpl
   | some R=>
    rw[hR] at hpl;simp only[aB] at hpl;obtain ⟨m,v,F1,q1,_,q2,_⟩:=rootPl_rep (h.slots r hr) hR;obtain ⟨z1,m',v',F',z2⟩:=plc_has p R.t q1 (fun b o e=>(q2 b o e).1) hpl;rw[k2,mkV_cells (Rep.length _ z2) (Rep.one _ z2)];exact ⟨z1 _ _ g2,by rw[h.size];exact lt (by rw[hsd];intro e;cases e)⟩
  ·cases hok
 ·rename_i tb mb Hb vb hsx;split at hok
  ·rename_i r' p' s' hsd;simp only[aC] at hok;obtain ⟨⟨h1,h3⟩,h4⟩:=hok;have e1:=cJ h1;have e2:=pathB_eq h4;subst e1;subst e2;have hd1:=h.slots d (lt (by rw[hsd];intro e;cases e));rw[hsd] at hd1;obtain ⟨pl2,k1,k2,_⟩:=hd1.2 h3;have hr:=place_lt k1;have hpl:=k1;unfold place at hpl
   cases hR:rootPl w (tmp a x) (σ.get x) with
   | none=>rw[hR] at hpl;cases hpl
   | some R=>
    rw[hR] at hpl;simp only[aB] at hpl;obtain ⟨m,v,F1,q1,_,q2,_⟩:=rootPl_rep (h.slots x hr) hR;obtain ⟨z1,m',v',F',z2⟩:=plc_has [] R.t q1 (fun b o e=>(q2 b o e).1) hpl;rw[k2,mkV_cells (Rep.length _ z2) (Rep.one _ z2)]
    have had:pl2.ad=some (b,off):=by
     rw[hsx,hx] at hR;simp only[rootPl,aO] at hR;subst hR;simp only[plc,aO] at hpl;subst hpl;rfl
    exact ⟨z1 _ _ had,by rw[h.size];exact lt (by rw[hsd];intro e;cases e)⟩
  ·cases hok
 ·cases hok
theorem quiet_of {rid i:Nat} {o:Oper} {K:St->Option R} (hk:stepK E rid i o σ K=some x) (hm:mayTurn o.op=false) (ht:tkOp E o.op=false):quiet E o.op=true:=by
 unfold stepK at hk;cases ho:o.op <;> rw[ho] at hk hm ht <;> first | rfl | (cases hm;done) | (cases ht;done) | (simp only[reduceCtorEq] at hk;done) | skip
theorem take_er (h:Rel0 P C A σ a w F) (hE:EnvOk P E) {rid i t x0:Nat} (hst:opOk P o.op=true) (ho:o.op=.load t (.tmp x0)) {K:St->Option R} (hk:stepK E rid i o σ K=some x) :
  ∃ b off v cs,tmp a x0=.pointer (some ⟨b,off,none⟩)/\Has w b off cs/\v.cells.toList=cs/\∀ w',Has w' b off cs->(execOp a.eval o).run P w'=.ok (.value v) w':=by
 unfold stepK at hk;simp only[ho] at hk;unfold loadK at hk;obtain ⟨T,hT,hk⟩:=tiK_some hk;have hlay:=hE.ti _ _ hT
 have run:∀ b off L,a.eval (.tmp x0)=.pointer (some ⟨b,off,none⟩)->L.length=T.sz->(∀ u ∈ L,u.oneCell'=true)->∀ w',Has w' b off L->(execOp a.eval o).run P w'=.ok (.value (mkV T L)) w':=fun b off L hy hl hone w' hL=>by
  simp[execOp,ho,hy,Instr.loadAt,Instr.sureAddr,run_loadVar hlay hL hl hone]
 rw[ho] at hst
 rcases opd_ok h (show opdOk P (.tmp x0)=true from hst) with hs | ⟨xs,e⟩
 rotate_left
 ·rw[e] at hk;cases hk
 split at hk
 ·rename_i t' v hv;rw[hv] at hs;split at hk
  ·rename_i e;subst e;obtain ⟨⟨b,off,sp⟩,h1,h2,L,h3,h4,h5⟩:=hs;simp only[cT,eC] at h1;simp only at h2;subst h2;exact ⟨b,off,mkV t' L,L,h1,fun j u hu=>(h4 j u hu).1,mkV_cells h3 (Ro.one _ h5),run b off L h1 h3 (Ro.one _ h5)⟩
  ·cases hk
 ·rename_i r p snap hv;rw[hv] at hs;split at hk
  ·rename_i hsn;obtain ⟨hr,t',m',H',v',cs',ad',F',h1,h2,h3,h4,h5,h6⟩:=at_ok h hk;obtain ⟨pl,b,off,g1,g2,g3,g4⟩:=hs.2 hsn;rw[h3] at g1;injection g1 with g1;subst g1;simp only at g2;subst g2;split at h1
   ·rename_i e;subst e;have hh:Has w b off cs':=by first | exact (h6 b off rfl).1 | exact h6 b off rfl | exact (h5 b off rfl).1 | exact h5 b off rfl
    exact ⟨b,off,mkV t' cs',cs',g3,hh,mkV_cells (Rep.length _ h4) (Rep.one _ h4),run b off cs' g3 (Rep.length _ h4) (Rep.one _ h4)⟩
   ·cases h1
  ·cases hk
 ·cases hk
structure Inv (P:Program) (E:Env) (ops:Array Oper) (pd:List Nat) (w0:World) (C:Ctx) (is:List Nat) (l:Array Bool) (f:Bool) (σ:St) (fuel:Nat) (A:Cells) (a:Act) (w:World) (X:FP) (F:Nat->FP) (D:List Nat) (L:Array Bool) (er:List (Nat×Nat)) (RC:List (Nat×Nat×Nat×Nat×List Value)):Prop where
 h:Rel P C A X σ a w F
 pf:PF P E ops A a w D X
 nd:D.Nodup
 dpd:∀ j ∈ D,j ∈ pd
 dl:∀ j ∈ D,l.getD j false=false
 dis:∀ j ∈ D,j ∈ is
 cov:∀ j ∈ pd,l.getD j false=true\/j ∈ is
 cnt:(is.filter fun k=>decide (k ∉ D)).length<=fuel
 cl:Closed .any ops L
 hS:(∀ d,dirty E ops d=true->L.getD d false=false)->Ext w0 w (fun _ _=>0)
 hf:f=true->w=w0/\pd=[]
 szl:l.size=ops.size
 szL:L.size=ops.size
 hL:∀ k,L.getD k false=true↔(l.getD k false=true\/k ∈ D)
 isn:is.Nodup
 cva:∀ k,k < ops.size->l.getD k false=true\/k ∈ is
 io:∀ k ∈ is,l.getD k false=false
 rc:∀ e ∈ RC,RE ops er L a w e
theorem getD_tf {l:Array Bool} {k:Nat} (h:k < l.size):l.getD k true=l.getD k false:=by simp[h]
theorem getD_set_iff {l:Array Bool} {i k:Nat} (hi:i < l.size):(l.setIfInBounds i true).getD k false=true↔(k=i\/l.getD k false=true):=by
 by_cases hk:i=k
 ·subst hk;simp[hi]
 ·rw[getD_set_ne false hk];constructor
  ·exact .inr
  ·rintro (h | h)
   ·exact absurd h.symm hk
   ·exact h
theorem filter_less {D:List Nat} {j:Nat} (hD:j ∉ D):∀ (is:List Nat),j ∈ is->(is.filter fun k=>decide (k ∉ j::D)).length+1<=(is.filter fun k=>decide (k ∉ D)).length:=by
 have hle:∀ (is:List Nat),(is.filter fun k=>decide (k ∉ j::D)).length<=(is.filter fun k=>decide (k ∉ D)).length:=by
  intro is
  induction is with
  | nil=>exact aK _
  | cons i is ih=>
   simp only[gP];by_cases h1:i ∈ D
   ·have h2:i ∈ j::D:=by simp[h1]
    simp only[h1,h2,eJ,aF,aD,aM];exact ih
   ·by_cases h2:i ∈ j::D
    ·simp only[h1,h2,eJ,eK,aF,aE,aD,aM,aH,aP];omega
    ·simp only[h1,h2,eK,aE,aH,aP];omega
 intro is
 induction is with
 | nil=>intro h;cases h
 | cons i is ih=>
  intro h;simp only[gP];by_cases hij:i=j
  ·subst hij;have h2:i ∈ i::D:=by simp
   simp only[hD,h2,eJ,eK,aF,aE,aD,aM,aH,aP];have:=hle is;omega
  ·have h3:j ∈ is:=by
    rcases aS.1 h with e | e
    ·exact absurd e.symm hij
    ·exact e
   have:=ih h3;by_cases h1:i ∈ D
   ·have h2:i ∈ j::D:=by simp[h1]
    simp only[h1,h2,eJ,aF,aD,aM];exact this
   ·have h2:i ∉ j::D:=by simp[h1,hij]
    simp only[h1,h2,eK,aE,aH,aP];omega
section
variable {ops:Array Oper} {pd:List Nat} {w0:World} {is:List Nat} {l L:Array Bool} {f:Bool} {fuel:Nat} {D:List Nat} {i:Nat} {er:List (Nat×Nat)} {RC:List (Nat×Nat×Nat×Nat×List Value)}
theorem Inv.ready_in (v:Inv P E ops pd w0 C is l f σ fuel A a w X F D L er RC) (hi:i ∈ Region.ready .any ops l) (hD:i ∉ D):i ∈ Region.ready .any ops L:=by
 obtain ⟨h0,o,ho,hall⟩:=mem_ready.1 hi;have hlt:i < ops.size:=(bN.1 ho).1;refine mem_ready.2 ⟨?_,o,ho,fun e he hb=>(v.hL _).2 (.inl (hall e he hb))⟩;rw[getD_tf (by rw[v.szL];exact hlt)];rw[getD_tf (by rw[v.szl];exact hlt)] at h0
 cases hh:L.getD i false with
 | false=>rfl
 | true=>
  rcases (v.hL i).1 hh with h1 | h1
  ·rw[h0] at h1;cases h1
  ·exact absurd h1 hD
theorem Inv.ready_out (v:Inv P E ops pd w0 C is l f σ fuel A a w X F D L er RC) {j:Nat} {S:List Nat} (hS:∀ k ∈ D,k ∈ S) (hj:j ∈ Region.ready .any ops L) (hjS:j ∉ S):j ∈ Region.ready .any ops (pdAdd l S):=by
 obtain ⟨h0,o,ho,hall⟩:=mem_ready.1 hj;have hlt:j < ops.size:=(bN.1 ho).1;refine mem_ready.2 ⟨?_,o,ho,fun e he hb=>?_⟩
 ·rw[getD_pdAdd,aY (fun h=>hjS h.1),getD_tf (by rw[v.szl];exact hlt)];rw[getD_tf (by rw[v.szL];exact hlt)] at h0
  cases hh:l.getD j false with
  | false=>rfl
  | true=>rw[(v.hL j).2 (.inl hh)] at h0;cases h0
 ·rw[getD_pdAdd];have h1:=hall e he hb;rcases (v.hL _).1 h1 with h2 | h2
  ·split
   ·rfl
   ·exact h2
  ·have hlt:e.on < L.size:=by
    rcases cB e.on L.size with h' | h'
    ·exact h'
    ·simp[dI h'] at h1
   rw[aV ⟨hS _ h2,by rw[v.szl,<- v.szL];exact hlt⟩]
theorem Inv.not_listed (v:Inv P E ops pd w0 C is l f σ fuel A a w X F D L er RC) {j:Nat} (h:L.getD j true=false):j ∉ D/\l.getD j false=false/\l.getD j true=false:=by
 have hlt:j < L.size:=by
  rcases cB j L.size with h' | h'
  ·exact h'
  ·simp[dI h'] at h
 rw[getD_tf hlt] at h
 have h1:l.getD j false=false:=by
  cases hh:l.getD j false with
  | false=>rfl
  | true=>rw[(v.hL j).2 (.inl hh)] at h;cases h
 have h2:j ∉ D:=fun hD=>by
  rw[(v.hL j).2 (.inr hD)] at h;cases h
 exact ⟨h2,h1,by rw[getD_tf (by rw[v.szl,<- v.szL];exact hlt)];exact h1⟩
theorem Inv.next (v:Inv P E ops pd w0 C (i::is) l f σ (fuel+1) A a w X F D L er RC) (hD:i ∉ D) (hr:i ∈ Region.ready .any ops L) {C2:Ctx} {f2:Bool} {σ2:St} {A2:Cells} {a2:Act} {w2:World} {F2:Nat->FP}
  (h2:Rel P C2 A2 X σ2 a2 w2 F2) (hp:PF P E ops A2 a2 w2 D X) (hS2:(∀ d,dirty E ops d=true->(L.setIfInBounds i true).getD d false=false)->Ext w0 w2 (fun _ _=>0)) (hf2:f2=true->w2=w0/\pd=[]) {RC2:List (Nat×Nat×Nat×Nat×List Value)} (hrc:∀ e ∈ RC2,RE ops er (L.setIfInBounds i true) a2 w2 e) :
  Inv P E ops pd w0 C2 is (l.setIfInBounds i true) f2 σ2 fuel A2 a2 w2 X F2 D (L.setIfInBounds i true) er RC2:=by
 obtain ⟨_,o,ho,_⟩:=mem_ready.1 hr;have hlt:i < ops.size:=(bN.1 ho).1;have hltl:i < l.size:=by rw[v.szl];exact hlt
 have hltL:i < L.size:=by rw[v.szL];exact hlt
 refine ⟨h2,hp,v.nd,v.dpd,fun j hj=>?_,fun j hj=>?_,fun j hj=>?_,?_,closed_set v.cl hr,hS2,hf2,by simpa using v.szl,by simpa using v.szL,fun k=>?_,(dP.1 v.isn).2,fun k hk=>?_,fun k hk=>?_,hrc⟩
 ·rw[getD_set_ne false (fun e=>by subst e;exact hD hj)];exact v.dl j hj
 ·rcases aS.1 (v.dis j hj) with e | e
  ·subst e;exact absurd hj hD
  ·exact e
 ·rcases v.cov j hj with h | h
  ·exact .inl ((getD_set_iff hltl).2 (.inr h))
  ·rcases aS.1 h with e | e
   ·exact .inl ((getD_set_iff hltl).2 (.inl e))
   ·exact .inr e
 ·have:=v.cnt;simp only[gP,hD,eK,aE,aH,aP] at this;omega
 ·rw[getD_set_iff hltL,getD_set_iff hltl,v.hL];exact or_assoc.symm
 ·rcases v.cva k hk with h | h
  ·exact .inl ((getD_set_iff hltl).2 (.inr h))
  ·rcases aS.1 h with e | e
   ·exact .inl ((getD_set_iff hltl).2 (.inl e))
   ·exact .inr e
 ·rw[getD_set_ne false (fun e=>by subst e;exact (dP.1 v.isn).1 hk)];exact v.io k (aR _ hk)
theorem Inv.virt (v:Inv P E ops pd w0 C (i::is) l f σ fuel A a w X F D L er RC) (hD:i ∈ D) (his:i ∉ is) {σ2:St} {X2:FP} {F2:Nat->FP} (h2:Rel P C A X2 σ2 a w F2) (hp:PF P E ops A a w (D.erase i) X2) :
  Inv P E ops pd w0 C is (l.setIfInBounds i true) f σ2 fuel A a w X2 F2 (D.erase i) L er RC:=by
 have hltL:i < L.size:=by
  have h1:=(v.hL i).2 (.inr hD);rcases cB i L.size with h' | h'
  ·exact h'
  ·simp[dI h'] at h1
 have hltl:i < l.size:=by rw[v.szl,<- v.szL];exact hltL
 have hme:∀ k,k ∈ D.erase i↔k≠i/\k ∈ D:=fun k=>v.nd.mem_erase_iff;refine ⟨h2,hp,v.nd.erase _,fun j hj=>v.dpd j ((hme j).1 hj).2,fun j hj=>?_,fun j hj=>?_,fun j hj=>?_,?_,v.cl,v.hS,v.hf,by simpa using v.szl,v.szL,fun k=>?_,(dP.1 v.isn).2,fun k hk=>?_,fun k hk=>?_,v.rc⟩
 ·obtain ⟨h3,h4⟩:=(hme j).1 hj;rw[getD_set_ne false (fun e=>h3 e.symm)];exact v.dl j h4
 ·obtain ⟨h3,h4⟩:=(hme j).1 hj;rcases aS.1 (v.dis j h4) with e | e
  ·exact absurd e h3
  ·exact e
 ·rcases v.cov j hj with h | h
  ·exact .inl ((getD_set_iff hltl).2 (.inr h))
  ·rcases aS.1 h with e | e
   ·exact .inl ((getD_set_iff hltl).2 (.inl e))
   ·exact .inr e
 ·have:=v.cnt;simp only[gP,hD,eJ,aF,aD,aM] at this;refine bK (jK (dF List.length (List.filter_congr fun k hk=>?_))) this;have:k≠i:=fun e=>by subst e;exact his hk
  simp only[hme,this,ne_eq,eK,dZ]
 ·rw[v.hL,getD_set_iff hltl,hme];constructor
  ·rintro (h | h)
   ·exact .inl (.inr h)
   ·by_cases hk:k=i
    ·exact .inl (.inl hk)
    ·exact .inr ⟨hk,h⟩
  ·rintro ((h | h) | h)
   ·subst h;exact .inr hD
   ·exact .inl h
   ·exact .inr h.2
 ·rcases v.cva k hk with h | h
  ·exact .inl ((getD_set_iff hltl).2 (.inr h))
  ·rcases aS.1 h with e | e
   ·exact .inl ((getD_set_iff hltl).2 (.inl e))
   ·exact .inr e
 ·rw[getD_set_ne false (fun e=>by subst e;exact his hk)];exact v.io k (aR _ hk)
theorem unl {j:Nat} (hlt:j < L.size) {k:Nat} (hu:(L.setIfInBounds j true).getD k false=false):L.getD k false=false:=by
 cases hl:L.getD k false with
 | false=>rfl
 | true=>rw[(getD_set_iff hlt).2 (.inr hl)] at hu;cases hu
theorem Inv.keep (v:Inv P E ops pd w0 C is l f σ fuel A a w X F D L er RC) (hes:erStat E ops pd er=true) {j:Nat} {o':Oper} (hj:ops[j]?=some o') (hun:L.getD j false=false) {a2:Act} {w2:World}
  (ht:∀ d,o'.dst≠some d->tmp a2 d=tmp a d) (hh:∀ e ∈ RC,Act0 ops (L.setIfInBounds j true) e.2.1->Has w2 e.2.2.1 e.2.2.2.1 e.2.2.2.2):∀ e ∈ RC,RE ops er (L.setIfInBounds j true) a2 w2 e:=by
 intro e he;obtain ⟨h1,h2,o,t,x,d,h3,h4,h5,h6,h7,h8⟩:=v.rc e he;obtain ⟨_,_,o1,t1,x1,d1,g1,_,g2,g3,_,g4⟩:=erStat_spec hes h1;rw[h3] at g1;injection g1 with g1;subst g1;rw[h4] at g2;injection g2 with _ g2;injection g2 with g2;subst g2;rw[h5] at g3;injection g3 with g3;subst g3;have hne:j≠e.1:=fun e'=>by rw[e'] at hun;rw[h2] at hun;cases hun
 obtain ⟨k1,k2⟩:=g4 j o' hj hne
 have k3:o'.dst≠some x:=fun e'=>by
  have:=anc_closed v.cl _ _ _ (k2 e') h2;rw[this] at hun;cases hun
 exact ⟨h1,by rw[getD_set_ne false hne];exact h2,o,t,x,d,h3,h4,h5,by rw[ht x k3];exact h6,by rw[ht d k1];exact h7,hh e he⟩
theorem Inv.still (v:Inv P E ops pd w0 C (i::is) l f σ fuel A a w X F D L er RC) (hes:erStat E ops pd er=true) {rid:Nat} (her:ersOf E.er rid=er) {o':Oper} (hj:ops[i]?=some o') (hun:L.getD i false=false) {C2:Ctx} {A2:Cells} {X2:FP} {σ2:St} {a2:Act} {w2:World} {F2:Nat->FP} (h2:Rel P C2 A2 X2 σ2 a2 w2 F2)
  (ht:∀ d,o'.dst≠some d->tmp a2 d=tmp a d) (hext:mayTurn o'.op=false->Ext w w2 (fun _ _=>0)) (hchk:erChk E rid ops.toList i o' is σ2=true):∀ e ∈ RC,Act0 ops (L.setIfInBounds i true) e.2.1->Has w2 e.2.2.1 e.2.2.2.1 e.2.2.2.2:=by
 intro e he hu;obtain ⟨g1,g2,o,t,x,d,g3,g4,g5,g6,g7,g8⟩:=v.rc e he;have hltL:i < L.size:=by rw[v.szL];exact (bN.1 hj).1
 have huL:Act0 ops L e.2.1:=hu.imp id fun hu=>by
  cases hl:L.getD e.2.1 false with
  | false=>rfl
  | true=>rw[(getD_set_iff hltL).2 (.inr hl)] at hu;cases hu
 cases hm:mayTurn o'.op with
 | false=>exact (g8 huL).ext (hext hm)
 | true=>
  simp only[erChk,hm,fX,aQ,eN,erAll,her,cC] at hchk;have:=hchk _ g1;obtain ⟨hpd,hu2,o1,t1,x1,d1,k1,_,k2,k3,_,k4⟩:=erStat_spec hes g1;rw[g3] at k1;injection k1 with k1;subst k1;rw[g4] at k2;injection k2 with _ k2;injection k2 with k2;subst k2;rw[g5] at k3;injection k3 with k3;subst k3;have hne:i≠e.1:=fun e'=>by rw[e'] at hun;rw[g2] at hun;cases hun
  have hl:l.getD e.1 false=true:=((v.hL e.1).1 g2).resolve_right fun hD=>hpd (v.dpd _ hD)
  have hnis:is.any (Nat.beq e.1)=false:=by
   cases hb:is.any (Nat.beq e.1) with
   | false=>rfl
   | true=>
    have:=v.io e.1 (aR _ (mem_any.1 hb));rw[hl] at this;cases this
  have hact:(is.any (Nat.beq e.2.1)||Nat.ble ops.toList.length e.2.1)=true:=by
   rcases cB e.2.1 ops.size with h9 | h9
   ·have huL2:=huL.resolve_left (by omega)
    have hui:e.2.1≠i:=fun e'=>by
     have:=hu.resolve_left (by omega);rw[(getD_set_iff hltL).2 (.inl e')] at this;cases this
    rcases v.cva _ h9 with h10 | h10
    ·rw[(v.hL _).2 (.inl h10)] at huL2;cases huL2
    ·rcases aS.1 h10 with h11 | h11
     ·exact absurd h11 hui
     ·rw[mem_any.2 h11,fX]
   ·have:Nat.ble ops.toList.length e.2.1=true:=by simpa using h9
    rw[this,Bool.or_true]
  rw[hnis,hact,aQ,eN,eN,cZ,g3] at this;simp only at this;obtain ⟨q1,q2⟩:=k4 i o' hj hne
  have q3:o'.dst≠some x:=fun e'=>by
   have:=anc_closed v.cl _ _ _ (q2 e') g2;rw[this] at hun;cases hun
  have hx:tmp a2 x=.pointer (some ⟨e.2.2.1,e.2.2.2.1,none⟩):=by rw[ht x q3];exact g6
  obtain ⟨z1,z2⟩:=er_has h2 this g4 g5 hx;rw[ht d q1,g7] at z1;exact z1
theorem Inv.early (hE:EnvOk P E) (hps:pdStat E ops pd=true) {rid:Nat} (hpd:liveOf E.pd rid=pd) (hes:erStat E ops pd er=true) (hall:pdAll E rid ops.toList is σ=true) (hC:∀ b i,C.A0 b i->C.F0 b i=0)
  (v:Inv P E ops pd w0 C is l f σ (fuel+1) A a w X F D L er RC) {j:Nat} (hj:j ∈ pd) (hr:j ∈ Region.ready .any ops L) {S:Array Bool->World->Prop}
  (hS:∀ w',Ext w w' (fun _ _=>0)->((∀ d,dirty E ops d=true->(L.setIfInBounds j true).getD d false=false)->Ext w0 w' (fun _ _=>0))->S (L.setIfInBounds j true) w')
  (next:∀ (a':Act) (w':World) (X':FP),Inv P E ops pd w0 C is l f σ fuel A a' w' X' F (j::D) (L.setIfInBounds j true) er RC->wpAnyL P .any ops Q S fuel (L.setIfInBounds j true) a' w') :
  wpOp P ops Q j (fun a' w'=>S (L.setIfInBounds j true) w'/\wpAnyL P .any ops Q S fuel (L.setIfInBounds j true) a' w') a w:=by
 obtain ⟨o,d,s,ho,hg,hd,hs,hne⟩:=pdStat_spec hps hj;have hltL:j < L.size:=by rw[v.szL];exact (bN.1 ho).1
 obtain ⟨hjD,hjl,_⟩:=v.not_listed (mem_ready.1 hr).1;have hjis:j ∈ is:=(v.cov j hj).resolve_left (by rw[hjl];simp)
 have hok:pdOk σ d=true:=by
  unfold pdAll at hall;rw[hpd] at hall;have:=cC.1 hall j hj;rw[cZ,ho,mem_any.2 hjis] at this
  simpa [hd] using this
 obtain ⟨val,w',Fj,hrun,hext,h2,hPS⟩:=early_ok (o:=o) v.h hE.ti hs hok
 have hS':(∀ d,dirty E ops d=true->(L.setIfInBounds j true).getD d false=false)->Ext w0 w' (fun _ _=>0):=fun hdd=>(v.hS fun d' hd'=>by
  cases hh:L.getD d' false with
  | false=>rfl
  | true=>rw[<-hdd d' hd',(getD_set_iff hltL).2 (.inr hh)]).trans hext (fun _ _ _ _=>rfl)
 have hw:Region.wanted o (yielded ops a.tmps)=true:=by simp[Region.wanted,hg]
 unfold wpOp;simp only[ho,hw,aH];refine .inl (wp_val hrun ⟨hS w' hext hS',?_⟩);rw[hd];have hdn:d < σ.n:=(pdOk_spec hok).1
 refine next _ _ (fun b i=>X b i+Fj b i) ⟨h2,⟨o,d,s,Fj,X,ho,hd,hs,?_,fun b i=>aK _,?_⟩,dP.2 ⟨hjD,v.nd⟩,?_,?_,?_,v.cov,?_,closed_set v.cl hr,hS',fun hf=>?_,v.szl,by simpa using v.szL,fun k=>?_,v.isn,v.cva,v.io,v.keep hes ho (by have:=(mem_ready.1 hr).1;rw[getD_tf hltL] at this;exact this) (fun d' hd'=>by rw[tmp_put,aY (fun e=>hd' (by rw[hd,e.1]))]) (fun e he hu=>by
  obtain ⟨_,_,_,_,_,_,_,_,_,_,_,q⟩:=v.rc e he
  exact (q (hu.imp id fun hu=>unl hltL hu)).ext hext)⟩
 ·have:tmp (a.put (some d) val) d=val:=by rw[tmp_put,v.h.size,aV ⟨rfl,hdn⟩]
  rw[this];exact hPS
 ·refine PF.pres (fun _ _ h=>h) (fun b i ha u hu=>hext.cell b i (ce_lt hu) rfl u hu) hext.blk D (fun k hk o' d' ho' hd'=>?_) (fun b i hp=>⟨fun u hu=>hext.cell b i (ce_lt hu) rfl u hu,hext.froz b i (v.h.bnd b i (.inl (by omega)))⟩) v.pf;have:d'≠d:=fun e=>hne k o' ho' (fun e'=>by subst e';exact hjD hk) (by rw[hd',e]);rw[tmp_put,aY (fun h=>this h.1.symm)]
 ·intro k hk;rcases aS.1 hk with e | e
  ·subst e;exact hj
  ·exact v.dpd k e
 ·intro k hk;rcases aS.1 hk with e | e
  ·subst e;exact hjl
  ·exact v.dl k e
 ·intro k hk;rcases aS.1 hk with e | e
  ·subst e;exact hjis
  ·exact v.dis k e
 ·have:=filter_less hjD is hjis;have:=v.cnt;omega
 ·have:=(v.hf hf).2;rw[this] at hj;cases hj
 ·rw[getD_set_iff hltL,v.hL,aS];constructor
  ·rintro (h | h | h)
   ·exact .inr (.inl h)
   ·exact .inl h
   ·exact .inr (.inr h)
  ·rintro (h | h | h)
   ·exact .inr (.inl h)
   ·exact .inl h
   ·exact .inr (.inr h)
theorem drawGo_ok (hE:EnvOk P E) {rid:Nat} (hst:∀ o ∈ ops.toList,opOk P o.op=true) {K:St->Option R} (hP:∀ c a w,¬ Q (.panic c) a w) (hsel:Region.noSelect ops=true) (hps:pdStat E ops pd=true) (hpd:liveOf E.pd rid=pd) {er:List (Nat×Nat)} (her:ersOf E.er rid=er) (hes:erStat E ops pd er=true) :
  ∀ (is:List Nat) (l:Array Bool) (f:Bool) {C:Ctx} {σ:St},(∀ a w,Nx P C K x a w->Q .normal a w)->(∀ b i,C.A0 b i->C.F0 b i=0)->drawGo E rid ops pd is l f=true->ordK E rid ops.toList is σ K=some x ->
   ∀ (fuel:Nat) {A:Cells} {a:Act} {w:World} {X:FP} {F:Nat->FP} {D:List Nat} {L:Array Bool} {RC:List (Nat×Nat×Nat×Nat×List Value)},Inv P E ops pd w0 C is l f σ fuel A a w X F D L er RC->wpAnyL P .any ops Q (SD E ops w0 C RC) fuel L a w:=by
 intro is
 induction is with
 | nil=>
  intro l f C σ hQ hC hg hk fuel A a w X F D L RC v;simp only[drawGo,bJ] at hg
  have hD:D=[]:=by
   cases D with
   | nil=>rfl
   | cons j D=>have:=v.dis j (by simp);cases this
  subst hD
  have hr:Region.ready .any ops L=[]:=by
   rw[List.eq_nil_iff_forall_not_mem];intro j hj;have:=v.ready_out (S:=[]) (fun _ h=>h) hj (by simp);rw[pdAdd,hg] at this;cases this
  have hq:=hQ a w ⟨σ,hk,A,F,v.h.less fun _ _=>aW _⟩
  cases fuel with
  | zero=>exact ⟨hr,hq⟩
  | succ fuel=>exact ⟨fun _=>hq,by rw[hr];simp⟩
 | cons i is ih=>
  intro l f C σ hQ hC hg hk;simp only[ordK] at hk;split at hk
  ·cases hk
  rename_i hall;simp only[drawGo] at hg
  cases hi:ops[i]? with
  | none=>rw[hi] at hg;cases hg
  | some o=>
  rw[cZ,hi] at hk;rw[hi] at hg;simp only at hk hg;have hilt:i < ops.size:=(bN.1 hi).1;have hmem:o ∈ ops.toList:=bW (i:=i) (by simpa using hi)
  have virt:∀ (fuel:Nat) {A:Cells} {a:Act} {w:World} {X:FP} {F:Nat->FP} {D:List Nat} {L:Array Bool} {RC:List (Nat×Nat×Nat×Nat×List Value)},Inv P E ops pd w0 C (i::is) l f σ fuel A a w X F D L er RC->i ∈ D->wpAnyL P .any ops Q (SD E ops w0 C RC) fuel L a w:=by
   intro fuel A a w X F D L RC v hD;have hip:=v.dpd i hD;rw[mem_any.2 hip] at hg;simp only[aC,cN] at hg;obtain ⟨⟨⟨his,_⟩,_⟩,hg⟩:=hg;have his:i ∉ is:=fun hm=>by rw[mem_any.2 hm] at his;cases his
   obtain ⟨o',d',s',ho',hgd,hd',hs',_⟩:=pdStat_spec hps hip;rw[hi] at ho';injection ho' with ho';subst ho';obtain ⟨o2,d,s,Fi,X',g1,g2,g3,g4,g5,g6⟩:=PF.take D hD v.pf;rw[hi] at g1;injection g1 with g1;subst g1;simp only[guardK,hgd] at hk;split at hk
   ·cases hk
   rw[stepK_pd g3,g2] at hk;split at hk;rotate_left
   ·cases hk
   obtain ⟨F2,h2⟩:=v.h.putD (some d) g4.slot g5 g4.whole;rw[put_self] at h2;exact ih _ f hQ hC hg hk fuel (v.virt hD his h2 g6)
  intro fuel
  induction fuel with
  | zero=>
   intro A a w X F D L RC v;by_cases hD:i ∈ D
   ·exact virt 0 v hD
   ·have:=v.cnt;simp[gP,hD] at this
  | succ fuel ihf=>
  intro A a w X F D L RC v;by_cases hD:i ∈ D
  ·exact virt _ v hD
  have hRC:∀ e ∈ RC,Act0 ops L e.2.1->Has w e.2.2.1 e.2.2.2.1 e.2.2.2.2:=fun e he=>by obtain ⟨_,_,_,_,_,_,_,_,_,_,_,q⟩:=v.rc e he;exact q
  have hSDx:∀ w',Ext w w' (fun _ _=>0)->∀ (l':Array Bool),(∀ k,l'.getD k false=false->L.getD k false=false)->((∀ d,dirty E ops d=true->l'.getD d false=false)->Ext w0 w' (fun _ _=>0))->SD E ops w0 C RC l' w':=fun w' hw' l' hl' hh=>⟨hh,(fun b i ha u hu=>by
   have:=v.h.ext.cell b i (ce_lt hu) (hC b i ha) u hu
   exact hw'.cell b i (ce_lt this) rfl u this),fun e he hu=>(hRC e he (hu.imp id (hl' _))).ext hw'⟩
  have hearly:∀ j,j ∈ pd->j ∈ Region.ready .any ops L->wpOp P ops Q j (fun a' w'=>SD E ops w0 C RC (L.setIfInBounds j true) w'/\wpAnyL P .any ops Q (SD E ops w0 C RC) fuel (L.setIfInBounds j true) a' w') a w:=fun j hj hr=>
   v.early hE hps hpd hes hall hC hj hr (fun w' hw' hh=>hSDx w' hw' _ (fun k hk=>unl (by rw[v.szL];obtain ⟨_,oj,hoj,_⟩:=mem_ready.1 hr;exact (bN.1 hoj).1) hk) hh) (fun a' w' X' v'=>ihf v')
  have hSD0:SD E ops w0 C RC L w:=⟨v.hS,(fun b i ha u hu=>v.h.ext.cell b i (ce_lt hu) (hC b i ha) u hu),hRC⟩
  cases hpi:pd.any (Nat.beq i) with
  | true=>
   rw[hpi] at hg;simp only[aC,cN,cC] at hg;obtain ⟨⟨⟨his,hrd⟩,hchk⟩,hg⟩:=hg;have hrdy:i ∈ Region.ready .any ops L:=v.ready_in (by simpa using hrd) hD;refine ⟨fun h0=>(by rw[h0] at hrdy;cases hrdy),fun j hj=>hearly j ?_ hj⟩
   by_cases hjS:j ∈ pd.filter (fun j=>!Nat.beq i j)
   ·exact (List.mem_filter.1 hjS).1
   ·refine mem_any.1 (hchk j (v.ready_out (fun k hk=>List.mem_filter.2 ⟨v.dpd k hk,?_⟩) hj hjS))
    cases hb:Nat.beq i k with
    | false=>rfl
    | true=>rw[cJ hb] at hD;exact absurd hk hD
  | false=>
  rw[hpi] at hg;simp only at hg;have hipd:i ∉ pd:=fun hm=>by rw[mem_any.2 hm] at hpi;cases hpi
  have hdst:∀ j ∈ D,∀ o' d,ops[j]?=some o'->o'.dst=some d->o.dst≠some d:=fun j hj o' d ho' hd'=>by
   obtain ⟨o2,d2,s2,g1,_,g2,_,g3⟩:=pdStat_spec hps (v.dpd j hj);rw[ho'] at g1;injection g1 with g1;subst g1;rw[hd'] at g2;injection g2 with g2;subst g2;exact g3 i o hi (fun e=>by subst e;exact hD hj)
  obtain ⟨b,σ1,hk,h1,hw⟩:=guard_ok v.h hk
  have hk':(match (generalizing:=false) b with
    | true=>stepK E rid i o σ1 fun σ=>match erChk E rid ops.toList i o is σ with
     | true=>ordK E rid ops.toList is σ K
     | false=>none
    | false=>ordK E rid ops.toList is (σ1.putD o.dst (.tup [])) K)=some x/\(b=true->arIn E rid i=true->arOk σ1 o=true):=by
   cases b with
   | true=>
    simp only at hk
    cases hn:(arIn E rid i&&!arOk σ1 o) with
    | true=>rw[hn] at hk;cases hk
    | false=>
     rw[hn] at hk;exact ⟨hk,fun _ har=>by rw[har] at hn;simpa using hn⟩
   | false=>exact ⟨hk,fun e=>by cases e⟩
  obtain ⟨hk,hark⟩:=hk'
  have hput:∀ (val:Value),∀ j ∈ D,∀ o' d,ops[j]?=some o'->o'.dst=some d->tmp (a.put o.dst val) d=tmp a d:=fun val j hj o' d ho' hd'=>by
   have:=hdst j hj o' d ho' hd'
   cases hod:o.dst with
   | none=>rfl
   | some e=>rw[tmp_put,aY (fun h=>this (by rw[hod,h.1]))]
  split at hg
  ·rename_i hcond;simp only[aC,cW,cN,cC,dC] at hcond;obtain ⟨htk,⟨hfree,hready⟩,hrd⟩:=hcond;have hrdy:i ∈ Region.ready .any ops L:=v.ready_in (by simpa using hready) hD;have hfreeL:∀ j oj,ops[j]?=some oj->j≠i->L.getD j true=false->(∀ e ∈ oj.after,Region.binds .any e=true->e.on≠i)->o.apart ops oj=true:=fun j oj hoj hji hun hno=>Region.free_spec hi hfree j oj hoj hji (v.not_listed hun).2.2 hno;have hnd:dirty E ops i=false:=by simp[dirty,hi,htk]
   have hdd:∀ (l':Array Bool),(∀ d,dirty E ops d=true->(l'.setIfInBounds i true).getD d false=false)↔∀ d,dirty E ops d=true->l'.getD d false=false:=fun l'=>by
    constructor
    ·intro hh d hd;have:=hh d hd;rw[getD_set_ne false (fun e=>by subst e;rw[hnd] at hd;cases hd)] at this;exact this
    ·intro hh d hd;rw[getD_set_ne false (fun e=>by subst e;rw[hnd] at hd;cases hd)];exact hh d hd
   have hSD:∀ (C:Ctx) (RC:List (Nat×Nat×Nat×Nat×List Value)),(∀ e ∈ RC,(e.1,e.2.1) ∈ er)->∀ l w,SD E ops w0 C RC (l.setIfInBounds i true) w↔SD E ops w0 C RC l w:=fun C RC hin l' w'=>by
    unfold SD;rw[hdd];refine and_congr jQ (and_congr jQ (forall_congr' fun e=>forall_congr' fun he=>?_))
    have hne:i≠e.2.1:=fun e'=>by
     rcases (erStat_spec hes (hin e he)).2.1 with h | ⟨h,_⟩
     ·omega
     ·rw[<-e',hnd] at h;cases h
    unfold Act0;rw[getD_set_ne false hne]
   have hin:∀ e ∈ RC,(e.1,e.2.1) ∈ er:=fun e he=>(v.rc e he).1
   have hActS:∀ {l':Array Bool} {u:Nat},(∃ j,(j,u) ∈ er)->(Act0 ops (l'.setIfInBounds i true) u->Act0 ops l' u):=fun {l' u} ⟨j,hj⟩ hu=>by
    have hne:i≠u:=fun e'=>by
     rcases (erStat_spec hes hj).2.1 with h | ⟨h,_⟩
     ·omega
     ·rw[<-e',hnd] at h;cases h
    unfold Act0 at hu ⊢
    rwa [getD_set_ne false hne] at hu
   have hS1:(∀ d,dirty E ops d=true->(L.setIfInBounds i true).getD d false=false)->Ext w0 w (fun _ _=>0):=fun hd=>v.hS ((hdd L).1 hd)
   have hunL:L.getD i false=false:=by
    have h0:=(mem_ready.1 hrdy).1;rw[getD_tf (by rw[v.szL];exact hilt)] at h0;exact h0
   have hkeep:∀ (val:Value),∀ e ∈ RC,RE ops er (L.setIfInBounds i true) (a.put o.dst val) w e:=fun val=>v.keep hes hi hunL (fun d hd=>by
    cases ho:o.dst with
    | none=>rfl
    | some d'=>rw[tmp_put,aY (fun e=>hd (by rw[ho,e.1]))]) (fun e he hu=>hRC e he (hActS ⟨_,hin e he⟩ hu))
   cases b with
   | true=>
    simp only at hk
    cases hari:arIn E rid i with
    | true=>
     obtain ⟨C',c1,c2,c3,c4,c5⟩:=h1.rebaseX;obtain ⟨C1,f1,f2⟩:=c4.frame;obtain ⟨val,hrun,σ2,hk2,A2,F2,h2⟩:=take_ar f1 hE (hst o hmem) htk (hark rfl hari) hk;simp only at hk2;split at hk2;rotate_left
     ·cases hk2
     have hC':∀ b i,C'.A0 b i->C'.F0 b i=0:=fun b i ha=>c3 b i (by rw[<-c2];exact ha);obtain ⟨e1,e2,e3,e4,e5⟩:=f2 h2
     refine wpAnyL_mono (S:=SD E ops w0 C' RC) (fun l' w' hs=>⟨hs.1,(fun b i ha u hu=>hs.2.1 b i (by rw[c2];exact h1.a0 b i ha) u (by rw[c1];exact h1.ext.cell b i (ce_lt hu) (hC b i ha) u hu)),hs.2.2⟩) _ _ _ _
      (wpAnyL_first hi (Region.noSelect_spec hsel) (fun c a w hq=>(hP c _ _ hq).elim) (hSD C' RC hin) fuel L a w hfreeL hrdy v.cl (.inl ⟨hw,fun w' hS'=>hrun w' fun b i ha u hu=>?_⟩) ⟨v.hS,(fun b i ha u hu=>by rw[c1] at hu;exact hu),hRC⟩
      (ih _ f (fun a w ⟨σ3,q1,A3,F3,q2⟩=>hQ a w ⟨σ3,q1,A3,F3,c5 q2⟩) hC' hg hk2 fuel (v.next hD hrdy e1 (PF.pres e2 e3 e4 D (hput val) e5 v.pf) hS1 v.hf (hkeep val))))
     obtain ⟨l',hc',hun,hS'⟩:=hS';exact hS'.2.1 b i (by rw[c2];exact ha) u (by rw[c1];exact hu)
    | false=>
    cases heri:erIn E rid i with
    | true=>
     obtain ⟨u,himem⟩:∃ u,(i,u) ∈ er:=by
      unfold erIn at heri;rw[her] at heri;obtain ⟨e,he1,he2⟩:=fU.1 heri;rw[cJ he2];exact ⟨e.2,he1⟩
     obtain ⟨_,hu0,o1,t1,x1,d1,g1,_,g2,g3,g4,_⟩:=erStat_spec hes himem;rw[hi] at g1;injection g1 with g1;subst g1;obtain ⟨C1,f1,f2⟩:=h1.frame;obtain ⟨b0,off,val0,cs,q1,q2,q3,q4⟩:=take_er f1 hE (hst o hmem) g2 hk;obtain ⟨val,hrun,σ2,hk2,A2,F2,h2⟩:=tk_ok hE f1 (hst o hmem) htk hk
     have hval:val=val0:=by
      have r1:=hrun w fun _=>Ext.refl _ _;have r2:=q4 w q2;rw[r1] at r2;injection r2 with r2 _;injection r2
     subst hval;simp only at hk2;split at hk2;rotate_left
     ·cases hk2
     rename_i hchk2;obtain ⟨e1,e2,e3,e4,e5⟩:=f2 h2
     have hnew:RE ops er (L.setIfInBounds i true) (a.put o.dst val) w (i,u,b0,off,cs):=by
      refine ⟨himem,(getD_set_iff (by rw[v.szL];exact hilt)).2 (.inl rfl),o,t1,x1,d1,hi,g2,g3,?_,?_,fun _=>q2⟩
      ·rw[g3,tmp_put,aY (fun e=>g4 e.1.symm)];exact q1
      ·simp only[erChk,heri,Bool.or_true,aQ,eN,erAll,her,cC] at hchk2;have h9:=hchk2 _ himem
       have hnis:is.any (Nat.beq i)=false:=by
        cases hb:is.any (Nat.beq i) with
        | false=>rfl
        | true=>exact absurd (mem_any.1 hb) (dP.1 v.isn).1
       have hact:(is.any (Nat.beq u)||Nat.ble ops.toList.length u)=true:=by
        rcases cB u ops.size with k1 | k1
        ·obtain ⟨k2,_,k3⟩:=hu0.resolve_left (by omega);rcases v.cva u k1 with k4 | k4
         ·have k5:=(v.hL u).2 (.inl k4);have:=anc_closed v.cl _ _ _ k3 k5;rw[hunL] at this;cases this
         ·rcases aS.1 k4 with k5 | k5
          ·rw[k5,hnd] at k2;cases k2
          ·rw[mem_any.2 k5,fX]
        ·have:Nat.ble ops.toList.length u=true:=by simpa using k1
         rw[this,Bool.or_true]
       rw[hnis,hact,aQ,eN,eN,cZ,hi] at h9;simp only at h9;have h10:=(er_has h2 h9 g2 g3 (b:=b0) (off:=off) (by rw[g3,tmp_put,aY (fun e=>g4 e.1.symm)];exact q1)).2;rw[g3] at h10 ⊢;rw[tmp_put,aV ⟨rfl,by simpa [Act.put] using h10⟩];exact q3
     refine wpAnyL_mono (S:=SD E ops w0 C ((i,u,b0,off,cs)::RC)) (fun l' w' hs=>⟨hs.1,hs.2.1,fun e he=>hs.2.2 e (aR _ he)⟩) _ _ _ _
      (wpAnyL_first hi (Region.noSelect_spec hsel) (fun c a w hq=>(hP c _ _ hq).elim) (hSD C _ (fun e he=>by rcases aS.1 he with rfl | he;exact himem;exact hin e he)) fuel L a w hfreeL hrdy v.cl (.inl ⟨hw,fun w' hS'=>?_⟩) ⟨hSD0.1,hSD0.2.1,fun e he hu=>?_⟩
      (ih _ f hQ hC hg hk2 fuel (v.next hD hrdy e1 (PF.pres e2 e3 e4 D (hput val) e5 v.pf) hS1 v.hf (fun e he=>?_))))
     ·obtain ⟨l',hc',hun,hS'⟩:=hS';refine q4 w' (hS'.2.2 _ bB ?_)
      rcases hu0 with k1 | ⟨_,_,k3⟩
      ·exact .inl k1
      ·right;show l'.getD u false=false
       cases hld:l'.getD u false with
       | false=>rfl
       | true=>
        have:=anc_closed hc' _ _ _ k3 hld;rcases cB i l'.size with h' | h'
        ·simp[h'] at this hun;rw[hun] at this;cases this
        ·simp[dI h'] at this
     ·rcases aS.1 he with rfl | he
      ·exact q2
      ·exact hRC e he hu
     ·rcases aS.1 he with rfl | he
      ·exact hnew
      ·exact hkeep val e he
    | false=>
    obtain ⟨C1,f1,f2⟩:=h1.frame;obtain ⟨val,hrun,σ2,hk2,A2,F2,h2⟩:=tk_ok hE f1 (hst o hmem) htk hk;simp only at hk2;split at hk2;rotate_left
    ·cases hk2
    obtain ⟨e1,e2,e3,e4,e5⟩:=f2 h2;refine wpAnyL_first hi (Region.noSelect_spec hsel) (fun c a w hq=>(hP c _ _ hq).elim) (hSD C RC hin) fuel L a w hfreeL hrdy v.cl (.inl ⟨hw,fun w' hS'=>hrun w' fun hr=>?_⟩) hSD0 (ih _ f hQ hC hg hk2 fuel (v.next hD hrdy e1 (PF.pres e2 e3 e4 D (hput val) e5 v.pf) hS1 v.hf (hkeep val)))
    rcases hrd with ((hrd | hrd) | hrd) | ⟨hfr,hanc⟩
    ·rw[hr] at hrd;cases hrd
    ·rw[hari] at hrd;cases hrd
    ·rw[heri] at hrd;cases hrd
    ·rw[(v.hf hfr).1];obtain ⟨l',hc',hun,hS'⟩:=hS';refine hS'.1 fun d hd=>?_
     have hdl:d < ops.size:=by
      unfold dirty at hd;split at hd
      ·rename_i od hod;exact (bN.1 hod).1
      ·cases hd
     rcases hanc d hdl with hh | hh
     ·rw[hd] at hh;cases hh
     ·cases hld:l'.getD d false with
      | false=>rfl
      | true=>
       have:=anc_closed hc' _ _ _ hh hld;rcases cB i l'.size with h' | h'
       ·simp[h'] at this hun;rw[hun] at this;cases this
       ·simp[dI h'] at this
   | false=>
    obtain ⟨F2,h2⟩:=skip_ok h1 o;exact wpAnyL_first hi (Region.noSelect_spec hsel) (fun c a w hq=>(hP c _ _ hq).elim) (hSD C RC hin) fuel L a w hfreeL hrdy v.cl (v:=undef) (.inr ⟨hw,rfl⟩) hSD0 (ih _ f hQ hC hg hk fuel (v.next hD hrdy h2 (PF.pres (fun _ _ h=>h) (fun _ _ _ _ h=>h) (fun _ _ h=>h) D (hput undef) (fun _ _ _=>⟨fun _ h=>h,rfl⟩) v.pf) hS1 v.hf (hkeep undef)))
  ·simp only[aC,cC] at hg;obtain ⟨⟨hready,hchk⟩,hg⟩:=hg;have hrdy:i ∈ Region.ready .any ops L:=v.ready_in (by simpa using hready) hD;have hiltL:i < L.size:=by rw[v.szL];exact hilt
   have hunL:L.getD i false=false:=by
    have h0:=(mem_ready.1 hrdy).1;rw[getD_tf hiltL] at h0;exact h0
   refine ⟨fun h0=>(by rw[h0] at hrdy;cases hrdy),fun j hj=>?_⟩
   by_cases hjp:j ∈ pd
   ·exact hearly j hjp hj
   have hij:i=j:=cJ (hchk j (v.ready_out v.dpd hj hjp));subst hij;unfold wpOp;simp only[hi,hw]
   have hold:∀ {d},(L.setIfInBounds i true).getD d false=false->L.getD d false=false:=fun {d} hh=>by
    cases hl:L.getD d false with
    | false=>rfl
    | true=>rw[(getD_set_iff hiltL).2 (.inr hl)] at hh;cases hh
   have hset:(L.setIfInBounds i true).getD i false=true:=(getD_set_iff hiltL).2 (.inl rfl)
   cases b with
   | true=>
    simp only[aH];obtain ⟨C1,f1,f2⟩:=h1.frame;have hsd:∀ w',(∀ b i,A b i->∀ u,ce w b i=some u->ce w' b i=some u)->∀ b i,C.A0 b i->∀ u,ce C.w0 b i=some u->ce w' b i=some u:=fun w' he b i ha u hu=>he b i (v.h.a0 b i ha) u (v.h.ext.cell b i (ce_lt hu) (hC b i ha) u hu)
    cases htk:tkOp E o.op with
    | true=>
     refine .inl (Oper.wp_mono (fun a' w' hn=>?_) (wp_put (wp_same (tk_ok hE f1 (hst o hmem) htk hk))));obtain ⟨ht,hww,σ2,hk2,A2,F2,h2⟩:=hn;subst hww;simp only at hk2;split at hk2;rotate_left
     ·cases hk2
     obtain ⟨e1,e2,e3,e4,e5⟩:=f2 h2;have hS':(∀ d,dirty E ops d=true->(L.setIfInBounds i true).getD d false=false)->Ext w0 w (fun _ _=>0):=fun hd=>v.hS fun d hdd=>hold (hd d hdd);exact ⟨⟨hS',hsd _ e3,fun e he hu=>hRC e he (hu.imp id hold)⟩,ih _ false hQ hC hg hk2 fuel (v.next hD hrdy e1 (PF.pres e2 e3 e4 D (fun j hj o' d ho' hd'=>ht d (hdst j hj o' d ho' hd')) e5 v.pf) hS' (fun e=>by cases e) (v.keep hes hi hunL ht fun e he hu=>hRC e he (hu.imp id hold)))⟩
    | false=>
    refine .inl (Oper.wp_mono (fun a' w' hn=>?_) (wp_put (not_tk hE f1 (hst o hmem) htk hk)));obtain ⟨ht,⟨σ2,hk2,A2,F2,h2⟩,hq⟩:=hn;simp only at hk2;split at hk2;rotate_left
    ·cases hk2
    rename_i hchk2;obtain ⟨e1,e2,e3,e4,e5⟩:=f2 h2
    have hS':(∀ d,dirty E ops d=true->(L.setIfInBounds i true).getD d false=false)->Ext w0 w' (fun _ _=>0):=fun hd=>by
     have hqq:quiet E o.op=true:=by
      cases hqq:quiet E o.op with
      | true=>rfl
      | false=>
       have hdj:dirty E ops i=true:=by simp[dirty,hi,htk,hqq]
       have:=hd i hdj;rw[hset] at this;cases this
     exact (v.hS fun d hdd=>hold (hd d hdd)).trans (hq hqq) (fun _ _ _ _=>rfl)
    have hst':=v.still hes her hi hunL h2 ht (fun hm=>hq (quiet_of hk hm htk)) hchk2;exact ⟨⟨hS',hsd _ e3,hst'⟩,ih _ false hQ hC hg hk2 fuel (v.next hD hrdy e1 (PF.pres e2 e3 e4 D (fun j hj o' d ho' hd'=>ht d (hdst j hj o' d ho' hd')) e5 v.pf) hS' (fun e=>by cases e) (v.keep hes hi hunL ht hst'))⟩
   | false=>
    simp only[aD,aM];obtain ⟨F2,h2⟩:=skip_ok h1 o;have hS':(∀ d,dirty E ops d=true->(L.setIfInBounds i true).getD d false=false)->Ext w0 w (fun _ _=>0):=fun hd=>v.hS fun d hdd=>hold (hd d hdd)
    exact ⟨⟨hS',hSD0.2.1,fun e he hu=>hRC e he (hu.imp id hold)⟩,ih _ false hQ hC hg hk fuel (v.next hD hrdy h2 (PF.pres (fun _ _ h=>h) (fun _ _ _ _ h=>h) (fun _ _ h=>h) D (hput undef) (fun _ _ _=>⟨fun _ h=>h,rfl⟩) v.pf) hS' (fun e=>by cases e) (v.keep hes hi hunL (fun d hd=>by
     cases ho:o.dst with
     | none=>rfl
     | some d'=>rw[tmp_put,aY (fun e=>hd (by rw[ho,e.1]))]) fun e he hu=>hRC e he (hu.imp id hold)))⟩
end
theorem draw_ok (hE:EnvOk P E) (hm:P.follows .mixedOrders=true) {rid id:Nat} {ops:Array Oper} (hst:∀ o ∈ ops.toList,opOk P o.op=true) {is bx:List Nat} (hd:drawOk E rid ops is=true) (h:Rel0 P C A σ a w F) {K:St->Option R} (hk:bxK σ bx (fun σ=>pdK ops.toList σ (liveOf E.pd rid) fun σ=>ordK E rid ops.toList is σ K)=some x)
  (hQ:∀ a w,Nx P C K x a w->Q .normal a w) (hP:∀ c a w,¬ Q (.panic c) a w):(Code.region id ops true).wp P Q a w:=by
 simp only[drawOk,aC,dL] at hd;obtain ⟨⟨⟨⟨hsel,hlen⟩,hps,hcov⟩,⟨hnd,hcva⟩,hes⟩,hg⟩:=hd;have h0:=h.drew;obtain ⟨A1,σ1,F1,hk,h1⟩:=bx_ok bx h0 hk;obtain ⟨σ2,F2,hk,h1⟩:=pd_ok (liveOf E.pd rid) h1 hk;obtain ⟨C',c1,c2,c3,c4,c5⟩:=h1.rebase;have hC':∀ b i,C'.A0 b i->C'.F0 b i=0:=fun b i ha=>c3 b i (by rw[<-c2];exact ha)
 have hnf:∀ k,(Array.replicate ops.size false).getD k false=false:=fun k=>by
  by_cases hk:k < ops.size <;> simp[hk]
 refine wp_region_any hm (wpAny_of_L _ _ _ _ (drawGo_ok hE hst hP hsel hps rfl rfl hes is _ _ (fun a w ⟨σ3,q1,A3,F3,q2⟩=>hQ a w ⟨σ3,q1,A3,F3,c5 q2⟩) hC' hg hk ops.size (w0:=w.drew) (D:=[]) (RC:=[]) ⟨c4,trivial,iZ,(fun _ h=>by cases h),(fun _ h=>by cases h),(fun _ h=>by cases h),fun j hj=>.inr (mem_any.1 (cC.1 hcov j hj)),
  bK (List.length_filter_le _ _) hlen,fun j o hj hl=>?_,fun _=>Ext.refl _ _,fun hf=>⟨rfl,?_⟩,by simp,by simp,(fun k=>by simp),nodupB_spec hnd,fun k hk=>.inr (mem_any.1 (cC.1 hcva k (dC.2 hk))),fun k _=>hnf k,fun e he=>by cases he⟩))
 ·rw[hnf] at hl;cases hl
 ·split at hf
  ·assumption
  ·cases hf
end
end OT
namespace OT
open Go
section
variable {P:Program} {C:Ctx} {A:Cells} {X:FP} {σ:St} {a:Act} {w:World} {F:Nat->FP} {R:Type} {x:R} {E:Env}
theorem look_map (f:Nat->Slot):∀ (live:List Nat) (i:Nat),lookN (live.map fun j=>(j,f j)) i=if live.any (Nat.beq i) then some (f i) else none
 | [],i=>rfl
 | j::live,i=>by
  simp only[cS,lookN,gD];by_cases hij:i=j
  ·subst hij;simp
  ·have h1:Nat.beq j i=false:=by
    cases hb:Nat.beq j i with
    | false=>rfl
    | true=>exact absurd (cJ hb).symm hij
   have h2:Nat.beq i j=false:=by
    cases hb:Nat.beq i j with
    | false=>rfl
    | true=>exact absurd (cJ hb) hij
   simp only[h1,h2,aD,aM,eN,look_map f live i]
theorem get_keep (live:List Nat) (fr:List (Nat×Md)) (σ:St) (i:Nat):(keepF live fr σ).get i=if i < σ.n/\live.any (Nat.beq i)=true then fro fr i (keepSlot live fr σ i) else .dead:=by
 unfold St.get keepF;simp only[look_map];by_cases hi:i < σ.n
 ·have h1:Nat.blt i σ.n=true:=by simpa [gI] using hi
  simp only[h1,aH,hi,dZ];split <;> simp_all
 ·have h1:Nat.blt i σ.n=false:=by
   cases hb:Nat.blt i σ.n with
   | false=>rfl
   | true=>rw[gI] at hb;exact absurd hb hi
  simp[h1,hi]
theorem ver_keep (live:List Nat) (fr:List (Nat×Md)) (σ:St) (i:Nat):(keepF live fr σ).ver i=[0,0,0,0,0]:=rfl
theorem zero_below {s:List Nat} (h:s.length<=5):Below (s.map fun _=>0) [0,0,0,0,0]:=by
 intro j y hj;rw[dY] at hj
 cases hs:s[j]? with
 | none=>rw[hs] at hj;cases hj
 | some z=>
  rw[hs] at hj;injection hj with hj;have:=(aJ.1 hs).1;subst hj
  match j,this with
  | 0,_ | 1,_ | 2,_ | 3,_ | 4,_=>exact ⟨0,rfl,aK _⟩
  | j+5,h'=>omega
theorem place_keep {live:List Nat} {fr:List (Nat×Md)} {r:Nat} (hr:rootIn live fr r=true) {p:Path} {pl:Pl} (hp:place σ a w r p=some pl):place (keepF live fr σ) a w r p=some pl:=by
 have hlt:=place_lt hp;simp only[rootIn,aC] at hr;unfold place at hp ⊢;rw[get_keep,aV ⟨hlt,hr.1⟩]
 have hfr:lookN fr r=none:=by
  cases hf:lookN fr r with
  | none=>rfl
  | some m=>have:=hr.2;rw[hf] at this;cases this
 have:fro fr r (keepSlot live fr σ r)=keepSlot live fr σ r:=by simp only[fro,hfr]
 rw[this];unfold keepSlot
 cases hg:σ.get r <;> rw[hg] at hp <;> first | exact hp | (simp[rootPl] at hp;done)
theorem slot_keep {live:List Nat} {fr:List (Nat×Md)} {i:Nat} {G:FP} (hs:SlotRel P A σ a w (tmp a i) (σ.get i) G) (hG:∀ b k,G b k<=1) :
  ∃ G':FP,(∀ b k,G' b k<=G b k)/\∀ A':Cells,(∀ b k,A b k->A' b k)->(∀ b k,1<=G b k->G' b k=0->A' b k)->SlotRel P A' (keepF live fr σ) a w (tmp a i) (fro fr i (keepSlot live fr σ i)) G':=by
 have same:∀ b k,A b k->∀ u,ce w b k=some u->ce w b k=some u:=fun _ _ _ _ h=>h;have dead:fro fr i .dead=.dead:=by unfold fro;split <;> rfl
 have none0:∀ {s:Slot},(∀ t m H v,s≠.own t m H v)->(∀ t m H v,s≠.box t m H v)->fro fr i s=s:=fun {s} h1 h2=>by
  unfold fro;split
  ·rfl
  ·cases s <;> first | rfl | exact absurd rfl (h1 _ _ _ _) | exact absurd rfl (h2 _ _ _ _)
 cases hg:σ.get i with
 | dead=>exact ⟨fun _ _=>0,fun _ _=>aW _,fun A' _ _=>by simp only[keepSlot,hg,dead];trivial⟩
 | nils=>
  rw[hg] at hs;exact ⟨fun _ _=>0,fun _ _=>aW _,fun A' _ _=>by simp only[keepSlot,hg];rw[none0 (by intros;simp) (by intros;simp)];exact hs⟩
 | val t v=>
  rw[hg] at hs;obtain ⟨cs,h1,h2⟩:=hs;exact ⟨fun _ _=>0,fun _ _=>aW _,fun A' hA _=>by simp only[keepSlot,hg];rw[none0 (by intros;simp) (by intros;simp)];exact ⟨cs,h1,Ro.mono same hA t h2⟩⟩
 | cp t v=>
  rw[hg] at hs;exact ⟨fun _ _=>0,fun _ _=>aW _,fun A' hA _=>by simp only[keepSlot,hg];rw[none0 (by intros;simp) (by intros;simp)];exact Ro.mono same hA (.ptr t) hs⟩
 | own t m H v=>
  rw[hg] at hs;obtain ⟨cs,h1,h2⟩:=hs;have hk:keepSlot live fr σ i=.own t m H v:=by simp only[keepSlot,hg]
  rw[hk];unfold fro;split
  ·exact ⟨G,fun _ _=>aK _,fun A' hA _=>⟨cs,h1,Rep.mono hA same (fun _ _ h=>h) t h2 (fun _ _=>aK _) (fun _ _ _ _ h=>h)⟩⟩
  ·rename_i m1 hm;simp only;split
   ·rename_i hc;simp only[aC,bJ] at hc;obtain ⟨hH,hf⟩:=hc;subst hH;obtain ⟨G1,g1,g2⟩:=Rep.fits t hf h2 hG;refine ⟨G1,g1,fun A' hA hgv=>?_⟩
    have hr:=g2 A' hA hgv;split
    ·rename_i e;subst e;exact ⟨cs,h1,Rep.ro t (roMd_noOwn t) hr⟩
    ·exact ⟨cs,h1,hr⟩
   ·exact ⟨fun _ _=>0,fun _ _=>aW _,fun A' _ _=>trivial⟩
 | box t m H v=>
  rw[hg] at hs;obtain ⟨b,o,L,F1,s1,s2,s3,s4,s5,s6⟩:=hs;have hk:keepSlot live fr σ i=.box t m H v:=by simp only[keepSlot,hg]
  rw[hk];unfold fro;split
  ·exact ⟨G,fun _ _=>aK _,fun A' hA _=>⟨b,o,L,F1,s1,s2,s3,s4,s5,Rep.mono hA same (fun _ _ h=>h) t s6 (fun _ _=>aK _) (fun _ _ _ _ h=>h)⟩⟩
  ·rename_i m1 hm;simp only;split
   ·rename_i hc;simp only[aC,bJ] at hc;obtain ⟨hH,hf⟩:=hc;subst hH;obtain ⟨G1,g1,g2⟩:=Rep.fits t hf s6 (fun b' k=>by have:=s5 b' k;have:=hG b' k;omega);refine ⟨fun b' k=>rng b o t.sz b' k+G1 b' k,fun b' k=>by have:=s5 b' k;have:=g1 b' k;show rng b o t.sz b' k+G1 b' k<=G b' k;omega,fun A' hA hgv=>⟨b,o,L,G1,s1,s2,s3,s4,fun _ _=>aK _,g2 A' hA fun b' k hp hz=>?_⟩⟩
    have h5:=s5 b' k;have h6:=hG b' k
    exact hgv b' k (by omega) (by show rng b o t.sz b' k+G1 b' k=0;omega)
   ·exact ⟨fun _ _=>0,fun _ _=>aW _,fun A' _ _=>trivial⟩
 | ref r p snap=>
  rw[hg] at hs;refine ⟨fun _ _=>0,fun _ _=>aW _,fun A' _ _=>?_⟩
  simp only[keepSlot,hg];split
  ·rename_i hc;simp only[aC] at hc;rw[none0 (by intros;simp) (by intros;simp)];obtain ⟨pl,h1,h2,h3⟩:=hs.2 hc.1;have hl:snap.length<=5:=by rcases h3 with h3 | h3 <;> omega
   exact ⟨by rw[ver_keep];exact zero_below hl,fun _=>⟨pl,place_keep hc.2 h1,h2,by simpa using h3⟩⟩
  ·rw[dead];trivial
 | ptr r p snap=>
  rw[hg] at hs;refine ⟨fun _ _=>0,fun _ _=>aW _,fun A' _ _=>?_⟩
  simp only[keepSlot,hg];split
  ·rename_i hc;simp only[aC] at hc;rw[none0 (by intros;simp) (by intros;simp)];obtain ⟨pl,b,o,h1,h2,h3,h4⟩:=hs.2 hc.1;have hl:snap.length<=5:=by omega
   exact ⟨by rw[ver_keep];exact zero_below hl,fun _=>⟨pl,b,o,place_keep hc.2 h1,h2,h3,by simpa using h4⟩⟩
  ·rw[dead];trivial
 | sub r p snap lo hi=>
  rw[hg] at hs;refine ⟨fun _ _=>0,fun _ _=>aW _,fun A' _ _=>?_⟩
  simp only[keepSlot,hg];split
  ·rename_i hc;simp only[aC] at hc;rw[none0 (by intros;simp) (by intros;simp)];obtain ⟨pl,e,xa,n,cap,xa',cap',h1,h2,h3,h4,h5,h6,h7,h8,h9,h10,h11⟩:=hs.2 hc.1;have hl:snap.length<=5:=by rcases h11 with h11 | h11 <;> omega
   exact ⟨by rw[ver_keep];exact zero_below hl,fun _=>⟨pl,e,xa,n,cap,xa',cap',place_keep hc.2 h1,h2,h3,h4,h5,h6,h7,h8,h9,h10,by simpa using h11⟩⟩
  ·rw[dead];trivial
 | tup xs=>
  rw[hg] at hs;obtain ⟨vs,Fi,h1,h2,h3⟩:=hs;refine ⟨G,fun _ _=>aK _,fun A' hA _=>?_⟩
  simp only[keepSlot,hg];rw[none0 (by intros;simp) (by intros;simp)]
  exact ⟨vs,Fi,h1,h2,fun j y hy=>by
   obtain ⟨v,g1,g2⟩:=h3 j y hy
   exact ⟨v,g1,g2.imp id fun ⟨cs,g3,g4⟩=>⟨cs,g3,Rep.mono hA same (fun _ _ h=>h) _ g4 (fun _ _=>aK _) (fun _ _ _ _ h=>h)⟩⟩⟩
theorem keepF_ok (h:Rel0 P C A σ a w F) (live:List Nat) (fr:List (Nat×Md)):RelE P C (keepF live fr σ) a w:=by
 have hle:∀ i,i < σ.n->∀ b k,F i b k<=1:=fun i hi b k=>by have:=h.tot b k;have:=le_sumF F hi b k;omega
 have each:∀ i,∃ G':FP,(∀ b k,i < σ.n->G' b k<=F i b k)/\(¬ i < σ.n->∀ b k,G' b k=0)/\∀ A':Cells,(∀ b k,A b k->A' b k)->(∀ b k,1<=F i b k->G' b k=0->A' b k)->i < σ.n->SlotRel P A' (keepF live fr σ) a w (tmp a i) ((keepF live fr σ).get i) G':=by
  intro i;by_cases hi:i < σ.n
  ·by_cases hl:live.any (Nat.beq i)=true
   ·obtain ⟨G',g1,g2⟩:=slot_keep (live:=live) (fr:=fr) (h.slots i hi) (hle i hi);exact ⟨G',fun b k _=>g1 b k,fun hn=>absurd hi hn,fun A' hA hgv _=>by rw[get_keep,aV ⟨hi,hl⟩];exact g2 A' hA hgv⟩
   ·exact ⟨fun _ _=>0,fun _ _ _=>aW _,fun _ _ _=>rfl,fun A' _ _ _=>by rw[get_keep,aY (fun hc=>hl hc.2)];trivial⟩
  ·exact ⟨fun _ _=>0,fun _ _ _=>aW _,fun _ _ _=>rfl,fun A' _ _ hi'=>absurd hi' hi⟩
 obtain ⟨F',hF'⟩:=gU each;have hsum:∀ b k,sumF σ.n F' b k<=sumF σ.n F b k:=fun b k=>sumF_le b k fun j hj=>(hF' j).1 b k hj;refine ⟨fun b k=>A b k\/∃ j,j < σ.n/\1<=F j b k/\F' j b k=0,F',?_⟩
 have hold:∀ {b k j},j < σ.n->1<=F j b k->1<=0+sumF σ.n F b k:=fun {b k j} hj hp=>by have:=le_sumF F hj b k;omega
 refine ⟨h.size,h.defers,fun i hi=>(hF' i).2.2 _ (fun _ _ h=>.inl h) (fun b k hp hz=>.inr ⟨i,hi,hp,hz⟩) hi,(fun d r p snap hm=>by cases hm),fun b k=>by have:=h.tot b k;have:=hsum b k;show 0+sumF σ.n F' b k<=1;omega,fun b k hp ha=>?_,fun b k hp=>?_,
  fun i=>by rw[ver_keep];rfl,h.ext,fun b k hp=>h.own b k (by have:=hsum b k;have hp:1<=0+sumF σ.n F' b k:=hp;show 1<=0+sumF σ.n F b k;omega),fun b k ha=>.inl (h.a0 b k ha),fun b k ha=>?_,h.lentP,fun r t m H v hg hl=>?_,fun j k hm R' hR'=>?_⟩
 ·have hp:1<=0+sumF σ.n F' b k:=hp
  rcases ha with ha | ⟨j,hj,h1,h2⟩
  ·exact h.dis b k (by have:=hsum b k;show 1<=0+sumF σ.n F b k;omega) ha
  ·obtain ⟨i,hi,hpi⟩:=sumF_pos (show 1<=sumF σ.n F' b k by omega);have hne:i≠j:=fun e=>by subst e;omega
   have:=le_sumF2 F hi hj hne b k;have:=(hF' i).1 b k hi;have:=h.tot b k;omega
 ·rcases hp with hp | (ha | ⟨j,hj,h1,_⟩)
  ·exact h.bnd b k (.inl (by have:=hsum b k;have hp:1<=0+sumF σ.n F' b k:=hp;show 1<=0+sumF σ.n F b k;omega))
  ·exact h.bnd b k (.inr ha)
  ·exact h.bnd b k (.inl (hold hj h1))
 ·rcases ha with ha | ⟨j,hj,h1,_⟩
  ·exact h.a1 b k ha
  ·exact .inr (h.own b k (hold hj h1))
 ·rw[get_keep] at hg;split at hg
  ·have:∃ m0 H0 v0,σ.get r=.box t m0 H0 v0:=by
    unfold fro at hg;split at hg
    ·unfold keepSlot at hg
     cases hgr:σ.get r <;> rw[hgr] at hg <;> simp only at hg <;> first
      | (cases hg;done)
      | (split at hg <;> cases hg;done)
      | (injection hg with e1;subst e1;exact ⟨_,_,_,rfl⟩)
    ·split at hg
     ·split at hg
      ·split at hg <;> cases hg
      ·cases hg
     ·rename_i t0 m0 H0 v0 hk;split at hg
      ·injection hg with e1;subst e1;unfold keepSlot at hk
       cases hgr:σ.get r <;> rw[hgr] at hk <;> simp only at hk <;> first
        | (cases hk;done)
        | (split at hk <;> cases hk;done)
        | (injection hk with e1;subst e1;exact ⟨_,_,_,rfl⟩)
      ·cases hg
     ·rename_i hn1 hn2;exact absurd hg (hn2 _ _ _ _)
   obtain ⟨m0,H0,v0,hg0⟩:=this;exact h.whole r t m0 H0 v0 hg0 hl
  ·cases hg
 ·have hroot:rootPl w (tmp a j) (σ.get j)=some R'\/∃ H0,rootPl w (tmp a j) (σ.get j)=some { R' with H:=H0 }:=by
   rw[get_keep] at hR';split at hR'
   ·unfold fro at hR';split at hR'
    ·left;unfold keepSlot at hR'
     cases hgr:σ.get j <;> rw[hgr] at hR' <;> simp only at hR' <;> first
      | exact hR'
      | (simp[rootPl] at hR';done)
      | (split at hR' <;> simp[rootPl] at hR';done)
    ·split at hR'
     ·rename_i t0 m0 H0 v0 hk
      have hgr:σ.get j=.own t0 m0 H0 v0:=by
       unfold keepSlot at hk
       cases hgr:σ.get j <;> rw[hgr] at hk <;> simp only at hk <;> first
        | (cases hk;done)
        | (split at hk <;> cases hk;done)
        | exact hk
      split at hR'
      ·split at hR'
       ·simp[rootPl] at hR'
       ·right;rw[hgr];simp only[rootPl,aO] at hR' ⊢;subst hR';exact ⟨H0,rfl⟩
      ·simp[rootPl] at hR'
     ·rename_i t0 m0 H0 v0 hk
      have hgr:σ.get j=.box t0 m0 H0 v0:=by
       unfold keepSlot at hk
       cases hgr:σ.get j <;> rw[hgr] at hk <;> simp only at hk <;> first
        | (cases hk;done)
        | (split at hk <;> cases hk;done)
        | exact hk
      split at hR'
      ·right;rw[hgr];simp only[rootPl] at hR' ⊢;split at hR'
       ·simp only[aO] at hR' ⊢;subst hR';exact ⟨H0,rfl⟩
       ·cases hR'
      ·simp[rootPl] at hR'
     ·rename_i hn1 hn2;left;unfold keepSlot at hR' hn1 hn2
      cases hgr:σ.get j <;> rw[hgr] at hR' hn1 hn2 <;> simp only at hR' hn1 hn2 <;> first
       | exact hR'
       | (simp[rootPl] at hR';done)
       | (split at hR' <;> simp[rootPl] at hR';done)
   ·simp[rootPl] at hR'
  rcases hroot with hr | ⟨H0,hr⟩
  ·exact h.lentS j k hm R' hr
  ·have:=h.lentS j k hm _ hr;exact this
theorem keep_eq (live:List Nat) (σ:St):keep live σ=keepF live [] σ:=rfl
theorem keep_ok (h:Rel0 P C A σ a w F) (live:List Nat):RelE P C (keep live σ) a w:=by rw[keep_eq];exact keepF_ok h live []
end
end OT
namespace OT
open Go
def QK (P:Program) (C:Ctx) {R:Type} (K:Ex->St->Option R) (fin:St->Option R) (x:R):Exit->Act->World->Prop
 | .normal,a,w=>∃ σ,K .normal σ=some x/\RelE P C σ a w
 | .exit id,a,w=>∃ σ,K (.exit id) σ=some x/\RelE P C σ a w
 | .ret,a,w=>∃ σ,fin σ=some x/\RelE P C σ a w
 | _,_,_=>False
noncomputable def codeOk (P:Program) (E:Env):Code->Bool
 | .skip=>true
 | .region id ops d=>ops.toList.all (fun o=>opOk P o.op)&&(match d with
  | false=>true
  | true=>P.follows .mixedOrders&&drawOk E id ops (liveOf E.od id))
 | .seq a b=>codeOk P E a&&codeOk P E b
 | .cond c a b=>opdOk P c&&codeOk P E a&&codeOk P E b
 | .block _ b=>codeOk P E b
 | .loop b=>codeOk P E b
 | .scope b=>codeOk P E b
 | .exit _=>true
 | .ret=>true
 | _=>true
section
variable {P:Program} {C:Ctx} {R:Type} {x:R} {E:Env} {fin:St->Option R} {n:Nat}
theorem code_ok (hE:EnvOk P E):∀ (c:Code),codeOk P E c=true->∀ {σ:St} {A:Cells} {a:Act} {w:World} {F:Nat->FP} {K:Ex->St->Option R},Rel0 P C A σ a w F->codeK E n fin c σ K=some x->c.wp P (QK P C K fin x) a w:=by
 intro c
 induction c with
 | skip=>intro _ σ A a w F K h hk;exact wp_skip ⟨σ,hk,A,F,h⟩
 | region id ops d=>
  intro hc σ A a w F K h hk;simp only[codeOk,aC] at hc;have hst:∀ o ∈ ops.toList,opOk P o.op=true:=fun o ho=>cC.1 hc.1 o ho
  cases d with
  | false=>exact region_ok hE hst h hk (fun a w ⟨σ',h1,A',F',h2⟩=>by
    obtain ⟨A2,σ2,F2,h3,h4⟩:=bx_ok _ h2 h1
    exact ⟨σ2,h3,A2,F2,h4⟩)
  | true=>
   have h2:=hc.2;simp only[aC] at h2;exact draw_ok hE h2.1 hst h2.2 h hk (fun a w ⟨σ',h1,h2⟩=>⟨σ',h1,h2⟩) (fun c a w hq=>hq)
 | seq a b iha ihb=>
  intro hc σ A ac w F K h hk;simp only[codeOk,aC] at hc;refine wp_seq (wp_mono (iha hc.1 h hk) fun e a' w' hq=>?_)
  cases e with
  | normal=>obtain ⟨σ',h1,A',F',h2⟩:=hq;exact ihb hc.2 h2 h1
  | exit j=>obtain ⟨σ',h1,h2⟩:=hq;exact ⟨σ',h1,h2⟩
  | ret=>exact hq
  | _=>exact hq.elim
 | cond c a b iha ihb=>
  intro hc σ A ac w F K h hk;simp only[codeOk,aC] at hc;simp only[codeK] at hk
  rcases opd_ok h hc.1.1 with hs | ⟨xs,e⟩
  rotate_left
  ·rw[e] at hk;cases hk
  obtain ⟨t,ht,hk⟩:=boolK_some hs hk
  cases t with
  | true=>exact wp_cond_true ht (iha hc.1.2 h hk)
  | false=>exact wp_cond_false ht (ihb hc.2 h hk)
 | block id b ih=>
  intro hc σ A ac w F K h hk;refine wp_block (wp_mono (ih hc h hk) fun e a' w' hq=>?_)
  cases e with
  | normal=>exact hq
  | exit j=>
   obtain ⟨σ',h1,h2⟩:=hq;simp only[blockC] at h1;simp only[Exit.inBlock];by_cases hj:j=id
   ·subst hj;rw[aV (by simp)] at h1;rw[aV rfl];exact ⟨σ',h1,h2⟩
   ·have:Nat.beq j id=false:=by
     cases hb:Nat.beq j id with
     | false=>rfl
     | true=>exact absurd (cJ hb) hj
    rw[this,aY (by simp)] at h1;rw[aY hj];exact ⟨σ',h1,h2⟩
  | ret=>exact hq
  | _=>exact hq.elim
 | loop b ih=>
  intro hc σ A ac w F K h hk;simp only[codeK] at hk
  have key:∀ (m:Nat) (σ:St) (ac:Act) (w:World),RelE P C σ ac w->iterK (codeK E n fin b) (keepF (liveOf E.lv (firstReg b)) (froOf E.lf (firstReg b))) K m σ=some x->Code.rounds P b (QK P C K fin x) m ac w:=by
   intro m
   induction m with
   | zero=>intro σ ac w h hk;cases hk
   | succ m ihm=>
    intro σ ac w h hk;obtain ⟨A',F',h⟩:=h;rw[rounds_succ];refine wp_mono (ih hc h hk) fun e a' w' hq=>?_
    cases e with
    | normal=>
     obtain ⟨σ',h1,A2,F2,h2⟩:=hq;exact ihm _ a' w' (keepF_ok h2 _ _) h1
    | exit j=>exact hq
    | ret=>exact hq
    | _=>exact hq.elim
  exact wp_loop_rounds n (key n _ ac w (keepF_ok h _ _) hk)
 | scope b ih=>
  intro hc σ A ac w F K h hk;refine wp_scope_straight (wp_mono (ih hc h hk) fun e a' w' hq=>?_)
  cases e with
  | normal=>exact hq
  | exit j=>exact hq
  | ret=>exact hq
  | _=>exact hq.elim
 | exit id=>
  intro hc σ A ac w F K h hk;exact wp_exit ⟨_,hk,keep_ok h _⟩
 | ret=>
  intro hc σ A ac w F K h hk;exact wp_ret ⟨σ,hk,A,F,h⟩
 | _=>intros;rename_i hk;simp[codeK] at hk
end
end OT
namespace OT
open Go
section
variable {P:Program} {C:Ctx} {A:Cells} {X:FP} {σ:St} {a:Act} {w:World} {F:Nat->FP} {R:Type} {x:R} {E:Env}
def rvRun (tmps:Array Value):ResultVar->Sem Value
 | .tmp t=>pure (tmps.getD t undef)
 | .cell a t=>do loadVar t (<- asAddr (tmps.getD a undef))
theorem mapM_run {α:Type} (f:α->Sem Value):∀ (l:List α) (vs:List Value),l.length=vs.length->(∀ (j:Nat) (y:α) (v:Value),l[j]?=some y->vs[j]?=some v->(f y).run P w=.ok v w)->(l.mapM f).run P w=.ok vs w
 | [],[],_,_=>rfl
 | y::l,v::vs,hl,h=>by
  have h0:=h 0 y v rfl rfl;have ih:=mapM_run f l vs (by simpa using hl) (fun j y v hy hv=>h (j+1) y v hy hv);simp only[List.mapM_cons,Sem.run_bind,h0,Result.andThen_ok,ih,Sem.run_pure]
 | [],_::_,h,_=>by simp at h
 | _::_,[],h,_=>by simp at h
theorem results_run {fn:Func} {tmps:Array Value} {vs:List Value} (hl:fn.results.toList.length=vs.length) (h:∀ (j:Nat) (y:ResultVar) (v:Value),fn.results.toList[j]?=some y->vs[j]?=some v->(rvRun tmps y).run P w=.ok v w) :
  (results fn tmps).run P w=.ok (if h:vs.toArray.size=1 then vs.toArray[0] else .tuple vs.toArray) w:=by
 have h1:=mapM_run (P:=P) (w:=w) (rvRun tmps) fn.results.toList vs hl h
 have h2:(fn.results.mapM (rvRun tmps)).run P w=.ok vs.toArray w:=by
  have e:fn.results=fn.results.toList.toArray:=by simp
  rw[e,List.mapM_toArray,map_eq_pure_bind,Sem.run_bind,h1,Result.andThen_ok,Sem.run_pure]
 have e:results fn tmps=(do
  let vs <- fn.results.mapM (rvRun tmps)
  pure (if h:vs.size=1 then vs[0] else .tuple vs)):=by
  unfold results;congr 1
 rw[e,Sem.run_bind,h2,Result.andThen_ok,Sem.run_pure]
def rvOk (E:Env):List (Ty×Md)->List ResultVar->Bool
 | [],[]=>true
 | _::rs,.tmp _::xs=>rvOk E rs xs
 | (t,_)::rs,.cell _ ty::xs=>(match E.TI ty with
  | some T=>decide (T=t)
  | none=>false)&&rvOk E rs xs
 | _,_=>false
theorem rv_ok (hE:EnvOk P E) (h:Rel P C A X σ a w F) {rv:ResultVar} {t:Ty} (hty:∀ b ty,rv=.cell b ty->E.TI ty=some t) {mv:Bool} {K:Md->t.den->St->Option R} (hk:useK σ (rvSlot σ rv) mv t K=some x) :
  ∃ (tv:Value),(rvRun a.tmps rv).run P w=.ok tv w/\∃ (A':Cells) (σ':St) (F':Nat->FP) (m:Md) (v:t.den) (cs:List Value) (Fv:FP),K m v σ'=some x/\(∀ b i,A b i->A' b i)/\Rel P C A' (fun b i=>X b i+Fv b i) σ' a w F'/\tv=mkV t cs/\Rep P w A' t m [] v cs Fv:=by
 cases rv with
 | tmp i=>
  rcases opd_ok h (o:=.tmp i) rfl with hs | ⟨xs,e⟩
  rotate_left
  ·simp only[rvSlot] at hk;rw[e] at hk;simp[useK] at hk
  obtain ⟨A',σ',F',m,v,cs,Fv,k1,k2,k3,k4,kr,k5,k6⟩:=use_ok h hs hk;exact ⟨_,rfl,A',σ',F',m,v,cs,Fv,k1,k2,k3,k5,k6⟩
 | cell i ty=>
  have hT:=hty i ty rfl;have hlay:=hE.ti _ _ hT;simp only[rvSlot] at hk;split at hk
  ·rename_i t0 m0 H0 v0 hg
   have hi:i < σ.n:=by
    rcases cB i σ.n with hi | hi
    ·exact hi
    ·rw[get_out (dG.2 hi)] at hg;cases hg
   have hs:=h.slots i hi;rw[hg] at hs;obtain ⟨b,o,L,F1,s1,s2,s3,s4,s5,s6⟩:=hs
   have hpl:place σ a w i []=some ⟨t0,H0,L,some (b,o)⟩:=by
    unfold place;rw[hg,s1];simp only[rootPl,rd_of_has s3 s2,aB,plc]
   have hslot:SlotRel P A σ a w (mkV t0 L) (.ref i [] (σ.ver i)) (fun _ _=>0):=⟨Below.refl _,fun _=>⟨_,hpl,rfl,.inr (h.vlen i)⟩⟩
   have ht:t0=t:=by
    have hk':=hk;simp only[useK] at hk';split at hk'
    ·obtain ⟨_,t',m',H',v',cs',ad',F',h1,h2,h3,_⟩:=at_ok h hk';rw[hpl] at h3;injection h3 with h3;injection h3 with e1;subst e1;split at h1
     ·exact (castK_some h1).1
     ·cases h1
    ·cases hk'
   subst ht;obtain ⟨A',σ',F',m,v,cs,Fv,k1,k2,k3,k4,kr,k5,k6⟩:=use_ok h hslot hk;refine ⟨mkV t0 L,?_,A',σ',F',m,v,cs,Fv,k1,k2,k3,k5,k6⟩
   have e:a.tmps.getD i undef=.pointer (some ⟨b,o,none⟩):=s1;have hrun:=run_loadVar (P:=P) hlay s3 s2 (Rep.one _ s6);simp only[rvRun,Sem.run_bind,e];show (Sem.run P (asAddr (.pointer (some ⟨b,o,none⟩))) w).andThen _=_;rw[show Sem.run P (asAddr (.pointer (some ⟨b,o,none⟩))) w=.ok ⟨b,o,none⟩ w from rfl,Result.andThen_ok,hrun]
  ·simp[useK] at hk
theorem res_ok (hE:EnvOk P E) {ts:List Ty} {mv:Nat->Bool} {fin:St->((tupT ts).den->Option R)->Option R}:∀ (rs:List (Ty×Md)) (rvs:List ResultVar) (j:Nat) {σ:St} {A:Cells} {X:FP} {F:Nat->FP} {K:(tupT (rs.map (·.1)++ts)).den->Option R},
  rvOk E rs rvs=true->Rel P C A X σ a w F->resK σ ts mv fin rs rvs j K=some x ->
  ∃ (A':Cells) (σ':St) (X':FP) (F':Nat->FP) (vals:List Value) (L:List Res) (Fi:Nat->FP) (pre:(tupT ts).den->(tupT (rs.map (·.1)++ts)).den),(∀ b i,A b i->A' b i)/\Rel P C A' X' σ' a w F'/\fin σ' (fun y=>K (pre y))=some x/\(∀ y,splitR rs (pre y)=(L,y)) /\
   vals.length=L.length/\vals.length=rvs.length/\(∀ (k:Nat) (y:ResultVar) (v:Value),rvs[k]?=some y->vals[k]?=some v->(rvRun a.tmps y).run P w=.ok v w)/\(∀ b i,X b i+sumF L.length Fi b i<=X' b i) /\
   ∀ A2:Cells,(∀ b i,A' b i->A2 b i)->(∀ b i,1<=X' b i->X b i=0->sumF L.length Fi b i=0->A2 b i)->∀ k y,L[k]?=some y->∃ v cs,vals[k]?=some v/\v=mkV y.t cs/\Rep P w A2 y.t y.m [] y.v cs (Fi k):=by
 intro rs
 induction rs with
 | nil=>
  intro rvs j σ A X F K hrv h hk
  cases rvs with
  | nil=>exact ⟨A,σ,X,F,[],[],fun _ _ _=>0,id,fun _ _ h=>h,h,hk,fun y=>rfl,rfl,rfl,(fun k y v hy=>by cases hy),(fun b i=>by simp[sumF]),fun A2 _ _ k y hy=>by cases hy⟩
  | cons _ _=>cases hrv
 | cons p rs ih=>
  intro rvs j σ A X F K hrv h hk;obtain ⟨t,m⟩:=p
  cases rvs with
  | nil=>cases hk
  | cons rv rvs=>
   simp only[resK] at hk
   have hty:∀ b ty,rv=.cell b ty->E.TI ty=some t:=fun b ty e=>by
    subst e;simp only[rvOk,aC] at hrv;have h1:=hrv.1;split at h1
    ·rename_i T hT;rw[hT];simpa using h1
    ·cases h1
   have hrv':rvOk E rs rvs=true:=by
    cases rv with
    | tmp i=>exact hrv
    | cell b ty=>simp only[rvOk,aC] at hrv;exact hrv.2
   obtain ⟨tv,hrun,A1,σ1,F1,m1,v1,cs,Fv,k1,k2,k3,k4,k5⟩:=rv_ok hE h hty hk;split at k1
   ·rename_i hm;obtain ⟨A',σ',X',F',vals,L,Fi,pre,g1,g2,g3,g4,g5,g6,g7,g8,g9⟩:=ih rvs (j+1) hrv' k3 k1;have htot:∀ b i,X' b i<=1:=fun b i=>by have:=g2.tot b i;omega
    have hfit:∃ G:FP,(∀ b i,G b i<=Fv b i)/\∀ A2:Cells,(∀ b i,A1 b i->A2 b i)->(∀ b i,1<=Fv b i->G b i=0->A2 b i)->Rep P w A2 t m [] v1 cs G:=by
     by_cases hmm:m1=m
     ·subst hmm;exact ⟨Fv,fun _ _=>aK _,fun A2 hA _=>Rep.mono hA (fun _ _ _ _ h=>h) (fun _ _ h=>h) t k5 (fun _ _=>aK _) (fun _ _ _ _ h=>h)⟩
     ·rcases hm with hm | hm
      ·exact absurd hm hmm
      ·exact Rep.fits t hm k5 (fun b i=>by have:=g8 b i;have:=htot b i;omega)
    obtain ⟨G,G1,G2⟩:=hfit
    have hsum:∀ b i,sumF (L.length+1) (fun k=>match k with | 0=>G | k+1=>Fi k) b i=G b i+sumF L.length Fi b i:=fun b i=>by
     rw[iV,sumF_add];congr 1
     ·simp[sumF]
     ·refine gZ (gZ (sumF_congr fun j hj=>?_) b) i;rw[iV]
    refine ⟨A',σ',X',F',tv::vals,⟨t,m,v1⟩::L,fun k=>match k with | 0=>G | k+1=>Fi k,fun y=>(v1,pre y),fun b i ha=>g1 b i (k2 b i ha),g2,g3,fun y=>by simp only[splitR,g4],by simp[g5],by simp[g6],fun k y v hy hv=>?_,fun b i=>?_,fun A2 hA hgv k y hy=>?_⟩
    ·cases k with
     | zero=>injection hy with hy;injection hv with hv;subst hy;subst hv;exact hrun
     | succ k=>exact g7 k y v hy hv
    ·show X b i+sumF (L.length+1) _ b i<=X' b i;rw[hsum];have:=g8 b i;have:=G1 b i;omega
    ·have hgv':∀ b i,1<=X' b i->X b i=0->G b i+sumF L.length Fi b i=0->A2 b i:=fun b i h1 h2 h3=>hgv b i h1 h2 (by show sumF (L.length+1) _ b i=0;rw[hsum];exact h3)
     cases k with
     | zero=>
      injection hy with hy;subst hy;refine ⟨tv,cs,rfl,k4,G2 A2 (fun b i ha=>hA b i (g1 b i ha)) fun b i hp hz=>?_⟩
      have h8:=g8 b i;have h9:=htot b i
      exact hgv' b i (by omega) (by omega) (by omega)
     | succ k=>
      refine g9 A2 hA (fun b i h1 h2 h3=>hgv' b i h1 (by omega) (by have:=G1 b i;omega)) k y hy
   ·cases k1
theorem lent_mem {l:List (Nat×Nat×Bool)} {i j:Nat} {c:Bool} (h:isLent l i j c=true):(i,j,c) ∈ l:=by
 induction l with
 | nil=>cases h
 | cons y l ih=>
  obtain ⟨k,n,b⟩:=y;simp only[isLent,cW,aC,dX,jJ] at h;rcases h with ⟨⟨h1,h2⟩,h3⟩ | h
  ·rw[h1,h2,h3];exact bB
  ·exact aR _ (ih h)
def sumL (F:Nat->FP):List Nat->FP
 | []=>fun _ _=>0
 | i::l=>fun b k=>F i b k+sumL F l b k
theorem sumL_upd (F:Nat->FP) (i:Nat) (G:FP) (b k:Nat):∀ (l:List Nat),i ∉ l->sumL (updF F i G) l b k=sumL F l b k
 | [],_=>rfl
 | j::l,hj=>by
  simp only[aS,not_or] at hj;simp only[sumL,sumL_upd F i G b k l hj.2];rw[show updF F i G j=F j by simp only[updF];rw[aY (fun e=>hj.1 e.symm)]]
theorem sumL_le:∀ (l:List Nat) {n:Nat} (F:Nat->FP),l.Nodup->(∀ i ∈ l,i < n)->∀ b k,sumL F l b k<=sumF n F b k
 | [],n,F,_,_,b,k=>aW _
 | i::l,n,F,hn,hl,b,k=>by
  have hn':=dP.1 hn;have h1:=sumL_le l (updF F i fun _ _=>0) hn'.2 (fun j hj=>hl j (aR _ hj)) b k;have h2:=sumL_upd F i (fun _ _=>0) b k l hn'.1;have h3:=sumF_upd F (hl i bB) (fun _ _=>0) b k;rw[h2] at h1;simp only[sumL];omega
theorem sumL_pos {F:Nat->FP} {b k:Nat}:∀ {l:List Nat},1<=sumL F l b k->∃ i ∈ l,1<=F i b k
 | [],h=>by simp[sumL] at h
 | i::l,h=>by
  simp only[sumL] at h;rcases bA (F i b k) with h0 | h0
  ·obtain ⟨j,hj,hp⟩:=sumL_pos (F:=F) (b:=b) (k:=k) (l:=l) (by omega);exact ⟨j,aR _ hj,hp⟩
  ·exact ⟨i,bB,h0⟩
def psOk:List (PM×Ty)->Bool
 | []=>true
 | _::ps=>psOk ps
theorem muts_ok (h:Rel P C A X σ a w F):∀ (j:Nat) (ps:List (PM×Ty)) (es:List Nat) {K:(tupT (mutTys ps)).den->Option R},psOk ps=true->es.Nodup->j+ps.length<=C.args.size->mutsK σ j ps es K=some x ->
  ∃ (vs:(tupT (mutTys ps)).den) (us:List Nat) (Gi:Nat->FP),K vs=some x/\(∀ i ∈ us,i ∈ es)/\us.Nodup/\(∀ i ∈ us,i < σ.n)/\(∀ i b k,i ∈ us->Gi i b k<=F i b k) /\
   ∀ A2:Cells,(∀ b k,A b k->A2 b k)->(∀ i b k,i ∈ us->1<=F i b k->Gi i b k=0->A2 b k)->MutsRel P w A2 ps vs (C.args.toList.drop j) (sumL Gi us):=by
 intro j ps
 induction ps generalizing j with
 | nil=>intro es K _ _ _ hk;exact ⟨(),[],fun _ _ _=>0,by cases es <;> exact hk,(fun i hi=>by cases hi),iZ,(fun i hi=>by cases hi),(fun i b k hi=>by cases hi),fun _ _ _=>trivial⟩
 | cons p ps ih=>
  intro es K hp hnd hj hk;obtain ⟨pm,t⟩:=p;have hj':j+1+ps.length<=C.args.size:=by simp only[aP] at hj;omega
  have htail:(C.args.toList.drop j).tail=C.args.toList.drop (j+1):=by rw[List.tail_drop]
  have hhead:(C.args.toList.drop j).head?=some (C.args.getD j undef):=by
   simp only[aP] at hj;rw[List.head?_drop,cZ,cK (by omega)];simp[show j < C.args.size by omega]
  have hF1:∀ i,i < σ.n->∀ b k,F i b k<=1:=fun i hi b k=>by have:=h.tot b k;have:=le_sumF F hi b k;omega
  cases pm with
  | ro=>
   obtain ⟨vs,us,Gi,g1,g2,g3,g4,g5,g6⟩:=ih (j+1) es hp hnd hj' hk;exact ⟨vs,us,Gi,g1,g2,g3,g4,g5,fun A2 hA hgv=>by simp only[MutsRel,htail];exact g6 A2 hA hgv⟩
  | fix f=>
   obtain ⟨vs,us,Gi,g1,g2,g3,g4,g5,g6⟩:=ih (j+1) es hp hnd hj' hk;exact ⟨vs,us,Gi,g1,g2,g3,g4,g5,fun A2 hA hgv=>by simp only[MutsRel,htail];exact g6 A2 hA hgv⟩
  | eat f=>
   obtain ⟨vs,us,Gi,g1,g2,g3,g4,g5,g6⟩:=ih (j+1) es hp hnd hj' hk;exact ⟨vs,us,Gi,g1,g2,g3,g4,g5,fun A2 hA hgv=>by simp only[MutsRel,htail];exact g6 A2 hA hgv⟩
  | eatv f=>
   obtain ⟨vs,us,Gi,g1,g2,g3,g4,g5,g6⟩:=ih (j+1) es hp hnd hj' hk;exact ⟨vs,us,Gi,g1,g2,g3,g4,g5,fun A2 hA hgv=>by simp only[MutsRel,htail];exact g6 A2 hA hgv⟩
  | mutp m=>
   cases es with
   | nil=>cases hk
   | cons i es=>
    have hnd':=dP.1 hnd;simp only[mutsK] at hk;split at hk
    ·rename_i t' m' H v hg;split at hk
     ·rename_i hc;simp only[aC,bJ,cW,bU] at hc;obtain ⟨⟨hH,hm⟩,hlent⟩:=hc;subst hH;obtain ⟨e,hk⟩:=castK_some hk;subst e;obtain ⟨vs,us,Gi,g1,g2,g3,g4,g5,g6⟩:=ih (j+1) es hp hnd'.2 hj' hk
      have hi:i < σ.n:=by
       rcases cB i σ.n with hi | hi
       ·exact hi
       ·rw[get_out (dG.2 hi)] at hg;cases hg
      have hs:=h.slots i hi;rw[hg] at hs;obtain ⟨b,o,L,F1,s1,s2,s3,s4,s5,s6⟩:=hs;have hptr:=h.lentP i j (lent_mem hlent);have hiu:i ∉ us:=fun hu=>hnd'.1 (g2 i hu)
      have hfit:∃ G:FP,(∀ b k,G b k<=F1 b k)/\∀ A2:Cells,(∀ b i,A b i->A2 b i)->(∀ b i,1<=F1 b i->G b i=0->A2 b i)->Rep P w A2 t' m [] v L G:=by
       rcases hm with hm | hm
       ·subst hm;exact ⟨F1,fun _ _=>aK _,fun A2 hA _=>Rep.mono hA (fun _ _ _ _ h=>h) (fun _ _ h=>h) t' s6 (fun _ _=>aK _) (fun _ _ _ _ h=>h)⟩
       ·exact Rep.fits t' hm s6 (fun b' k=>by have:=s5 b' k;have:=hF1 i hi b' k;omega)
      obtain ⟨G,G1,G2⟩:=hfit;refine ⟨(v,vs),i::us,updF Gi i fun b' k=>rng b o t'.sz b' k+G b' k,g1,fun i' hi'=>?_,dP.2 ⟨hiu,g3⟩,fun i' hi'=>?_,fun i' b' k hi'=>?_,fun A2 hA hgv=>?_⟩
      ·rcases aS.1 hi' with rfl | hi'
       ·exact bB
       ·exact aR _ (g2 i' hi')
      ·rcases aS.1 hi' with rfl | hi'
       ·exact hi
       ·exact g4 i' hi'
      ·by_cases hii:i'=i
       ·subst hii;simp only[updF,aH];have:=s5 b' k;have:=G1 b' k;omega
       ·simp only[updF,aY hii];exact g5 i' b' k ((aS.1 hi').resolve_left hii)
      ·refine ⟨fun b' k=>rng b o t'.sz b' k+G b' k,sumL Gi us,fun b' k=>?_,⟨b,o,L,G,by rw[hhead,<- hptr,s1],s2,s3,fun _ _=>aK _,G2 A2 hA fun b' k hp hz=>?_⟩,?_⟩
       ·simp only[sumL,sumL_upd Gi i _ b' k us hiu];simp only[updF,aH];exact aK _
       ·refine hgv i b' k bB (by have:=s5 b' k;omega) ?_;simp only[updF,aH];have:=s5 b' k;have:=hF1 i hi b' k;omega
       ·rw[htail];refine g6 A2 hA fun i' b' k hi' hp hz=>hgv i' b' k (aR _ hi') hp ?_;have hne:i'≠i:=fun e=>by subst e;exact hiu hi'
        simp only[updF,aY hne];exact hz
     ·cases hk
    ·cases hk
  | muts m=>
   cases es with
   | nil=>cases hk
   | cons i es=>
    have hnd':=dP.1 hnd;simp only[mutsK] at hk
    have main:∀ (t':Ty) (m':Md) (H:List Path) (v:t'.den),(σ.get i=.own t' m' H v\/σ.get i=.box t' m' H v)->(if H.isEmpty&&(decide (m'=m)||fits m' m)&&isLent σ.lent i j true then castK t' t v fun v=>mutsK σ (j+1) ps es fun vs=>K (v,vs) else none)=some x ->
      ∃ (vs:(tupT (mutTys ((PM.muts m,t)::ps))).den) (us:List Nat) (Gi:Nat->FP),K vs=some x/\(∀ i' ∈ us,i' ∈ i::es)/\us.Nodup/\(∀ i ∈ us,i < σ.n)/\(∀ i b k,i ∈ us->Gi i b k<=F i b k) /\
       ∀ A2:Cells,(∀ b k,A b k->A2 b k)->(∀ i b k,i ∈ us->1<=F i b k->Gi i b k=0->A2 b k)->MutsRel P w A2 ((PM.muts m,t)::ps) vs (C.args.toList.drop j) (sumL Gi us):=by
     intro t' m' H v hg hk;split at hk
     ·rename_i hc;simp only[aC,bJ,cW,bU] at hc;obtain ⟨⟨hH,hm⟩,hlent⟩:=hc;subst hH;obtain ⟨e,hk⟩:=castK_some hk;subst e;obtain ⟨vs,us,Gi,g1,g2,g3,g4,g5,g6⟩:=ih (j+1) es hp hnd'.2 hj' hk
      have hi:i < σ.n:=by
       rcases cB i σ.n with hi | hi
       ·exact hi
       ·rw[get_out (dG.2 hi)] at hg;rcases hg with hg | hg <;> cases hg
      have hs:=h.slots i hi
      have hrep:∃ (cs:List Value) (F1:FP),mkV t' cs=C.args.getD j undef/\(∀ b k,F1 b k<=F i b k)/\Rep P w A t' m' [] v cs F1:=by
       have hl:=h.lentS i j (lent_mem hlent);rcases hg with hg | hg
       ·rw[hg] at hs hl;obtain ⟨cs,h1,h2⟩:=hs;have:=hl _ rfl;simp only[h1,mkV_cells (Rep.length _ h2) (Rep.one _ h2)] at this;exact ⟨cs,F i,this,fun _ _=>aK _,h2⟩
       ·rw[hg] at hs hl;obtain ⟨b,o,L,F1,s1,s2,s3,s4,s5,s6⟩:=hs;rw[s1] at hl;have:=hl _ rfl;simp only[rd_of_has s3 s2] at this;exact ⟨L,F1,this,fun b k=>by have:=s5 b k;omega,s6⟩
      obtain ⟨cs1,F1,hcs1,hF,s6⟩:=hrep;have hiu:i ∉ us:=fun hu=>hnd'.1 (g2 i hu)
      have hfit:∃ G:FP,(∀ b k,G b k<=F1 b k)/\∀ A2:Cells,(∀ b i,A b i->A2 b i)->(∀ b i,1<=F1 b i->G b i=0->A2 b i)->Rep P w A2 t' m [] v cs1 G:=by
       rcases hm with hm | hm
       ·subst hm;exact ⟨F1,fun _ _=>aK _,fun A2 hA _=>Rep.mono hA (fun _ _ _ _ h=>h) (fun _ _ h=>h) t' s6 (fun _ _=>aK _) (fun _ _ _ _ h=>h)⟩
       ·exact Rep.fits t' hm s6 (fun b' k=>by have:=hF b' k;have:=hF1 i hi b' k;omega)
      obtain ⟨G,G1,G2⟩:=hfit;refine ⟨(v,vs),i::us,updF Gi i G,g1,fun i' hi'=>?_,dP.2 ⟨hiu,g3⟩,fun i' hi'=>?_,fun i' b' k hi'=>?_,fun A2 hA hgv=>?_⟩
      ·rcases aS.1 hi' with rfl | hi'
       ·exact bB
       ·exact aR _ (g2 i' hi')
      ·rcases aS.1 hi' with rfl | hi'
       ·exact hi
       ·exact g4 i' hi'
      ·by_cases hii:i'=i
       ·subst hii;simp only[updF,aH];have:=hF b' k;have:=G1 b' k;omega
       ·simp only[updF,aY hii];exact g5 i' b' k ((aS.1 hi').resolve_left hii)
      ·refine ⟨G,sumL Gi us,fun b' k=>?_,⟨cs1,by rw[hhead,hcs1],G2 A2 hA fun b' k hp hz=>?_⟩,?_⟩
       ·simp only[sumL,sumL_upd Gi i _ b' k us hiu];simp only[updF,aH];exact aK _
       ·refine hgv i b' k bB (by have:=hF b' k;omega) ?_;simp only[updF,aH];exact hz
       ·rw[htail];refine g6 A2 hA fun i' b' k hi' hp hz=>hgv i' b' k (aR _ hi') hp ?_;have hne:i'≠i:=fun e=>by subst e;exact hiu hi'
        simp only[updF,aY hne];exact hz
     ·cases hk
    split at hk
    ·rename_i t' m' H v hg;exact main t' m' H v (.inl hg) hk
    ·rename_i t' m' H v hg;exact main t' m' H v (.inr hg) hk
    ·cases hk
end
end OT
