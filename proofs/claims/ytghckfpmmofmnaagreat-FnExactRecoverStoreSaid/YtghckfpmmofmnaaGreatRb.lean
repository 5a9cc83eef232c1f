/- The proof's parts, merged: Operations, first part.. No conditions but those that each states. -/
import Derived.Test.YtghckfpmmofmnaaGreatRa
import Derived.Laws.Slices
import Derived.Laws.Concat
import Derived.Laws.StructEq
import Derived.Laws.Cover3
import Derived.ChangeKeysEq
import Derived.Laws.MakeOwn
import Derived.Laws.IdiomStrings
import Derived.Laws.BytesArg
import Derived.Laws.Tables
import Derived.Great.BuildSlice
import Derived.Deep.AppendSrc
set_option linter.unusedVariables false
set_option linter.unusedSimpArgs false
namespace OT
open Go
section
variable {P:Program} {C:Ctx} {A:Cells} {X:FP} {σ:St} {a:Act} {w:World} {F:Nat->FP} {R:Type} {x:R} {Q:Exit->Act->World->Prop} {o:Oper} {E:Env}
def Nx (P:Program) (C:Ctx) {R:Type} (K:St->Option R) (x:R) (a:Act) (w:World):Prop:=∃ σ',K σ'=some x/\G0 P C σ' a w
abbrev ey (P:Program) (C:Ctx) (A:Cells) (σ:St) (a:Act) (w:World) (F:Nat->FP):Prop:=Rel P C A (λ_ _=>0) σ a w F
theorem pq {v:Value} {w':World} {next:Act->World->Prop} (jL:(execOp a.eval o).run P w=.ok (.value v) w') (hn:next (a.put o.dst v) w'):o.wp P a w next Q:=by
 unfold Oper.wp;rw[jL];exact hn
theorem ON {w':World} {next:Act->World->Prop} (jL:(execOp a.eval o).run P w=.ok .skip w') (hd:o.dst=none) (hn:next a w'):o.wp P a w next Q:=by
 unfold Oper.wp;rw[jL,Oper.upon,hd];exact hn
def reads:Op->Bool
 | .load .. | .convert ..=>true
 | _=>false
def u_ (o:Oper) (w w':World):Prop:=reads o.op=true->Ext w w' (λ_ _=>0)
theorem u_.ext {o:Oper} {w w':World} (h:u_ o w w') (hr:reads o.op=true):Ext w w' (λ_ _=>0):=h hr
def Tk (P:Program) (o:Oper) (a:Act) (w:World) (next:Act->World->Prop):Prop:=
 ∃ v,(∀ w',u_ o w w'->(execOp a.eval o).run P w'=.ok (.value v) w')/\next (a.put o.dst v) w
theorem iS {v:Value} {next:Act->World->Prop} (jL:∀ w',u_ o w w'->(execOp a.eval o).run P w'=.ok (.value v) w') (hn:next (a.put o.dst v) w):Tk P o a w next:=⟨v,jL,hn⟩
theorem Tk.wp {next:Act->World->Prop} (h:Tk P o a w next):o.wp P a w next Q:=by
 obtain ⟨v,h1,h2⟩:=h;exact pq (h1 w λ_=>Ext.refl _ _) h2
theorem yW {b i:Nat} {u:Value} (h:ce w b i=some u):b < w.heap.size:=by
 grind [ce,World.cell?]
theorem Has.ext {b o:Nat} {L:List Value} {w':World} (h:Has w b o L) (hw:Ext w w' (λ_ _=>0)):Has w' b o L:=λj u hu=>hw.cell b (o+j) (yW (h j u hu)) rfl u (h j u hu)
theorem qH (h:Rel P C A X σ a w F) {K:St->Option R} {d:Option Tmp} {s:Slot} {v:Value} {Fd:FP} (hk:K (σ.cg d s)=some x) (hs:dq P A σ a w v s Fd) (ht:∀ b i,Fd b i<=X b i)
  (hwh:∀ t m H v',s=.box t m H v'->∃ b,v=.pointer (some ⟨b,0,none⟩)/\iR w b (t.sz,false)):Nx P C K x (a.put d v) w:=by
 obtain ⟨F',hF⟩:=h.cg d (X':=λ_ _=>0) hs (λb i=>by grind) hwh;exact ⟨_,hk,A,F',hF⟩
theorem ct (h:Rel P C A X σ a w F) {K:St->Option R} {d:Option Tmp} {s:Slot} {v:Value} (hk:K (σ.cg d s)=some x) (hs:dq P A σ a w v s (λ_ _=>0))
  (hb:∀ t m H v',s≠.box t m H v'):Nx P C K x (a.put d v) w:=
 qH h hk hs (λ_ _=>aZ _) (λt m H v' e=>absurd e (hb t m H v'))
theorem Cw (h:Rel P C A X σ a w F) {K:St->Option R} {d:Option Tmp} {t:Ty} {m:Md} {v:t.den} {cs:List Value} {Fd:FP} (hk:K (σ.cg d (laid t m v))=some x) (hr:ax P w A t m [] v cs Fd) (ht:∀ b i,Fd b i<=X b i) :
  Nx P C K x (a.put d (cu t cs)) w:=
 qH h hk (Ic (σ:=σ) (a:=a) hr).1 ht (Ic (σ:=σ) (a:=a) hr).2
theorem iq {t:Nat} {K:Ty->Option R} (h:rf E t K=some x):∃ T,E.TI t=some T/\K T=some x:=by
 grind [rf]
theorem Kp {s:Slot} {K:Bool->Option R} {tv:Value} {G:FP} (hs:dq P A σ a w tv s G) (h:J_ s K=some x):∃ b,tv=.bool b/\K b=some x:=by
 unfold J_ at h;split at h
 ·rename_i b;obtain ⟨cs,h1,h2⟩:=hs;simp only[Ro] at h2;subst h2;exact ⟨b,by rw[h1];rfl,h⟩
 ·cases h
theorem yr {s:Slot} {K:Int->Option R} {tv:Value} {G:FP} (hs:dq P A σ a w tv s G) (h:xX s K=some x):∃ k n,tv=.int k n/\K n=some x:=by
 unfold xX at h;split at h
 ·rename_i k n;obtain ⟨cs,h1,h2⟩:=hs;simp only[Ro] at h2;subst h2;exact ⟨k,_,by rw[h1];rfl,h⟩
 ·cases h
theorem EX (h:Rel P C A X σ a w F) {r:Nat} {p:Path} {pl:Pl} (hp:place σ a w r p=some pl):sI σ a w (cu pl.t pl.cs) r p (wR σ r p pl.t):=by
 have h5:=h.mD r;refine ⟨?_,λ_=>⟨_,hp,rfl,?_⟩⟩
 ·unfold wR;split
  ·intro j y hj;grind
  ·intro j y hj;grind
  ·exact Below.refl _
 ·unfold wR;split
  ·rename_i e he;left;exact ⟨by rw[he];rfl,by grind⟩
  ·rename_i k v he;left;exact ⟨by rw[he];rfl,by grind⟩
  grind
theorem MV (σ:St) (y:Operand) (t:Ty) (m:Md) (H:List Path) (v:t.den):ep σ y≠.box t m H v:=by
 intro e
 cases y with
 | tmp i=>grind [ep]
 | const v=>simp only[ep] at e;unfold AH at e;grind
 | func f=>cases e
 | global g=>cases e
theorem Wz (h:ey P C A σ a w F) {y:Operand} (ho:o.op=.move y) (bf:ei P y=true) {K:St->Option R} (hk:T9 σ y o.dst K=some x):Tk P o a w (Nx P C K x):=by
 refine iS (v:=a.eval y) (by simp[execOp,ho]) ?_;unfold T9 at hk;have hs:=gn h bf;split at hk
 ·rename_i xs i hx
  have hi:i < σ.n:=by
   grind [ep,mK]
  have hg:σ.get i=.s8 xs:=by
   grind [ep]
  have mF:=h.jg i hi;rw[hg] at mF;have h2:=h.put hi (s:=.dead) (v:=tmp a i) (Fd:=λ_ _=>0) (X':=λb k=>F i b k) trivial (λb k=>by omega) (λt m H v e=>by cases e);rw[sJ] at h2;refine qH h2 hk (Fd:=F i) ?_ (λb i=>aH _) (λt m H v e=>by cases e);obtain ⟨vs,Fi,h3,h4,h5⟩:=mF;exact ⟨vs,Fi,h3,h4,h5⟩
 all_goals grind [ct,MV]
theorem WA (h:ey P C A σ a w F) {c y z:Operand} (ho:o.op=.pick c y z) (bf:ei P c=true/\ei P y=true/\ei P z=true) {K:St->Option R}
  (hk:(J_ (ep σ c) λc=>match ep σ (bif c then y else z) with
   | .val .bool b=>K (σ.cg o.dst (.val .bool b))
   | _=>none)=some x):Tk P o a w (Nx P C K x):=by
 have hc:=gn h bf.1
 rcases hc with hc | ⟨xs,e⟩
 ·obtain ⟨b,hb,hk⟩:=Kp hc hk
  have afx:∀ y':Operand,ei P y'=true->(match ep σ y' with
   | .val .bool b=>K (σ.cg o.dst (.val .bool b))
   | _=>none)=some x->Nx P C K x (a.put o.dst (a.eval y')) w:=λy' hy hk=>by
   grind [gn,ct]
  cases b <;> simp_all [iS,execOp,asBool]
 ·rw[e] at hk;cases hk
theorem WB (h:ey P C A σ a w F) (kV:∀ i T,E.TI i=some T->bn P T (.inl i)=true) {t:Nat} {y:Operand} (ho:o.op=.load t y) (bf:ei P y=true) {K:St->Option R}
  {mv:Bool} (hk:EJ E σ t (ep σ y) mv o.dst K=some x):Tk P o a w (Nx P C K x):=by
 unfold EJ at hk;obtain ⟨T,hT,hk⟩:=iq hk;have jz:=kV _ _ hT
 have run:∀ b off L,a.eval y=.pointer (some ⟨b,off,none⟩)->Has w b off L->L.length=T.sz->(∀ u ∈ L,u.oneCell'=true)->∀ w',u_ o w w'->(execOp a.eval o).run P w'=.ok (.value (cu T L)) w':=λb off L hy hL hl qu w' um=>by
  have um:=um (by rw[ho];rfl);simp[execOp,ho,hy,Instr.loadAt,Instr.sureAddr,Ap jz (hL.ext um) hl qu]
 rcases gn h bf with hs | ⟨xs,e⟩
 rotate_left
 ·grind
 split at hk
 ·rename_i t' v hv;rw[hv] at hs;split at hk
  ·rename_i e;subst e;obtain ⟨⟨b,off,sp⟩,h1,h2,L,h3,h4,h5⟩:=hs;simp only[dG,eG] at h1;simp only at h2;subst h2;exact iS (run b off L h1 (λj u hu=>(h4 j u hu).1) h3 (Ro.one _ h5)) (ct h hk ⟨L,rfl,h5⟩ (λ_ _ _ _ e=>by cases e))
  ·cases hk
 ·rename_i r p snap hv;rw[hv] at hs;split at hk
  ·rename_i pM;obtain ⟨hr,t',m',H',v',cc,dt,F',h1,h2,h3,h4,h5,h6⟩:=l7 h hk;obtain ⟨pl,b,off,g1,g2,g3,g4⟩:=hs.2 pM;rw[h3] at g1;injection g1 with g1;subst g1;simp only at g2;subst g2;split at h1
   ·rename_i e;subst e;refine iS (run b off cc g3 (h6 b off rfl) (ax.length _ h4) (ax.one _ h4)) ?_;split at h1
    ·rename_i hf;split at h1
     ·exact ct h h1 ⟨cc,rfl,ax.flat _ hf h4⟩ (λ_ _ _ _ e=>by cases e)
     ·cases h1
    ·split at h1
     ·rename_i hm;split at h1
      ·rename_i hH;have hH:=bD.1 hH;subst hH;subst hm
       cases mv with
       | false=>exact ct h h1 ⟨cc,rfl,ax.ro _ (iF _) h4⟩ (λ_ _ _ _ e=>by cases e)
       | true=>exact ct h h1 (EX h h3) (λ_ _ _ _ e=>by cases e)
      ·cases h1
     ·cases mv with
      | false=>exact ct h h1 (EX h h3) (λ_ _ _ _ e=>by cases e)
      | true=>
       simp only at h1;split at h1
       ·rename_i hH;have hH:=bD.1 hH;subst hH;obtain ⟨A2,mT,F2,d9,Cx,Fv,k1,k2,k3,k4,k5,k6,k7⟩:=LX h h1 ⟨h2⟩;rw[h3] at k6;simp only[aQ,Pl.mk.injEq,dE] at k6;obtain ⟨rfl,rfl⟩:=k6;have hl:=Ic (σ:=mT) (a:=a) (ax.mono k2 (λ_ _ _ _ h=>h) (λ_ _ h=>h) _ k7 (λ_ _=>aH _) (λ_ _ _ _ h=>h));exact qH k3 k1 hl.1 (λb i=>by omega) hl.2
       ·cases h1
   ·cases h1
  ·cases hk
 ·cases hk
theorem Um (h:ey P C A σ a w F) (kV:∀ i T,E.TI i=some T->bn P T (.inl i)=true) {t:Nat} {y:Operand} (ho:o.op=.load t y) (bf:ei P y=true) {K:St->Option R}
  {mv fr:Bool} (hk:Ka E σ t y mv fr o.dst K=some x):Tk P o a w (Nx P C K x):=by
 unfold Ka at hk;grind [WB,AJ]
theorem Un {b o b' i:Nat} {v u:Value} (jx:¬ (b=b'/\o=i)) (h:ce w b' i=some u):ce (w.setCell ⟨b,o,none⟩ v) b' i=some u:=by
 by_cases hb:b=b'
 ·subst hb
  cases hh:w.heap[b]? with
  | none=>grind [ce,World.cell?]
  | some ob=>
   cases ob <;> simp_all [World.setCell,gB,ce,World.cell?]
 grind [World.setCell,Cj]
theorem k_ {b o:Nat}:∀ (L:List Value) (w:World) (o:Nat),Ext w (w.setCells b o L) (de b o L.length)
 | [],w,o=>Ext.refl _ _
 | v::L,w,o=>by
  have ih:=k_ (b:=b) (o:=o+1) L (w.setCell ⟨b,o,none⟩ v) (o+1)
  have h1:Ext w (w.setCell ⟨b,o,none⟩ v) (de b o (L.length+1)):=by
   refine ⟨by simp,λb' i hb hz u hu=>?_,λb' n hn=>?_,λb' i hb=>by simp,rfl,rfl,rfl,λb' hb hz=>?_,aH _⟩
   ·grind [Un,de]
   ·obtain ⟨c,e,fr,h1,h2,h3⟩:=hn;by_cases MW:b=b'
    ·subst MW;exact ⟨c.setIfInBounds o v,e,fr,by grind [World.setCell],by simp[h2],h3⟩
    ·exact ⟨c,e,fr,by grind [World.setCell],h2,h3⟩
   ·have jx:b≠b':=λe=>by
     subst e;have:=hz o;grind [de]
    grind [World.setCell]
  exact h1.trans ih λb' i hb hz=>by
   grind [de]
theorem pN {w:World} {b o:Nat} {L:List Value} (h:∀ j,j < L.length->(w.cell? ⟨b,o+j,none⟩).isSome=true) (qu:∀ u ∈ L,u.oneCell'=true):Has (w.setCells b o L) b o L:=by
 intro j u hu;grind [H9,World.cell?_setCells_in]
theorem Uo (h:ey P C A σ a w F) (kV:∀ i T,E.TI i=some T->bn P T (.inl i)=true) {t:Nat} {y z:Operand} (ho:o.op=.store t y z) (hd:o.dst=none) (bf:ei P y=true/\ei P z=true) {mv:Bool} {K:St->Option R}
  (hk:Oj E σ t (ep σ y) (ep σ z) mv K=some x):o.wp P a w (Nx P C K x) Q:=by
 unfold Oj at hk;obtain ⟨T,hT,hk⟩:=iq hk;have jz:=kV _ _ hT
 rcases gn h bf.1 with hs | ⟨xs,e⟩
 rotate_left
 ·grind
 split at hk
 ·rename_i r p snap hv;rw[hv] at hs;split at hk
  ·rename_i pM;split at hk
   ·obtain ⟨pl,b,off,g1,g2,g3,g4⟩:=hs.2 pM
    rcases gn h bf.2 with hz | ⟨xs,e⟩
    rotate_left
    ·grind [nC]
    obtain ⟨A',σ',F',m,v,cs,Fv,k1,k2,k3,k4,kr,k5,k6⟩:=vL h hz hk;obtain ⟨hr,m2,H2,v2,d9,Cx,F2,q1,q2,q3,q4,q5,q6⟩:=Eh k3 k1
    have ji:Cx=some (b,off):=by
     unfold place at g1 q2
     cases hR:et w (tmp a r) (σ'.get r) with
     | none=>grind
     | some R1=>
      rw[hR] at q2;obtain ⟨H0,Bu⟩:=kr w (tmp a r) r R1 hR;rw[Bu] at g1;have:=(adn p R1.t g1 q2).2.2;grind
    subst ji;obtain ⟨wa,ol⟩:=q5 b off rfl;have hl:=ax.length _ k6;have zG:=ax.length _ q3;have qu:=ax.one _ k6;have adv:=ax.one _ q3
    have Ei:∀ j,j < cs.length->(w.cell? ⟨b,off+j,none⟩).isSome=true:=λj hj=>by
     rw[sy (wa j _ (aB Bys)) (adv _ (aP _))];rfl
    have dp:=run_storeCells_cells (P:=P) b off cs 0 w (by simpa using Ei) (λj hj=>by grind) qu;have hcv:(cu T cs).cells.toList=cs:=lW hl qu;have nt:(cu T cs).cells.size=T.sz:=by grind
    have jL:(execOp a.eval o).run P w=.ok .skip (w.setCells b off cs):=by
     simp[execOp,ho,g3,k5,Instr.storeAt,Instr.sureAddr,storeVar,run_sizeOf jz,nt,hcv,dp]
    refine ON jL hd ?_
    have iT:ax P (w.setCells b off cs) A' T m [] v cs Fv:=by
     refine ax.mono (λ_ _ h=>h) (λb' i ha u hu=>?_) (k_ (b:=b) (o:=off) cs w off).wg _ k6 (λ_ _=>aH _) (λb' i hp u hu=>?_)
     ·refine (k_ (b:=b) (o:=off) cs w off).cell b' i (k3.k9 b' i (.inr ha)) ?_ u hu;have h1:=q4 b' i;have h2:=dz F' hr b' i
      rcases bJ (lF (some (b,off)) T.sz b' i) with h0 | h0
      ·rw[hl];exact h0
      ·exact absurd ha (k3.rh b' i Bys)
     ·have h1:=q4 b' i;have h2:=dz F' hr b' i;have h3:=k3.qe b' i
      refine (k_ (b:=b) (o:=off) cs w off).cell b' i (k3.k9 b' i (.inl Bys)) ?_ u hu;grind [lF]
    have eo:Ext w (w.setCells b off cs) (λb' i=>(0+Fv b' i)+(F2 b' i+lF (some (b,off)) T.sz b' i)):=(k_ (b:=b) (o:=off) cs w off).mono λb' i hz=>by
     grind [lF]
    obtain ⟨A3,Dn,Fr,n1,n2,n3,_⟩:=q6 (w.setCells b off cs) A' cs Fv (λ_ _=>0) eo (λ_ _ h=>h) (λ_ _ h=>.inl h) (λb i=>by omega) (λb' o' e=>by
      grind [pN]) (λe=>by cases e) iT
    exact ⟨Dn,n1,A3,_,n3⟩
   ·cases hk
  ·cases hk
 ·cases hk
end
end OT
namespace OT
open Go
section
variable {P:Program} {w:World} {A:Cells}
theorem Up:∀ (p q:Path) (t:Ty) {H:List Path} {cs:List Value} {ad:Option (Nat×Nat)},bt w (p++q) t H cs ad=(bt w p t H cs ad).bind λpl=>bt w q pl.t pl.H pl.cs pl.ad:=by
 intro p
 induction p with
 | nil=>intro q t H cs ad;rfl
 | cons s p ih=>
  intro q t H cs ad
  cases t with
  | pair a b=>
   cases s <;> grind [bt]
  | aa e=>
   cases s with
   | idx i=>
    simp only[dR,bt];split
    ·rfl
    ·split
     all_goals grind
   | _=>simp[bt]
  | arr n e=>
   cases s <;> grind [bt]
  | _=>grind [bt]
theorem Js:∀ (p:Path) (t:Ty) {H:List Path} {cs:List Value} {ad:Option (Nat×Nat)} {pl:Pl},bt w p t H cs ad=some pl->DS p t=some pl.t:=by
 intro p
 induction p with
 | nil=>intro t H cs ad pl h;simp only[bt,aQ] at h;subst h;rfl
 | cons s p ih=>
  intro t H cs ad pl h
  cases t with
  | pair a b=>
   cases s with
   | fst=>simp only[bt] at h;split at h;cases h;exact ih a h
   | snd=>simp only[bt] at h;split at h;cases h;exact ih b h
   | _=>simp[bt] at h
  | aa e=>
   cases s with
   | idx i=>
    simp only[bt] at h;split at h
    ·cases h
    ·split at h
     ·split at h
      ·exact ih e h
      ·cases h
     ·cases h
   | _=>simp[bt] at h
  | arr n e=>
   cases s with
   | rB i=>
    simp only[bt] at h;split at h
    ·split at h
     ·exact ih e h
     ·cases h
    ·cases h
   | _=>simp[bt] at h
  | _=>grind [bt]
theorem aba:∀ (q:Path) (t:Ty) {m:Md} {H:List Path} {v:t.den} {cs:List Value} {F:FP} {ad:Option (Nat×Nat)} {pl:Pl},ax P w A t m H v cs F->bt w q t H cs ad=some pl ->
  ∃ (m':Md) (v':pl.t.den) (F':FP),ax P w A pl.t m' pl.H v' pl.cs F':=by
 intro q
 induction q with
 | nil=>grind [bt]
 | cons s q ih=>
  intro t m H v cs F ad pl hr h
  cases t with
  | pair a b=>
   obtain ⟨h0,F1,F2,hs,h1,h2⟩:=hr;cases s <;> grind [bt]
  | aa e=>
   cases s with
   | idx i=>
    simp only[ax] at hr;simp only[bt] at h;split at h
    ·cases h
    ·rename_i hh;rw[aV hh] at hr;split at hr
     ·obtain ⟨a,cap,rfl,h2,h3,h4,h5⟩:=hr
      cases a with
      | none=>cases h
      | some iP=>
       obtain ⟨g1,g2,g3,Fi,g4,g5⟩:=h5 iP rfl;simp only at h;split at h
       ·rename_i hi;obtain ⟨L,hl,hL,iT⟩:=g5 i _ (aB hi);rw[g1,bE,gc hL hl] at h;grind
       ·cases h
     ·obtain ⟨rfl,rD,a,cap,rfl,h2,h3,h4⟩:=hr
      cases a with
      | none=>cases h
      | some iP=>
       simp only at h;split at h
       ·rename_i hi;obtain ⟨L,hl,hL,iT⟩:=(h4 iP rfl).2 i _ (aB hi);rw[gc (λj u hu=>(hL j u hu).1) hl] at h;exact ih e (Ro.rep e (λ_ _=>0) rD iT) h
       ·cases h
   | _=>simp[bt] at h
  | arr n e=>
   cases s with
   | rB i=>
    obtain ⟨rfl,hf,hl,hlen,hr⟩:=hr;simp only[bt,cM,aJ] at h;split at h
    ·rename_i hi;exact ih e (Ro.flat e (m:=.leaf) (λ_ _=>0) hf (hr i _ (aB (by grind)))) h
    ·cases h
   | _=>simp[bt] at h
  | _=>grind [bt]
def kH:Nat->Ty->Nat
 | j+1,.pair a b=>a.sz+kH j b
 | _,_=>0
theorem Rr (ad:Option (Nat×Nat)):iY ad 0=ad:=by simp_all [iY]
theorem Uq (ad:Option (Nat×Nat)) (j k:Nat):iY (iY ad j) k=iY ad (j+k):=by cases ad <;> simp[iY,cB]
theorem ST:∀ (j:Nat) (S:Ty) {t':Ty} {m:Md} {H:List Path} {v:S.den} {cs:List Value} {F:FP} {ad:Option (Nat×Nat)},ax P w A S m H v cs F->wd j S=some t' ->
  ∃ H',bt w (pa j) S H cs ad=some ⟨t',H',(cs.drop (kH j S)).take t'.sz,iY ad (kH j S)⟩:=by
 intro j
 induction j with
 | zero=>
  intro S t' m H v cs F ad hr h
  cases S with
  | pair a b=>
   injection h with h;subst h;obtain ⟨h0,F1,F2,hs,h1,h2⟩:=hr;simp_all [pa,bt,kH,Rr]
  | _=>cases h
 | succ j ih=>
  intro S t' m H v cs F ad hr h
  cases S with
  | pair a b=>
   obtain ⟨h0,F1,F2,hs,h1,h2⟩:=hr;obtain ⟨H',e⟩:=ih b (ad:=iY ad a.sz) h2 h;grind [pa,bt,kH,List.drop_drop,Uq]
  | _=>cases h
theorem YS:∀ (j:Nat) (T:Ty) {t:Ty},DS (pa j) T=some t->∃ t2,wd j T=some t2:=by
 intro j
 induction j with
 | zero=>intro T t h;cases T <;> first | exact ⟨_,rfl⟩ | grind [pa,DS]
 | succ j ih=>intro T t h;cases T <;> first | (simp[pa,DS] at h;done) | exact ih _ (by simpa [pa,DS] using h)
theorem SV:∀ (j:Nat) (S:Ty) {t':Ty} {fs:List Field} {off:Nat},bn P S (.inr (fs,off))=true->wd j S=some t' ->
  ∃ f,fs[j]?=some f/\f.offset=off+kH j S/\bn P t' (.inl f.type)=true/\1<=t'.sz:=by
 intro j
 induction j with
 | zero=>
  intro S t' fs off hl h
  cases S with
  | pair a b=>
   injection h with h;subst h;cases fs <;> simp_all [bn,kH]
  | _=>cases h
 | succ j ih=>
  intro S t' fs off hl h
  cases S with
  | pair a b=>
   cases fs with
   | nil=>simp[bn] at hl
   | cons f r=>
    simp only[bn,aD,eP,dL] at hl;obtain ⟨f',h1,h2,h3⟩:=ih b hl.2 h;grind [kH]
  | _=>cases h
theorem Kq {j:Nat} {S t':Ty} {i:TypeId} (hl:bn P S (.inl i)=true) (h:wd j S=some t') :
  ∃ fs f,P.underlying i=some (.struct fs)/\fs[j]?=some f/\f.offset=kH j S/\bn P t' (.inl f.type)=true/\1<=t'.sz:=by
 cases S with
 | pair a b=>
  simp only[bn,aD] at hl;have h2:=hl.2;split at h2
  ·rename_i fs hu;split at h2
   ·rename_i f r Kr
    have h3:bn P (.pair a b) (.inr (f::r,0))=true:=by
     grind [bn]
    grind [SV]
   ·cases h2
  ·cases h2
 | _=>cases j <;> cases h
theorem wx {t:Ty} {i:TypeId} (h:bn P t (.inl i)=true) {cs:Array Value} {off:Nat} (hl:((cs.toList.drop off).take t.sz).length=t.sz):(part i cs off).run P w=.ok (cu t ((cs.toList.drop off).take t.sz)) w:=by
 unfold part;simp only[Sem.run_bind,yq h,Result.andThen_ok]
 cases ht:isAgg t with
 | true=>
  simp only[aJ,Sem.run_bind,run_sizeOf h,Result.andThen_ok,Sem.run_pure,cu,ht];congr 2;grind
 | false=>
  simp_all [OM,List.take_one,cu]
end
section
variable {P:Program} {C:Ctx} {A:Cells} {X:FP} {σ:St} {a:Act} {w:World} {F:Nat->FP} {R:Type} {x:R} {Q:Exit->Act->World->Prop} {o:Oper} {E:Env}
theorem MX (h:Rel P C A X σ a w F) {r:Nat} {p:Path} {pl:Pl} (hp:place σ a w r p=some pl):∃ (m':Md) (v':pl.t.den) (F':FP),ax P w A pl.t m' pl.H v' pl.cs F':=by
 have a_:=u9 hp;unfold place at hp
 cases hR:et w (tmp a r) (σ.get r) with
 | none=>grind
 | some R0=>
  rw[hR] at hp;obtain ⟨m0,v0,F1,q1,q2,q3,_⟩:=yO (h.jg r a_) hR;grind [aba]
theorem uE (r:Nat) (p q:Path):place σ a w r (p++q)=(place σ a w r p).bind λpl=>bt w q pl.t pl.H pl.cs pl.ad:=by
 unfold place;cases et w (tmp a r) (σ.get r) <;> grind [Up]
theorem Ks {r:Nat} {p:Path} {pl:Pl} (hp:place σ a w r p=some pl):Jl σ r p=some pl.t:=by
 unfold place at hp;unfold Jl Oi
 cases hg:σ.get r with
 | own t m H v=>grind [et,Js]
 | box t m H v=>
  rw[hg] at hp;simp only[et] at hp;grind [Js]
 | _=>grind [et]
theorem YT (p:Path) (j:Nat):eu (p++pa j)=eu p:=by
 induction p with
 | nil=>induction j <;> grind [pa,eu]
 | cons s p ih=>cases s <;> simp only[dR,eu,ih]
theorem MY {A':Cells}:∀ (j:Nat) (S:Ty) {v:S.den} {K:(t':Ty)->t'.den->Option R} {cs:List Value},T6 j S v K=some x->Ro P w A' S v cs ->
  ∃ t' v',wd j S=some t'/\K t' v'=some x/\Ro P w A' t' v' ((cs.drop (kH j S)).take t'.sz):=by
 intro j
 induction j with
 | zero=>
  intro S v K cs h hr
  cases S with
  | pair a b=>exact ⟨a,v.1,rfl,h,by simp only[kH,eD];exact hr.1⟩
  | _=>cases h
 | succ j ih=>
  intro S v K cs h hr
  cases S with
  | pair a b=>
   obtain ⟨t',v',h1,h2,h3⟩:=ih b (v:=v.2) h hr.2;exact ⟨t',v',h1,h2,by grind [kH,List.drop_drop]⟩
  | _=>cases h
theorem NL (h:ey P C A σ a w F) {y:Operand} (ho:o.op=.nilCheck y) (bf:ei P y=true) {K:St->Option R}
  (hk:(match ep σ y with
  | .ptr r p snap=>if σ.ok r snap then K (σ.cg o.dst (.ptr r p snap)) else none
  | .cp t v=>K (σ.cg o.dst (.cp t v))
  | .val .fn f=>K (σ.cg o.dst (.val .fn f))
  | _=>none)=some x):Tk P o a w (Nx P C K x):=by
 rcases gn h bf with hs | ⟨xs,e⟩
 rotate_left
 ·grind
 split at hk
 ·rename_i r p snap hv;rw[hv] at hs;split at hk
  ·rename_i pM;obtain ⟨pl,b,off,g1,g2,g3,g4⟩:=hs.2 pM;exact iS (v:=a.eval y) (by simp[execOp,ho,g3]) (ct h hk hs (λ_ _ _ _ e=>by cases e))
  ·cases hk
 ·rename_i t v hv;rw[hv] at hs;obtain ⟨ad,h1,_⟩:=id hs;simp only[dG,eG] at h1;exact iS (v:=a.eval y) (by simp[execOp,ho,h1]) (ct h hk hs (λ_ _ _ _ e=>by cases e))
 ·rename_i f hv;rw[hv] at hs;obtain ⟨cs,h1,Bb,h2,_⟩:=id hs;subst h2;exact iS (v:=a.eval y) (by simp[execOp,ho,h1,cu,isAgg]) (ct h hk hs (λ_ _ _ _ e=>by cases e))
 ·cases hk
theorem LZ (h:ey P C A σ a w F) (kV:∀ i T,E.TI i=some T->bn P T (.inl i)=true) {S:Nat} {y:Operand} {j:Nat} (ho:o.op=.fieldAddr S y j) (bf:ei P y=true) {K:St->Option R}
  (hk:EK E σ S (ep σ y) j o.dst K=some x):Tk P o a w (Nx P C K x):=by
 unfold EK at hk;obtain ⟨T,hT,hk⟩:=iq hk;have jz:=kV _ _ hT
 have run:∀ t' b off,wd j T=some t'->a.eval y=.pointer (some ⟨b,off,none⟩)->∀ w',u_ o w w'->(execOp a.eval o).run P w'=.ok (.value (.pointer (some ⟨b,off+kH j T,none⟩))) w':=λt' b off ht hy w' _=>by
  obtain ⟨fs,f,h1,h2,h3,h4,h5⟩:=Kq jz ht;have nt:=run_sizeOf (P:=P) (w:=w') h4;have jx:¬ t'.sz=0:=by omega
  simp_all [execOp,Instr.fieldAt,Instr.sureAddr,run_underlying,fieldPlace,qG]
 rcases gn h bf with hs | ⟨xs,e⟩
 rotate_left
 ·grind
 split at hk
 ·rename_i t' v hv;rw[hv] at hs;split at hk
  ·rename_i e;subst e;obtain ⟨⟨b,off,sp⟩,h1,h2,L,h3,h4,h5⟩:=hs;simp only[dG,eG] at h1;simp only at h2;subst h2;obtain ⟨t2,v2,q1,q2,q3⟩:=MY j t' hk h5;refine iS (run t2 b off q1 h1) (ct h q2 ⟨_,rfl,rfl,_,Ro.length _ q3,λk u hu=>?_,q3⟩ (λ_ _ _ _ e=>by cases e));grind
  ·cases hk
 ·rename_i r p snap hv;rw[hv] at hs;split at hk
  ·rename_i pM;split at hk
   ·rename_i Cy;split at hk
    ·rename_i hf;obtain ⟨pl,b,off,g1,g2,g3,g4⟩:=hs.2 pM;rw[Ks g1] at Cy;injection Cy with Cy;obtain ⟨t',Gy⟩:=eB.1 hf;refine iS (run t' b off Gy g3) (ct h hk ⟨hs.1,λ_=>?_⟩ (λ_ _ _ _ e=>by cases e));obtain ⟨m',v',F',iT⟩:=MX h g1;obtain ⟨tp,Hp,csp,adp⟩:=pl;simp only at Cy g2 iT;subst Cy;obtain ⟨H',e⟩:=ST (ad:=adp) j tp iT Gy;grind [iY,YT,uE]
    ·cases hk
   ·cases hk
  ·cases hk
 ·cases hk
theorem Ur (h:ey P C A σ a w F) (kV:∀ i T,E.TI i=some T->bn P T (.inl i)=true) {S:Nat} {y:Operand} {j:Nat} (ho:o.op=.field S y j) (bf:ei P y=true) {K:St->Option R}
  (hk:LM E σ S (ep σ y) j o.dst K=some x):Tk P o a w (Nx P C K x):=by
 unfold LM at hk;obtain ⟨T,hT,hk⟩:=iq hk;have jz:=kV _ _ hT
 have run:∀ t' cs,wd j T=some t'->a.eval y=cu T cs->((cs.drop (kH j T)).take t'.sz).length=t'.sz->∀ w',u_ o w w'->(execOp a.eval o).run P w'=.ok (.value (cu t' ((cs.drop (kH j T)).take t'.sz))) w':=λt' cs ht hy hl w' _=>by
  obtain ⟨fs,f,h1,h2,h3,h4,h5⟩:=Kq jz ht
  have afK:cu T cs=.agg cs.toArray:=by cases T <;> first | rfl | (cases j <;> cases ht)
  have:=wx (P:=P) (w:=w') h4 (cs:=cs.toArray) (off:=kH j T) (by simpa using hl);simp_all [execOp,Instr.field,run_underlying,asAgg]
 rcases gn h bf with hs | ⟨xs,e⟩
 rotate_left
 ·grind
 split at hk
 ·rename_i t' v hv;rw[hv] at hs;split at hk
  ·rename_i e;subst e;obtain ⟨cs,h1,h2⟩:=hs;obtain ⟨t2,v2,q1,q2,q3⟩:=MY j t' hk h2;exact iS (run t2 cs q1 h1 (Ro.length _ q3)) (ct h q2 ⟨_,rfl,q3⟩ (λ_ _ _ _ e=>by cases e))
  ·cases hk
 ·rename_i r p snap hv;rw[hv] at hs;split at hk
  ·rename_i pM;split at hk
   ·rename_i Cy;obtain ⟨hr,t',m',H',v',cc,dt,F',h1,h2,h3,h4,h5,h6⟩:=l7 h hk;obtain ⟨pl,g1,g2,g3⟩:=hs.2 pM;rw[Ks g1] at Cy;injection Cy with Cy;obtain ⟨m0,v0,F0,iT⟩:=MX h g1;obtain ⟨tp,Hp,csp,adp⟩:=pl;simp only at Cy g2 iT;subst Cy
    have hf:∃ t2,wd j tp=some t2:=by
     have h7:=h3;rw[uE,g1] at h7;exact YS j tp (Js _ _ h7)
    obtain ⟨t2,ht2⟩:=hf;obtain ⟨H2,e⟩:=ST (ad:=adp) j tp iT ht2;have ji:place σ a w r (p++pa j)=some ⟨t2,H2,(csp.drop (kH j tp)).take t2.sz,iY adp (kH j tp)⟩:=by grind [uE]
    rw[ji] at h3;injection h3 with h3;simp only[Pl.mk.injEq] at h3;obtain ⟨rfl,rfl,rfl,rfl⟩:=h3;refine iS (run t2 csp ht2 g2 (ax.length _ h4)) ?_;split at h1
    ·rename_i hc;split at h1
     ·rename_i hH;have hH:=bD.1 hH;subst hH;refine ct h h1 ⟨_,rfl,?_⟩ (λ_ _ _ _ e=>by cases e);grind [ax.flat,ax.ro,iF]
     ·cases h1
    ·exact ct h h1 (EX h ji) (λ_ _ _ _ e=>by cases e)
   ·cases hk
  ·cases hk
 ·cases hk
end
end OT
namespace OT
open Go
section
variable {P:Program} {C:Ctx} {A:Cells} {X:FP} {σ:St} {a:Act} {w:World} {F:Nat->FP} {R:Type} {x:R} {Q:Exit->Act->World->Prop} {o:Oper} {E:Env}
theorem Jt {n:Int} {len:Nat} {K:Nat->Option R} (h:Wi n len K=some x):0<=n/\n < (len:Int)/\K n.toNat=some x:=by
 grind [Wi]
theorem bind_some {α:Type} {o:Option α} {K:α->Option R} (h:o.bind K=some x):∃ y,o=some y/\K y=some x:=by
 cases o <;> grind
theorem vV {e:Ty} {i:TypeId} (h:bn P (.aa e) (.inl i)=true):∃ el,P.underlying i=some (.slice el)/\1<=e.sz/\bn P e (.inl el)=true:=by
 grind [bn,Nat.ble_eq]
theorem SW {n:Nat} {e:Ty} {i:TypeId} (h:bn P (.arr n e) (.inl i)=true):∃ el,P.underlying i=some (.array n el)/\1<=e.sz/\bn P e (.inl el)=true:=by
 grind [bn,Nat.ble_eq,Nat.beq_eq]
theorem nF {i:TypeId} (h:bn P .str (.inl i)=true):P.underlying i=some .string:=by
 grind [bn]
theorem qI {k:IntKind} {i:TypeId} (h:bn P (.int k) (.inl i)=true):P.underlying i=some (.int k):=by
 grind [bn]
theorem Rs (p q:Path):eu (p++q)=eu p+eu q:=by
 induction p with
 | nil=>simp[eu]
 | cons s p ih=>cases s <;> simp only[dR,eu,ih] <;> omega
theorem Kt (h:Rel P C A X σ a w F) {r:Nat} {p:Path} {pl:Pl} {b off:Nat} (hp:place σ a w r p=some pl) (j0:pl.ad=some (b,off)):Eg σ a w (.pointer (some ⟨b,off,none⟩)) r p (ym σ r p):=by
 have h5:=h.mD r;refine ⟨?_,λ_=>⟨pl,b,off,hp,j0,rfl,by grind [ym]⟩⟩
 unfold ym;intro j y hj;grind
theorem L4 (h:ey P C A σ a w F) (kV:∀ i T,E.TI i=some T->bn P T (.inl i)=true) {t:Nat} {y z:Operand} (ho:o.op=.indexAddr t y z) (bf:ei P y=true/\ei P z=true) {K:St->Option R}
  (hk:EL E σ t (ep σ y) (ep σ z) o.dst K=some x):Tk P o a w (Nx P C K x):=by
 unfold EL at hk;obtain ⟨T,hT,hk⟩:=iq hk;have jz:=kV _ _ hT
 rcases gn h bf.2 with hz | ⟨xs,e⟩
 rotate_left
 ·rw[e] at hk;cases hk
 obtain ⟨kz,n,SX,hk⟩:=yr hz hk
 have G3:∀ e ad len cap,T=.aa e->a.eval y=.slice (some ad) len cap->ad.spot=none->0<=n->n < (len:Int)->∀ w',u_ o w w'->(execOp a.eval o).run P w'=.ok (.value (.pointer (some ⟨ad.block,ad.off+n.toNat*e.sz,none⟩))) w':=λe ad len cap s_ hy oT h0 h1 w' _=>by
  subst s_;obtain ⟨el,hu,_,hle⟩:=vV jz;obtain ⟨b,off,sp⟩:=ad;simp only at oT;subst oT;have nt:=run_sizeOf (P:=P) (w:=w') hle;simp[execOp,ho,hy,SX,Instr.indexAt,asIntOf,run_underlying hu,h0,h1,nt,qG]
 have acs:∀ m e b off,T=.arr m e->a.eval y=.pointer (some ⟨b,off,none⟩)->0<=n->n < (m:Int)->∀ w',u_ o w w'->(execOp a.eval o).run P w'=.ok (.value (.pointer (some ⟨b,off+n.toNat*e.sz,none⟩))) w':=λm e b off s_ hy h0 h1 w' _=>by
  subst s_;obtain ⟨el,hu,_,hle⟩:=SW jz;have nt:=run_sizeOf (P:=P) (w:=w') hle;simp[execOp,ho,hy,SX,Instr.indexAt,asIntOf,run_underlying hu,h0,h1,nt,qG,Instr.sureAddr]
 have roS:∀ (e:Ty) (v:List e.den) (tv:Value) (yv:e.den),T=.aa e->a.eval y=tv->Ro P w A (.aa e) v [tv]->0<=n->v[n.toNat]?=some yv->K (σ.cg o.dst (.cp e yv))=some x->Tk P o a w (Nx P C K x):=λe v tv yv s_ hy yV h0 G4 hk=>by
  obtain ⟨xa,cap,h1,h2,h3,h4⟩:=yV;simp only[dG,eG] at h1;subst h1;have a_:=(aM.1 G4).1
  cases xa with
  | none=>grind
  | some ad=>
   obtain ⟨g1,g2⟩:=h4 ad rfl;obtain ⟨L,l1,l2,l3⟩:=g2 _ _ G4;exact iS (G3 e ad _ cap s_ hy (g1 Bys) h0 Bys) (ct h hk ⟨_,rfl,rfl,L,l1,l2,l3⟩ (λ_ _ _ _ e=>by cases e))
 rcases gn h bf.1 with hs | ⟨xs,e⟩
 rotate_left
 ·grind
 split at hk
 ·rename_i e v hv;rw[hv] at hs;split at hk
  ·rename_i s_;split at hk
   ·rename_i h0;obtain ⟨yv,G4,hk⟩:=bind_some hk;obtain ⟨cs,h1,h2⟩:=hs;have hl:=Ro.length _ h2
    match cs,hl with
    | [tv],_=>exact roS e v tv yv s_ (by rw[h1,ee _ _ rfl]) h2 h0 G4 hk
   ·cases hk
  ·cases hk
 ·rename_i m e v hv;rw[hv] at hs;split at hk
  ·rename_i s_;split at hk
   ·rename_i h0;obtain ⟨yv,G4,hk⟩:=bind_some hk;obtain ⟨⟨b,off,sp⟩,h1,h2,L,h3,h4,h5⟩:=hs;simp only[dG,eG] at h1;simp only at h2;subst h2;obtain ⟨q1,q2,q3,q4⟩:=h5;have a_:n.toNat < m:=q2 ▸ (aM.1 G4).1;have yV:=q4 _ _ G4;refine iS (acs m e b off s_ h1 h0 Bys) (ct h hk ⟨_,rfl,rfl,_,Ro.length _ yV,λk u hu=>?_,yV⟩ (λ_ _ _ _ e=>by cases e));grind
   ·cases hk
  ·cases hk
 ·rename_i r p snap hv;rw[hv] at hs;split at hk
  ·rename_i pM;obtain ⟨hr,t',m',H',v',cc,dt,F',h1,h2,h3,h4,h5,h6⟩:=l7 h hk;obtain ⟨pl,g1,g2,g3⟩:=hs.2 pM;rw[h3] at g1;injection g1 with g1;subst g1;simp only at g2;split at h1
   ·cases h1
   ·rename_i hH;have hH:hole H'=false:=fD.2 hH;split at h1
    ·rename_i s_;split at h1
     ·rename_i e SY;have hl:=ax.length _ h4;split at h1
      ·rename_i iU;obtain ⟨i0,i1,h1⟩:=Jt h1;have iT:=h4;simp only[ax,hH,aF,aS,iU,aJ] at iT;obtain ⟨xa,cap,rfl,q2,q3,q4,q5⟩:=iT
       cases xa with
       | none=>grind
       | some iP=>
        obtain ⟨r1,r2,r3,Fi,r4,r5⟩:=q5 iP rfl;rw[ee _ _ rfl] at g2;have a_:n.toNat < List.length SY:=by omega
        refine iS (G3 e iP _ cap s_.symm g2 r2 i0 i1) (ct h h1 (Kt (pl:=⟨e,H'.filterMap (k8 n.toNat),rd w iP.block (iP.off+n.toNat*e.sz) e.sz,some (iP.block,iP.off+n.toNat*e.sz)⟩) h ?_ rfl) (λ_ _ _ _ e=>by cases e));grind [uE,bt]
      ·rename_i iU;split at h1
       ·rename_i h0;obtain ⟨yv,G4,h1⟩:=bind_some h1;have iT:=h4;simp only[ax,hH,aF,aS,iU] at iT
        match cc,hl with
        | [tv],_=>
         rw[ee _ _ rfl] at g2;grind
       ·cases h1
     ·cases h1
    ·cases h1
  ·cases hk
 ·rename_i r p snap lo hi hv;rw[hv] at hs;split at hk
  ·rename_i pM;obtain ⟨hr,t',m',H',v',cc,dt,F',h1,h2,h3,h4,h5,h6⟩:=l7 h hk;obtain ⟨pl,e,xa,len,cap,xz,cap',g1,g2,g3,g4,g5,g6,g7,SQ,g8,g9,g10⟩:=hs.2 pM;rw[h3] at g1;injection g1 with g1;subst g1;simp only at g2 g3;subst g2;subst g3;split at h1
   ·cases h1
   ·rename_i hH;have hH:hole H'=false:=fD.2 hH;split at h1
    ·rename_i s_;obtain ⟨i0,i1,h1⟩:=Jt h1
     have Cs:∃ iP,xa=some iP/\iP.spot=none:=by
      simp only[ax,hH,aF,aS] at h4
      cases xa with
      | none=>
       split at h4
       ·grind
       ·obtain ⟨_,_,xa2,L5,q1,q2,q3,_⟩:=h4;grind
      | some iP=>
       refine ⟨iP,rfl,?_⟩
       split at h4
       ·grind
       ·obtain ⟨_,_,xa2,L5,q1,q2,q3,q4⟩:=h4;grind
     obtain ⟨iP,rfl,oT⟩:=Cs;obtain ⟨Ix,e1,e2,e3,e4⟩:=g9 iP rfl;subst e1;have e4:=e4 Bys;refine iS (G3 e Ix _ cap' s_.symm g6 (e2.trans oT) i0 i1) ?_
     have OP:(⟨Ix.block,Ix.off+n.toNat*e.sz,none⟩:Addr)=⟨iP.block,iP.off+(lo+n.toNat)*e.sz,none⟩:=by
      grind
     rw[OP];have a_:lo+n.toNat < len:=by omega
     refine ct h h1 (Kt (pl:=⟨e,H'.filterMap (k8 (lo+n.toNat)),rd w iP.block (iP.off+(lo+n.toNat)*e.sz) e.sz,some (iP.block,iP.off+(lo+n.toNat)*e.sz)⟩) h ?_ rfl) (λ_ _ _ _ e=>by cases e);grind [uE,bt]
    ·cases h1
  ·cases hk
 ·rename_i r p snap hv;rw[hv] at hs;split at hk
  ·rename_i pM;obtain ⟨hr,t',m',H',v',cc,dt,F',h1,h2,h3,h4,h5,h6⟩:=l7 h hk;obtain ⟨pl,b,off,g1,g2,g3,g4⟩:=hs.2 pM;rw[h3] at g1;injection g1 with g1;subst g1;simp only at g2;subst g2;split at h1
   ·rename_i s_;split at h1
    ·rename_i m e SY;obtain ⟨i0,i1,h1⟩:=Jt h1;obtain ⟨hH,hf,hl,hlen,yV⟩:=h4;subst hH;have a_:n.toNat < m:=by omega
     refine iS (acs m e b off s_.symm g3 i0 Bys) (ct h h1 ⟨hs.1,λ_=>⟨⟨e,[],(cc.drop (n.toNat*e.sz)).take e.sz,some (b,off+n.toNat*e.sz)⟩,b,off+n.toNat*e.sz,?_,rfl,rfl,?_⟩⟩ (λ_ _ _ _ e=>by cases e))
     ·grind [uE,bt,iY]
     ·rw[Rs];exact g4
    ·cases h1
   ·cases h1
  ·cases hk
 ·cases hk
end
end OT
namespace OT
open Go
section
variable {P:Program} {C:Ctx} {A:Cells} {X:FP} {σ:St} {a:Act} {w:World} {F:Nat->FP} {R:Type} {x:R} {Q:Exit->Act->World->Prop} {o:Oper} {E:Env}
theorem WC (s:List UInt8) (n:Nat):(⟨s.toArray⟩:ByteArray)[n]?=s[n]?:=by
 by_cases h:n < s.length
 ·have h1:n < (⟨s.toArray⟩:ByteArray).size:=by simpa [ByteArray.size] using h
  rw[getElem?_pos _ n h1,aB h];rfl
 grind [ByteArray.size]
theorem Us (h:ey P C A σ a w F) (kV:∀ i T,E.TI i=some T->bn P T (.inl i)=true) {t:Nat} {y z:Operand} (ho:o.op=.index t y z) (bf:ei P y=true/\ei P z=true) {K:St->Option R}
  (hk:Ol E σ t (ep σ y) (ep σ z) o.dst K=some x):Tk P o a w (Nx P C K x):=by
 unfold Ol at hk;have Ku:=iq hk;clear hk;obtain ⟨T,hT,nM⟩:=Ku;have jz:=kV _ _ hT
 rcases gn h bf.2 with hz | ⟨xs,e⟩
 rotate_left
 ·rw[e] at nM;cases nM
 have hk3:=yr hz nM;clear nM;obtain ⟨kz,n,SX,hk⟩:=hk3
 rcases gn h bf.1 with hs | ⟨xs,e⟩
 rotate_left
 ·grind
 split at hk
 ·rename_i s hv;rw[hv] at hs;split at hk
  ·rename_i s_;subst s_;split at hk
   ·rename_i h0;obtain ⟨c,hc,hk⟩:=bind_some hk;obtain ⟨cs,h1,h2⟩:=hs;simp only[Ro] at h2;subst h2;have hb:=WC s n.toNat;rw[hc] at hb;refine iS (v:=.int .u8 c.toNat) ?_ (ct h hk ⟨[_],rfl,rfl⟩ (λ_ _ _ _ e=>by cases e));simp[execOp,ho,h1,cu,isAgg,SX,Instr.index,asIntOf,run_underlying (nF jz),h0,hb]
   ·cases hk
  ·cases hk
 ·rename_i m e v hv;rw[hv] at hs;split at hk
  ·rename_i s_;subst s_;split at hk
   ·rename_i h0;obtain ⟨yv,G4,hk⟩:=bind_some hk;obtain ⟨cs,h1,h2⟩:=hs;obtain ⟨q1,q2,q3,q4⟩:=id h2;obtain ⟨el,hu,_,hle⟩:=SW jz;have a_:n.toNat < m:=q2 ▸ (aM.1 G4).1;have zP:n < (m:Int):=by omega
    have yV:=q4 _ _ G4;refine iS (v:=cu e ((cs.drop (n.toNat*e.sz)).take e.sz)) (λw' _=>?_) (ct h hk ⟨_,rfl,yV⟩ (λ_ _ _ _ e=>by cases e));have hp:=wx (P:=P) (w:=w') hle (cs:=cs.toArray) (off:=n.toNat*e.sz) (by grind [Ro.length]);simp only[List.toList_toArray] at hp;have nt:=run_sizeOf (P:=P) (w:=w') hle;simp_all [execOp,cu,isAgg,Instr.index,asIntOf,run_underlying]
   ·cases hk
  ·cases hk
 ·cases hk
theorem Cz {t:Ty} {m:Md} {H:List Path} {e:Ty} {v:List e.den} {cs:List Value} {G:FP} (h:ax P w A (.aa e) m H v cs G) (hH:hole H=false) :
  ∃ xa cap,cs=[.slice xa (List.length v) cap]/\List.length v<=cap/\(xa=none->List.length v=0):=by
 simp only[ax,hH,aF,aS] at h;split at h
 ·grind
 ·obtain ⟨_,_,xa,cap,q1,q2,q3,q4⟩:=h;grind
theorem CA {t:Nat} {y:Operand} (ho:o.op=.call { callee:=.builtin .len,args:=#[y],argTypes:=#[t] }) :
  (execOp a.eval o).run P w=((Builtin.len_ #[t] o.type #[a.eval y]).run P w).andThen λv w'=>.ok (.value v) w':=by
 simp_all [execOp,resolve,invoke,builtin]
theorem YU (h:ey P C A σ a w F) (kV:∀ i T,E.TI i=some T->bn P T (.inl i)=true) {t:Nat} {y:Operand} (ho:o.op=.call { callee:=.builtin .len,args:=#[y],argTypes:=#[t] }) (bf:ei P y=true) {K:St->Option R}
  (hk:YL E σ t (ep σ y) (λn=>K (σ.cg o.dst (.val (.int .i64) (n:Int))))=some x):Tk P o a w (Nx P C K x):=by
 unfold YL at hk;obtain ⟨T,hT,hk⟩:=iq hk;have jz:=kV _ _ hT
 rcases gn h bf with hs | ⟨xs,e⟩
 rotate_left
 ·grind
 have fin:∀ n:Nat,K (σ.cg o.dst (.val (.int .i64) (n:Int)))=some x->Nx P C K x (a.put o.dst (.int .i64 (n:Int))) w:=λn hk=>ct h hk ⟨[_],rfl,rfl⟩ (λ_ _ _ _ e=>by cases e);split at hk
 ·split at hk
  ·rename_i s hv;rw[hv] at hs;obtain ⟨cs,h1,h2⟩:=hs;simp only[Ro] at h2;subst h2;refine iS (v:=.int .i64 (s.length:Int)) (λw' _=>?_) (fin _ hk);have e:a.eval y=.string ⟨List.toArray s⟩:=h1;have e2:(⟨List.toArray s⟩:ByteArray).size=s.length:=rfl;rw[CA ho,e];unfold Builtin.len_;simp only[List.getElem?_toArray,eW,Sem.run_bind,run_underlying (nF jz),Result.andThen_ok,Sem.run_pure,goInt,e2]
  ·cases hk
 ·rename_i e;obtain ⟨el,hu,_,hle⟩:=vV jz
  have run:∀ xa n cap,a.eval y=.slice xa n cap->∀ w',u_ o w w'->(execOp a.eval o).run P w'=.ok (.value (.int .i64 (n:Int))) w':=λxa n cap hy w' _=>by
   rw[CA ho];simp[Builtin.len_,hy,run_underlying hu,goInt]
  split at hk
  ·rename_i e' v hv;rw[hv] at hs;obtain ⟨cs,h1,xa,cap,h2,_⟩:=hs;subst h2;exact iS (run xa _ cap h1) (fin _ hk)
  ·rename_i hv;rw[hv] at hs;exact iS (run none 0 0 hs) (fin _ hk)
  ·rename_i r p snap hv;rw[hv] at hs;split at hk
   ·rename_i pM;obtain ⟨hr,t',m',H',v',cc,dt,F',h1,h2,h3,h4,h5,h6⟩:=l7 h hk;obtain ⟨pl,g1,g2,g3⟩:=hs.2 pM;rw[h3] at g1;injection g1 with g1;subst g1;simp only at g2;split at h1
    ·cases h1
    ·rename_i hH;have hH:hole H'=false:=fD.2 hH;split at h1
     ·rename_i e' SY;obtain ⟨xa,cap,q1,q2,q3⟩:=Cz (t:=.unit) h4 hH;subst q1;exact iS (run xa _ cap g2) (fin _ h1)
     ·cases h1
   ·cases hk
  ·rename_i r p snap lo hi hv;rw[hv] at hs;split at hk
   ·rename_i pM;obtain ⟨pl,e',xa,len,cap,xz,cap',g1,g2,g3,g4,g5,g6,g7,SQ,g8,g9,g10⟩:=hs.2 pM;grind [iS]
   ·cases hk
  ·cases hk
 ·cases hk
theorem WD {len cap:Nat} {lo hi:Option Operand} {K:Nat->Nat->Option R} (oU:len<=cap) (wh:∀ y,lo=some y->dq P A σ a w (a.eval y) (ep σ y) (λ_ _=>0)) (Ej:∀ y,hi=some y->dq P A σ a w (a.eval y) (ep σ y) (λ_ _=>0))
  (hk:vU len (lo.map (ep σ)) (hi.map (ep σ)) K=some x):∃ l h,l<=h/\h<=len/\K l h=some x/\(∀ w',(Instr.sliceBounds true len cap (lo.map a.eval) (hi.map a.eval) none).run P w'=.ok (l,h,cap) w') /\
   (len=cap->∀ w',(Instr.sliceBounds false len cap (lo.map a.eval) (hi.map a.eval) none).run P w'=.ok (l,h,cap) w'):=by
 have k9:∀ (k:IntKind) (i:Int) (y:Nat) code,0<=i->i<=(y:Int)->∀ w',(Instr.sliceBound (.int k i) y code).run P w'=.ok i.toNat w':=λk i y code h0 h1 w'=>run_sliceBound w' k i y code h0 h1
 have two:∀ (WE rE:Option Value) (l h:Nat),(WE=none/\l=0\/∃ k n,WE=some (.int k n)/\0<=n/\n<=(h:Int)/\l=n.toNat)->(rE=none/\h=len\/∃ k n,rE=some (.int k n)/\0<=n/\n<=(len:Int)/\h=n.toNat) ->
   (∀ w',(Instr.sliceBounds true len cap WE rE none).run P w'=.ok (l,h,cap) w')/\(len=cap->∀ w',(Instr.sliceBounds false len cap WE rE none).run P w'=.ok (l,h,cap) w'):=λWE rE l h h1 h2=>by
  rcases h2 with ⟨rfl,rfl⟩ | ⟨k2,n2,rfl,b1,b2,rfl⟩
  ·rcases h1 with ⟨rfl,rfl⟩ | ⟨k1,n1,rfl,a1,a2,rfl⟩
   ·simp_all [Instr.sliceBounds]
   ·exact ⟨by simp_all [Instr.sliceBounds],λ_=>by simp_all [Instr.sliceBounds]⟩
  ·have c1:=k9 k2 n2 cap .sliceAcap b1 Bys;have c2:=k9 k2 n2 cap .sliceAlen b1 Bys
   rcases h1 with ⟨rfl,rfl⟩ | ⟨k1,n1,rfl,a1,a2,rfl⟩
   all_goals simp_all [Instr.sliceBounds]
 unfold vU at hk
 cases lo with
 | none=>
  cases hi <;> grind [yr]
 | some yl=>
  cases hi <;> grind [yr]
theorem NM (s:List UInt8) (l h:Nat) (hl:l<=h) (hh:h<=s.length):(⟨s.toArray⟩:ByteArray).extract l h=⟨((s.take h).drop l).toArray⟩:=by
 apply ByteArray.ext;grind [ByteArray.data_extract]
theorem Ut (h:ey P C A σ a w F) (kV:∀ i T,E.TI i=some T->bn P T (.inl i)=true) {t:Nat} {y:Operand} {lo hi:Option Operand} (ho:o.op=.slice t y lo hi none)
  (bf:ei P y=true/\(∀ z,lo=some z->ei P z=true)/\(∀ z,hi=some z->ei P z=true)) {K:St->Option R}
  (hk:Om E σ t (ep σ y) (lo.map (ep σ)) (hi.map (ep σ)) o.dst K=some x):Tk P o a w (Nx P C K x):=by
 unfold Om at hk;have Ku:=iq hk;clear hk;obtain ⟨T,hT,hk⟩:=Ku;have jz:=kV _ _ hT
 have hnt:∀ z,ei P z=true->(∀ xs,ep σ z≠.s8 xs)->dq P A σ a w (a.eval z) (ep σ z) (λ_ _=>0):=λz hz hn=>by
  grind [gn]
 have bound:∀ (len cap:Nat) (K':Nat->Nat->Option R),len<=cap->vU len (lo.map (ep σ)) (hi.map (ep σ)) K'=some x->∃ l h,l<=h/\h<=len/\K' l h=some x/\(∀ w',(Instr.sliceBounds true len cap (lo.map a.eval) (hi.map a.eval) none).run P w'=.ok (l,h,cap) w') /\
   (len=cap->∀ w',(Instr.sliceBounds false len cap (lo.map a.eval) (hi.map a.eval) none).run P w'=.ok (l,h,cap) w'):=λlen cap K' hc hb=>by
  refine WD hc (λz hz=>hnt z (bf.2.1 z hz) λxs e=>?_) (λz hz=>hnt z (bf.2.2 z hz) λxs e=>?_) hb
  ·subst hz;unfold vU at hb;grind [xX]
  ·subst hz;unfold vU at hb
   cases lo with
   | none=>grind [xX]
   | some yl=>
    simp only[bQ,e] at hb;unfold xX at hb;grind
 have G3:∀ e xa len cap l h,T=.aa e->a.eval y=.slice xa len cap->l<=cap->(∀ ad,xa=some ad->0 < cap->ad.spot=none)->(∀ w',(Instr.sliceBounds true len cap (lo.map a.eval) (hi.map a.eval) none).run P w'=.ok (l,h,cap) w') ->
   ∀ w',u_ o w w'->(execOp a.eval o).run P w'=.ok (.value (.slice (if cap=l then xa else xa.map λad=>⟨ad.block,ad.off+l*e.sz,none⟩) (h - l) (cap - l))) w':=λe xa len cap l h s_ hy hlc oT hb w' _=>by
  have hb:=hb w';subst s_;obtain ⟨el,hu,_,hle⟩:=vV jz;have nt:=run_sizeOf (P:=P) (w:=w') hle;unfold execOp;simp only[ho,iC,Instr.sliceAt,Instr.slice,Sem.run_bind,run_underlying hu,Result.andThen_ok,hy,hb,nt,Sem.run_pure];by_cases ta:cap=l
  ·simp[ta]
  ·congr 4
   cases xa with
   | none=>rfl
   | some ad=>
    obtain ⟨b,off,sp⟩:=ad;grind [qG]
 have addr:∀ (xa:Option Addr) (cap l h n:Nat) (e:Ty),l<=h->h<=n->n<=cap->(∀ ad,xa=some ad->0 < cap->ad.spot=none) ->
   (xa=none->(if cap=l then xa else xa.map λad=>⟨ad.block,ad.off+l*e.sz,none⟩)=none) /\
   (∀ ad,xa=some ad->∃ dt,(if cap=l then xa else xa.map λad=>⟨ad.block,ad.off+l*e.sz,none⟩)=some dt/\dt.spot=ad.spot/\dt.block=ad.block/\(l < h->dt.off=ad.off+l*e.sz)) /\
   (l=0->(if cap=l then xa else xa.map λad=>(⟨ad.block,ad.off+l*e.sz,none⟩:Addr))=xa):=λxa cap l h n e h1 h2 h3 oT=>by
  refine ⟨λe=>by grind,λad e=>?_,λe0=>?_⟩
  ·grind
  ·subst e0;split
   ·rfl
   ·cases xa with
    | none=>rfl
    | some ad=>
     obtain ⟨b,off,sp⟩:=ad;grind
 have aaB:∀ {e:Ty} {v:List e.den} {m:Md} {H:List Path} {xa n cap} {G:FP},ax P w A (.aa e) m H v [.slice xa n cap] G->hole H=false->∀ ad,xa=some ad->0 < cap->ad.spot=none:=λ{e v m H xa n cap G} iT hH ad OL Ju=>by
  simp only[ax,hH,aF,aS] at iT;split at iT
  ·grind
  ·obtain ⟨_,_,xa2,L5,q1,q2,q3,q4⟩:=iT;grind
 rcases gn h bf.1 with hs | ⟨xs,e⟩
 rotate_left
 ·grind
 split at hk
 ·rename_i s hv;rw[hv] at hs;split at hk
  ·rename_i s_;have aaC:=jz;rw[s_] at aaC;obtain ⟨l,h',b1,b2,hk,b3,b4⟩:=bound s.length s.length _ (aH _) hk;obtain ⟨cs,h1,h2⟩:=hs;simp only[Ro] at h2;subst h2;have e1:a.eval y=.string ⟨List.toArray s⟩:=h1;have e2:(⟨List.toArray s⟩:ByteArray).size=s.length:=rfl;refine iS (v:=.string ⟨((s.take h').drop l).toArray⟩) (λw' _=>?_) (ct h hk ⟨[_],rfl,rfl⟩ (λ_ _ _ _ e=>by cases e));unfold execOp;simp only[ho,iC,Instr.sliceAt,Instr.slice,Sem.run_bind,run_underlying (nF aaC),Result.andThen_ok,e1,fP,aF,aS,e2,b4 rfl w',Sem.run_pure,NM s l h' b1 b2]
  ·cases hk
 ·rename_i e v hv;rw[hv] at hs;split at hk
  ·rename_i s_;obtain ⟨cs,h1,h2⟩:=hs;obtain ⟨xa,cap,q1,q2,q3,q4⟩:=id h2;subst q1;rw[ee _ _ rfl] at h1;obtain ⟨l,h',b1,b2,hk,b3,_⟩:=bound (List.length v) cap _ q2 hk;obtain ⟨r1,r2,r3⟩:=addr xa cap l h' _ e b1 b2 q2 (λad e=>(q4 ad e).1);exact iS (G3 e xa _ cap l h' s_ h1 Bys (λad e=>(q4 ad e).1) b3) (ct h hk ⟨_,(ee (.aa e) _ rfl).symm,Ro.piece h2 b1 b2 Bys r1 r2⟩ (λ_ _ _ _ e=>by cases e))
  ·cases hk
 ·rename_i r p snap hv;rw[hv] at hs;split at hk
  ·rename_i pM;obtain ⟨hr,t',m',H',v',cc,dt,F',h1,h2,h3,h4,h5,h6⟩:=l7 h hk;obtain ⟨pl,g1,g2,g3⟩:=hs.2 pM;rw[h3] at g1;injection g1 with g1;subst g1;simp only at g2 g3;split at h1
   ·cases h1
   ·rename_i hH;have hH:hole H'=false:=fD.2 hH;split at h1
    ·rename_i s_;split at h1
     ·rename_i e SY;obtain ⟨xa,cap,q1,q2,q3⟩:=Cz (t:=.unit) h4 hH;subst q1;rw[ee _ _ rfl] at g2;have oT:=aaB h4 hH;split at h1
      ·obtain ⟨l,h',b1,b2,h1,b3,_⟩:=bound (List.length SY) cap _ q2 h1;obtain ⟨r1,r2,r3⟩:=addr xa cap l h' _ e b1 b2 q2 oT;refine iS (G3 e xa _ cap l h' s_.symm g2 Bys oT b3) (ct h h1 ⟨hs.1,λ_=>⟨_,e,xa,_,cap,_,cap - l,h3,rfl,rfl,b1,b2,rfl,by omega,r3,r1,r2,?_⟩⟩ (λ_ _ _ _ e=>by cases e));grind
      ·rename_i iU;obtain ⟨l,h',b1,b2,h1,b3,_⟩:=bound (List.length SY) cap _ q2 h1;obtain ⟨r1,r2,r3⟩:=addr xa cap l h' _ e b1 b2 q2 oT;simp only[ax,hH,aF,aS,iU] at h4;exact iS (G3 e xa _ cap l h' s_.symm g2 Bys oT b3) (ct h h1 ⟨_,(ee (.aa e) _ rfl).symm,Ro.piece h4.2.2 b1 b2 Bys r1 r2⟩ (λ_ _ _ _ e=>by cases e))
     ·cases h1
    ·cases h1
  ·cases hk
 ·rename_i r p snap l0 h0 hv;rw[hv] at hs;split at hk
  ·rename_i pM;obtain ⟨hr,t',m',H',v',cc,dt,F',h1,h2,h3,h4,h5,h6⟩:=l7 h hk;obtain ⟨pl,e,xa,n,cap,xz,cap',g1,g2,g3,g4,g5,g6,g7,SQ,g8,g9,g10⟩:=hs.2 pM;have g1':=g1;rw[h3] at g1;injection g1 with g1;subst g1;simp only at g2 g3;subst g2;subst g3;split at h1
   ·cases h1
   ·rename_i hH;have hH:hole H'=false:=fD.2 hH;split at h1
    ·rename_i s_;obtain ⟨xa2,L5,q1,q2,q3⟩:=Cz (t:=.unit) h4 hH;simp only[dG,Value.slice.injEq,eG] at q1;obtain ⟨rfl,rfl,rfl⟩:=q1;have oT:=aaB h4 hH
     have act:∀ ad,xz=some ad->0 < cap'->ad.spot=none:=λad e' Ju=>by
      cases OL:xa <;> grind
     obtain ⟨l,h',b1,b2,h1,b3,_⟩:=bound (h0 - l0) cap' _ Bys h1;obtain ⟨r1,r2,r3⟩:=addr xz cap' l h' _ e b1 b2 Bys act;refine iS (G3 e xz _ cap' l h' s_.symm g6 Bys act b3) (ct h h1 ⟨hs.1,λ_=>⟨⟨.aa e,H',[.slice xa (List.length v') cap],dt⟩,e,xa,List.length v',cap,(if cap'=l then xz else xz.map λad=>⟨ad.block,ad.off+l*e.sz,none⟩),cap' - l,h3,rfl,rfl,by omega,by omega,?_,by omega,λe0=>?_,λe'=>?_,λad e'=>?_,g10⟩⟩ (λ_ _ _ _ e=>by cases e))
     ·grind
     ·grind
     ·grind
     grind
    ·cases h1
  ·cases hk
 ·cases hk
end
end OT
namespace OT
open Go
theorem tm (k:IntKind) (n:Int):qR k (Gw k n)=k.wrap n:=by
 cases k <;> first | rfl | skip
 show ((UInt8.ofNat (n % 2 ^ 8).toNat).toNat:Int)=_;grind [UInt8.toNat_ofNat',IntKind.wrap,IntKind.bits,IntKind.signed]
theorem L6 (k:IntKind) (n:Int) (h:k=.u8->0<=n/\n < 256):qR k (inI k n)=n:=by
 cases k <;> first | rfl | skip
 obtain ⟨h1,h2⟩:=h rfl;show ((UInt8.ofNat (n % 2 ^ 8).toNat).toNat:Int)=_;rw[UInt8.toNat_ofNat'];omega
theorem WF (v:D_ .u8):0<=qR .u8 v/\qR .u8 v < 256:=by
 have:UInt8.toNat v < 256:=iH v;show 0<=((UInt8.toNat v:Nat):Int)/\((UInt8.toNat v:Nat):Int) < 256;omega
section
variable {P:Program} {C:Ctx} {A:Cells} {X:FP} {σ:St} {a:Act} {w:World} {F:Nat->FP} {R:Type} {x:R} {Q:Exit->Act->World->Prop} {o:Oper} {E:Env}
theorem abb {op:BinOp} {k k':IntKind} {na nb:Int} {K:(t:Ty)->t.den->Option R} (hk:Oo op k na nb K=some x) (Km:k=k'\/op=.shl\/op=.shr) (hu:k=.u8->0<=na/\na < 256) (hu':k'=.u8->0<=nb/\nb < 256) (T:TypeId) :
  ∃ t v tv,K t v=some x/\Ro P w A t v [tv]/\isAgg t=false/\∀ w:World,(binOp op T (.int k na) (.int k' nb)).run P w=.ok tv w:=by
 have same:op≠.shl->op≠.shr->k=k':=λh1 h2=>by grind
 unfold Oo at hk;split at hk
 ·have:=same (by simp) (by simp);subst this;exact ⟨_,_,.int k (k.wrap (na+nb)),hk,by simp only[Ro,tm],rfl,λw=>by simp[Go.binOp,Op.intArith]⟩
 ·have:=same (by simp) (by simp);subst this;exact ⟨_,_,.int k (k.wrap (na - nb)),hk,by simp only[Ro,tm],rfl,λw=>by simp[Go.binOp,Op.intArith]⟩
 ·have:=same (by simp) (by simp);subst this;exact ⟨_,_,.int k (k.wrap (na*nb)),hk,by simp only[Ro,tm],rfl,λw=>by simp[Go.binOp,Op.intArith]⟩
 ·have:=same (by simp) (by simp);subst this;split at hk
  ·cases hk
  ·rename_i hnz;exact ⟨_,_,.int k (k.wrap (na.tdiv nb)),hk,by simp only[Ro,tm],rfl,λw=>by simp[Go.binOp,Op.intDiv,hnz]⟩
 ·have:=same (by simp) (by simp);subst this;split at hk
  ·cases hk
  ·rename_i hnz;refine ⟨_,_,.int k (na.tmod nb),hk,?_,rfl,λw=>by simp[Go.binOp,Op.intDiv,hnz]⟩
   simp only[Ro];rw[L6 k _ (λe=>?_)];have h1:=hu e;have h2:=hu' e
   have:=Int.tmod_nonneg nb h1.1;have h3:na.tmod nb < nb:=Int.tmod_lt_of_pos na Bys;omega
 ·have:=same (by simp) (by simp);subst this;exact ⟨_,_,.int k (k.wrap ((BitVec.ofInt k.bits na &&& BitVec.ofInt k.bits nb).toNat:Int)),hk,by simp only[Ro,tm],rfl,λw=>by grind [Go.binOp,Op.intBits,Sem.run_pure]⟩
 ·have:=same (by simp) (by simp);subst this;exact ⟨_,_,.int k (k.wrap ((BitVec.ofInt k.bits na ||| BitVec.ofInt k.bits nb).toNat:Int)),hk,by simp only[Ro,tm],rfl,λw=>by grind [Go.binOp,Op.intBits,Sem.run_pure]⟩
 ·have:=same (by simp) (by simp);subst this;exact ⟨_,_,.int k (k.wrap ((BitVec.ofInt k.bits na ^^^ BitVec.ofInt k.bits nb).toNat:Int)),hk,by simp only[Ro,tm],rfl,λw=>by grind [Go.binOp,Op.intBits,Sem.run_pure]⟩
 ·split at hk
  ·cases hk
  ·rename_i hn;exact ⟨_,_,.int k (k.wrap (na*2 ^ (min nb.toNat k.bits))),hk,by simp only[Ro,tm],rfl,λw=>by simp[Go.binOp,Op.shift,hn]⟩
 ·split at hk
  ·cases hk
  ·rename_i hn;refine ⟨_,_,.int k (na.fdiv (2 ^ (min nb.toNat k.bits))),hk,?_,rfl,λw=>by simp[Go.binOp,Op.shift,hn]⟩
   simp only[Ro];rw[L6 k _ (λe=>?_)];have h1:=hu e;have hp:(0:Int) < 2 ^ (min nb.toNat k.bits):=Int.pow_pos Bys;rw[Int.fdiv_eq_ediv_of_nonneg _ Bys];have h2:=Int.ediv_nonneg h1.1 (Int.le_of_lt hp);have h3:=Int.ediv_le_self (2 ^ (min nb.toNat k.bits)) h1.1;omega
 ·have:=same (by simp) (by simp);subst this;exact ⟨.bool,decide (na=nb),_,hk,rfl,rfl,λw=>by simp[Go.binOp,Op.intCmp];rfl⟩
 ·have:=same (by simp) (by simp);subst this;exact ⟨.bool,!decide (na=nb),_,hk,rfl,rfl,λw=>by simp[Go.binOp,Op.intCmp,bne];rfl⟩
 ·have:=same (by simp) (by simp);subst this;exact ⟨.bool,decide (na < nb),_,hk,rfl,rfl,λw=>by simp[Go.binOp,Op.intCmp]⟩
 ·have:=same (by simp) (by simp);subst this;exact ⟨.bool,decide (na<=nb),_,hk,rfl,rfl,λw=>by simp[Go.binOp,Op.intCmp]⟩
 ·have:=same (by simp) (by simp);subst this;exact ⟨.bool,decide (nb < na),_,hk,rfl,rfl,λw=>by simp[Go.binOp,Op.intCmp]⟩
 ·have:=same (by simp) (by simp);subst this;exact ⟨.bool,decide (nb<=na),_,hk,rfl,rfl,λw=>by simp[Go.binOp,Op.intCmp]⟩
 ·cases hk
theorem abc {op:BinOp} {s t:List UInt8} {K:(t:Ty)->t.den->Option R} (hk:YM op s t K=some x) (T:TypeId) :
  ∃ ty v tv,K ty v=some x/\Ro P w A ty v [tv]/\isAgg ty=false/\∀ w:World,(binOp op T (.string ⟨s.toArray⟩) (.string ⟨t.toArray⟩)).run P w=.ok tv w:=by
 have h0:∀ w:World,(binOp op T (.string ⟨s.toArray⟩) (.string ⟨t.toArray⟩)).run P w=(Op.stringOp op ⟨s.toArray⟩ ⟨t.toArray⟩).run P w:=λw=>by cases op <;> rfl
 simp only[h0];unfold YM at hk;split at hk
 ·split at hk
  ·rename_i hc;refine ⟨.str,s++t,.string ⟨(s++t).toArray⟩,hk,rfl,rfl,λw=>?_⟩
   grind [run_string_add_sum,ByteArray.size,b9,ByteArray.mk_append_mk]
  ·cases hk
 ·exact ⟨.bool,decide (s=t),_,hk,rfl,rfl,λw=>by simp[Op.stringOp];grind⟩
 ·exact ⟨.bool,!decide (s=t),_,hk,rfl,rfl,λw=>by simp[Op.stringOp];grind⟩
 ·cases hk
theorem B6 {tv:Value} {s:List UInt8} {G:FP} (h:dq P A σ a w tv (.val .str s) G):tv=.string ⟨s.toArray⟩:=by
 obtain ⟨cs,h1,h2⟩:=h;simp only[Ro] at h2;subst h2;exact h1
theorem B7 {tv:Value} {k:IntKind} {n:D_ k} {G:FP} (h:dq P A σ a w tv (.val (.int k) n) G):tv=.int k (qR k n):=by
 obtain ⟨cs,h1,h2⟩:=h;simp only[Ro] at h2;subst h2;exact h1
theorem OQ {tv:Value} {b:Bool} {G:FP} (h:dq P A σ a w tv (.val .bool b) G):tv=.bool b:=by
 obtain ⟨cs,h1,h2⟩:=h;simp only[Ro] at h2;subst h2;exact h1
theorem WG (h:ey P C A σ a w F) {op:UnOp} {t:Nat} {y:Operand} (ho:o.op=.unOp op t y) (bf:ei P y=true) {K:St->Option R}
  (hk:(match op,ep σ y with
  | .not,.val .bool b=>K (σ.cg o.dst (.val .bool (!b)))
  | .neg,.val (.int k) n=>K (σ.cg o.dst (.val (.int k) (Gw k (0 - qR k n))))
  | _,_=>none)=some x):Tk P o a w (Nx P C K x):=by
 rcases gn h bf with hs | ⟨xs,e⟩
 rotate_left
 ·grind
 split at hk
 ·rename_i b ho hv;rw[hv] at hs;have e:=OQ hs;exact iS (v:=.bool (!b)) (by simp[execOp,ho,e,Op.unary]) (ct h hk ⟨[_],rfl,rfl⟩ (λ_ _ _ _ e=>by cases e))
 ·rename_i k n ho hv;rw[hv] at hs;have e:=B7 hs;exact iS (v:=.int k (k.wrap (0 - qR k n))) (by simp[execOp,ho,e,Op.unary,Op.intArith]) (ct h hk ⟨[_],rfl,by simp only[Ro,tm]⟩ (λ_ _ _ _ e=>by cases e))
 ·cases hk
end
end OT
namespace OT
open Go
section
variable {P:Program} {w:World} {A:Cells}
theorem aaD:∀ (t:Ty),(∀ (i:TypeId) (d:Nat) (v1 v2:t.den) (rF d9:List Value),bn P t (.inl i)=true->s9 P t (.inl i)=true->dep t<=d->Ro P w A t v1 rF->Ro P w A t v2 d9->(Op.equalIn d i (cu t rF) (cu t d9)).run P w=.ok (t.eq v1 v2) w) /\
  (∀ (fs:List Field) (off d:Nat) (v1 v2:t.den) (xs ys:Array Value),bn P t (.inr (fs,off))=true->s9 P t (.inr fs)=true->dep t<=d+1->Ro P w A t v1 (xs.toList.drop off)->Ro P w A t v2 (ys.toList.drop off)->(Op.eqFields d xs ys fs).run P w=.ok (t.eq v1 v2) w):=by
 intro t
 induction t with
 | int k=>
  refine ⟨λi d v1 v2 rF d9 hl he hd h1 h2=>?_,λfs off d v1 v2 xs ys hl=>by simp[bn] at hl⟩
  simp only[Ro] at h1 h2;subst h1;subst h2
  cases d with
  | zero=>simp[dep] at hd
  | succ d=>
   rw[ee _ _ rfl,ee _ _ rfl,run_equalIn_int w d i k k _ _ (qI hl)];congr 1
   cases k with
   | u8=>exact iD.2 (by simp only[qR,Ty.eq,beq_iff_eq];constructor;(intro h;exact fM.1 Bys);grind)
   | _=>grind [qR,Ty.eq]
 | bool=>
  refine ⟨λi d v1 v2 rF d9 hl he hd h1 h2=>?_,λfs off d v1 v2 xs ys hl=>by simp[bn] at hl⟩
  simp only[Ro] at h1 h2;subst h1;subst h2
  have hu:P.underlying i=some .bool:=by
   grind [bn]
  cases d with
  | zero=>simp[dep] at hd
  | succ d=>rw[ee _ _ rfl,ee _ _ rfl,run_equalIn_bool' w d i _ _ hu];rfl
 | str=>
  refine ⟨λi d v1 v2 rF d9 hl he hd h1 h2=>?_,λfs off d v1 v2 xs ys hl=>by simp[bn] at hl⟩
  simp only[Ro] at h1 h2;subst h1;subst h2
  cases d with
  | zero=>simp[dep] at hd
  | succ d=>
   rw[ee _ _ rfl,ee _ _ rfl,run_equalIn_string w d i _ _ (nF hl),ByteArray.toList_mk,ByteArray.toList_mk];grind [Ty.eq]
 | unit=>
  refine ⟨λi d v1 v2 rF d9 hl he hd h1 h2=>?_,λfs off d v1 v2 xs ys hl he hd h1 h2=>?_⟩
  ·simp only[Ro] at h1 h2;subst h1;subst h2;simp only[bn,aD] at hl;have h3:=hl.2;split at h3
   ·rename_i fs hu;have hf:P.fieldsOf i=fs:=by simp[Program.fieldsOf,hu]
    cases d with
    | zero=>simp[dep] at hd
    | succ d=>
     have t6:fs.toList=[]:=bD.1 h3;simp only[s9,cH] at he;show (Op.equalIn (d+1) i (.agg #[]) (.agg #[])).run P w=_;rw[run_equalIn_struct w d i _ _ (by grind) he,hf,t6];rfl
   ·cases h3
  ·simp only[bn,bD] at hl;subst hl;rfl
 | pair a b nE nw=>
  have second:∀ (fs:List Field) (off d:Nat) (v1 v2:(Ty.pair a b).den) (xs ys:Array Value),bn P (.pair a b) (.inr (fs,off))=true->s9 P (.pair a b) (.inr fs)=true->dep (.pair a b)<=d+1->Ro P w A (.pair a b) v1 (xs.toList.drop off)->Ro P w A (.pair a b) v2 (ys.toList.drop off)->(Op.eqFields d xs ys fs).run P w=.ok ((Ty.pair a b).eq v1 v2) w:=by
   intro fs off d v1 v2 xs ys hl he hd h1 h2
   cases fs with
   | nil=>simp[bn] at hl
   | cons f r=>
    simp only[bn,aD,eP,dL] at hl;simp only[s9,aD,bne_iff_ne,ne_eq] at he;simp only[dep] at hd;obtain ⟨WH,WI⟩:=h1;obtain ⟨h2a,h2b⟩:=h2;have p1:=wx (P:=P) (w:=w) hl.1.2 (cs:=xs) (off:=off) (Ro.length _ WH);have p2:=wx (P:=P) (w:=w) hl.1.2 (cs:=ys) (off:=off) (Ro.length _ h2a);have e1:=nE.1 f.type d v1.1 v2.1 _ _ hl.1.2 he.1.2 Bys WH h2a;rw[dB] at WI h2b;have e2:=nw.2 r (off+a.sz) d v1.2 v2.2 xs ys hl.2 he.2 Bys WI h2b;simp only[Op.eqFields,ne_eq,he.1.1,eF,aJ,Sem.run_bind,hl.1.1.1,p1,p2,e1,Result.andThen_ok];cases hq:a.eq v1.1 v2.1 <;> simp_all [Ty.eq]
  refine ⟨λi d v1 v2 rF d9 hl he hd h1 h2=>?_,second⟩
  simp only[bn,aD] at hl;simp only[s9,aD,cH] at he;have h3:=hl.2;have h4:=he.2;split at h3
  ·rename_i fs hu;rw[hu] at h4;simp only at h4;have hf:P.fieldsOf i=fs:=by simp[Program.fieldsOf,hu]
   split at h3
   ·rename_i f r Kr;rw[Kr] at h4;simp only at h4
    cases d with
    | zero=>grind [dep]
    | succ d=>
     show (Op.equalIn (d+1) i (.agg rF.toArray) (.agg d9.toArray)).run P w=_;rw[run_equalIn_struct w d i _ _ (by grind) he.1,hf,Kr];refine second (f::r) 0 d v1 v2 _ _ ?_ ?_ hd (by simpa using h1) (by simpa using h2)
     all_goals grind [bn,s9]
   ·cases h3
  ·cases h3
 | arr n e ih=>
  refine ⟨λi d v1 v2 rF d9 hl he hd h1 h2=>?_,λfs off d v1 v2 xs ys hl=>by simp[bn] at hl⟩
  simp only[bn,aD] at hl;have h3:=hl.2;simp only[s9] at he;split at h3
  ·rename_i n' el hu;simp only[aD,eP,dL] at h3;obtain ⟨⟨rfl,_⟩,hle⟩:=h3;rw[hu] at he;simp only at he;obtain ⟨inf,i1,i2,_⟩:=lG (lX hle);have nt:P.cellsOf el=e.sz:=by grind [Program.cellsOf]
   obtain ⟨_,l1,_,r1⟩:=h1;obtain ⟨_,l2,_,r2⟩:=h2
   cases d with
   | zero=>simp[dep] at hd
   | succ d=>
    simp only[dep] at hd
    have key:∀ (m j:Nat),j+m=n->(Op.eqItems d el e.sz rF.toArray d9.toArray (List.range' j m)).run P w=.ok (((List.drop j v1).zip (List.drop j v2)).all λp=>e.eq p.1 p.2) w:=by
     intro m
     induction m with
     | zero=>
      intro j hj;rw[eK Bys];rfl
     | succ m ihm=>
      intro j hj;have g1:=aB (l:=v1) (i:=j) Bys;have g2:=aB (l:=v2) (i:=j) Bys;have a1:=r1 j _ g1;have a2:=r2 j _ g2;have p1:=wx (P:=P) (w:=w) hle (cs:=rF.toArray) (off:=j*e.sz) (Ro.length _ a1);have p2:=wx (P:=P) (w:=w) hle (cs:=d9.toArray) (off:=j*e.sz) (Ro.length _ a2);have e1:=ih.1 el d _ _ _ _ hle he Bys a1 a2;rw[gY,cP (l:=v1) (i:=j) Bys,cP (l:=v2) (i:=j) Bys];simp only[Op.eqItems,Sem.run_bind,p1,p2,e1,Result.andThen_ok,List.zip_cons_cons,eC]
      cases hq:e.eq v1[j] v2[j] with
      | true=>grind
      | false=>simp
    show (Op.equalIn (d+1) i (.agg rF.toArray) (.agg d9.toArray)).run P w=_;rw[run_equalIn_array w d _ _ hu i1,nt,fI];exact key n 0 Bys
  ·cases h3
 | _=>grind [s9]
end
section
variable {P:Program} {C:Ctx} {A:Cells} {X:FP} {σ:St} {a:Act} {w:World} {F:Nat->FP} {R:Type} {x:R} {Q:Exit->Act->World->Prop} {o:Oper} {E:Env}
def aaE (P:Program) (E:Env):Prop:=∀ i T,E.TI i=some T->T.o9=true->isAgg T=true->s9 P T (.inl i)=true/\P.eqGuardType P.depth i=false/\dep T<=10000
theorem EY {op:BinOp} {t:TypeId} {y z:Operand} {u v:Value} (h:¬ (∃ p q,u=.agg p/\v=.agg q)) (h2:u≠.nilIface):(eqGuard op t y z u v).run P w=.ok () w:=by
 simp_all [eqGuard]
theorem Ro.o9 {w':World} {A':Cells}:∀ (t:Ty) {v:t.den} {cs:List Value},t.o9=true->Ro P w A t v cs->Ro P w' A' t v cs:=by
 intro t
 induction t with
 | pair a b nE nw=>
  intro v cs hq h;simp only[Ty.o9,aD] at hq;exact ⟨nE hq.1 h.1,nw hq.2 h.2⟩
 | arr n e ih=>intro v cs hq h;exact ⟨h.1,h.2.1,h.2.2.1,λi x hx=>ih hq (h.2.2.2 i x hx)⟩
 | aa e ih=>grind [Ty.o9]
 | ptr e ih=>grind [Ty.o9]
 | fn=>grind [Ty.o9]
 | map k v=>grind [Ty.o9]
 | _=>intro v cs hq h;exact h
theorem Uu (h:ey P C A σ a w F) (kV:∀ i T,E.TI i=some T->bn P T (.inl i)=true) (heq:aaE P E) {op:BinOp} {t t2:Nat} {y z:Operand} (ho:o.op=.binOp op t y z t2) (bf:ei P y=true/\ei P z=true) {K:St->Option R}
  (hk:Oq E t op (ep σ y) (ep σ z) (λt v=>K (σ.cg o.dst (.val t v)))=some x):Tk P o a w (Nx P C K x):=by
 rcases gn h bf.1 with hy | ⟨xs,e⟩
 rotate_left
 ·grind [Oq]
 rcases gn h bf.2 with hz | ⟨xs,e⟩
 rotate_left
 ·grind [Oq]
 have fin:∀ (ty:Ty) (v:ty.den) (tv:Value),K (σ.cg o.dst (.val ty v))=some x->Ro P w A ty v [tv]->isAgg ty=false->(∀ w',u_ o w w'->(eqGuard op t y z (a.eval y) (a.eval z)).run P w'=.ok () w')->(∀ w',u_ o w w'->(binOp op t (a.eval y) (a.eval z)).run P w'=.ok tv w')->Tk P o a w (Nx P C K x):=λty v tv hk hr ha hg hb=>by
  refine iS (v:=tv) (λw' um=>?_) (ct h hk ⟨[tv],(ee ty tv ha).symm,hr⟩ (λ_ _ _ _ e=>by cases e));grind [execOp,Sem.run_bind,Result.andThen_ok,Sem.run_pure]
 unfold Oq at hk;split at hk
 ·rename_i k n1 k' n2 Kv OR;rw[Kv] at hy;rw[OR] at hz;have e1:=B7 hy;have e2:=B7 hz;have hg:∀ w',u_ o w w'->(eqGuard op t y z (a.eval y) (a.eval z)).run P w'=.ok () w':=λw' _=>by grind [EY]
  have Km:(k=k'\/op=.shl\/op=.shr)/\Oo op k (qR k n1) (qR k' n2) (λt v=>K (σ.cg o.dst (.val t v)))=some x:=by
   grind
  obtain ⟨ty,v,tv,q1,q2,q3,q4⟩:=abb (P:=P) (A:=A) (w:=w) Km.2 Km.1 (λe=>by subst e;exact WF n1) (λe=>by subst e;exact WF n2) t;grind
 ·rename_i s1 s2 Kv OR;rw[Kv] at hy;rw[OR] at hz;have e1:=B6 hy;have e2:=B6 hz;have hg:∀ w',u_ o w w'->(eqGuard op t y z (a.eval y) (a.eval z)).run P w'=.ok () w':=λw' _=>by grind [EY]
  obtain ⟨ty,v,tv,q1,q2,q3,q4⟩:=abc (P:=P) (A:=A) (w:=w) hk t;grind
 ·rename_i ty v1 ty' v2 hni hns Kv OR;rw[Kv] at hy;rw[OR] at hz
  have main:∀ (e:ty=ty') (hq:ty.o9=true) (hT:E.TI t=some ty) (w':World),u_ o w w'->(eqGuard op t y z (a.eval y) (a.eval z)).run P w'=.ok () w'/\(∀ b,b=ty.eq v1 (e ▸ v2)->(op=.eql->(binOp op t (a.eval y) (a.eval z)).run P w'=.ok (.bool b) w')/\(op=.neq->(binOp op t (a.eval y) (a.eval z)).run P w'=.ok (.bool (!b)) w')):=λe hq hT w' um=>by
   subst e;obtain ⟨rF,e1,r1⟩:=hy;obtain ⟨d9,e2,r2⟩:=hz;have r1:=Ro.o9 (w':=w') (A':=A) _ hq r1;have r2:=Ro.o9 (w':=w') (A':=A) _ hq r2;have jz:=kV _ _ hT
   cases hag:isAgg ty with
   | true=>
    obtain ⟨q1,q2,q3⟩:=heq _ _ hT hq hag;have afL:=(aaD (P:=P) (w:=w') (A:=A) ty).1 t 10000 v1 v2 rF d9 jz q1 q3 r1 r2;simp_all [cu,run_eqGuard_agg,run_eql_struct,run_neq_struct]
   | false=>
    cases ty with
    | int k=>grind
    | str=>grind
    | bool=>
     simp only[Ro] at r1 r2;subst r1;subst r2;rw[ee _ _ rfl] at e1 e2
     have hu:P.underlying t=some .bool:=by
      grind [bn]
     rw[e1,e2];refine ⟨EY (by grind) (by grind),λb hb=>⟨λh=>?_,λh=>?_⟩⟩
     ·subst h;subst hb;have:=run_equalIn_bool' (P:=P) w' 9999 t v1 v2 hu;simp only[Go.binOp,Op.equal,Op.maxDepth,Sem.run_bind,this,Result.andThen_ok,Sem.run_pure];rfl
     ·subst h;subst hb;have:=run_equalIn_bool' (P:=P) w' 9999 t v1 v2 hu;simp only[Go.binOp,Op.equal,Op.maxDepth,Sem.run_bind,this,Result.andThen_ok,Sem.run_pure];rfl
    | _=>grind [Ty.o9,isAgg]
  split at hk
  ·split at hk
   ·rename_i hq;obtain ⟨T,hT,hk⟩:=iq hk;split at hk
    ·rename_i e;subst e;obtain ⟨e,hk⟩:=dn hk;have m:=main e.symm hq hT;subst e;exact fin .bool _ _ hk rfl rfl (λw' um=>(m w' um).1) (λw' um=>((m w' um).2 _ rfl).1 rfl)
    ·cases hk
   ·cases hk
  ·split at hk
   ·rename_i hq;obtain ⟨T,hT,hk⟩:=iq hk;split at hk
    ·rename_i e;subst e;obtain ⟨e,hk⟩:=dn hk;have m:=main e.symm hq hT;subst e;exact fin .bool _ _ hk rfl rfl (λw' um=>(m w' um).1) (λw' um=>((m w' um).2 _ rfl).2 rfl)
    ·cases hk
   ·cases hk
  ·cases hk
 ·rename_i e v Kv OR;rw[Kv] at hy;rw[OR] at hz;obtain ⟨T,hT,hk⟩:=iq hk;split at hk
  ·rename_i eT;subst eT
   obtain ⟨te,hu⟩:∃ te,P.underlying t=some (.slice te):=by
    grind [bn]
   obtain ⟨cs,h1,a0,cap,h2,h3,h4,h5⟩:=hy;subst h2;rw[ee _ _ rfl] at h1;have hz':a.eval z=.slice none 0 0:=hz;have hg:∀ w',u_ o w w'->(eqGuard op t y z (a.eval y) (a.eval z)).run P w'=.ok () w':=λw' _=>by grind [EY]
   have key:∀ (b:Bool),Ce v (K (σ.cg o.dst (.val .bool b))) (K (σ.cg o.dst (.val .bool !b)))=some x->K (σ.cg o.dst (.val .bool (if a0.isNone then b else !b)))=some x:=λb hb=>by
    cases v with
    | nil=>
     grind [Ce,both]
    | cons y v=>
     have:a0.isNone=false:=by
      cases a0 <;> grind
     rw[this];exact hb
   unfold ab_ at hk;split at hk
   ·refine fin .bool _ (.bool a0.isNone) (key true hk) ?_ rfl hg λw' _=>?_
    ·cases a0 <;> rfl
    grind [run_equal_slice_nil,Go.binOp,Sem.run_bind,Result.andThen_ok,Sem.run_pure]
   ·refine fin .bool _ (.bool !a0.isNone) (key false hk) ?_ rfl hg λw' _=>?_
    ·cases a0 <;> rfl
    grind [run_neq_slice_nil]
   ·cases hk
  ·cases hk
 ·cases hk
end
end OT
namespace OT
open Go
section
variable {P:Program} {C:Ctx} {A:Cells} {X:FP} {σ:St} {a:Act} {w:World} {F:Nat->FP} {R:Type} {x:R} {Q:Exit->Act->World->Prop} {o:Oper} {E:Env}
theorem oH (w:World) (ob:Obj):Ext w (w.alloc ob) (λ_ _=>0):=by
 refine ⟨by simp,λb i hb _ u hu=>?_,λb n hn=>?_,λb i hb=>World.frozen?_alloc_old w ob _ (by simp;omega),rfl,rfl,rfl,λb hb _=>?_,aH _⟩
 ·grind [Cj,World.alloc]
 ·obtain ⟨c,e,fr,h1,h2,h3⟩:=hn;refine ⟨c,e,fr,?_,h2,h3⟩
  grind [World.alloc]
 grind [World.alloc]
theorem wy (w:World):Ext w w.drew (λ_ _=>0):=⟨aH _,λ_ _ _ _ _ h=>h,λ_ _ h=>h,λ_ _ _=>rfl,rfl,rfl,rfl,λ_ _ _=>rfl,Nat.le_succ _⟩
theorem yt (w:World) (c:Array Value) (e:TypeId) (fr:Nat×Nat) (u:Bool) (ol:(u=true/\c.size<=fr.1)\/fr.2<=fr.1):iR (w.alloc (.cells c e fr)) w.heap.size (c.size,u):=
 ⟨c,e,fr,heap_alloc_new w _,rfl,λi hi=>by grind,λhu=>by grind⟩
theorem yu (w:World) (c:Array Value) (e:TypeId) (fr:Nat×Nat) {k:Nat} {L:List Value} (hL:∀ j u,L[j]?=some u->c[k+j]?=some u) (qu:∀ u ∈ L,u.oneCell'=true):Has (w.alloc (.cells c e fr)) w.heap.size k L:=by
 intro j u hu;grind [H9,World.cell?,heap_alloc_new]
theorem Rel.alloc (h:Rel P C A X σ a w F) (c:Array Value) (e:TypeId) (fr:Nat×Nat):Rel P C A (λb i=>X b i+de w.heap.size 0 c.size b i) σ a (w.alloc (.cells c e fr)) F:=by
 refine h.grow (oH w _) (λ_ _ h=>h) (λ_ _ h=>.inl h) (λb i=>?_);by_cases hb:b=w.heap.size
 ·subst hb;right
  have hx:X w.heap.size i=0:=by
   rcases bJ (X w.heap.size i) with h0 | h0
   ·exact h0
   ·have:=h.k9 w.heap.size i (.inl Bys);omega
  exact ⟨aH _,by simp,by grind [de]⟩
 grind [de]
theorem Rel.drew (h:Rel P C A X σ a w F):Rel P C A X σ a w.drew F:=h.grow (wy w) (λ_ _ h=>h) (λ_ _ h=>.inl h) (λ_ _=>.inl (aH _))
theorem ax.alloc (h:Rel P C A X σ a w F) {t:Ty} {m:Md} {H:List Path} {v:t.den} {cs:List Value} {G:FP} (hr:ax P w A t m H v cs G) (hG:∀ b i,1<=G b i->b < w.heap.size) {w':World} (hw:Ext w w' (λ_ _=>0)):ax P w' A t m H v cs G:=
 ax.mono (λ_ _ h=>h) (λb i ha u hu=>hw.cell b i (h.k9 b i (.inr ha)) rfl u hu) hw.wg t hr (λ_ _=>aH _) (λb i hp u hu=>hw.cell b i (hG b i hp) rfl u hu)
theorem SZ (h:Rel P C A X σ a w F) {K:St->Option R} {d:Option Tmp} {t:Ty} {m:Md} {v:t.den} {cs:List Value} {Fv:FP} (e:TypeId) (hk:K (σ.cg d (.box t m [] v))=some x)
  (hr:ax P w A t m [] v cs Fv) (hX:∀ b i,Fv b i<=X b i):∃ A' F',Rel P C A' (λ_ _=>0) (σ.cg d (.box t m [] v)) (a.put d (.pointer (some ⟨w.heap.size,0,none⟩))) (w.alloc (.cells cs.toArray e)) F':=by
 have hl:=ax.length t hr;have h1:=h.alloc cs.toArray e (0,0);have iU:=yt w cs.toArray e (0,0) false (.inr (aH _));simp only[eU,hl] at iU h1;have zH:=ax.alloc h hr (λb i hp=>h.k9 b i (.inl (by grind))) (oH w (.cells cs.toArray e))
 obtain ⟨F',hF⟩:=h1.cg d (s:=.box t m [] v) (v:=.pointer (some ⟨w.heap.size,0,none⟩)) (Fd:=λb i=>de w.heap.size 0 t.sz b i+Fv b i) (X':=λ_ _=>0)
  ⟨w.heap.size,0,cs,Fv,rfl,hl,yu w cs.toArray e (0,0) (λj u hu=>by simpa using hu) (ax.one _ hr),λj hj=>by simp_all,λ_ _=>aH _,zH⟩
  (λb i=>by grind) (λt' m' H' v' e'=>by grind)
 grind
theorem wz:∀ (t:Ty),t.xn=true->∃ L,zc t=some L:=by
 intro t
 induction t <;> grind [Ty.xn,zc]
theorem WJ (h:ey P C A σ a w F) (kV:∀ i T,E.TI i=some T->bn P T (.inl i)=true) {t:Nat} (ho:o.op=.alloc t) {K:St->Option R}
  (hk:(rf E t λT=>if T.xn then K (σ.cg o.dst (.box T (aj T) [] T.zero)) else none)=some x):o.wp P a w (λa' w'=>Nx P C K x a' w'/\Ext w w' (λ_ _=>0)) Q:=by
 obtain ⟨T,hT,hk⟩:=iq hk;split at hk
 ·rename_i IE;have jz:=kV _ _ hT;obtain ⟨L,hL⟩:=wz T IE;obtain ⟨z,AK,CB⟩:=Bf (P:=P) (w:=w) jz hL;obtain ⟨r1,r2,r3⟩:=Dm (P:=P) (w:=w) (A:=A) T hL jz;refine pq (v:=.pointer (some ⟨w.heap.size,0,none⟩)) (w':=w.alloc (.cells L.toArray t)) ?_ ?_
  ·have:z.cells=L.toArray:=by grind
   simp_all [execOp,Instr.alloc,newVar,newRow]
  ·obtain ⟨A',F',hF⟩:=SZ h t hk r1 (λ_ _=>aH _);exact ⟨⟨_,hk,A',F',hF⟩,oH w _⟩
 ·cases hk
end
end OT
namespace OT
open Go
section
variable {P:Program} {C:Ctx} {A:Cells} {X:FP} {σ:St} {a:Act} {w:World} {F:Nat->FP} {R:Type} {x:R} {Q:Exit->Act->World->Prop} {o:Oper} {E:Env}
theorem Id (h:Rel P C A X σ a w F) {K:St->Option R} {d:Option Tmp} {e:Ty} {m:Md} {v:List e.den} {c:Array Value} {cap:Nat} {el:TypeId} {fr:Nat×Nat} {Fi:Nat->FP} (ol:(zO e=true/\c.size<=fr.1)\/fr.2<=fr.1)
  (hk:K (σ.cg d (.own (.aa e) (.aa true m) [] v))=some x) (hc:c.size=cap*e.sz) (oU:cap<=maxLen) (hv:List.length v<=cap) (hX:∀ b i,bk (List.length v) Fi b i<=X b i)
  (rW:∀ (i:Nat) (y:e.den),v[i]?=some y->∃ L:List Value,L.length=e.sz/\(∀ j u,L[j]?=some u->c[i*e.sz+j]?=some u)/\ax P w A e m [] y L (Fi i)) :
  Nx P C K x (a.put d (.slice (some ⟨w.heap.size,0,none⟩) (List.length v) cap)) (w.alloc (.cells c el fr)):=by
 have h1:=h.alloc c el fr;have iU:=yt w c el fr (zO e) ol;rw[hc] at iU h1;refine qH h1 hk (Fd:=λb i=>de w.heap.size 0 (cap*e.sz) b i+bk (List.length v) Fi b i) ⟨_,(ee (.aa e) _ rfl).symm,?_⟩ (λb i=>by grind) (λ_ _ _ _ e=>by cases e);simp only[ax,hole,bT,aF,aS,Md.own,aJ,Md.e];refine ⟨_,cap,rfl,hv,oU,(λe=>by cases e),λad j0=>?_⟩
 injection j0 with j0;subst j0;refine ⟨rfl,rfl,iU,Fi,λ_ _=>aH _,λi y hy=>?_⟩
 obtain ⟨L,l1,l2,l3⟩:=rW i y hy;have hi:=(aM.1 hy).1;refine ⟨L,l1,yu w c el fr l2 (ax.one _ l3),?_⟩
 simp only[eA];exact ax.alloc h l3 (λb k hp=>h.k9 b k (.inl (by grind [dz]))) (oH w _)
theorem NN (h:ey P C A σ a w F) (kV:∀ i T,E.TI i=some T->bn P T (.inl i)=true) {t:Nat} {y z:Operand} (ho:o.op=.makeSlice t y z) (bf:ei P y=true/\ei P z=true) {K:St->Option R}
  (hk:(rf E t λt=>match t with
  | .aa e=>xX (ep σ y) λn=>xX (ep σ z) λc=>
   if e.xn then (if 0<=n/\n<=c/\c<=(b9:Int) then K (σ.cg o.dst (.own (.aa e) (aj (.aa e)) [] (List.replicate n.toNat e.zero))) else none) else none
  | _=>none)=some x):o.wp P a w (λa' w'=>Nx P C K x a' w'/\Ext w w' (λ_ _=>0)) Q:=by
 obtain ⟨T,hT,hk⟩:=iq hk;have jz:=kV _ _ hT;split at hk
 ·rename_i e
  rcases gn h bf.1 with hy | ⟨xs,e'⟩
  rotate_left
  ·rw[e'] at hk;cases hk
  obtain ⟨k1,n,hn,hk⟩:=yr hy hk
  rcases gn h bf.2 with hz | ⟨xs,e'⟩
  rotate_left
  ·rw[e'] at hk;cases hk
  obtain ⟨k2,c,hc,hk⟩:=yr hz hk;split at hk
  ·rename_i IE;split at hk
   ·rename_i hb;obtain ⟨el,hu,nt,hle⟩:=vV jz;obtain ⟨inf,i1,i2,i3,i4⟩:=lG (lX hle);obtain ⟨L,hL⟩:=wz e IE;obtain ⟨zv,z1,z2⟩:=i4 L hL;obtain ⟨r1,r2,r3⟩:=Dm (P:=P) (w:=w) (A:=A) e hL hle
    have OS:(inf.bytes:Int)*c<=281474976710656:=by
     have h1:(inf.bytes:Int)<=512:=by omega
     have h2:(inf.bytes:Int)*c<=512*c:=Int.mul_le_mul_of_nonneg_right h1 Bys;grind [b9]
    have jL:=run_make (P:=P) w t el inf zv hu i1 z1 k1 k2 n c hb.1 hb.2.1 OS (by grind [b9]);have hzs:zv.cells.size=e.sz:=by grind
    have hlen:List.length (List.replicate n.toNat e.zero)=n.toNat:=by simp
    refine pq (v:=.slice (some ⟨w.heap.size,0,none⟩) n.toNat c.toNat) (w':=w.alloc (.cells (madeCells zv.cells (c.toNat*inf.size)) el)) ?_ ?_
    ·grind [execOp,Sem.run_bind,Result.andThen_ok,Sem.run_pure]
    ·refine ⟨?_,oH w _⟩
     have hnx:=Id h (K:=K) (d:=o.dst) (v:=List.replicate n.toNat e.zero) (c:=madeCells zv.cells (c.toNat*inf.size)) (cap:=c.toNat) (el:=el) (fr:=(0,0)) (m:=aj e) (Fi:=λ_ _ _=>0) (.inr (aH _)) hk
      (by rw[size_madeCells,i2]) (by grind [b9,maxLen]) (by grind) (λb i=>by grind [ns])
      (λi y hy=>by
       have hi:i < n.toNat:=by grind
       have hy:y=e.zero:=by grind
       subst hy;refine ⟨L,r3,λj u hu=>?_,r1⟩
       have hj:j < e.sz:=r3 ▸ (aM.1 hu).1
       have a_:i*e.sz+j < c.toNat*e.sz:=by
        have:(i+1)*e.sz<=c.toNat*e.sz:=aX _ Bys;grind
       grind [Nat.mul_comm,Nat.mul_add_mod,Nat.mod_eq_of_lt,madeCells])
     grind
   ·cases hk
  ·cases hk
 ·cases hk
theorem OU (h:ey P C A σ a w F) (kV:∀ i T,E.TI i=some T->bn P T (.inl i)=true) {s t:Nat} {y:Operand} (ho:o.op=.convert s t y) (bf:ei P y=true) (S4:∀ T,E.TI t=some T->T.flat=true) {K:St->Option R}
  (hk:EM E σ s t (ep σ y) o.dst K=some x):Tk P o a w (Nx P C K x):=by
 unfold EM at hk;obtain ⟨S,hS,hk⟩:=iq hk;obtain ⟨T,hT,hk⟩:=iq hk;have Cq:=kV _ _ hS;have CC:=kV _ _ hT
 rcases gn h bf with hs | ⟨xs,e⟩
 rotate_left
 ·grind [uo]
 split at hk
 ·rename_i k;split at hk
  ·rename_i k' n hv;rw[hv] at hs;have e:=B7 hs;split at hk
   ·rename_i hSe;obtain ⟨dS,hd,_⟩:=BA Cq;refine iS (v:=.int k (k.wrap (qR k' n))) (λw' _=>?_) (ct h hk ⟨[_],rfl,by simp only[Ro,tm]⟩ (λ_ _ _ _ e=>by cases e));unfold execOp;simp only[ho,e,Sem.run_bind]
    have:(convert s t (.int k' (qR k' n))).run P w'=.ok (.int k (k.wrap (qR k' n))) w':=by
     unfold convert;simp only[Sem.run_bind,run_underlying hd,run_underlying (qI CC),Result.andThen_ok];cases dS <;> rfl
    simp_all
   ·cases hk
  ·cases hk
 ·split at hk
  ·split at hk
   ·rename_i b hv;rw[hv] at hs;have e:=B6 hs;refine iS (v:=.string ⟨List.toArray b⟩) (λw' _=>?_) (ct h hk ⟨[_],rfl,rfl⟩ (λ_ _ _ _ e=>by cases e));unfold execOp
    have:(convert s t (.string ⟨List.toArray b⟩)).run P w'=.ok (.string ⟨List.toArray b⟩) w':=by
     unfold convert;simp only[Sem.run_bind,run_underlying (nF Cq),run_underlying (nF CC),Result.andThen_ok];rfl
    simp_all
   ·cases hk
  ·obtain ⟨v,cs,hk,h1,h2⟩:=SR h hs hk;obtain ⟨el,hu,_,hle⟩:=vV Cq;obtain ⟨xa,cap,q1,q2,q3,q4⟩:=h2;subst q1;rw[ee _ _ rfl] at h1;have v8:List UInt8:=v
   have jL:∀ w',u_ o w w'->(convert s t (a.eval y)).run P w'=.ok (.string ⟨List.toArray v⟩) w':=λw' um=>by
    have um:=um (by rw[ho];rfl);rw[h1]
    cases xa with
    | none=>
     have:v=[]:=bF (q3 rfl);subst this;exact run_convert_bytes_nil w' s el hu (qI hle) _ _ t (nF CC)
    | some ad=>
     obtain ⟨g1,g2⟩:=q4 _ rfl;refine run_convert_bytes_back w' s t el _ cap v hu (qI hle) (nF CC) λj hj=>?_;obtain ⟨L,l1,l2,l3⟩:=g2 j _ (aB hj);simp only[Ro] at l3;subst l3;have:=(l2 0 _ rfl).1;obtain ⟨b,off,sp⟩:=ad;have oT:=g1 Bys;simp only at oT;subst oT;rw[qG];simp only[Ty.sz,iI,eJ] at this;exact sy (um.cell _ _ (yW this) rfl _ this) rfl
   refine iS (v:=.string ⟨List.toArray v⟩) (λw' um=>?_) (ct h hk ⟨[_],rfl,rfl⟩ (λ_ _ _ _ e=>by cases e));grind [execOp,Sem.run_bind,Result.andThen_ok,Sem.run_pure]
  ·cases hk
 all_goals grind [Ty.flat]
theorem Kw (h:ey P C A σ a w F) (kV:∀ i T,E.TI i=some T->bn P T (.inl i)=true) {s t:Nat} {y:Operand} (ho:o.op=.convert s t y) (bf:ei P y=true) (S4:∀ T,E.TI t=some T->T.flat=true) (Kx:(match ep σ y with | .val (.int _) _=>true | .val .str _=>true | .val (.aa (.int .u8)) _=>true | _=>false)=true) {K:St->Option R}
  (hk:EM E σ s t (ep σ y) o.dst K=some x) :
  ∃ v,(∀ w',(∀ b i,A b i->∀ u,ce w b i=some u->ce w' b i=some u)->(execOp a.eval o).run P w'=.ok (.value v) w')/\Nx P C K x (a.put o.dst v) w:=by
 unfold EM at hk;obtain ⟨S,hS,hk⟩:=iq hk;obtain ⟨T,hT,hk⟩:=iq hk;have Cq:=kV _ _ hS;have CC:=kV _ _ hT
 rcases gn h bf with hs | ⟨xs,e⟩
 rotate_left
 ·grind
 split at hk
 ·rename_i k;split at hk
  ·rename_i k' n hv;rw[hv] at hs;have e:=B7 hs;split at hk
   ·rename_i hSe;obtain ⟨dS,hd,_⟩:=BA Cq;refine ⟨.int k (k.wrap (qR k' n)),(λw' _=>?_),ct h hk ⟨[_],rfl,by simp only[Ro,tm]⟩ (λ_ _ _ _ e=>by cases e)⟩
    unfold execOp;simp only[ho,e,Sem.run_bind]
    have:(convert s t (.int k' (qR k' n))).run P w'=.ok (.int k (k.wrap (qR k' n))) w':=by
     unfold convert;simp only[Sem.run_bind,run_underlying hd,run_underlying (qI CC),Result.andThen_ok];cases dS <;> rfl
    simp_all
   ·cases hk
  ·cases hk
 ·split at hk
  ·split at hk
   ·rename_i b hv;rw[hv] at hs;have e:=B6 hs;refine ⟨.string ⟨List.toArray b⟩,(λw' _=>?_),ct h hk ⟨[_],rfl,rfl⟩ (λ_ _ _ _ e=>by cases e)⟩
    unfold execOp
    have:(convert s t (.string ⟨List.toArray b⟩)).run P w'=.ok (.string ⟨List.toArray b⟩) w':=by
     unfold convert;simp only[Sem.run_bind,run_underlying (nF Cq),run_underlying (nF CC),Result.andThen_ok];rfl
    simp_all
   ·cases hk
  ·have S5:∃ v',ep σ y=.val (.aa (.int .u8)) v':=by
    grind [uo,jR]
   obtain ⟨v,hv⟩:=S5;rw[hv] at hs hk;simp only[uo] at hk;obtain ⟨_,hk⟩:=dn hk;obtain ⟨cs,h1,h2⟩:=hs;obtain ⟨el,hu,_,hle⟩:=vV Cq;obtain ⟨xa,cap,q1,q2,q3,q4⟩:=h2;subst q1;rw[ee _ _ rfl] at h1;have v8:List UInt8:=v
   have jL:∀ w',(∀ b i,A b i->∀ u,ce w b i=some u->ce w' b i=some u)->(convert s t (a.eval y)).run P w'=.ok (.string ⟨List.toArray v⟩) w':=λw' um=>by
    rw[h1]
    cases xa with
    | none=>
     have:v=[]:=bF (q3 rfl);subst this;exact run_convert_bytes_nil w' s el hu (qI hle) _ _ t (nF CC)
    | some ad=>
     obtain ⟨g1,g2⟩:=q4 _ rfl;refine run_convert_bytes_back w' s t el _ cap v hu (qI hle) (nF CC) λj hj=>?_;obtain ⟨L,l1,l2,l3⟩:=g2 j _ (aB hj);simp only[Ro] at l3;subst l3;have zG:=l2 0 _ rfl;obtain ⟨b,off,sp⟩:=ad;have oT:=g1 Bys;simp only at oT;subst oT;rw[qG];simp only[Ty.sz,iI,eJ] at zG;exact sy (um _ _ zG.2 _ zG.1) rfl
   refine ⟨.string ⟨List.toArray v⟩,(λw' um=>?_),ct h hk ⟨[_],rfl,rfl⟩ (λ_ _ _ _ e=>by cases e)⟩
   grind [execOp,Sem.run_bind,Result.andThen_ok,Sem.run_pure]
  ·cases hk
 all_goals grind [Ty.flat]
theorem Rt (h:ey P C A σ a w F) (kV:∀ i T,E.TI i=some T->bn P T (.inl i)=true) {s t:Nat} {y:Operand} (ho:o.op=.convert s t y) (bf:ei P y=true) {K:St->Option R}
  (hk:EM E σ s t (ep σ y) o.dst K=some x):o.wp P a w (λa' w'=>Nx P C K x a' w'/\Ext w w' (λ_ _=>0)) Q:=by
 unfold EM at hk;obtain ⟨S,hS,hk⟩:=iq hk;obtain ⟨T,hT,hk⟩:=iq hk;have Cq:=kV _ _ hS;have CC:=kV _ _ hT
 rcases gn h bf with hs | ⟨xs,e⟩
 rotate_left
 ·grind [uo]
 split at hk
 ·rename_i k;split at hk
  ·rename_i k' n hv;rw[hv] at hs;have e:=B7 hs;split at hk
   ·rename_i hSe;obtain ⟨dS,hd,_⟩:=BA Cq;refine pq (v:=.int k (k.wrap (qR k' n))) (w':=w) ?_ ⟨ct h hk ⟨[_],rfl,by simp only[Ro,tm]⟩ (λ_ _ _ _ e=>by cases e),Ext.refl _ _⟩;unfold execOp;simp only[ho,e,Sem.run_bind]
    have:(convert s t (.int k' (qR k' n))).run P w=.ok (.int k (k.wrap (qR k' n))) w:=by
     unfold convert;simp only[Sem.run_bind,run_underlying hd,run_underlying (qI CC),Result.andThen_ok];cases dS <;> rfl
    simp_all
   ·cases hk
  ·cases hk
 ·split at hk
  ·split at hk
   ·rename_i b hv;rw[hv] at hs;have e:=B6 hs;refine pq (v:=.string ⟨List.toArray b⟩) (w':=w) ?_ ⟨ct h hk ⟨[_],rfl,rfl⟩ (λ_ _ _ _ e=>by cases e),Ext.refl _ _⟩;unfold execOp
    have:(convert s t (.string ⟨List.toArray b⟩)).run P w=.ok (.string ⟨List.toArray b⟩) w:=by
     unfold convert;simp only[Sem.run_bind,run_underlying (nF Cq),run_underlying (nF CC),Result.andThen_ok];rfl
    simp_all
   ·cases hk
  ·obtain ⟨v,cs,hk,h1,h2⟩:=SR h hs hk;obtain ⟨el,hu,_,hle⟩:=vV Cq;obtain ⟨xa,cap,q1,q2,q3,q4⟩:=h2;subst q1;rw[ee _ _ rfl] at h1;have v8:List UInt8:=v
   have jL:(convert s t (a.eval y)).run P w=.ok (.string ⟨List.toArray v⟩) w:=by
    rw[h1]
    cases xa with
    | none=>
     have:v=[]:=bF (q3 rfl);subst this;exact run_convert_bytes_nil w s el hu (qI hle) _ _ t (nF CC)
    | some ad=>
     obtain ⟨g1,g2⟩:=q4 _ rfl;refine run_convert_bytes_back w s t el _ cap v hu (qI hle) (nF CC) λj hj=>?_;obtain ⟨L,l1,l2,l3⟩:=g2 j _ (aB hj);simp only[Ro] at l3;subst l3;have:=(l2 0 _ rfl).1;obtain ⟨b,off,sp⟩:=ad;have oT:=g1 Bys;simp only at oT;subst oT;rw[qG];simp only[Ty.sz,iI,eJ] at this;exact sy (this) rfl
   refine pq (v:=.string ⟨List.toArray v⟩) (w':=w) ?_ ⟨ct h hk ⟨[_],rfl,rfl⟩ (λ_ _ _ _ e=>by cases e),Ext.refl _ _⟩;grind [execOp,Sem.run_bind,Result.andThen_ok,Sem.run_pure]
  ·cases hk
 ·split at hk
  ·rename_i b hv;rw[hv] at hs;have e:=B6 hs;split at hk
   ·rename_i hSe;rw[hSe] at Cq;split at hk;rotate_left
    ·cases hk
    rename_i oU;obtain ⟨el,hu,_,hle⟩:=vV CC;have jL:=run_bytes_of_string (P:=P) w s t el ⟨List.toArray b⟩ (nF Cq) hu (qI hle);have hlen:(⟨List.toArray b⟩:ByteArray).size=List.length b:=rfl;have IF:=grownCap_ge w (List.length b) 0 el;have OD:=grownCap_le_maxLen w (List.length b) 0 el (by grind [b9,maxLen]);rw[hlen] at jL
    have nt:(bytesRow ⟨List.toArray b⟩ (grownCap w (List.length b) 0 el)).size=grownCap w (List.length b) 0 el:=by
     grind [bytesRow]
    refine pq ?_ ⟨Id (h.drew) (K:=K) (d:=o.dst) (e:=.int .u8) (v:=b) (m:=.leaf) (Fi:=λ_ _ _=>0) (cap:=grownCap w (List.length b) 0 el) (el:=el) (fr:=((bytesRow ⟨List.toArray b⟩ (grownCap w (List.length b) 0 el)).size,(bytesRow ⟨List.toArray b⟩ (grownCap w (List.length b) 0 el)).size+1)) (c:=bytesRow ⟨List.toArray b⟩ (grownCap w (List.length b) 0 el)) (.inl ⟨rfl,aH _⟩) hk
     (by grind [Ty.sz]) OD IF (λb i=>by grind [ns]) (λi y hy=>?_),(wy w).trans (oH w.drew _) (λ_ _ _ _=>rfl)⟩
    ·simp_all [execOp]
    ·have hi:=(aM.1 hy).1;have hb:=bytesRow_at ⟨List.toArray b⟩ (grownCap w (List.length b) 0 el) i (by simpa using hi);refine ⟨[.int .u8 (UInt8.toNat y)],rfl,λj u hu=>?_,rfl⟩
     grind [Ty.sz]
   ·cases hk
  ·cases hk
 ·cases hk
end
end OT
namespace OT
open Go
section
variable {P:Program} {C:Ctx} {A:Cells} {X:FP} {σ:St} {a:Act} {w:World} {F:Nat->FP} {R:Type} {x:R} {Q:Exit->Act->World->Prop} {o:Oper} {E:Env}
theorem OV (h:ey P C A σ a w F) {i j:Nat} (ho:o.op=.extract (.tmp i) j) {K:St->Option R}
  (hk:(match σ.get i with
   | .s8 xs=>match xs[j]? with
    | some x=>if x.t=.unit then none else K ((σ.put i (.s8 (xs.set j ⟨.unit,.leaf,()⟩))).cg o.dst (laid x.t x.m x.v))
    | none=>none
   | _=>none)=some x):Tk P o a w (Nx P C K x):=by
 split at hk
 ·rename_i xs hg;split at hk
  ·rename_i y hy;split at hk
   ·cases hk
   ·rename_i hnu
    have hi:i < σ.n:=by
     grind [mK]
    have hs:=h.jg i hi;rw[hg] at hs;obtain ⟨vs,Fi,h1,h2,h3⟩:=hs;obtain ⟨v,h4,h5⟩:=h3 j y hy
    rcases h5 with h5 | ⟨cs,h6,h7⟩
    ·grind
    have hj:=(aM.1 hy).1
    have zT:=h.put hi (s:=.s8 (xs.set j ⟨.unit,.leaf,()⟩)) (v:=tmp a i) (Fd:=bk xs.length (g_ Fi j λ_ _=>0)) (X':=Fi j)
     ⟨vs,g_ Fi j λ_ _=>0,h1,λb k=>by grind,λk y' Iy=>by
      rw[eS] at Iy;split at Iy
      ·rename_i e;subst e;injection Iy with Iy;subst Iy;exact ⟨v,h4,.inl rfl⟩
      grind [g_]⟩
     (λb k=>by grind [u7]) (λt m H v e=>by cases e)
    rw[sJ] at zT;refine iS (v:=v) ?_ ?_
    ·unfold execOp;have e:a.eval (.tmp i)=.tuple vs:=h1;simp_all [Instr.extract]
    grind [Cw]
  ·cases hk
 ·cases hk
theorem Rel.aeE (h:Rel P C A X σ a w F) {d n:Nat} (hd:∀ R,et w (tmp a d) (σ.get d)=some R->cu R.t R.cs=C.args.getD n undef):Rel P C A X { σ with aT:=(d,n,true)::σ.aT } a w F:=by
 have oG:zQ σ a w { σ with aT:=(d,n,true)::σ.aT } a w:=λr p snap hb=>⟨hb,λbf=>⟨bf,λhl pl ji=>⟨pl.H,pl.cs,ji,λ_=>rfl⟩⟩⟩
 refine ⟨h.size,h.defers,λi hi=>dq.nD oG (λ_ _ h=>h) (λ_ _ _ _ h=>h) (λ_ _ h=>h) (λ_ _ _=>⟨λ_ h=>h,rfl⟩) (h.jg i hi),λd r p snap hm=>sI.nD oG (h.gh d r p snap hm),h.qe,h.rh,h.k9,h.mD,h.ext,h.own,h.a0,h.a1,λj k hm=>?_,λr t m H v hg hl=>h.whole r t m H v hg λk hm=>hl k (aW _ hm),λj k hm R hR=>?_,h.tab⟩
 ·rcases aY.1 hm with e | hm
  ·grind
  ·exact h.pz j k hm
 ·rcases aY.1 hm with e | hm
  ·injection e with e1 e2;injection e2 with e2 e3;subst e1;subst e2;exact hd R hR
  ·exact h.oo j k hm R hR
theorem Uv {l:List (Nat×Nat×Bool)} {i n:Nat} (h:J9 l i=some n):(i,n,true) ∈ l:=by
 induction l <;> grind [J9,Nat.beq_eq]
theorem abd (h:ey P C A σ a w F) {t:Nat} {y:Operand} (ho:o.op=.box t y) (bf:ei P y=true) {mv:Bool} {K:St->Option R}
  (hk:(rf E t λt=>nC σ (ep σ y) mv t λm v σ'=>K (Ou σ y o.dst (σ'.cg o.dst (.box t m [] v))))=some x):o.wp P a w (λa' w'=>Nx P C K x a' w'/\Ext w w' (λ_ _=>0)) Q:=by
 obtain ⟨T,hT,hk⟩:=iq hk
 rcases gn h bf with hs | ⟨xs,e⟩
 rotate_left
 ·grind [nC]
 have hk0:=hk;obtain ⟨A',σ',F',m,v,cs,Fv,k1,k2,k3,k4,kr,k5,k6⟩:=vL h hs hk;have hl:=ax.length _ k6;have qu:=ax.one _ k6;have hcv:(cu T cs).cells=cs.toArray:=by grind [lW]
 obtain ⟨A2,F2,hF⟩:=SZ k3 (K:=λs=>some s) (x:=σ'.cg o.dst (.box T m [] v)) (d:=o.dst) t rfl k6 (λb i=>by omega);refine pq (v:=.pointer (some ⟨w.heap.size,0,none⟩)) (w':=w.alloc (.cells cs.toArray t)) ?_ ?_
 ·simp_all [execOp,Instr.box,newVar,newRow]
 ·refine ⟨⟨_,k1,A2,F2,?_⟩,oH w _⟩
  clear hk;unfold Ou;split
  ·rename_i i d hd;split
   ·rename_i t0 m0 H0 v0 hg;split
    ·rename_i n hn;rw[hd] at hF ⊢;refine Rel.aeE hF λR hR=>?_;have lO:=h.oo i n (Uv hn) ⟨t0,H0,(tmp a i).cells.toList,none⟩ (by rw[hg];rfl);have kV:tmp a i=cu T cs:=k5
     have ht0:t0=T:=by
      simp only[ep,hg] at hk0;grind [nC,qC,yH,o_,dn]
     subst ht0;simp only[kV,lW hl qu] at lO;simp only[St.cg,zR] at hR;split at hR
     ·rename_i hc
      have htd:tmp (a.put (some d) (.pointer (some ⟨w.heap.size,0,none⟩))) d=.pointer (some ⟨w.heap.size,0,none⟩):=by
       rw[pp,aR ⟨rfl,by rw[h.size,<- k4];exact hc.2⟩]
      rw[htd] at hR;simp only[et,aQ] at hR;subst hR;have hh:=yu w cs.toArray t (0,0) (k:=0) (L:=cs) (λj u hu=>by simpa using hu) qu;grind [gc]
     ·rename_i hc
      have IF:σ'.n<=d:=by
       grind
      rw[mK (fO.2 IF)] at hR;cases hR
    ·exact hF
   ·exact hF
  ·exact hF
end
end OT
namespace OT
open Go
section
variable {P:Program} {C:Ctx} {A:Cells} {X:FP} {σ:St} {a:Act} {w:World} {F:Nat->FP} {R:Type} {x:R} {Q:Exit->Act->World->Prop} {o:Oper} {E:Env}
theorem Rel.giveUp (h:Rel P C A X σ a w F) {A1:Cells} {X1:FP} (hA:∀ b i,A b i->A1 b i) (ID:∀ b i,A1 b i->A b i\/(1<=X b i/\X1 b i=0)) (hX:∀ b i,X1 b i<=X b i):Rel P C A1 X1 σ a w F:=by
 have oG:zQ σ a w σ a w:=λr p snap hb=>⟨hb,λbf=>⟨bf,λhl pl ji=>⟨pl.H,pl.cs,ji,λ_=>rfl⟩⟩⟩
 refine ⟨h.size,h.defers,λi hi=>dq.nD oG hA (λ_ _ _ _ h=>h) (λ_ _ h=>h) (λ_ _ _=>⟨λ_ h=>h,rfl⟩) (h.jg i hi),h.gh,λb i=>by have:=h.qe b i;grind,
  λb i hp ha=>?_,λb i hp=>?_,h.mD,h.ext,λb i hp=>h.own b i (by grind),λb i ha=>hA b i (h.a0 b i ha),λb i ha=>?_,h.pz,h.whole,h.oo,h.tab⟩
 ·rcases ID b i ha with ha | ha
  ·exact h.rh b i (by grind) ha
  ·have:=h.qe b i;omega
 ·rcases hp with hp | ha
  ·exact h.k9 b i (.inl (by grind))
  ·rcases ID b i ha with ha | ha
   ·exact h.k9 b i (.inr ha)
   ·exact h.k9 b i (.inl Bys)
 ·rcases ID b i ha with ha | ha
  ·exact h.a1 b i ha
  ·exact .inr (h.own b i Bys)
theorem WK {off:Nat} {l cs:List Value} (h:off+l.length<=cs.length) :
  ((l.toArray.zipIdx).foldl (λcs (x:Value×Nat)=>cs.setIfInBounds (off+x.2) x.1) cs.toArray)=(cs.take off++l++cs.drop (off+l.length)).toArray:=by
 obtain ⟨h1,h2⟩:=Great.foldl_set off l 0 cs.toArray;have e:(l.toArray.zipIdx).foldl (λcs (x:Value×Nat)=>cs.setIfInBounds (off+x.2) x.1) cs.toArray=(l.zipIdx 0).foldl (λcs (x:Value×Nat)=>cs.setIfInBounds (off+x.2) x.1) cs.toArray:=by simp
 rw[e];apply Array.ext_getElem?;grind
theorem G5 {pl:Nat->Option (Nat×Nat)} {j off sz:Nat} (hp:pl j=some (off,sz)) {t:Ty} {l cs:List Value} (hl:l.length=sz) (h1:(cu t l).cells.toList=l) (h:off+sz<=cs.length) (rest:List (Nat×Value)) :
  Instr.fill pl cs.toArray ((j,cu t l)::rest)=Instr.fill pl (cs.take off++l++cs.drop (off+sz)).toArray rest:=by
 have hc:(cu t l).cells=l.toArray:=Array.ext' (by simpa using h1);grind [Instr.fill,WK]
theorem WL:∀ (n:Nat) (t:Ty) {t':Ty} {m m':Md} {v:t.den} {y:t'.den} {cs ys:List Value} {G H:FP} {K:Md->t.den->Option R},ax P w A t m [] v cs G->ax P w A t' m' [] y ys H ->
  GF n t m v t' m' y K=some x->∃ m2 v2,K m2 v2=some x/\ax P w A t m2 [] v2 (cs.take (kH n t)++ys++cs.drop (kH n t+t'.sz)) (λb i=>G b i+H b i)/\kH n t+t'.sz<=cs.length:=by
 intro n
 induction n with
 | zero=>
  intro t t' m m' v y cs ys G H K hr hy hk
  cases t with
  | pair a b=>
   simp only[GF] at hk;obtain ⟨e,hk⟩:=dn hk;subst e;have hl:=ax.length _ hr;have hly:=ax.length _ hy;obtain ⟨h0,F1,F2,hs,h1,h2⟩:=hr;refine ⟨_,_,hk,⟨rfl,H,F2,λb i=>by grind,?_,?_⟩,?_⟩
   all_goals simp_all [kH,Md.l,Md.r,Ty.sz]
  | _=>cases hk
 | succ n ih=>
  intro t t' m m' v y cs ys G H K hr hy hk
  cases t with
  | pair a b=>
   simp only[GF] at hk;have hl:=ax.length _ hr;obtain ⟨h0,F1,F2,hs,h1,h2⟩:=hr;obtain ⟨m2,v2,k1,k2,k3⟩:=ih b h2 hy hk;simp only[cC] at k3;simp only[Ty.sz] at hl;refine ⟨_,_,k1,⟨rfl,F1,λb i=>F2 b i+H b i,λb i=>by grind,?_,?_⟩,?_⟩
   ·simp only[kH,eA,Md.l]
    have:(cs.take (a.sz+kH n b)++ys++cs.drop (a.sz+kH n b+t'.sz)).take a.sz=cs.take a.sz:=by
     simp_all [gG,eO]
    rw[this];exact h1
   ·simp only[kH,eA,Md.r]
    have:(cs.take (a.sz+kH n b)++ys++cs.drop (a.sz+kH n b+t'.sz)).drop a.sz=(cs.drop a.sz).take (kH n b)++ys++(cs.drop a.sz).drop (kH n b+t'.sz):=by
     rw[cA,eY (by simp;omega),eN,dB,cA];rw[show a.sz+kH n b - a.sz=kH n b by omega,show a.sz+(kH n b+t'.sz)=a.sz+kH n b+t'.sz by omega]
    grind
   ·simp only[kH];omega
  | _=>cases hk
theorem OW {α β:Type} (g:α->Option β):∀ (l:List α) (ps:List β),l.mapM g=some ps->∀ (j:Nat) (f:α),l[j]?=some f->ps[j]?=g f
 | [],ps,h,j,f,hf=>by cases hf
 | y::l,ps,h,j,f,hf=>by
  simp only[List.mapM_cons,Option.bind_eq_bind,Option.pure_def] at h
  cases hy:g y with
  | none=>simp[hy] at h
  | some z=>
   cases hr:l.mapM g with
   | none=>grind
   | some r=>
    simp only[hy,hr,aA,aQ] at h;subst h
    cases j with
    | zero=>grind
    | succ j=>exact OW g l r hr j f hf
theorem Uw:∀ (t:Ty) {fs:List Field} {off:Nat},bn P t (.inr (fs,off))=true->∃ ps,fs.mapM (λf=>(P.info? f.type).map λi=>(f.offset,i.size))=some ps:=by
 intro t
 induction t with
 | unit=>
  simp_all [bn]
 | pair a b nE nw=>
  intro fs off h
  cases fs with
  | nil=>simp_all
  | cons f r=>
   simp only[bn,aD] at h;obtain ⟨ps,yX⟩:=nw h.2;obtain ⟨inf,hi,_⟩:=lG (lX h.1.2);grind
 | _=>grind [bn]
theorem NO {T:Ty} {i:TypeId} (hl:bn P T (.inl i)=true) {j:Nat} {t':Ty} (hj:wd j T=some t') :
  ∃ fs ps,P.underlying i=some (.struct fs)/\fs.toList.mapM (λf=>(P.info? f.type).map λi=>(f.offset,i.size))=some ps/\∀ j t',wd j T=some t'->ps.toArray[j]?=some (kH j T,t'.sz):=by
 cases T with
 | pair a b=>
  have hl0:=hl;simp only[bn,aD] at hl;have h2:=hl.2;split at h2
  ·rename_i fs hu;split at h2
   ·rename_i f r Kr
    have h3:bn P (.pair a b) (.inr (f::r,0))=true:=by
     grind [bn]
    obtain ⟨ps,yX⟩:=Uw _ h3;refine ⟨fs,ps,hu,by grind,λj t' hj=>?_⟩
    obtain ⟨f',q1,q2,q3,q4⟩:=SV j (.pair a b) h3 hj;have:=OW _ _ _ yX j f' q1;obtain ⟨inf,hi,hs,_⟩:=lG (lX q3);grind
   ·cases h2
  ·cases h2
 | _=>cases j <;> cases hj
theorem WM {T:Ty} {fz:Nat->Bool} {pl:Nat->Option (Nat×Nat)} (ji:∀ j t',wd j T=some t'->pl j=some (kH j T,t'.sz)) {K:Md->T.den->St->Option R} :
  ∀ (ps:List (Nat×Operand)) {n:Nat} {σ:St} {A:Cells} {X:FP} {F:Nat->FP} {m:Md} {v:T.den} {cs:List Value},ps.all (λp=>ei P p.2)=true->Rel P C A X σ a w F->ax P w A T m [] v cs X ->
   GG E σ T fz ps n m v K=some x->∃ A' σ' F' m' v' cc X',K m' v' σ'=some x/\Rel P C A' X' σ' a w F'/\ax P w A' T m' [] v' cc X'/\Instr.fill pl cs.toArray (ps.map λp=>(p.1,a.eval p.2))=some cc.toArray:=by
 intro ps
 induction ps with
 | nil=>intro n σ A X F m v cs bf h hr hk;exact ⟨A,σ,F,m,v,cs,X,hk,h,hr,rfl⟩
 | cons p ps ih=>
  intro n σ A X F m v cs bf h hr hk;obtain ⟨j,y⟩:=p;simp only[eC,aD] at bf;simp only[GG] at hk;split at hk
  ·rename_i t' Gy
   rcases gn h bf.1 with hs | ⟨xs,e⟩
   rotate_left
   ·grind [nC]
   obtain ⟨A1,qE,F1,m1,v1,rF,Fv,k1,k2,k3,k4,kr,k5,k6⟩:=vL h hs hk;have zH:=ax.mono (P:=P) (A':=A1) k2 (λ_ _ _ _ h=>h) (λ_ _ h=>h) T hr (λ_ _=>aH _) (λ_ _ _ _ h=>h);obtain ⟨m2,v2,q1,q2,q3⟩:=WL j T zH k6 k1;obtain ⟨A',σ',F',m',v',cc,X',g1,g2,g3,g4⟩:=ih bf.2 k3 q2 q1;refine ⟨A',σ',F',m',v',cc,X',g1,g2,g3,?_⟩
   rw[dH,k5,G5 (ji j t' Gy) (ax.length _ k6) (lW (ax.length _ k6) (ax.one _ k6)) q3];exact g4
  ·cases hk
theorem abe {n j:Nat} {e:Ty} {v:List e.den} {y:e.den} {cs ys:List Value} (h:Ro P w A (.arr n e) v cs) (hy:Ro P w A e y ys) (hj:j < v.length) :
  Ro P w A (.arr n e) (v.set j y) (cs.take (j*e.sz)++ys++cs.drop (j*e.sz+e.sz))/\j*e.sz+e.sz<=cs.length:=by
 obtain ⟨h1,h2,h3,h4⟩:=h;have hly:=Ro.length _ hy
 have hle:j*e.sz+e.sz<=cs.length:=by
  rw[h3,<- dW];exact aX _ Bys
 refine ⟨⟨h1,by simpa using h2,by grind,λi z hz=>?_⟩,hle⟩
 rw[eS] at hz;split at hz
 ·grind
 ·rename_i jx;have h5:=h4 i z hz
  have:((cs.take (j*e.sz)++ys++cs.drop (j*e.sz+e.sz)).drop (i*e.sz)).take e.sz=(cs.drop (i*e.sz)).take e.sz:=by
   rcases cG i j with ul | ul
   ·have h6:i*e.sz+e.sz<=j*e.sz:=by rw[<-dW];exact aX _ Bys
    grind [List.drop_take]
   ·have h6:j*e.sz+e.sz<=i*e.sz:=by rw[<-dW];exact aX _ Bys
    have h7:(cs.take (j*e.sz)++ys).length=j*e.sz+e.sz:=by grind
    rw[gZ,h7,eK Bys,cJ,dB];congr 2;omega
  grind
theorem abf {n0:Nat} {e:Ty} {fz:Nat->Bool} (hf:e.flat=true) {K:List e.den->St->Option R} :
  ∀ (ps:List (Nat×Operand)) {n:Nat} {σ:St} {A:Cells} {F:Nat->FP} {v:List e.den} {cs:List Value},ps.all (λp=>ei P p.2)=true->ey P C A σ a w F->Ro P w A (.arr n0 e) v cs ->
   On σ e fz ps n v K=some x->∃ A' σ' F' v' cc,K v' σ'=some x/\ey P C A' σ' a w F'/\Ro P w A' (.arr n0 e) v' cc/\Instr.fill (λi=>some (i*e.sz,e.sz)) cs.toArray (ps.map λp=>(p.1,a.eval p.2))=some cc.toArray:=by
 intro ps
 induction ps with
 | nil=>intro n σ A F v cs bf h hr hk;exact ⟨A,σ,F,v,cs,hk,h,hr,rfl⟩
 | cons p ps ih=>
  intro n σ A F v cs bf h hr hk;obtain ⟨j,y⟩:=p;simp only[eC,aD] at bf;simp only[On] at hk
  rcases gn h bf.1 with hs | ⟨xs,e⟩
  rotate_left
  ·grind [nC]
  obtain ⟨A1,qE,F1,m1,v1,rF,Fv,k1,k2,k3,k4,kr,k5,k6⟩:=vL h hs hk;split at k1
  ·rename_i hj;have zH:Ro P w A1 (.arr n0 e) v cs:=Ro.mono (λ_ _ _ _ h=>h) k2 _ hr;obtain ⟨q1,q2⟩:=abe zH (ax.flat _ hf k6) hj;obtain ⟨A',σ',F',v',cc,g1,g2,g3,g4⟩:=ih bf.2 (k3.less (X':=λ_ _=>0) λ_ _=>aZ _) q1 k1;refine ⟨A',σ',F',v',cc,g1,g2,g3,?_⟩
   rw[dH,k5,G5 (pl:=λi=>some (i*e.sz,e.sz)) rfl (ax.length _ k6) (lW (ax.length _ k6) (ax.one _ k6)) q2];exact g4
  ·cases k1
theorem Ux (h:ey P C A σ a w F) (kV:∀ i T,E.TI i=some T->bn P T (.inl i)=true) {t:Nat} {ps:Array (Nat×Operand)} {fz:Nat->Bool} (ho:o.op=.build t ps) (bf:ps.toList.all (λp=>ei P p.2)=true) {K:St->Option R}
  (hk:(rf E t λt=>match t with
  | .arr n e=>if e.xn then On σ e fz ps.toList 0 (Ty.arr n e).zero λv σ=>K (σ.cg o.dst (laid (.arr n e) (aj (.arr n e)) v)) else none
  | .pair t1 t2=>if (Ty.pair t1 t2).xn then GG E σ (.pair t1 t2) fz ps.toList 0 (aj (.pair t1 t2)) (Ty.pair t1 t2).zero λm v σ=>K (σ.cg o.dst (laid (.pair t1 t2) m v)) else none
  | _=>none)=some x):Tk P o a w (Nx P C K x):=by
 obtain ⟨T,hT,hk⟩:=iq hk;have jz:=kV _ _ hT
 have run:∀ (cells:Array Value),P.built t (ps.map λ(i,x)=>(i,a.eval x)).toList=some cells->∀ w',u_ o w w'->(execOp a.eval o).run P w'=.ok (.value (.agg cells)) w':=λcells hc w' _=>by
  simp_all [execOp,run_build]
 have yX:(ps.map λ(i,x)=>(i,a.eval x)).toList=ps.toList.map λp=>(p.1,a.eval p.2):=by simp
 rw[yX] at run;split at hk
 ·rename_i n e;split at hk
  ·rename_i hz
   have adw:e.flat=true:=by
    grind [bn]
   obtain ⟨L,hL⟩:=wz (.arr n e) (by simpa [Ty.xn] using hz);obtain ⟨r1,r2,r3⟩:=Dm (P:=P) (w:=w) (A:=A) _ hL jz;obtain ⟨inf,i1,i2,i3,i4⟩:=lG (lX jz);obtain ⟨z,z1,z2⟩:=i4 L hL;obtain ⟨A',σ',F',v',cc,g1,g2,g3,g4⟩:=abf adw ps.toList bf h r2 hk
   have hu:∃ el ie,P.underlying t=some (.array n el)/\P.info? el=some ie/\ie.size=e.sz:=by
    have hl:=jz;simp only[bn,aD] at hl;have h2:=hl.2;split at h2
    ·rename_i n' el hu;simp only[aD,eP] at h2;obtain ⟨ie,j1,j2,_⟩:=lG (lX h2.2);grind
    ·cases h2
   obtain ⟨el,ie,u1,u2,u3⟩:=hu;have hz':z.cells=L.toArray:=Array.ext' (by simpa using z2);have e1:cu (.arr n e) cc=.agg cc.toArray:=rfl;refine iS (v:=cu (.arr n e) cc) (run _ ?_) ?_
   ·grind [Program.built]
   ·exact Cw g2 g1 (Ro.flat _ (λ_ _=>0) (by grind [Ty.flat]) g3) (λ_ _=>aH _)
  ·cases hk
 ·rename_i t1 t2;split at hk
  ·rename_i hz;obtain ⟨L,hL⟩:=wz (.pair t1 t2) hz;obtain ⟨r1,r2,r3⟩:=Dm (P:=P) (w:=w) (A:=A) _ hL jz;obtain ⟨inf,i1,i2,i3,i4⟩:=lG (lX jz);obtain ⟨z,z1,z2⟩:=i4 L hL;have hz':z.cells=L.toArray:=Array.ext' (by simpa using z2);obtain ⟨fs,pls,u1,u2,u3⟩:=NO jz (j:=0) rfl;obtain ⟨A',σ',F',m',v',cc,X',g1,g2,g3,g4⟩:=WM (pl:=λj=>pls.toArray[j]?) u3 ps.toList bf h r1 hk;refine iS (v:=cu (.pair t1 t2) cc) (run _ ?_) (Cw g2 g1 g3 (λ_ _=>aH _));grind [Program.built]
  ·cases hk
 ·cases hk
theorem abg {e:Ty} {fz:Nat->Bool} (nt:1<=e.sz) {K:Md->List e.den->St->Option R} :
  ∀ (ps:List (Nat×Operand)) {n:Nat} {σ:St} {A:Cells} {X:FP} {F:Nat->FP} {m:Md} {v:List e.den} {L Z:List Value} {Fi:Nat->FP},ps.all (λp=>ei P p.2)=true->Rel P C A X σ a w F ->
   List.length v=n->L.length=n*e.sz->Z.length=ps.length*e.sz->(∀ b i,bk n Fi b i<=X b i)->(∀ (i:Nat) (y:e.den),v[i]?=some y->ax P w A e m [] y ((L.drop (i*e.sz)).take e.sz) (Fi i)) ->
   Jm σ e fz ps n m v K=some x->∃ (A':Cells) (σ':St) (F':Nat->FP) (m':Md) (v':List e.den) (L':List Value) (X':FP) (Ky:Nat->FP),K m' v' σ'=some x/\Rel P C A' X' σ' a w F'/\List.length v'=n+ps.length/\L'.length=(n+ps.length)*e.sz/\(∀ b i,bk (n+ps.length) Ky b i<=X' b i) /\
    (∀ (i:Nat) (y:e.den),v'[i]?=some y->ax P w A' e m' [] y ((L'.drop (i*e.sz)).take e.sz) (Ky i))/\Instr.fill (λi=>some (i*e.sz,e.sz)) (L++Z).toArray (ps.map λp=>(p.1,a.eval p.2))=some L'.toArray:=by
 intro ps
 induction ps with
 | nil=>
  intro n σ A X F m v L Z Fi bf h hv hL hZ hX hr hk;have:Z=[]:=by simpa using hZ
  subst this;exact ⟨A,σ,F,m,v,L,X,Fi,hk,h,hv,hL,hX,hr,by simp[Instr.fill]⟩
 | cons p ps ih=>
  intro n σ A X F m v L Z Fi bf h hv hL hZ hX hr hk;obtain ⟨j,y⟩:=p;simp only[eC,aD] at bf;simp only[Jm] at hk;split at hk
  ·rename_i hj;have hj:j=n:=by simpa using hj
   subst hj
   rcases gn h bf.1 with hs | ⟨xs,e⟩
   rotate_left
   ·grind [nC]
   obtain ⟨A1,qE,F1,m1,v1,rF,Fv,k1,k2,k3,k4,kr,k5,k6⟩:=vL h hs hk;have vM:=ax.length _ k6;have hZ1:Z.length=e.sz+ps.length*e.sz:=by grind
   have hgo:∀ {A2:Cells} {X2:FP} {m2:Md} {OX:Nat->FP},Rel P C A2 X2 qE a w F1->(∀ b i,bk (j+1) OX b i<=X2 b i)->(∀ (i:Nat) (y:e.den),v[i]?=some y->ax P w A2 e m2 [] y ((L.drop (i*e.sz)).take e.sz) (OX i)) ->
     ax P w A2 e m2 [] v1 rF (OX j)->Jm qE e fz ps (j+1) m2 (v++[v1]) K=some x ->
     ∃ (A':Cells) (σ':St) (F':Nat->FP) (m':Md) (v':List e.den) (L':List Value) (X':FP) (Ky:Nat->FP),K m' v' σ'=some x/\Rel P C A' X' σ' a w F'/\List.length v'=j+(ps.length+1)/\L'.length=(j+(ps.length+1))*e.sz/\(∀ b i,bk (j+(ps.length+1)) Ky b i<=X' b i) /\
      (∀ (i:Nat) (y:e.den),v'[i]?=some y->ax P w A' e m' [] y ((L'.drop (i*e.sz)).take e.sz) (Ky i))/\Instr.fill (λi=>some (i*e.sz,e.sz)) (L++Z).toArray ((j,a.eval y)::ps.map λp=>(p.1,a.eval p.2))=some L'.toArray:=by
    intro A2 X2 m2 OX h2 hX2 yp hn2 nM
    obtain ⟨A',σ',F',m',v',L',X',Ky,g1,g2,g3,g4,g5,g6,g7⟩:=ih (L:=L++rF) (Z:=Z.drop e.sz) (Fi:=OX) bf.2 h2 (by simp[hv]) (by grind) (by simp[hZ1]) hX2 (λi z hz=>by
     by_cases hi:i=j
     ·grind
     ·have a_:i < j:=by
       grind
      rw[bO Bys] at hz;have h6:i*e.sz+e.sz<=j*e.sz:=by rw[<-dW];exact aX _ Bys
      grind) nM
    refine ⟨A',σ',F',m',v',L',X',Ky,g1,g2,by omega,by grind,λb i=>by grind,g6,?_⟩
    rw[k5,G5 (pl:=λi=>some (i*e.sz,e.sz)) rfl vM (lW vM (ax.one _ k6)) (by simp[hL,hZ1])];grind [List.drop_append,List.drop_of_length_le,Nat.add_sub_cancel_left]
   have zH:∀ (i:Nat) (y:e.den),v[i]?=some y->ax P w A1 e m [] y ((L.drop (i*e.sz)).take e.sz) (Fi i):=λi y hy=>ax.mono (P:=P) (A':=A1) k2 (λ_ _ _ _ h=>h) (λ_ _ h=>h) e (hr i y hy) (λ_ _=>aH _) (λ_ _ _ _ h=>h);split at k1
   ·rename_i hm;subst hm;refine hgo (OX:=g_ Fi j Fv) k3 (λb i=>?_) (λi y hy=>?_) (by grind [g_]) k1
    ·have h1:=wr j 1 (g_ Fi j Fv) b i;have h2:bk j (g_ Fi j Fv) b i=bk j Fi b i:=by rw[Oz Fi (aH j)]
     have h3:bk 1 (λk=>g_ Fi j Fv (j+k)) b i=Fv b i:=by simp[bk,g_]
     grind
    grind [g_]
   ·
    have yV:∃ A2:Cells,(∀ b i,A1 b i->A2 b i)/\Rel P C A2 (λ_ _=>0) qE a w F1/\Ro P w A2 e v1 rF/\∀ (i:Nat) (y:e.den),v[i]?=some y->Ro P w A2 e y ((L.drop (i*e.sz)).take e.sz):=by
     refine ⟨λb i=>A1 b i\/1<=X b i+Fv b i,λ_ _ h=>.inl h,k3.giveUp (λ_ _ h=>.inl h) (λb i ha=>ha.imp id λhp=>⟨hp,rfl⟩) (λ_ _=>aZ _),ax.yK (λ_ _ h=>.inl h) e k6 (λb i hp=>.inr Bys),λi y hy=>?_⟩
     grind [ax.yK,dz]
    obtain ⟨A2,a1,a2,a3,a4⟩:=yV;exact hgo (OX:=λ_ _ _=>0) a2 (λb i=>by grind [ns]) (λi y hy=>Ro.rep _ _ (iF _) (a4 i y hy)) (Ro.rep _ _ (iF _) a3) k1
  ·cases hk
theorem L7 (h:ey P C A σ a w F) (kV:∀ i T,E.TI i=some T->bn P T (.inl i)=true) {t n:Nat} {ps:Array (Nat×Operand)} {fz:Nat->Bool} (ho:o.op=.buildSlice t n ps) (bf:ps.toList.all (λp=>ei P p.2)=true) {K:St->Option R}
  (hk:(rf E t λt=>match t with
  | .aa e=>if Nat.beq n ps.size&&e.xn&&Nat.ble (n*e.sz) 16777216 then Jm σ e fz ps.toList 0 (aj e) [] λm v σ=>K (σ.cg o.dst (.own (.aa e) (.aa true m) [] v)) else none
  | _=>none)=some x):o.wp P a w (λa' w'=>Nx P C K x a' w'/\Ext w w' (λ_ _=>0)) Q:=by
 obtain ⟨T,hT,hk⟩:=iq hk;have jz:=kV _ _ hT;split at hk
 ·rename_i e;split at hk
  ·rename_i hc;simp only[aD,eP,dL] at hc;obtain ⟨⟨hn,hz⟩,oU⟩:=hc;have hl:=jz;simp only[bn,aD] at hl;have h2:=hl.2;split at h2
   ·rename_i el hu;simp only[aD,dL] at h2;obtain ⟨nt,rW⟩:=h2;obtain ⟨Lz,hLz⟩:=wz e hz;obtain ⟨r1,r2,r3⟩:=Dm (P:=P) (w:=w) (A:=A) _ hLz rW;obtain ⟨inf,i1,i2,i3,i4⟩:=lG (lX rW);obtain ⟨z,z1,z2⟩:=i4 Lz hLz;have hzl:z.cells.size=e.sz:=by grind
    obtain ⟨A',σ',F',m',v',L',X',Ky,g1,g2,g3,g4,g5,g6,g7⟩:=abg (P:=P) nt ps.toList (n:=0) (L:=[]) (Z:=((Array.range (n*e.sz)).map (z.cells[· % z.cells.size]!)).toList) (Fi:=λ_ _ _=>0) (m:=aj e) bf h rfl (by simp) (by simp[hn]) (λb i=>by grind [ns]) (λi y hy=>by cases hy) hk;simp only[cJ,Array.toArray_toList] at g7;simp only[bE] at g3 g4 g5;have Ek:ps.toList.length=n:=by simpa using hn.symm
    rw[Ek] at g3 g4 g5
    have jL:(execOp a.eval o).run P w=.ok (.value (.slice (some ⟨w.heap.size,0,none⟩) n n)) (w.alloc (.cells L'.toArray el)):=by
     by_cases El:n*e.sz=0
     ·have:n=0:=by rcases Nat.mul_eq_zero.1 El with h | h <;> omega
      subst this;have yX:ps=#[]:=by grind
      subst yX;have hL':L'=[]:=by simpa using g4
      subst hL';simp[execOp,ho,Instr.buildSlice,run_underlying hu,Go.sizeOf,typeInfo,i1,Instr.fill,newRow,show Array.range 0=#[] from rfl]
     simp_all [run_buildSlice,execOp]
    refine pq (w':=w.alloc (.cells L'.toArray el)) jL ?_
    have pM:=Id g2 (K:=K) (x:=x) (d:=o.dst) (e:=e) (m:=m') (v:=v') (c:=L'.toArray) (cap:=n) (el:=el) (fr:=(0,0)) (Fi:=Ky) (.inr (aH _)) g1 (by simp[g4]) (by simp only[maxLen];have:=Nat.le_mul_of_pos_right n nt;omega) Bys
     (λb i=>by grind) (λi y hy=>⟨(L'.drop (i*e.sz)).take e.sz,ax.length _ (g6 i y hy),(λj u hu=>by
      grind),g6 i y hy⟩)
    grind [oH]
   ·cases h2
  ·cases hk
 ·cases hk
end
end OT
namespace OT
open Go
section
variable {P:Program} {C:Ctx} {A:Cells} {X:FP} {σ:St} {a:Act} {w:World} {F:Nat->FP} {R:Type} {x:R} {Q:Exit->Act->World->Prop} {o:Oper} {E:Env}
theorem Rel.world (h:Rel P C A X σ a w F) {w1:World} {G:FP} (hw:Ext w w1 G) (hG:∀ b i,1<=G b i->1<=X b i):Rel P C A X σ a w1 F:=by
 have uB:∀ b i,A b i->∀ u,ce w b i=some u->ce w1 b i=some u:=λb i ha u hu=>by
  refine hw.cell b i (h.k9 b i (.inr ha)) ?_ u hu;rcases bJ (G b i) with h0 | h0
  ·exact h0
  ·exact absurd ha (h.rh b i (by grind))
 have GY:∀ j,j < σ.n->∀ b i,1<=F j b i->(∀ u,ce w b i=some u->ce w1 b i=some u)/\w1.frozen? ⟨b,i,none⟩=w.frozen? ⟨b,i,none⟩:=λj hj b i hp=>by
  have hs:=dz F hj b i;have hb:=h.k9 b i (.inl Bys);refine ⟨λu hu=>hw.cell b i hb ?_ u hu,hw.Bc b i hb⟩
  rcases bJ (G b i) with h0 | h0
  ·exact h0
  ·have:=hG b i h0;have:=h.qe b i;omega
 have oG:zQ σ a w σ a w1:=λr p snap hb=>⟨hb,λbf=>⟨bf,λhl pl ji=>⟨pl.H,pl.cs,by
  have a_:=u9 ji
  exact xy (h.jg r a_) rfl rfl uB (λb i hp=>(GY r a_ b i hp).1) ji,λ_=>rfl⟩⟩⟩
 refine ⟨h.size,h.defers,λi hi=>dq.nD oG (λ_ _ h=>h) uB hw.wg (GY i hi) (h.jg i hi),λd r p snap hm=>sI.nD oG (h.gh d r p snap hm),h.qe,h.rh,λb i hp=>bX (h.k9 b i hp) hw.size,
  h.mD,h.ext.trans hw (λb i hb hz=>?_),h.own,h.a0,h.a1,h.pz,λr t m H v hg hl=>?_,λj k hm R' qf=>?_,h.tab⟩
 ·rcases bJ (G b i) with h0 | h0
  ·exact h0
  ·rcases h.own b i (by grind) with h1 | h1 <;> omega
 ·obtain ⟨b,h1,h2⟩:=h.whole r t m H v hg hl;exact ⟨b,h1,hw.wg _ _ h2⟩
 ·rcases cG j σ.n with hj | hj
  ·have mF:=h.jg j hj
   cases Bu:et w (tmp a j) (σ.get j) with
   | none=>exfalso;cases hg:σ.get j <;> rw[hg] at Bu qf <;> simp only[et] at Bu qf <;> first | grind | grind | grind
   | some R0=>
    rw[yP mF (λb i hp=>(GY j hj b i hp).1) Bu] at qf;injection qf with qf;subst qf;exact h.oo j k hm _ Bu
  ·rw[mK (fO.2 hj)] at qf;cases qf
theorem Kz {b o sz:Nat} {n:Nat} (h:∀ i,i < n->∃ L:List Value,L.length=sz/\Has w b (o+i*sz) L):Has w b o (rd w b o (n*sz))/\∀ i L,i < n->L.length=sz->Has w b (o+i*sz) L->((rd w b o (n*sz)).drop (i*sz)).take sz=L:=by
 have Ie:∀ j,j < n*sz->(ce w b (o+j)).isSome=true:=λj hj=>by
  have nt:0 < sz:=by grind
  have hi:j / sz < n:=Nat.div_lt_of_lt_mul (by grind);obtain ⟨L,h1,h2⟩:=h _ hi;have hm:j % sz < L.length:=by simp_all [Nat.mod_lt]
  have:=h2 (j % sz) _ (aB hm);grind [Nat.div_add_mod]
 refine ⟨λj u hu=>?_,λi L hi hl hL=>?_⟩
 ·have hj:=(aM.1 hu).1;rw[AI] at hj;unfold rd at hu;rw[eR,gM hj] at hu;simp only[bQ,aQ] at hu;obtain ⟨u',hu'⟩:=eB.1 (Ie j hj);grind
 ·have h6:i*sz+sz<=n*sz:=by rw[<-dW];exact aX _ Bys
  apply eE;intro j;rw[bN,bK];by_cases hj:j < sz
  ·rw[aR hj];unfold rd;rw[eR,gM Bys];have:=hL j L[j] (aB Bys);grind
  grind
theorem KA {e:Ty} {m:Md} {H:List Path} (hH:hole H=false) {v:List e.den} {cs:List Value} {Fv:FP} (hr:ax P w A (.aa e) m H v cs Fv) :
  ∃ xa cap news Fi,cs=[.slice xa (List.length v) cap]/\(List.length v<=cap/\(xa=none->List.length v=0))/\(∀ ad,xa=some ad->(0 < cap->ad.spot=none)/\Has w ad.block ad.off news)/\news.length=List.length v*e.sz/\(∀ u ∈ news,u.oneCell'=true) /\
   (∀ (i:Nat) (y:e.den),v[i]?=some y->ax P w A e m.e (H.filterMap (k8 i)) y ((news.drop (i*e.sz)).take e.sz) (Fi i))/\(∀ b i,bk (List.length v) Fi b i<=Fv b i) /\
   (m.own=true->List.length v<=cap/\cap<=maxLen/\(xa=none->cap=0)/\∀ ad,xa=some ad->ad.off=0/\ad.spot=none/\iR w ad.block (cap*e.sz,zO e)/\∀ b i,de ad.block 0 (cap*e.sz) b i+bk (List.length v) Fi b i<=Fv b i):=by
 have qu:∀ (news:List Value) (Fi:Nat->FP),news.length=List.length v*e.sz->(∀ (i:Nat) (y:e.den),v[i]?=some y->ax P w A e m.e (H.filterMap (k8 i)) y ((news.drop (i*e.sz)).take e.sz) (Fi i))->∀ u ∈ news,u.oneCell'=true:=by
  intro news Fi hl rW u hu;obtain ⟨j,hj,rfl⟩:=cK.1 hu;have nt:0 < e.sz:=by grind
  have hi:j / e.sz < List.length v:=Nat.div_lt_of_lt_mul (by grind);have h1:=ax.one _ (rW _ _ (aB hi));refine h1 _ (bI (i:=j % e.sz) ?_);grind [Nat.mod_lt,Nat.div_add_mod]
 simp only[ax,hH,aF,aS] at hr;split at hr
 ·rename_i iU;obtain ⟨xa,cap,rfl,h1,h2,h3,h4⟩:=hr
  cases xa with
  | none=>
   have oU:=h3 rfl;have hv0:List.length v=0:=by omega
   have hv:v=[]:=bF hv0;subst hv;exact ⟨none,cap,[],λ_ _ _=>0,rfl,⟨aZ _,λ_=>rfl⟩,(λad e=>by cases e),by simp,(λu hu=>by cases hu),(λi y hy=>by cases hy),λb i=>by grind [ns],λ_=>⟨h1,h2,h3,λad e=>by cases e⟩⟩
  | some ad=>
   obtain ⟨g1,g2,g3,Fi,g4,g5⟩:=h4 ad rfl
   have hp:∀ i,i < List.length v->∃ L:List Value,L.length=e.sz/\Has w ad.block (0+i*e.sz) L:=λi hi=>by
    obtain ⟨L,l1,l2,_⟩:=g5 i _ (aB hi);grind
   obtain ⟨p1,p2⟩:=Kz hp
   have rW:∀ (i:Nat) (y:e.den),v[i]?=some y->ax P w A e m.e (H.filterMap (k8 i)) y (((rd w ad.block 0 (List.length v*e.sz)).drop (i*e.sz)).take e.sz) (Fi i):=λi y hy=>by
    grind
   refine ⟨some ad,cap,rd w ad.block 0 (List.length v*e.sz),Fi,rfl,⟨h1,(λe=>by cases e)⟩,λdt e=>?_,AI _ _ _ _,qu _ _ (AI _ _ _ _) rW,rW,λb i=>by grind,λ_=>⟨h1,h2,h3,λdt e=>?_⟩⟩
   all_goals grind
 ·rename_i iU;obtain ⟨rfl,rD,xa,cap,rfl,h1,h2,h3⟩:=hr
  cases xa with
  | none=>
   have hv:v=[]:=bF (h2 rfl);subst hv;exact ⟨none,cap,[],λ_ _ _=>0,rfl,⟨aZ _,λ_=>rfl⟩,(λad e=>by cases e),by simp,(λu hu=>by cases hu),(λi y hy=>by cases hy),(λb i=>by grind [ns]),λh=>absurd h iU⟩
  | some ad=>
   obtain ⟨g1,g2⟩:=h3 ad rfl
   have hp:∀ i,i < List.length v->∃ L:List Value,L.length=e.sz/\Has w ad.block (ad.off+i*e.sz) L:=λi hi=>by
    obtain ⟨L,l1,l2,_⟩:=g2 i _ (aB hi);exact ⟨L,l1,λj u hu=>(l2 j u hu).1⟩
   obtain ⟨p1,p2⟩:=Kz hp
   have rW:∀ (i:Nat) (y:e.den),v[i]?=some y->ax P w A e m.e (([]:List Path).filterMap (k8 i)) y (((rd w ad.block ad.off (List.length v*e.sz)).drop (i*e.sz)).take e.sz) (λ_ _=>0):=λi y hy=>by
    obtain ⟨L,l1,l2,l3⟩:=g2 i y hy;rw[p2 i L (aM.1 hy).1 l1 (λj u hu=>(l2 j u hu).1)];grind [Ro.rep]
   refine ⟨some ad,cap,rd w ad.block ad.off (List.length v*e.sz),λ_ _ _=>0,rfl,⟨h1,(λe=>by cases e)⟩,λdt e=>?_,AI _ _ _ _,qu _ _ (AI _ _ _ _) rW,rW,(λb i=>by grind [ns]),λh=>absurd h iU⟩
   grind
theorem AL {e:Ty} {m:Md} {v:List e.den} {cs:List Value} {Fv:FP} (hr:ax P w A (.aa e) m [] v cs Fv) :
  ∃ xa cap news Fi,cs=[.slice xa (List.length v) cap]/\(List.length v<=cap/\(xa=none->List.length v=0))/\(∀ ad,xa=some ad->(0 < cap->ad.spot=none)/\Has w ad.block ad.off news)/\news.length=List.length v*e.sz/\(∀ u ∈ news,u.oneCell'=true) /\
   (∀ (i:Nat) (y:e.den),v[i]?=some y->ax P w A e m.e [] y ((news.drop (i*e.sz)).take e.sz) (Fi i))/\(∀ b i,bk (List.length v) Fi b i<=Fv b i) /\
   (m.own=true->List.length v<=cap/\cap<=maxLen/\(xa=none->cap=0)/\∀ ad,xa=some ad->ad.off=0/\ad.spot=none/\iR w ad.block (cap*e.sz,zO e)/\∀ b i,de ad.block 0 (cap*e.sz) b i+bk (List.length v) Fi b i<=Fv b i):=
 KA rfl hr
theorem L8 (h:Rel P C A X σ a w F) {s:Slot} {tv:Value} {G:FP} (hs:dq P A σ a w tv s G) {mv:Bool} {e:Ty} {tx:TypeId} (Do:(∃ e',P.underlying tx=some (.slice e'))\/P.underlying tx=some .string)
  {K:Md->List e.den->St->Option R} (hk:Dh σ s e mv K=some x) :
  ∃ (A':Cells) (σ':St) (F':Nat->FP) (me:Md) (y:List e.den) (news:List Value) (Fv:FP) (Fi:Nat->FP),K me y σ'=some x/\(∀ b i,A b i->A' b i)/\Rel P C A' (λb i=>X b i+Fv b i) σ' a w F'/\rZ σ σ' /\
   Src P e.sz tx tv (List.length y) news w/\(∀ k,k<=List.length y->(Builtin.firstCells e.sz k tv).run P w=.ok (news.take (k*e.sz)).toArray w)/\(∀ (i:Nat) (z:e.den),y[i]?=some z->ax P w A' e me [] z ((news.drop (i*e.sz)).take e.sz) (Fi i))/\∀ b i,bk (List.length y) Fi b i<=Fv b i:=by
 unfold Dh at hk;split at hk
 ·rename_i s';obtain ⟨e1,hk⟩:=dn hk;injection e1 with e1;subst e1;obtain ⟨cs,h1,h2⟩:=hs;simp only[Ro] at h2;subst h2;have Cv:tv=.string ⟨List.toArray s'⟩:=h1;subst Cv;have hlen:(byteCells ⟨List.toArray s'⟩)=List.map (λ(b:UInt8)=>Value.int .u8 b.toNat) s':=by simp[byteCells]
  have nt:(⟨List.toArray s'⟩:ByteArray).size=List.length s':=rfl;refine ⟨A,σ,F,.leaf,s',byteCells ⟨List.toArray s'⟩,λ_ _=>0,λ_ _ _=>0,hk,λ_ _ h=>h,h,rZ.refl σ,⟨Do,λ_=>rfl,firstCells_string _ w,firstCells_string _ w.drew,by grind [Ty.sz],λu hu=>?_⟩,λk hk=>?_,λi z hz=>?_,λb i=>by grind [ns]⟩
  ·obtain ⟨_,_,rfl⟩:=eL.1 hu;rfl
  ·rw[hlen];have aeF:((⟨List.toArray s'⟩:ByteArray).extract 0 k).data.toList=s'.take k:=by simp[ByteArray.data_extract]
   simp only[Builtin.firstCells,Sem.run_pure,Ty.sz,iI];simp_all
  ·have:((byteCells ⟨List.toArray s'⟩).drop (i*Ty.sz (.int .u8))).take (Ty.sz (.int .u8))=[Value.int .u8 z.toNat]:=by
    show ((byteCells ⟨List.toArray s'⟩).drop (i*1)).take 1=_;grind [List.take_one,List.head?_drop]
   exact this
 ·rename_i s' hns;obtain ⟨A',σ',F',m,v,cs,Fv,k1,k2,k3,k4,kr,k5,k6⟩:=vL h hs hk;obtain ⟨xa,cap,news,Fi,r1,r2,r3,r4,r5,r6,r7,r8⟩:=AL k6;rw[r1,ee _ _ rfl] at k5;subst k5
  have Ei:∀ ad,xa=some ad->∀ j u,news[j]?=some u->w.cell? (ad.add j)=some u:=λad e1 j u hu=>by
   obtain ⟨g1,g2⟩:=r3 ad e1;have hj:=(aM.1 hu).1
   have Ju:0 < cap:=by
    grind
   obtain ⟨b,off,sp⟩:=ad;have:=g1 Ju;simp only at this;subst this;rw[qG];exact sy (g2 j u hu) (r5 u (bI hu))
  refine ⟨A',σ',F',m.e,v,news,Fv,Fi,k1,k2,k3,kr,?_,?_,r6,r7⟩
  rotate_left
  ·intro k hk
   cases xa with
   | none=>
    simp_all [run_firstCells_none]
   | some ad=>
    grind [Nat.mul_le_mul_right,run_firstCells_some]
  cases xa with
  | none=>
   have h0:=r2.2 rfl;have hn:news=[]:=bF (by grind);subst hn;rw[h0];exact ⟨Do,λ_=>rfl,run_firstCells_none w e.sz 0 0 cap,run_firstCells_none w.drew e.sz 0 0 cap,by simp,λu hu=>by cases hu⟩
  | some ad=>
   have hc:=Ei ad rfl;exact ⟨Do,λ_=>rfl,run_firstCells_some w e.sz (List.length v) ad (List.length v) cap news r4 hc,run_firstCells_some w.drew e.sz (List.length v) ad (List.length v) cap news r4 (by simpa using hc),r4,r5⟩
theorem Jv {e:Ty} {me:Md} {v y:List e.den} {gu news:List Value} {Fi Gi:Nat->FP} (hl:gu.length=List.length v*e.sz)
  (h1:∀ (i:Nat) (z:e.den),v[i]?=some z->ax P w A e me [] z ((gu.drop (i*e.sz)).take e.sz) (Fi i)) (h2:∀ (i:Nat) (z:e.den),y[i]?=some z->ax P w A e me [] z ((news.drop (i*e.sz)).take e.sz) (Gi i)) :
  ∀ (i:Nat) (z:e.den),(v++y)[i]?=some z->ax P w A e me [] z (((gu++news).drop (i*e.sz)).take e.sz) (if i < List.length v then Fi i else Gi (i - List.length v)):=by
 intro i z hz;by_cases hi:i < List.length v
 ·rw[aR hi];rw[bO hi] at hz;have h6:i*e.sz+e.sz<=List.length v*e.sz:=by rw[<-dW];exact aX _ Bys
  grind
 grind [Nat.mul_le_mul_right,List.drop_append,List.drop_of_length_le,Nat.sub_mul]
theorem OY (n m:Nat) (Fi Gi:Nat->FP) (b i:Nat):bk (n+m) (λi=>if i < n then Fi i else Gi (i - n)) b i=bk n Fi b i+bk m Gi b i:=by
 rw[wr];congr 1
 all_goals simp_all [yJ,aV]
theorem Ro.indep {A':Cells}:∀ (t:Ty) {v:t.den} {cs:List Value},t.flat=true->t.th=true->Ro P w A t v cs->Ro P w A' t v cs:=by
 intro t
 induction t with
 | pair a b nE nw=>
  intro v cs hf hn h;simp only[Ty.flat,Ty.th,aD] at hf hn;exact ⟨nE hf.1 hn.1 h.1,nw hf.2 hn.2 h.2⟩
 | arr n e ih=>
  intro v cs hf hn h;exact ⟨h.1,h.2.1,h.2.2.1,λi x hx=>ih hf hn (h.2.2.2 i x hx)⟩
 | aa e ih=>grind [Ty.flat]
 | ptr e ih=>grind [Ty.flat]
 | fn=>grind [Ty.th]
 | map k v=>grind [Ty.flat]
 | _=>intro v cs hf hn h;exact h
theorem KB {A1 A2:Cells} {mT:St} {F2:Nat->FP} {t tx:Nat} {y z:Operand} (ho:o.op=.call { callee:=.builtin .append,args:=#[y,z],argTypes:=#[t,tx] }) {e:Ty} {el:Nat} (hu:P.underlying t=some (.slice el)) (rW:bn P e (.inl el)=true)
  {m me:Md} {v yv:List e.den} {cs news:List Value} {Fv Fw:FP} {Gi:Nat->FP} {K:St->Option R} (iU:m.own=true) (k5:a.eval y=cu (.aa e) cs) (k6:ax P w A1 (.aa e) m [] v cs Fv) (oU:v.length+yv.length<=b9)
  (q1:K (mT.cg o.dst (.own (.aa e) (.aa true (if me=m.e then me else an e)) [] (v++yv)))=some x) (q2:∀ b i,A1 b i->A2 b i) (q3:Rel P C A2 (λb i=>0+Fv b i+Fw b i) mT a w F2)
  (q4:Src P e.sz tx (a.eval z) (List.length yv) news w) (q5:∀ (i:Nat) (z:e.den),yv[i]?=some z->ax P w A2 e me [] z ((news.drop (i*e.sz)).take e.sz) (Gi i)) (q6:∀ b i,bk (List.length yv) Gi b i<=Fw b i):o.wp P a w (Nx P C K x) Q:=by
 obtain ⟨inf,zv,i1,i2,i3,i4,i5,_⟩:=xA (lX rW);obtain ⟨xa,cap,gu,Fi,r1,r2,r3,r4,r5,r6,r7,r8⟩:=AL k6;obtain ⟨c1,c2,c3,c4⟩:=r8 iU;rw[r1,ee _ _ rfl] at k5;have r6':∀ (i:Nat) (z:e.den),v[i]?=some z->ax P w A2 e m.e [] z ((gu.drop (i*e.sz)).take e.sz) (Fi i):=λi z hz=>ax.mono (P:=P) (A':=A2) q2 (λ_ _ _ _ h=>h) (λ_ _ h=>h) e (r6 i z hz) (λ_ _=>aH _) (λ_ _ _ _ h=>h)
 have xY:∃ (A3:Cells) (X3:FP) (Hi:Nat->FP),Rel P C A3 X3 mT a w F2/\(∀ (i:Nat) (z:e.den),(v++yv)[i]?=some z->ax P w A3 e (if me=m.e then me else an e) [] z (((gu++news).drop (i*e.sz)).take e.sz) (Hi i)) /\
   (∀ b i,bk (List.length v+List.length yv) Hi b i<=X3 b i)/\∀ ad,xa=some ad->∀ b i,de ad.block 0 (cap*e.sz) b i+bk (List.length v+List.length yv) Hi b i<=X3 b i:=by
  by_cases Dl:me=m.e
  ·subst Dl;refine ⟨A2,_,_,q3,by simp only[aJ];exact Jv r4 r6' q5,λb i=>?_,λad j0 b i=>?_⟩
   all_goals grind [OY]
  ·simp only[aV Dl]
   obtain ⟨B,hB1,hB2,hB3⟩:∃ B:FP,(∀ b i,B b i+bk (List.length v) Fi b i<=Fv b i)/\(∀ ad,xa=some ad->∀ b i,de ad.block 0 (cap*e.sz) b i=B b i)/\∀ b i,B b i<=1:=by
    cases xa with
    | none=>exact ⟨λ_ _=>0,λb i=>by grind,(λad e=>by cases e),λ_ _=>aZ _⟩
    | some ad=>exact ⟨de ad.block 0 (cap*e.sz),(c4 ad rfl).2.2.2,(λdt e=>by grind),λb i=>by grind [de]⟩
   obtain ⟨A3,sH⟩:∃ A3:Cells,∀ b i,A3 b i↔(A2 b i\/(1<=0+Fv b i+Fw b i/\B b i=0)):=⟨λb i=>A2 b i\/(1<=0+Fv b i+Fw b i/\B b i=0),λ_ _=>iL⟩
   refine ⟨A3,B,λ_ _ _=>0,q3.giveUp (λb i h=>(sH b i).2 (.inl h)) (λb i ha=>(sH b i).1 ha) (λb i=>by grind),?_,λb i=>by grind [ns],λad j0 b i=>by grind [ns]⟩
   have yQ:∀ b i,(0+Fv b i+Fw b i)+bk mT.n F2 b i<=1:=λb i=>q3.qe b i
   have hv3:∀ (i:Nat) (z:e.den),v[i]?=some z->ax P w A3 e (an e) [] z ((gu.drop (i*e.sz)).take e.sz) (λ_ _=>0):=λi z hz=>Ro.rep _ _ (iF _) (ax.yK (λb i h=>(sH b i).2 (.inl h)) e (r6' i z hz) λb k hp=>(sH b k).2 (.inr (by
    grind [dz])))
   have hy3:∀ (i:Nat) (z:e.den),yv[i]?=some z->ax P w A3 e (an e) [] z ((news.drop (i*e.sz)).take e.sz) (λ_ _=>0):=λi z hz=>Ro.rep _ _ (iF _) (ax.yK (λb i h=>(sH b i).2 (.inl h)) e (q5 i z hz) λb k hp=>(sH b k).2 (.inr (by
    grind [dz])))
   exact λi z hz=>by simpa using Jv (Fi:=λ_ _ _=>0) (Gi:=λ_ _ _=>0) r4 hv3 hy3 i z hz
 obtain ⟨A3,X3,Hi,n1,n2,n3,n4⟩:=xY;have IB:List.length (v++yv)=List.length v+List.length yv:=by simp
 by_cases sW:List.length v+List.length yv<=cap
 ·cases xa with
  | none=>
   have hc0:=c3 rfl;have hv0:v=[]:=bF Bys;have WN:yv=[]:=bF Bys;subst hv0;subst WN;have ta:(Builtin.firstCells e.sz 0 (a.eval z)).run P w=.ok news.toArray w:=by have:=q4.cells;simpa using this
   have jL:(execOp a.eval o).run P w=.ok (.value (.slice none 0 cap)) w:=by
    rcases q4.kind with ⟨e',sK⟩ | sK <;>
     simp[execOp,ho,resolve,invoke,builtin,Builtin.append_,k5,run_underlying hu,run_underlying sK,Go.sizeOf,typeInfo,i1,q4.len,i2,ta]
   refine pq jL (qH n1 q1 (Fd:=λ_ _=>0) ⟨[.slice none 0 cap],(ee _ _ rfl).symm,?_⟩ (λ_ _=>aZ _) (λ_ _ _ _ e=>by cases e));grind [ax,Md.own]
  | some ad=>
   obtain ⟨d1,d4,d2,d3⟩:=c4 ad rfl;obtain ⟨_,d5⟩:=r3 ad rfl;obtain ⟨b,off,sp⟩:=ad;simp only at d1 d2 d3 d4 d5;subst d1;subst d4;have n4':∀ b' i,de b 0 (cap*e.sz) b' i+bk (List.length v+List.length yv) Hi b' i<=X3 b' i:=n4 _ rfl;have Ek:=q4.newsLen;have yY:List.length v*e.sz+news.length<=cap*e.sz:=by rw[Ek,<- bW];exact aX _ sW
   have nI:∀ j,j < cap*e.sz->(w.cell? ⟨b,j,none⟩).isSome=true:=λj hj=>by
    obtain ⟨c,e',fr,w1,w2,w3⟩:=d2;grind [World.cell?]
   have jL:=run_append_room_src (P:=P) w t tx o.type el inf hu i1 b 0 (List.length v) cap (a.eval z) (List.length yv) news (by grind) sW (λj hj=>by grind) (λj hj=>by rw[i2,bE];exact d2.frozen Bys);rw[i2,bE] at jL
   have Uy:(execOp a.eval o).run P w=.ok (.value (.slice (some ⟨b,0,none⟩) (List.length v+List.length yv) cap)) (w.setCells b (List.length v*e.sz) news):=by
    simp_all [execOp,resolve,invoke,builtin]
   have eo:=k_ (b:=b) (o:=List.length v*e.sz) news w (List.length v*e.sz)
   have hX1:∀ b' i,1<=de b (List.length v*e.sz) news.length b' i->1<=de b 0 (cap*e.sz) b' i:=λb' i hp=>by
    grind [de]
   have hn':=n1.world eo (λb' i hp=>by grind);refine pq Uy (qH hn' q1 (Fd:=X3) ⟨[.slice (some ⟨b,0,none⟩) (List.length v+List.length yv) cap],(ee _ _ rfl).symm,?_⟩ (λ_ _=>aH _) (λ_ _ _ _ e=>by cases e));simp only[ax,hole,bT,aF,aS,Md.own,aJ,Md.e];refine ⟨some ⟨b,0,none⟩,cap,by rw[IB],by omega,c2,(λe=>by cases e),λdt e'=>?_⟩
   injection e' with e';subst e';refine ⟨rfl,rfl,eo.wg _ _ d2,Hi,λb' i=>by grind,λi zz hz=>?_⟩
   have iT:=n2 i zz hz;have OZ:i < List.length v+List.length yv:=by grind
   refine ⟨_,ax.length _ iT,?_,?_⟩
   ·
    have t7:Has (w.setCells b (List.length v*e.sz) news) b 0 (gu++news):=λj u hu=>by
     rw[bE];by_cases hj:j < gu.length
     ·rw[bO hj] at hu;have hold:=d5 j u hu;rw[bE] at hold;refine eo.cell b j (by obtain ⟨c,e',fr,w1,_⟩:=d2;grind) ?_ u hold;grind [de]
     ·rw[cL Bys] at hu;have:=pN (w:=w) (b:=b) (o:=List.length v*e.sz) (L:=news) (λk hk=>nI _ Bys) q4.one _ u hu;grind
    intro j u hu;rw[bN] at hu;split at hu
    ·rw[bK] at hu;have:=t7 _ u hu;grind
    ·cases hu
   ·simp only[eA];refine ax.mono (P:=P) (λ_ _ h=>h) (λb' k ha u hu=>eo.cell b' k (n1.k9 b' k (.inr ha)) ?_ u hu) eo.wg e iT (λ_ _=>aH _) (λb' k hp u hu=>eo.cell b' k ?_ ?_ u hu)
    ·rcases bJ (de b (List.length v*e.sz) news.length b' k) with h0 | h0
     ·exact h0
     ·exact absurd ha (n1.rh b' k (by grind))
    ·exact n1.k9 b' k (.inl (by grind [dz]))
    ·rcases bJ (de b (List.length v*e.sz) news.length b' k) with h0 | h0
     ·exact h0
     ·have h1:=hX1 b' k h0;have h2:=n4' b' k;have h3:=dz Hi OZ b' k;have h4:=n1.qe b' k;omega
 ·
  have Uz:(Builtin.firstCells inf.size (List.length v) (.slice xa (List.length v) cap)).run P w.drew=.ok gu.toArray w.drew:=by
   cases xa with
   | none=>
    simp_all [run_firstCells_none]
   | some ad=>
    obtain ⟨_,d4,_,_⟩:=c4 ad rfl;obtain ⟨_,d5⟩:=r3 ad rfl;obtain ⟨b,off,sp⟩:=ad;simp only at d4 d5;subst d4;exact run_firstCells_some w.drew inf.size (List.length v) ⟨b,off,none⟩ (List.length v) cap gu (by grind) (λj u hu=>by rw[qG];exact sy (d5 j u hu) (r5 u (bI hu)))
  simp only[b9] at oU
  have jL:=run_append_grow_src (P:=P) w t tx o.type el inf zv hu i1 i4 xa (List.length v) cap gu Uz (a.eval z) (List.length yv) news (by grind) Bys Bys
   (growslice_fits Bys (bG (fJ oU i3) (by decide)))
  have Uy:(execOp a.eval o).run P w=.ok (.value (.slice (some ⟨w.heap.size,0,none⟩) (List.length v+List.length yv) (grownCap w (List.length v+List.length yv) cap el)))
    (w.drew.alloc (.cells ((gu++news).toArray++Builtin.zeroCells zv.cells (grownCap w (List.length v+List.length yv) cap el - (List.length v+List.length yv))) el)):=by
   simp_all [execOp,resolve,invoke,builtin]
  have IF:=grownCap_ge w (List.length v+List.length yv) cap el;have S6:=grownCap_le_maxLen w (List.length v+List.length yv) cap el (by grind [maxLen]);have Ek:=q4.newsLen
  have pM:=Id n1.drew (K:=K) (x:=x) (d:=o.dst) (e:=e) (m:=if me=m.e then me else an e) (v:=v++yv) (c:=(gu++news).toArray++Builtin.zeroCells zv.cells (grownCap w (List.length v+List.length yv) cap el - (List.length v+List.length yv)))
   (cap:=grownCap w (List.length v+List.length yv) cap el) (el:=el) (fr:=(0,0)) (Fi:=Hi) (.inr (aH _)) q1
   (by
    rw[fE,size_zeroCells,i5,eU,bU,r4,Ek,<- bW,<- bW]
    congr 1;omega) S6 (by grind)
   (λb i=>by grind) (λi zz hz=>by
    have iT:=n2 i zz hz;refine ⟨_,ax.length _ iT,λj u hu=>?_,ax.mono (P:=P) (w:=w) (w':=w.drew) (A:=A3) (A':=A3) (λ_ _ h=>h) (λ_ _ _ _ h=>h) (λb n hn=>hn) e iT (λ_ _=>aH _) (λ_ _ _ _ h=>h)⟩
    grind)
  rw[IB] at pM;exact pq Uy pM
theorem step_append (h:ey P C A σ a w F) (kV:∀ i T,E.TI i=some T->bn P T (.inl i)=true) {t tx:Nat} {y z:Operand} (ho:o.op=.call { callee:=.builtin .append,args:=#[y,z],argTypes:=#[t,tx] }) (bf:ei P y=true/\ei P z=true)
  (Do:(∃ e',P.underlying tx=some (.slice e'))\/P.underlying tx=some .string) {mv tf:Bool} {K:St->Option R} (hk:LN E σ t (ep σ y) z mv tf o.dst K=some x):o.wp P a w (Nx P C K x) Q:=by
 unfold LN at hk;obtain ⟨T,hT,hk⟩:=iq hk;have jz:=kV _ _ hT;split at hk
 ·rename_i e;have hl:=jz;simp only[bn,aD] at hl;have h2:=hl.2;split at h2;rotate_left
  ·cases h2
  rename_i el hu;simp only[aD,dL] at h2;obtain ⟨nt,rW⟩:=h2;split at hk
  ·rename_i Em;simp only[aD] at Em;obtain ⟨_,Em,S4⟩:=Em
   rcases gn h bf.2 with Dp | ⟨xs,e'⟩
   rotate_left
   ·grind [Dh,nC]
   obtain ⟨A0,σ0,F0,me,yv,news,Fw,Gi,q1,_,_,_,q4,_,q5,_⟩:=L8 h Dp Do hk
   rcases gn h bf.1 with hs | ⟨xs,e'⟩
   rotate_left
   ·grind [nC]
   obtain ⟨A1,qE,F1,m,v,cs,Fv,k1,k2,k3,k4,kr,k5,k6⟩:=vL h hs q1;split at k1;rotate_left
   ·cases k1
   rename_i iU;split at k1;rotate_left
   ·cases k1
   rename_i oU
   exact KB (me:=an e) (Fw:=λ_ _=>0) (Gi:=λ_ _ _=>0) ho hu rW iU k5 k6 oU (by grind) (λ_ _ h=>h) k3 q4
    (λi zz hz=>Ro.rep _ _ (iF _) (Ro.indep e Em S4 (ax.flat e Em (q5 i zz hz)))) (λb i=>by grind [ns])
  rcases gn h bf.1 with hs | ⟨xs,e'⟩
  rotate_left
  ·grind [nC]
  obtain ⟨A1,qE,F1,m,v,cs,Fv,k1,k2,k3,k4,kr,k5,k6⟩:=vL h hs hk;split at k1;rotate_left
  ·cases k1
  rename_i iU
  rcases gn k3 bf.2 with Dp | ⟨xs,e'⟩
  rotate_left
  ·grind [Dh,nC]
  obtain ⟨A2,mT,F2,me,yv,news,Fw,Gi,q1,q2,q3,qr,q4,_,q5,q6⟩:=L8 k3 Dp Do k1;split at q1;rotate_left
  ·cases q1
  rename_i oU;exact KB ho hu rW iU k5 k6 oU q1 q2 q3 q4 q5 q6
 ·cases hk
end
end OT
namespace OT
open Go
section
variable {P:Program} {C:Ctx} {A:Cells} {X:FP} {σ:St} {a:Act} {w:World} {F:Nat->FP} {R:Type} {x:R} {Q:Exit->Act->World->Prop} {o:Oper} {E:Env}
theorem NP (h:ey P C A σ a w F) {f:Nat} {first cs:Array Operand} (ho:o.op=.makeFunc (.func f) first cs) (dp:(P.funcs[f]?).any (λfn=>fn.nfree == cs.size)=true) {K:St->Option R}
  (hk:(if first.size=0 then
   match cs.toList with
   | []=>K (σ.cg o.dst (.val .fn (f,0)))
   | [.tmp i]=>match σ.get i with
    | .box (.int .i64) _ _ n=>K (((σ.put i .dead).put i (.cp (.int .i64) n)).cg o.dst (.val .fn (f,n)))
    | _=>none
   | _=>none
  else none)=some x):Tk P o a w (Nx P C K x):=by
 simp only[Option.any_eq_true,beq_iff_eq] at dp;obtain ⟨fn,hf,hn⟩:=dp;split at hk
 ·rename_i h0;have O0:first=#[]:=gE h0
  subst O0;split at hk
  ·rename_i qD;have qD:cs=#[]:=by grind
   subst qD;refine iS (v:=.func (.func f) #[] #[]) (by simp[execOp,ho,Instr.makeFunc]) (ct h hk ⟨[.func (.func f) #[] #[]],rfl,#[],rfl,fn,hf,.inl ⟨by simpa using hn,rfl⟩⟩ (λ_ _ _ _ e=>by cases e))
  ·rename_i i qD;have qD:cs=#[.tmp i]:=by grind
   subst qD;split at hk
   ·rename_i m H n hg
    have hi:i < σ.n:=by
     grind [mK]
    have hs:=h.jg i hi;rw[hg] at hs;obtain ⟨b,off,L,F1,s1,s2,s3,s4,s5,s6⟩:=hs;simp only[ax,Ro] at s6;subst s6;have h1:=h.put hi (s:=.dead) (v:=tmp a i) (Fd:=λ_ _=>0) (X':=F i) trivial (λb k=>by omega) (λ_ _ _ _ e=>by cases e);rw[sJ] at h1;have hle:∀ b' i',de b off 1 b' i'<=F i b' i':=λb' i'=>by grind
    have h2:=h1.giveUp (A1:=λb' i'=>A b' i'\/1<=de b off 1 b' i') (X1:=λ_ _=>0) (λ_ _ h=>.inl h) (λb' i' ha=>ha.imp id λhp=>⟨by grind,rfl⟩) (λ_ _=>aZ _);have nI:ce w b off=some (.int .i64 n):=s3 0 _ rfl;have hA:1<=de b off 1 b off:=by simp[de]
    have h3:=h2.put (d:=i) hi (s:=.cp (.int .i64) n) (v:=tmp a i) (Fd:=λ_ _=>0) (X':=λ_ _=>0)
     ⟨⟨b,off,none⟩,by rw[s1],rfl,[.int .i64 n],rfl,(λj u hu=>by
      grind),rfl⟩ (λb k=>by omega) (λ_ _ _ _ e=>by cases e)
    rw[sJ] at h3;have ev:a.eval (.tmp i)=.pointer (some ⟨b,off,none⟩):=s1
    refine iS (v:=.func (.func f) #[] #[.pointer (some ⟨b,off,none⟩)]) (by simp[execOp,ho,Instr.makeFunc,ev])
     (ct h3 hk ⟨[.func (.func f) #[] #[.pointer (some ⟨b,off,none⟩)]],rfl,_,rfl,fn,hf,.inr ⟨by simpa using hn,_,rfl,rfl,nI,.inr hA⟩⟩ (λ_ _ _ _ e=>by cases e))
   ·cases hk
  ·cases hk
 ·cases hk
theorem Ru (h:ey P C A σ a w F) {y:Operand} (ho:o.op=.assign y) (bf:ei P y=true) {T:Nat} {mv:Bool} {K:St->Option R} (hk:LO E σ T y mv o.dst K=some x):Tk P o a w (Nx P C K x):=by
 refine iS (v:=a.eval y) (by simp[execOp,ho]) ?_;unfold LO at hk;by_cases aeG:∃ i xs,y=.tmp i/\σ.get i=.s8 xs
 ·obtain ⟨i,xs,rfl,hg⟩:=aeG;have e:ep σ (.tmp i)=.s8 xs:=by grind [ep]
  rw[e] at hk
  cases xs with
  | nil=>
   have hi:i < σ.n:=by
    grind [mK]
   have hs:=h.jg i hi;rw[hg] at hs;obtain ⟨vs,Fi,h1,h2,h3⟩:=hs;exact ct h hk ⟨vs,λ_ _ _=>0,h1,λb i=>by simp[bk],λj y hy=>by cases hy⟩ (λ_ _ _ _ e=>by cases e)
  | cons _ _=>cases hk
 rcases gn h bf with hs | ⟨xs,e⟩
 rotate_left
 ·exfalso
  cases y with
  | tmp i=>
   grind [ep]
  | const v=>simp only[ep] at e;unfold AH at e;grind
  | func f=>cases e
  | global g=>cases e
 split at hk
 ·grind [ct]
 ·rename_i hv;rw[hv] at hs;obtain ⟨t,hT,hk⟩:=iq hk;split at hk
  ·have hs:a.eval y=.slice none 0 0:=hs;rw[hs];refine ct h hk ⟨[.slice none 0 0],(ee _ _ rfl).symm,?_⟩ (λ_ _ _ _ e=>by cases e);grind [ax,hole,u0,Md.own]
  ·cases hk
 ·grind [ct]
 ·cases hk
 ·grind [vL,Cw]
 ·grind [vL,Cw]
 ·rename_i r p snap hv;rw[hv] at hs;split at hk
  ·rename_i t m H v hg;split at hk
   ·rename_i hc;simp only[aD,cH] at hc;split at hk
    ·rename_i i hd
     have hr:r < σ.n:=by
      grind [mK]
     have mF:=h.jg r hr;rw[hg] at mF;obtain ⟨b,off,L,F1,s1,s2,s3,s4,s5,s6⟩:=mF;obtain ⟨pl,b',o',g1,g2,g3,g4⟩:=hs.2 hc.1.1
     have ji:place σ a w r []=some ⟨t,H,rd w b off t.sz,some (b,off)⟩:=by
      unfold place;rw[hg,s1];rfl
     rw[ji] at g1;injection g1 with g1;subst g1;simp only[aQ,bL] at g2;obtain ⟨rfl,rfl⟩:=g2;have h1:=h.put hr (s:=.dead) (v:=tmp a r) (Fd:=λ_ _=>0) (X':=F r) trivial (λb k=>by omega) (λ_ _ _ _ e=>by cases e);rw[sJ] at h1;obtain ⟨bw,w1,w2⟩:=h.whole r t m H v hg (Ko hc.2);rw[s1] at w1;injection w1 with w1;injection w1 with w1;injection w1 with w1 w3;subst w1;have:=qH (K:=K) (x:=x) (d:=some i) h1 hk (v:=a.eval y) (s:=.box t m H v) (Fd:=F r) ⟨b,off,L,F1,g3,s2,s3,s4,s5,s6⟩ (λb i=>aH _) (λt' m' H' v' e=>by grind);grind
    ·cases hk
   grind [ct]
  grind [ct]
 grind [ct,MV]
theorem sn {α:Type} (v y:List α) {lo n:Nat} (h:lo+n<=v.length) (hy:n<=y.length):(pD v lo n y).length=v.length:=by
 grind [pD]
theorem O1 {α:Type} (v y:List α) {lo n:Nat} (h:lo+n<=v.length) (hy:n<=y.length) (i:Nat):(pD v lo n y)[i]?=if lo<=i/\i < lo+n then y[i - lo]? else v[i]?:=by
 unfold pD;by_cases h1:i < lo
 all_goals grind
theorem MZ (h:ey P C A σ a w F) {r:Nat} {p:Path} {e:Ty} {m:Md} {v y:List e.den} {news:List Value} {Gi:Nat->FP} {me:Md} {lo n:Nat} {K:St->Option R} (nN:At σ r p (.aa e) m [] v) (iU:m.own=true) (hf:e.flat=true) (hn:lo+n<=List.length v) (hy:n<=List.length y)
  (hl:news.length=List.length y*e.sz) (qu:∀ u ∈ news,u.oneCell'=true) (rW:∀ (i:Nat) (z:e.den),y[i]?=some z->ax P w A e me [] z ((news.drop (i*e.sz)).take e.sz) (Gi i))
  (hk:xo σ r p (.aa e) m (pD v lo n y) (λσ'=>K { σ' with vr:=(σ.nv r yG).vr,aT:=σ.aT })=some x) :
  ∃ (xa:Option Addr) (cap:Nat) (ad:Option (Nat×Nat)) (w2:World) (A3:Cells) (σ':St) (F3:Nat->FP),place σ a w r p=some ⟨.aa e,[],[.slice xa (List.length v) cap],ad⟩/\K σ'=some x/\ey P C A3 σ' a w2 F3 /\
   (xa=none->w2=w/\List.length v=0)/\∀ ad,xa=some ad->ad.off=0/\ad.spot=none/\(n=0->w2=w)/\(storeCells ⟨ad.block,lo*e.sz,none⟩ (news.take (n*e.sz))).run P w=.ok () w2:=by
 obtain ⟨hr,m2,H2,v2,d9,Cx,F2,q1,q2,q3,q4,q5,q6⟩:=Eh h hk;obtain ⟨_,e2,e3,e4⟩:=nN.inj q1;subst e2;subst e3;have e4:=gD e4;subst e4;have iT:=q3;simp only[ax,hole,bT,aF,aS,iU,aJ] at q3;obtain ⟨xa,cap,rfl,c1,c2,c3,c4⟩:=q3;have IB:=sn v y hn hy;have IC:∀ b i,F r b i<=1:=λb i=>by have:=h.qe b i;grind [dz]
 have fin:∀ (w2:World),Ext w w2 (λb i=>0+(F2 b i+lF Cx (Ty.aa e).sz b i))->(∀ b o,Cx=some (b,o)->Has w2 b o [.slice xa (List.length v) cap])->ax P w2 A (.aa e) m [] (pD v lo n y) [.slice xa (List.length v) cap] F2 ->
   (∀ (i:Nat) (z:e.den),(pD v lo n y)[i]?=some z->∀ ad,xa=some ad->∃ L,L.length=e.sz/\Has w2 ad.block (ad.off+i*e.sz) L/\ax P w2 A e .leaf [] z L (λ_ _=>0)) ->
   ∃ (A3:Cells) (σ':St) (F3:Nat->FP),K σ'=some x/\ey P C A3 σ' a w2 F3:=by
  intro w2 g1 g2 g3 g4;obtain ⟨A3,Dn,Fr,n1,n2,n3,n4,n5⟩:=q6 w2 A _ F2 (λ_ _=>0) g1 (λ_ _ h=>h) (λ_ _ h=>.inl h) (λb i=>by omega) g2 (λ_=>rfl) g3;refine ⟨A3,_,_,n1,n5 yG (An (h.mD r)) (GV (h.mD r)) rfl λp' snap hb bf hlen=>?_⟩
  have h5:=Jr (h.mD r) hb bf;refine ⟨eu p'+1,False,by omega,λ_=>.inl Bys,λ_=>by omega,?_⟩
  intro q pl hq hp
  cases q with
  | nil=>
   simp only[bt,aQ] at hp;subst hp;exact ⟨_,_,rfl,λ_=>rfl⟩
  | cons s q=>
   cases s with
   | idx i=>
    cases xa with
    | none=>grind [bt]
    | some ad=>
     simp only[bt,hole,bT,aF,aS,eA] at hp ⊢;split at hp
     ·rename_i hi;rw[aR hi];have rE:i < (pD v lo n y).length:=by grind
      obtain ⟨L,l1,l2,l3⟩:=g4 i _ (aB rE) ad rfl;rw[gc l2 l1];obtain ⟨H',cc,h1,h2⟩:=Dk (A:=A) (m:=.leaf) (v:=(pD v lo n y)[i]) (F:=λ_ _=>0) q e l3 (.inr hf) hp;grind
     ·cases hp
   | _=>simp[bt] at hp
 cases xa with
 | none=>
  have h0:=c3 rfl;have hv0:List.length v=0:=by omega
  grind [Ext.refl]
 | some ad=>
  obtain ⟨d1,d2,d3,Fi,d4,d5⟩:=c4 ad rfl;obtain ⟨b,off,sp⟩:=ad;simp only at d1 d2 d3 d4 d5;subst d1;subst d2;have hle:lo*e.sz+n*e.sz<=cap*e.sz:=by rw[<-bW];exact aX _ Bys
  have Ek:(news.take (n*e.sz)).length=n*e.sz:=by
   grind [Nat.mul_le_mul_right]
  have nI:∀ j,j < cap*e.sz->(w.cell? ⟨b,j,none⟩).isSome=true:=λj hj=>by
   obtain ⟨c,e',fr,w1,w2,w3⟩:=d3;grind [World.cell?]
  have dp:=run_storeCells_cells (P:=P) b (lo*e.sz) (news.take (n*e.sz)) 0 w (λj hj=>by grind) (λj hj=>by rw[eJ];exact d3.frozen Bys) (λu hu=>qu u (dU hu));rw[eJ] at dp;have eo:=k_ (b:=b) (o:=lo*e.sz) (news.take (n*e.sz)) w (lo*e.sz);rw[Ek] at eo
  have ES:∀ b' i,de b (lo*e.sz) (n*e.sz) b' i<=de b 0 (cap*e.sz) b' i:=λb' i=>by
   grind [de]
  have hA:∀ b' i,A b' i->∀ u,ce w b' i=some u->ce (w.setCells b (lo*e.sz) (news.take (n*e.sz))) b' i=some u:=λb' i ha u hu=>by
   refine eo.cell b' i (h.k9 b' i (.inr ha)) ?_ u hu;rcases bJ (de b (lo*e.sz) (n*e.sz) b' i) with h0 | h0
   ·exact h0
   ·exact absurd ha (h.rh b' i (by grind [dz]))
  have YV:∀ (i:Nat) (z:e.den),(pD v lo n y)[i]?=some z->∃ L,L.length=e.sz/\Has (w.setCells b (lo*e.sz) (news.take (n*e.sz))) b (i*e.sz) L/\Ro P (w.setCells b (lo*e.sz) (news.take (n*e.sz))) A e z L:=by
   intro i z hz;rw[O1 v y hn hy] at hz;split at hz
   ·rename_i hi;have zH:=ax.flat _ hf (rW _ z hz);refine ⟨_,Ro.length _ zH,λj u hu=>?_,Ro.mono hA (λ_ _ h=>h) e zH⟩
    rw[bN] at hu;split at hu
    ·rename_i hj;rw[bK] at hu;have h6:(i - lo)*e.sz+e.sz<=n*e.sz:=by rw[<-dW];exact aX _ Bys
     have:=pN (w:=w) (b:=b) (o:=lo*e.sz) (L:=news.take (n*e.sz)) (λk hk=>nI _ Bys) (λu hu=>qu u (dU hu)) ((i - lo)*e.sz+j) u (by grind);rw[<-this];have h7:i*e.sz=lo*e.sz+(i - lo)*e.sz:=by rw[<-bW];congr 1;omega
     congr 1;omega
    ·cases hu
   ·rename_i hi;obtain ⟨L,l1,l2,l3⟩:=d5 i z hz;have zH:=ax.flat _ hf l3;refine ⟨L,l1,λj u hu=>?_,Ro.mono hA (λ_ _ h=>h) e zH⟩
    refine eo.cell b _ (by obtain ⟨c,e',fr,w1,_⟩:=d3;grind) ?_ u (l2 j u hu);have hj:=(aM.1 hu).1;simp only[de];rw[aV];rintro ⟨_,h8,h9⟩;rcases cG i lo with hil | hil
    ·have h6:i*e.sz+e.sz<=lo*e.sz:=by rw[<-dW];exact aX _ Bys
     omega
    ·have h6:lo*e.sz+n*e.sz<=i*e.sz:=by rw[<-bW];exact aX _ Bys
     omega
  have Ib:ax P (w.setCells b (lo*e.sz) (news.take (n*e.sz))) A (.aa e) m [] (pD v lo n y) [.slice (some ⟨b,0,none⟩) (List.length v) cap] F2:=by
   simp only[ax,hole,bT,aF,aS,iU,aJ];refine ⟨some ⟨b,0,none⟩,cap,by rw[IB],by omega,c2,(λe=>by cases e),λdt e'=>?_⟩
   injection e' with e';subst e';refine ⟨rfl,rfl,eo.wg _ _ d3,λ_ _ _=>0,λb' i=>by grind [ns],λi z hz=>?_⟩
   obtain ⟨L,l1,l2,l3⟩:=YV i z hz;grind [Ro.flat]
  have wa:∀ b' o',Cx=some (b',o')->Has (w.setCells b (lo*e.sz) (news.take (n*e.sz))) b' o' [.slice (some ⟨b,0,none⟩) (List.length v) cap]:=λb' o' ea j u hu=>by
   have h1:=(q5 b' o' ea).1 j u hu;have hj:=(aM.1 hu).1;have h2:=q4 b' (o'+j);have h3:=d4 b' (o'+j);have h4:=ES b' (o'+j);have h5:=IC b' (o'+j);have h7:=dz F hr b' (o'+j)
   have h6:lF Cx (Ty.aa e).sz b' (o'+j)=1:=by
    grind [lF,de,Ty.sz]
   exact eo.cell _ _ (h.k9 b' (o'+j) (.inl (by grind))) Bys u h1
  obtain ⟨A3,Dn,F3,n1,n2⟩:=fin _ (eo.mono λb' i hz=>by
    grind) wa Ib (λi z hz ad e=>by
    grind [Ro.flat])
  refine ⟨_,cap,Cx,_,A3,Dn,F3,q2,n1,n2,(λe=>by cases e),λdt e'=>?_⟩
  injection e' with e';subst e';refine ⟨rfl,rfl,λEl=>?_,dp⟩
  subst El;simp[World.setCells]
theorem WO (h:ey P C A σ a w F) (kV:∀ i T,E.TI i=some T->bn P T (.inl i)=true) {t tx:Nat} {y z:Operand} (ho:o.op=.call { callee:=.builtin .copy,args:=#[y,z],argTypes:=#[t,tx] }) (bf:ei P y=true/\ei P z=true)
  (Do:(∃ e',P.underlying tx=some (.slice e'))\/P.underlying tx=some .string) {K:St->Option R} (hk:T7 E σ t y (ep σ z) o.dst K=some x):o.wp P a w (Nx P C K x) Q:=by
 unfold T7 at hk;obtain ⟨T,hT,hk⟩:=iq hk;have jz:=kV _ _ hT;split at hk
 ·rename_i e;have hl:=jz;simp only[bn,aD] at hl;have h2:=hl.2;split at h2;rotate_left
  ·cases h2
  rename_i el hu;simp only[aD,dL] at h2;obtain ⟨nt,rW⟩:=h2;have acu:=run_sizeOf (P:=P) (w:=w) rW;split at hk;rotate_left
  ·cases hk
  rename_i hf
  rcases gn h bf.2 with Dp | ⟨xs,e'⟩
  rotate_left
  ·grind [Dh,nC]
  obtain ⟨A2,mT,F2,me,yv,news,Fw,Gi,q1,q2,q3,qr,q4,q4',q5,q6⟩:=L8 h Dp Do hk;have h2:ey P C A2 mT a w F2:=q3.less λ_ _=>aZ _
  have run:∀ (xa:Option Addr) (n cap:Nat) (w2:World),a.eval y=.slice xa n cap->(match (generalizing:=false) xa with | none=>w2=w | some ad=>(storeCells ad (news.take (min (List.length yv) n*e.sz))).run P w=.ok () w2) ->
    (execOp a.eval o).run P w=.ok (.value (.int .i64 ((min (List.length yv) n:Nat):Int))) w2:=by
   intro xa n cap w2 hy dp;have hfc:=q4' (min (List.length yv) n) (iE _ _)
   cases xa with
   | none=>
    simp only at dp;subst dp;simp[execOp,ho,resolve,invoke,builtin,Builtin.copy_,hy,run_underlying hu,q4.len,acu,gH] at hfc ⊢;simp[hfc,goInt]
   | some ad=>
    simp only at dp;simp[execOp,ho,resolve,invoke,builtin,Builtin.copy_,hy,run_underlying hu,q4.len,acu,gH] at hfc dp ⊢;simp[hfc,dp,goInt]
  rcases gn h2 bf.1 with hs | ⟨xs,e'⟩
  rotate_left
  ·grind
  split at q1
  ·rename_i r p snap lo hi hv;rw[hv] at hs;split at q1
   ·rename_i pM;obtain ⟨hr,t',m',H',v',cc,dt,F',h1,nN,h3,h4,h5,h6⟩:=l7 h2 q1;split at h1
    ·rename_i hc;simp only[aD,bD] at hc;obtain ⟨iU,hH⟩:=hc;subst hH;obtain ⟨e1,h1⟩:=dn h1;subst e1;obtain ⟨pl,e2,xa,n,cap,xz,cap',g1,g2,g3,g4,g5,g6,g7,g8,g9,g10,g11⟩:=hs.2 pM
     have hvn:n=List.length v':=by
      grind [ax,hole]
     obtain ⟨xb,L5,Cx,w2,A3,Dn,F3,c1,c2,c3,c4,c5⟩:=MZ h2 (K:=λσ'=>K (σ'.cg o.dst (.val (.int .i64) ((min (List.length yv) (hi - lo):Nat):Int)))) ⟨nN⟩ iU hf (lo:=lo) (n:=min (List.length yv) (hi - lo)) Bys (iE _ _) q4.newsLen q4.one q5 h1;rw[c1] at g1;injection g1 with g1;subst g1;simp only[dG,Value.slice.injEq,eG] at g3;obtain ⟨rfl,g3,rfl⟩:=g3;injection g2 with g2;subst g2;refine pq (run xz (hi - lo) cap' w2 g6 ?_) (ct c3 c2 ⟨[.int .i64 _],rfl,rfl⟩ (λ_ _ _ _ e=>by cases e))
     cases xb with
     | none=>grind
     | some ad=>
      obtain ⟨acv,k1,k2,k3,k4⟩:=g10 ad rfl;rw[k1];obtain ⟨j1,j2,j3,j4⟩:=c5 ad rfl;simp only;by_cases a_:lo < hi
      ·have:acv=⟨ad.block,lo*e.sz,none⟩:=by
        have h1:=k4 a_;obtain ⟨x1,x2,x3⟩:=acv;grind
       grind
      ·have El:min (List.length yv) (hi - lo)=0:=by omega
       rw[El,Nat.zero_mul,List.take_zero];rw[j3 El];rfl
    ·cases h1
   ·cases q1
  ·rename_i r p snap hv;rw[hv] at hs;split at q1
   ·rename_i pM;obtain ⟨hr,t',m',H',v',cc,dt,F',h1,nN,h3,h4,h5,h6⟩:=l7 h2 q1;split at h1
    ·rename_i hc;simp only[aD,bD] at hc;obtain ⟨iU,hH⟩:=hc;subst hH;obtain ⟨e1,h1⟩:=dn h1;subst e1;obtain ⟨pl,g1,g2,g3⟩:=hs.2 pM;obtain ⟨xb,L5,Cx,w2,A3,Dn,F3,c1,c2,c3,c4,c5⟩:=MZ h2 (K:=λσ'=>K (σ'.cg o.dst (.val (.int .i64) ((min (List.length yv) (List.length v'):Nat):Int)))) ⟨nN⟩ iU hf (lo:=0) (n:=min (List.length yv) (List.length v')) Bys (iE _ _) q4.newsLen q4.one q5 h1;rw[c1] at g1;injection g1 with g1;subst g1;simp only[ee (.aa e) _ rfl] at g2;refine pq (run xb (List.length v') L5 w2 g2 ?_) (ct c3 c2 ⟨[.int .i64 _],rfl,rfl⟩ (λ_ _ _ _ e=>by cases e))
     cases xb with
     | none=>grind
     | some ad=>
      obtain ⟨j1,j2,j3,j4⟩:=c5 ad rfl;obtain ⟨b,off,sp⟩:=ad;grind
    ·cases h1
   ·cases q1
  ·cases q1
 ·cases hk
end
end OT
namespace OT
open Go
def lc (w:World):(t:Ty)->Md->List Path->List Value->FP
 | .pair a b,m,H,cs=>λx i=>lc w a m.l (H.filterMap xw) (cs.take a.sz) x i+lc w b m.r (H.filterMap xx) (cs.drop a.sz) x i
 | .aa e,m,H,cs=>
  if hole H then λ_ _=>0 else if m.own then
   match cs with
   | [.slice (some ad) n cap]=>λx i=>de ad.block 0 (cap*e.sz) x i+bk n (λj=>lc w e m.e (H.filterMap (k8 j)) (rd w ad.block (j*e.sz) e.sz)) x i
   | _=>λ_ _=>0
  else λ_ _=>0
 | .ptr e,m,H,cs=>
  if hole H then λ_ _=>0 else if m.own then
   match cs with
   | [.pointer (some ad)]=>λx i=>de ad.block 0 e.sz x i+lc w e m.e [] (rd w ad.block 0 e.sz) x i
   | _=>λ_ _=>0
  else λ_ _=>0
 | .map _ _,m,H,cs=>
  if hole H then λ_ _=>0 else if m.own then
   match cs with
   | [.map (some r)]=>de r 0 1
   | _=>λ_ _=>0
  else λ_ _=>0
 | _,_,_,_=>λ_ _=>0
section
variable {P:Program} {w w1:World} {A:Cells}
theorem ax.fp:∀ (t:Ty) {m:Md} {H:List Path} {v:t.den} {cs:List Value} {F:FP},ax P w A t m H v cs F->ax P w A t m H v cs (lc w t m H cs)/\∀ b i,lc w t m H cs b i<=F b i:=by
 intro t
 induction t with
 | pair a b nE nw=>
  intro m H v cs F h;obtain ⟨h0,F1,F2,hs,h1,h2⟩:=h;obtain ⟨a1,a2⟩:=nE h1;obtain ⟨b1,b2⟩:=nw h2;exact ⟨⟨h0,_,_,λ_ _=>aH _,a1,b1⟩,λb i=>by grind [lc]⟩
 | aa e ih=>
  intro m H v cs F h;have h':=h;simp only[ax] at h;split at h
  ·simp_all [ax,lc]
  ·rename_i hh;split at h
   ·rename_i hm;obtain ⟨xa,cap,rfl,h1,h2,h3,h4⟩:=h
    cases xa with
    | none=>
     grind [lc,ax]
    | some ad=>
     obtain ⟨g1,g2,g3,Fi,g4,g5⟩:=h4 ad rfl
     have each:∀ (i:Nat) (x:e.den),v[i]?=some x->∃ L:List Value,L.length=e.sz/\Has w ad.block (i*e.sz) L/\ax P w A e m.e (H.filterMap (k8 i)) x L (lc w e m.e (H.filterMap (k8 i)) (rd w ad.block (i*e.sz) e.sz)) /\
       ∀ b k,lc w e m.e (H.filterMap (k8 i)) (rd w ad.block (i*e.sz) e.sz) b k<=Fi i b k:=λi x hx=>by
      grind [gc]
     have hle:∀ b i,bk (List.length v) (λj=>lc w e m.e (H.filterMap (k8 j)) (rd w ad.block (j*e.sz) e.sz)) b i<=bk (List.length v) Fi b i:=λb i=>LU b i λj hj=>by
      obtain ⟨_,_,_,_,q⟩:=each j _ (aB hj);exact q b i
     refine ⟨?_,λb i=>by grind [lc]⟩
     simp only[ax,hh,hm,aJ,aF,aS];refine ⟨some ad,cap,rfl,h1,h2,h3,λdt e'=>?_⟩
     injection e' with e';subst e';refine ⟨g1,g2,g3,λj=>lc w e m.e (H.filterMap (k8 j)) (rd w ad.block (j*e.sz) e.sz),λb i=>by grind [lc],λi x hx=>?_⟩
     grind
   simp_all [ax,lc]
 | ptr e ih=>
  intro m H v cs F h;simp only[ax] at h;split at h
  ·simp_all [ax,lc]
  ·rename_i hh;split at h
   ·grind [lc,gc,ax]
   simp_all [ax,lc]
 | arr n e ih=>intro m H v cs F h;exact ⟨h,λ_ _=>aZ _⟩
 | map k v=>
  intro m H x cs F h;simp only[ax] at h;split at h
  ·simp_all [ax,lc]
  ·rename_i hh;split at h
   ·rename_i hm;obtain ⟨h1,h2,r,vH,rfl,h4,h5,h6,h7⟩:=h;refine ⟨?_,λb i=>?_⟩
    ·simp only[ax,hh,hm,aJ,aF,aS];exact ⟨h1,h2,r,vH,rfl,h4,by simp[lc,hh,hm,de],h6,h7⟩
    ·simp only[lc,hh,hm,aJ,aF,aS,de];grind
   simp_all [ax,lc]
 | _=>intro m H v cs F h;exact ⟨h,λ_ _=>aZ _⟩
theorem UA:∀ (t:Ty) {m:Md} {H:List Path} {v:t.den} {cs:List Value} {F:FP},ax P w A t m H v cs F->(∀ b i,1<=F b i->∀ u,ce w b i=some u->ce w1 b i=some u)->lc w1 t m H cs=lc w t m H cs:=by
 intro t
 induction t with
 | pair a b nE nw=>
  intro m H v cs F h hF;obtain ⟨h0,F1,F2,hs,h1,h2⟩:=h;have e1:=nE h1 (λb i hp=>hF b i (by grind));have e2:=nw h2 (λb i hp=>hF b i (by grind));simp_all [lc]
 | aa e ih=>
  intro m H v cs F h hF;simp only[ax] at h;split at h
  ·simp_all [lc]
  ·rename_i hh;split at h
   ·rename_i hm;obtain ⟨xa,cap,rfl,h1,h2,h3,h4⟩:=h
    cases xa with
    | none=>simp only[lc]
    | some ad=>
     obtain ⟨g1,g2,g3,Fi,g4,g5⟩:=h4 ad rfl;simp only[lc,hh,hm,aJ,aF,aS];funext b i;congr 1;refine congrFun (congrFun (yJ λj hj=>?_) b) i;obtain ⟨L,l1,l2,l3⟩:=g5 j _ (aB hj);have hle:j*e.sz+e.sz<=cap*e.sz:=by rw[<-dW];exact aX _ Bys
     have l2':Has w1 ad.block (j*e.sz) L:=λk u hu=>hF _ _ (by
      grind [de]) u (l2 k u hu)
     grind [gc,dz]
   simp_all [lc]
 | ptr e ih=>
  intro m H v cs F h hF;simp only[ax] at h;split at h
  ·simp_all [lc]
  ·rename_i hh;split at h
   ·rename_i hm;obtain ⟨b0,rfl,h1,L,F1,h2,h3,h4,h5⟩:=h
    have S7:Has w1 b0 0 L:=λk u hu=>hF _ _ (by
     grind [de]) u (h3 k u hu)
    simp only[lc,hh,hm,aJ,aF,aS,gc h3 h2,gc S7 h2];rw[ih h5 (λb i hp=>hF b i (by grind))]
   simp_all [lc]
 | _=>intro m H v cs F h hF;rfl
theorem ax.indep {A':Cells}:∀ (t:Ty) {v:t.den} {cs:List Value} {F:FP},t.th=true->ax P w A t (aj t) [] v cs F->ax P w A' t (aj t) [] v cs F:=by
 intro t
 induction t with
 | pair a b nE nw=>
  intro v cs F hn h;simp only[Ty.th,aD] at hn;obtain ⟨h0,F1,F2,hs,h1,h2⟩:=h;exact ⟨h0,F1,F2,hs,nE hn.1 h1,nw hn.2 h2⟩
 | aa e ih=>
  intro v cs F hn h;simp only[ax,hole,bT,aF,aS,aj,u0,Md.own,aJ] at h ⊢;obtain ⟨xa,cap,h1,h2,h3,h4,h5⟩:=h;refine ⟨xa,cap,h1,h2,h3,h4,λad e'=>?_⟩
  obtain ⟨g1,g2,g3,Fi,g4,g5⟩:=h5 ad e';refine ⟨g1,g2,g3,Fi,g4,λi x hx=>?_⟩
  obtain ⟨L,l1,l2,l3⟩:=g5 i x hx;exact ⟨L,l1,l2,ih hn l3⟩
 | ptr e ih=>
  intro v cs F hn h;simp only[ax,hole,bT,aF,aS,aj,u0,Md.own,aJ] at h ⊢;obtain ⟨b,h1,h2,L,F1,h3,h4,h5,h6⟩:=h;exact ⟨b,h1,h2,L,F1,h3,h4,h5,ih hn h6⟩
 | arr n e ih=>
  intro v cs F hn h;exact ⟨h.1,Ro.indep _ (by have:=h.2.1;grind [Ty.flat]) hn h.2⟩
 | fn=>grind [Ty.th]
 | map k v=>
  grind [Ty.th,ax,u0,Md.own,Ro.indep]
 | _=>intro v cs F hn h;exact h
theorem ax.free {A':Cells} {t:Ty} {m:Md} {v:t.den} {cs:List Value} {F:FP} (ho:(t.flat||decide (m=aj t))=true) (hn:t.th=true) (h:ax P w A t m [] v cs F):ax P w A' t m [] v cs F:=by
 grind [Ro.flat,Ro.indep,ax.flat,ax.indep]
def World.news (w w2:World):World:={ w2 with heap:=(w.heap.toList++w2.heap.toList.drop w.heap.size).toArray }
theorem M0 {w2:World} (h:w.heap.size<=w2.heap.size) (k:Nat):(World.news w w2).heap[k]?=if k < w.heap.size then w.heap[k]? else w2.heap[k]?:=by
 grind [World.news]
theorem AM {w2:World} (h:w.heap.size<=w2.heap.size):(World.news w w2).heap.size=w2.heap.size:=by grind [World.news]
theorem wA {w2:World} (h:w.heap.size<=w2.heap.size) {b:Nat} (hb:b < w.heap.size):(World.news w w2).heap[b]?=w.heap[b]?:=by grind [M0]
theorem EZ {w2:World} (h:w.heap.size<=w2.heap.size) {b:Nat} (hb:w.heap.size<=b):(World.news w w2).heap[b]?=w2.heap[b]?:=by grind [M0]
theorem DU {w2:World} {b:Nat} (h:w2.heap[b]?=w.heap[b]?) (i:Nat):ce w2 b i=ce w b i:=Cj h i
theorem Aq {w2:World} {b:Nat} (h:w2.heap[b]?=w.heap[b]?) (i:Nat):w2.frozen? ⟨b,i,none⟩=w.frozen? ⟨b,i,none⟩:=by simp[World.frozen?,h]
theorem yZ {w2:World} {b:Nat} (h:w2.heap[b]?=w.heap[b]?) (n:Nat×Bool):iR w b n↔iR w2 b n:=by grind [iR]
theorem iR.lt {b:Nat} {n:Nat×Bool} (h:iR w b n):b < w.heap.size:=by
 obtain ⟨c,e,fr,h1,_⟩:=h;grind
theorem Jw {w2:World} {F:FP} (h:Ext w w2 F):Ext w (World.news w w2) (λ_ _=>0)/\Ext (World.news w w2) w2 F:=by
 have hs:=h.size
 refine ⟨⟨by grind [AM],λb i hb _ u hu=>by grind [DU,wA],λb n hn=>(yZ (wA hs hn.lt) n).1 hn,λb i hb=>Aq (wA hs hb) i,h.os,h.tape,h.output,λb hb _=>wA hs hb,h.drawn⟩,
  ⟨by grind [AM],λb i hb hz u hu=>?_,λb n hn=>?_,λb i hb=>?_,rfl,rfl,rfl,λb hb hz=>?_,aH _⟩⟩
 ·by_cases vN:b < w.heap.size
  ·rw[DU (wA hs vN)] at hu;exact h.cell b i vN hz u hu
  grind [DU,EZ]
 ·by_cases vN:b < w.heap.size
  ·exact h.wg b n ((yZ (wA hs vN) n).2 hn)
  grind [yZ,EZ]
 ·by_cases vN:b < w.heap.size
  ·rw[Aq (wA hs vN)];exact h.Bc b i vN
  grind [Aq,EZ]
 ·by_cases vN:b < w.heap.size
  ·rw[wA hs vN];exact h.obj b vN hz
  grind [EZ]
end
def ArgRel (P:Program) (w:World) (A:Cells) (ho:List Path->Bool) (pm:PM) (t:Ty) (v:t.den) (x:Value) (F:FP):Prop:=
 match pm with
 | .ro=>∃ cs,x=cu t cs/\Ro P w A t v cs
 | .fix f=>(∃ cs,x=cu t cs/\Ro P w A t v cs)/\∀ e:t=.fn,(e ▸ v:Ty.fn.den).1=f
 | .ke m _=>∃ b o L F1,x=.pointer (some ⟨b,o,none⟩)/\L.length=t.sz/\Has w b o L/\(∀ j,j < t.sz->w.frozen? ⟨b,o+j,none⟩=false)/\(∀ b' i,de b o t.sz b' i+F1 b' i<=F b' i)/\ax P w A t m [] v L F1
 | .lT m=>∃ cs,x=cu t cs/\ax P w A t m [] v cs F
 | .nK m=>∃ H cs,ho H=true/\x=cu t cs/\ax P w A t m H v cs F
 | .tw m=>∃ b o L F1,x=.pointer (some ⟨b,o,none⟩)/\L.length=t.sz/\Has w b o L/\(∀ j,j < t.sz->w.frozen? ⟨b,o+j,none⟩=false)/\(∀ b' i,de b o t.sz b' i+F1 b' i<=F b' i)/\ax P w A t m [] v L F1
def qc (P:Program) (w:World) (A:Cells) (ho:List Path->Bool):(ps:List (PM×Ty))->(c9 (ps.map (·.2))).den->List Value->FP->Prop
 | [],_,xs,_=>xs=[]
 | (pm,t)::ps,v,xs,F=>∃ (x:Value) (O2:List Value) (F1 F2:FP),xs=x::O2/\(∀ b i,F1 b i+F2 b i<=F b i)/\ArgRel P w A ho pm t v.1 x F1/\qc P w A ho ps v.2 O2 F2
abbrev O3:List Path->Bool:=λH=>H.isEmpty
theorem qc.none {P:Program} {w:World} {A:Cells} {ho:List Path->Bool} (hh:∀ H,ho H=true->H=[]):∀ (ps:List (PM×Ty)) {v:(c9 (ps.map (·.2))).den} {xs:List Value} {F:FP},qc P w A ho ps v xs F->qc P w A O3 ps v xs F
 | [],_,_,_,h=>h
 | (pm,t)::ps,_,_,_,⟨x,O2,F1,F2,h1,h2,h3,h4⟩=>⟨x,O2,F1,F2,h1,h2,by
  cases pm with
  | nK m=>obtain ⟨H,cs,g1,g2⟩:=h3;rw[hh H g1] at g2;exact ⟨[],cs,rfl,g2⟩
  | _=>exact h3,qc.none hh ps h4⟩
def nG (P:Program) (w:World) (A:Cells):(ps:List (PM×Ty))->(c9 (lP ps)).den->List Value->FP->Prop
 | [],_,_,_=>True
 | (.ro,_)::ps,v,xs,F=>nG P w A ps v xs.tail F
 | (.fix _,_)::ps,v,xs,F=>nG P w A ps v xs.tail F
 | (.tw _,_)::ps,v,xs,F=>nG P w A ps v xs.tail F
 | (.nK _,_)::ps,v,xs,F=>nG P w A ps v xs.tail F
 | (.ke _ m,t)::ps,v,xs,F=>∃ (F1 F2:FP),(∀ b i,F1 b i+F2 b i<=F b i)/\(∃ b o L F3,xs.head?=some (.pointer (some ⟨b,o,none⟩))/\L.length=t.sz/\Has w b o L/\(∀ b' i,de b o t.sz b' i+F3 b' i<=F1 b' i)/\ax P w A t m [] v.1 L F3)/\nG P w A ps v.2 xs.tail F2
 | (.lT m,t)::ps,v,xs,F=>∃ (F1 F2:FP),(∀ b i,F1 b i+F2 b i<=F b i)/\(∃ cs,xs.head?=some (cu t cs)/\ax P w A t m [] v.1 cs F1)/\nG P w A ps v.2 xs.tail F2
def nx (P:Program) (w:World) (A:Cells) (rs:List J8) (rv:Value) (F:FP):Prop:=
 match rs with
 | []=>True
 | [x]=>∃ cs,rv=cu x.t cs/\ax P w A x.t x.m [] x.v cs F
 | xs=>∃ (vs:Array Value) (Fi:Nat->FP),rv=.tuple vs/\(∀ b i,bk xs.length Fi b i<=F b i)/\∀ j x,xs[j]?=some x->∃ v cs,vs[j]?=some v/\v=cu x.t cs/\ax P w A x.t x.m [] x.v cs (Fi j)
def Sound (P:Program) (f:FuncId) (g:uQ):Prop:=
 ∀ (w:World) (A:Cells) (F0:FP) (v:(c9 (g.ps.map (·.2))).den) (xs:List Value),qc P w A (g.Eb v) g.ps v xs F0->(∀ b i,F0 b i<=1)->(∀ b i,1<=F0 b i->¬ A b i)->(∀ b i,1<=F0 b i\/A b i->b < w.heap.size)->xO P w F0 ->
  ∀ out,g.F v=some out->Calls P f xs.toArray w λe w'=>∃ rv,e=.returned rv/\Ext w w' F0/\∃ (A':Cells) (G GR GM:FP),(∀ b i,A b i->A' b i)/\(∀ b i,A' b i->A b i\/1<=F0 b i\/w.heap.size<=b) /\
   (∀ b i,1<=G b i->1<=F0 b i\/w.heap.size<=b)/\(∀ b i,G b i<=1)/\(∀ b i,1<=G b i->¬ A' b i)/\(∀ b i,1<=G b i\/A' b i->b < w'.heap.size)/\(∀ b i,GR b i+GM b i<=G b i) /\
   nx P w' A' (lQ g.rs out).1 rv GR/\nG P w' A' g.ps (lQ g.rs out).2 xs GM
def vW (P:Program) (f:FuncId) (cap:Bool):Prop:=∃ fn,P.funcs[f]?=some fn/\(fn.name == "runtime.NumGoroutine")=false/\fn.body.isNone=false/\fn.nfree=(match cap with | true=>1 | false=>0)
end OT
namespace OT
open Go
section
variable {P:Program} {C:Ctx} {A:Cells} {X:FP} {σ:St} {a:Act} {w:World} {F:Nat->FP} {R:Type} {x:R}
theorem abh {K:St->Option R}:∀ (ps:List (PM×Ty)) (xs:List Operand) {σ:St} {A:Cells} {F:Nat->FP},ey P C A σ a w F->tz σ ps xs K=some x ->
  ∃ (A':Cells) (σ':St) (F':Nat->FP),K σ'=some x/\(∀ b i,A b i->A' b i)/\ey P C A' σ' a w F'/\σ'.n=σ.n:=by
 intro ps
 induction ps with
 | nil=>intro xs σ A F h hk;exact ⟨A,σ,F,by cases xs <;> exact hk,λ_ _ h=>h,h,rfl⟩
 | cons p ps ih=>
  intro xs σ A F h hk
  cases xs with
  | nil=>obtain ⟨pm,t⟩:=p;exact ⟨A,σ,F,by cases pm <;> exact hk,λ_ _ h=>h,h,rfl⟩
  | cons y xs=>
   obtain ⟨pm,t⟩:=p
   have fin:∀ {m' m:Md} {r:Nat} {p:Path},(if m'=m then tz σ ps xs K else yk σ r p m λσ=>tz σ ps xs K)=some x ->
     ∃ (A':Cells) (σ':St) (F':Nat->FP),K σ'=some x/\(∀ b i,A b i->A' b i)/\ey P C A' σ' a w F'/\σ'.n=σ.n:=λhk=>by
    grind [Rq]
   cases pm with
   | ro=>exact ih xs h hk
   | fix f=>exact ih xs h hk
   | ke m m'=>
    simp only[tz] at hk;split at hk
    ·split at hk
     ·obtain ⟨hr,t',m',H',v',cc,dt,F',h1,_⟩:=l7 h hk;exact fin h1
     ·cases hk
    ·cases hk
   | tw m=>
    simp only[tz] at hk;split at hk
    ·split at hk
     ·obtain ⟨hr,t',m',H',v',cc,dt,F',h1,_⟩:=l7 h hk;exact fin h1
     ·cases hk
    ·cases hk
   | lT m=>
    simp only[tz] at hk;split at hk
    ·split at hk
     ·obtain ⟨hr,t',m',H',v',cc,dt,F',h1,_⟩:=l7 h hk;exact fin h1
     ·cases hk
    ·cases hk
   | nK m=>
    simp only[tz] at hk;split at hk
    ·split at hk
     ·obtain ⟨hr,t',m',H',v',cc,dt,F',h1,_⟩:=l7 h hk;exact fin h1
     ·cases hk
    ·cases hk
theorem WP (h:ey P C A σ a w F) {r:Nat} {t:Ty} {m:Md} {v:t.den} (hg:σ.get r=.box t m [] v):∃ (A':Cells) (F':Nat->FP),(∀ b i,A b i->A' b i)/\ey P C A' ((σ.put r .dead).put r (.cp t v)) a w F'/\Ro P w A' (.ptr t) v [tmp a r]/\r < σ.n:=by
 have hi:r < σ.n:=by
  grind [mK]
 have hs:=h.jg r hi;rw[hg] at hs;obtain ⟨b,off,L,F1,s1,s2,s3,s4,s5,s6⟩:=hs;have h1:=h.put hi (s:=.dead) (v:=tmp a r) (Fd:=λ_ _=>0) (X':=F r) trivial (λb k=>by omega) (λ_ _ _ _ e=>by cases e);rw[sJ] at h1;have h2:=h1.giveUp (A1:=λb' i'=>A b' i'\/1<=F r b' i') (X1:=λ_ _=>0) (λ_ _ h=>.inl h) (λb' i' ha=>ha.imp id λhp=>⟨hp,rfl⟩) (λ_ _=>aZ _)
 have yV:Ro P w (λb' i'=>A b' i'\/1<=F r b' i') (.ptr t) v [tmp a r]:=
  ⟨⟨b,off,none⟩,by rw[s1],rfl,L,s2,(λj u hu=>⟨s3 j u hu,.inr (by
   grind [de])⟩),ax.yK (λ_ _ h=>.inl h) t s6 (λb' i' hp=>.inr (by grind))⟩
 have h3:=h2.put (d:=r) hi (s:=.cp t v) (v:=tmp a r) (Fd:=λ_ _=>0) (X':=λ_ _=>0) yV (λb k=>by omega) (λ_ _ _ _ e=>by cases e);grind [sJ]
theorem abi (h:ey P C A σ a w F) {i:Nat} (hi:i < σ.n) {t:Ty} {v:t.den} (yV:Ro P w A (.ptr t) v [tmp a i]):∃ F':Nat->FP,ey P C A ((σ.put i .dead).put i (.cp t v)) a w F':=by
 have h1:=h.put hi (s:=.dead) (v:=tmp a i) (Fd:=λ_ _=>0) (X':=F i) trivial (λb k=>by omega) (λ_ _ _ _ e=>by cases e);rw[sJ] at h1;have h2:=h1.giveUp (A1:=A) (X1:=λ_ _=>0) (λ_ _ h=>h) (λb' i' ha=>.inl ha) (λ_ _=>aZ _);have h3:=h2.put (d:=i) hi (s:=.cp t v) (v:=tmp a i) (Fd:=λ_ _=>0) (X':=λ_ _=>0) yV (λb k=>by omega) (λ_ _ _ _ e=>by cases e);grind [sJ]
theorem YW (h:ey P C A σ a w F) {i r:Nat} {snap:List Nat} {t:Ty} {m:Md} {H:List Path} {v:t.den} (hi:i < σ.n) (hs:σ.get i=.ptr r [] snap) (bf:σ.ok r snap=true) (hg:σ.get r=.box t m H v):tmp a i=tmp a r:=by
 have h1:=h.jg i hi;rw[hs] at h1;obtain ⟨pl,b,o,p1,p2,p3,p4⟩:=h1.2 bf
 have hr:r < σ.n:=by
  grind [mK]
 have h2:=h.jg r hr;rw[hg] at h2;obtain ⟨b2,off,L,F1,s1,_⟩:=h2;grind [place,et,bt]
theorem acw {K:St->Option R}:∀ (ps:List (PM×Ty)) (xs:List Operand) {σ:St} {A:Cells} {F:Nat->FP},ey P C A σ a w F->Cg σ ps xs K=some x ->
  ∃ (A':Cells) (σ':St) (F':Nat->FP),K σ'=some x/\(∀ b i,A b i->A' b i)/\ey P C A' σ' a w F'/\σ'.n=σ.n:=by
 intro ps
 induction ps with
 | nil=>intro xs σ A F h hk;exact ⟨A,σ,F,by cases xs <;> exact hk,λ_ _ h=>h,h,rfl⟩
 | cons p ps ih=>
  intro xs σ A F h hk
  cases xs with
  | nil=>obtain ⟨pm,t⟩:=p;exact ⟨A,σ,F,by cases pm <;> exact hk,λ_ _ h=>h,h,rfl⟩
  | cons y xs=>
   obtain ⟨pm,t⟩:=p
   have fin:∀ {r:Nat} {p:Path},(zN σ r p λσ=>Cg σ ps xs K)=some x ->
     ∃ (A':Cells) (σ':St) (F':Nat->FP),K σ'=some x/\(∀ b i,A b i->A' b i)/\ey P C A' σ' a w F'/\σ'.n=σ.n:=λhk=>by
    grind [AJ]
   cases pm with
   | fix f=>exact ih xs h hk
   | ke m m'=>exact ih xs h hk
   | tw m=>exact ih xs h hk
   | lT m=>exact ih xs h hk
   | nK m=>exact ih xs h hk
   | ro=>
    simp only[Cg] at hk;split at hk
    ·grind
    ·split at hk
     ·grind
     ·grind
     ·rename_i r p snap S5;split at hk
      ·rename_i bf;split at hk
       ·rename_i t m H v hg;split at hk
        ·rename_i hc;simp only[aD,bD] at hc;obtain ⟨hH,yY⟩:=hc;subst hH;obtain ⟨A1,F1,ID,h3,h4,h5⟩:=WP h hg
         have go:∀ {mT:St} {F2:Nat->FP},ey P C A1 mT a w F2->Cg mT ps xs K=some x->mT.n=σ.n->∃ (A':Cells) (σ':St) (F':Nat->FP),K σ'=some x/\(∀ b i,A b i->A' b i)/\ey P C A' σ' a w F'/\σ'.n=σ.n:=λh3 hk hn=>by
          grind
         cases y with
         | tmp i=>
          simp only[aca] at hk;split at hk
          ·exact go h3 hk rfl
          ·rename_i IG;simp only[Bool.or_eq_false_iff,Bool.not_eq_false',Nat.blt_eq] at IG;obtain ⟨g1,g2⟩:=IG;have hi:i < σ.n:=g2;have SO:i≠r:=λe=>by simp_all
           have hs:σ.get i=.ptr r [] snap:=by
            grind [ep]
           have he:=YW h hi hs bf hg;rw[<-he] at h4;obtain ⟨F3,h6⟩:=abi h3 (i:=i) g2 h4;exact go h6 hk rfl
         | const c=>exact go h3 hk rfl
         | func f=>exact go h3 hk rfl
         | global g=>exact go h3 hk rfl
        ·cases hk
       ·cases hk
      ·cases hk
     grind
def AX (A:Cells) (F:Nat->FP) (n r0:Nat) (ow:Bool):Cells:=λb i=>A b i\/(ow=true/\∃ j,j < n/\j≠r0/\1<=F j b i)
def aaF (P:Program) (A:Cells) (σ:St) (a:Act) (w:World) (F:Nat->FP) (ow:Bool) (pm:PM) (t:Ty) (v:t.den) (s:Slot) (tv:Value) (wp:Option (Nat×Path)):Prop:=
 match pm with
 | .ro=>wp=none/\∃ cs,tv=cu t cs/\Ro P w (λb i=>A b i\/(ow=true/\∃ r ∈ nL s,r < σ.n/\1<=F r b i)) t v cs
 | .fix f=>wp=none/\(∃ cs,tv=cu t cs/\Ro P w A t v cs)/\∀ e:t=.fn,(e ▸ v:Ty.fn.den).1=f
 | .ke m _=>∃ r p snap b o cs,s=.ptr r p snap/\wp=some (r,p)/\At σ r p t m [] v/\tv=.pointer (some ⟨b,o,none⟩)/\place σ a w r p=some ⟨t,[],cs,some (b,o)⟩
 | .lT m=>∃ r p snap cs ad,s=.ref r p snap/\wp=some (r,p)/\At σ r p t m [] v/\tv=cu t cs/\place σ a w r p=some ⟨t,[],cs,ad⟩
 | .nK m=>∃ H r p snap cs ad,s=.ref r p snap/\wp=some (r,p)/\At σ r p t m H v/\tv=cu t cs/\place σ a w r p=some ⟨t,H,cs,ad⟩
 | .tw m=>∃ r p snap b o cs,s=.ptr r p snap/\wp=some (r,p)/\At σ r p t m [] v/\tv=.pointer (some ⟨b,o,none⟩)/\place σ a w r p=some ⟨t,[],cs,some (b,o)⟩
def G6 (P:Program) (A:Cells) (σ:St) (a:Act) (w:World) (F:Nat->FP) (ow:Bool):(ps:List (PM×Ty))->(c9 (ps.map (·.2))).den->List Slot->List Value->List (Nat×Path)->Prop
 | [],_,ss,qT,ws=>ss=[]/\qT=[]/\ws=[]
 | (pm,t)::ps,v,ss,qT,ws=>∃ s WQ tv zU wp CD,ss=s::WQ/\qT=tv::zU/\ws=(match (generalizing:=false) wp with | some x=>x::CD | none=>CD)/\aaF P A σ a w F ow pm t v.1 s tv wp/\G6 P A σ a w F ow ps v.2 WQ zU CD
def xZ (P:Program) (A:Cells) (σ:St) (a:Act) (w:World):List Slot->List Value->Prop
 | [],[]=>True
 | s::ss,tv::qT=>(dq P A σ a w tv s (λ_ _=>0)\/∃ xs,s=.s8 xs)/\xZ P A σ a w ss qT
 | _,_=>False
theorem KC (h:ey P C A σ a w F):∀ (xs:List Operand) {ss:List Slot} {qT:List Value},xs.all (ei P)=true->xZ P A σ a w ss qT->xZ P A σ a w (xs.map (ep σ)++ss) (xs.map a.eval++qT)
 | [],_,_,_,h2=>h2
 | y::xs,_,_,bf,h2=>by
  simp only[eC,aD] at bf;exact ⟨gn h bf.1,KC h xs bf.2 h2⟩
theorem adx (h:ey P C A σ a w F) {s:Slot} {tv:Value} {G:FP} (hs:dq P A σ a w tv s G) {t:Ty} {K:t.den->Option R} (hk:Ot σ s t K=some x) :
  ∃ (v:t.den) (cs:List Value),K v=some x/\tv=cu t cs/\Ro P w A t v cs:=by
 cases s with
 | val t' v=>
  obtain ⟨e,hk⟩:=dn hk;subst e;obtain ⟨cs,h1,h2⟩:=hs;grind
 | cp t' v=>
  obtain ⟨e,hk⟩:=dn hk;subst e;exact ⟨v,[tv],hk,(ee _ _ rfl).symm,hs⟩
 | yF=>
  simp only[Ot] at hk;split at hk
  ·rename_i t e;have hs:tv=.slice none 0 0:=hs;subst hs;exact ⟨[],_,hk,(ee _ _ rfl).symm,none,0,rfl,aH _,λ_=>rfl,λad j0=>by cases j0⟩
  ·cases hk
 | ref r p snap=>
  simp only[Ot] at hk;split at hk
  ·rename_i bf;obtain ⟨hr,t',m',H',v',cc,dt,F',h1,h2,h3,h4,h5,h6⟩:=l7 h hk;obtain ⟨pl,g1,g2,g3⟩:=hs.2 bf;grind [dn,ax.flat,ax.ro,iF]
  ·cases hk
 | sub r p snap lo hi=>
  simp only[Ot] at hk;split at hk
  ·rename_i bf;obtain ⟨hr,t',m',H',v',cc,dt,F',h1,h2,h3,h4,h5,h6⟩:=l7 h hk;obtain ⟨pl,e,xa,n,cap,xz,cap',g1,g2,g3,g4,g5,g6,g7,SQ,g8,g9,g10⟩:=hs.2 bf;rw[h3] at g1;injection g1 with g1;subst g1;simp only at g2 g3;subst g2;subst g3;split at h1
   ·rename_i hc;simp only[aD,bD,bP] at hc;obtain ⟨hH,hm⟩:=hc;subst hH;subst hm;obtain ⟨e',h1⟩:=dn h1;subst e';exact ⟨_,_,h1,by rw[ee _ _ rfl];exact g6,Ro.piece (ax.ro _ (iF _) h4) g4 g5 g7 g8 g9⟩
   ·cases h1
  ·cases hk
 | _=>simp[Ot] at hk
theorem acx (h:ey P C A σ a w F) {ow:Bool} {pm:PM} {t:Ty} {s:Slot} {tv:Value} (hs:dq P A σ a w tv s (λ_ _=>0)\/∃ xs,s=.s8 xs) {K:t.den->Option (Nat×Path)->Option R} (hk:Cf σ ow pm t s K=some x) :
  ∃ v wp,K v wp=some x/\aaF P A σ a w F ow pm t v s tv wp:=by
 rcases hs with hs | ⟨xs,rfl⟩
 rotate_left
 ·cases pm with
  | ro=>cases ow <;> simp[Cf,uo,Ot] at hk
  | _=>simp[Cf] at hk
 cases pm with
 | ro=>
  cases ow with
  | true=>
   simp only[Cf] at hk;have a_:=GZ h hk;obtain ⟨v,cs,h1,h2,h3⟩:=MU h hs hk;exact ⟨v,none,h1,rfl,cs,h2,Ro.mono (λ_ _ _ _ h=>h) (λb i ha=>ha.imp id λ⟨r,hr,hp⟩=>⟨rfl,r,hr,a_ r hr,hp⟩) t h3⟩
  | false=>
   simp only[Cf] at hk;obtain ⟨v,cs,h1,h2,h3⟩:=adx h hs hk;exact ⟨v,none,h1,rfl,cs,h2,Ro.mono (λ_ _ _ _ h=>h) (λb i ha=>.inl ha) t h3⟩
 | fix f=>
  simp only[Cf] at hk;split at hk
  ·rename_i v;split at hk
   ·rename_i hf;obtain ⟨e,hk⟩:=dn hk;subst e;obtain ⟨cs,h1,h2⟩:=hs;exact ⟨v,none,hk,rfl,⟨cs,h1,h2⟩,λe=>by simpa using hf⟩
   ·cases hk
  ·cases hk
 | ke m m'=>
  simp only[Cf] at hk;split at hk
  ·rename_i r p snap;split at hk
   ·rename_i bf;obtain ⟨hr,t',m',H',v',cc,dt,F',h1,h2,h3,h4,h5,h6⟩:=l7 h hk;obtain ⟨pl,b,o,g1,g2,g3,g4⟩:=hs.2 bf;rw[h3] at g1;injection g1 with g1;subst g1;simp only at g2;subst g2;split at h1
    ·rename_i hc;simp only[aD,bD,bP] at hc;obtain ⟨hH,hm⟩:=hc;subst hH;subst hm;obtain ⟨e,h1⟩:=dn h1;subst e;exact ⟨v',_,h1,r,p,snap,b,o,cc,rfl,rfl,⟨h2⟩,g3,h3⟩
    ·cases h1
   ·cases hk
  ·cases hk
 | tw m=>
  simp only[Cf] at hk;split at hk
  ·rename_i r p snap;split at hk
   ·rename_i bf;obtain ⟨hr,t',m',H',v',cc,dt,F',h1,h2,h3,h4,h5,h6⟩:=l7 h hk;obtain ⟨pl,b,o,g1,g2,g3,g4⟩:=hs.2 bf;rw[h3] at g1;injection g1 with g1;subst g1;simp only at g2;subst g2;split at h1
    ·rename_i hc;simp only[aD,bD,bP] at hc;obtain ⟨hH,hm⟩:=hc;subst hH;subst hm;obtain ⟨e,h1⟩:=dn h1;subst e;exact ⟨v',_,h1,r,p,snap,b,o,cc,rfl,rfl,⟨h2⟩,g3,h3⟩
    ·cases h1
   ·cases hk
  ·cases hk
 | lT m=>
  simp only[Cf] at hk;split at hk
  ·rename_i r p snap;split at hk
   ·rename_i bf;obtain ⟨hr,t',m',H',v',cc,dt,F',h1,h2,h3,h4,h5,h6⟩:=l7 h hk;obtain ⟨pl,g1,g2,g3⟩:=hs.2 bf;rw[h3] at g1;injection g1 with g1;subst g1;split at h1
    ·rename_i hc;simp only[aD,bD,bP] at hc;obtain ⟨hH,hm⟩:=hc;subst hH;subst hm;obtain ⟨e,h1⟩:=dn h1;subst e;exact ⟨v',_,h1,r,p,snap,cc,dt,rfl,rfl,⟨h2⟩,g2,h3⟩
    ·cases h1
   ·cases hk
  ·cases hk
 | nK m=>
  simp only[Cf] at hk;split at hk
  ·rename_i r p snap;split at hk
   ·rename_i bf;obtain ⟨hr,t',m',H',v',cc,dt,F',h1,h2,h3,h4,h5,h6⟩:=l7 h hk;obtain ⟨pl,g1,g2,g3⟩:=hs.2 bf;rw[h3] at g1;injection g1 with g1;subst g1;split at h1
    ·rename_i hm;subst hm;obtain ⟨e,h1⟩:=dn h1;subst e;exact ⟨v',_,h1,H',r,p,snap,cc,dt,rfl,rfl,⟨h2⟩,g2,h3⟩
    ·cases h1
   ·cases hk
  ·cases hk
theorem abj (h:ey P C A σ a w F) {ow:Bool}:∀ (ps:List (PM×Ty)) {ss:List Slot} {qT:List Value} {K:(c9 (ps.map (·.2))).den->List (Nat×Path)->Option R},xZ P A σ a w ss qT->NY σ ow ps ss K=some x ->
  ∃ v ws,K v ws=some x/\G6 P A σ a w F ow ps v ss qT ws:=by
 intro ps
 induction ps with
 | nil=>
  intro ss qT K hs hk
  cases ss with
  | nil=>
   cases qT with
   | nil=>exact ⟨(),[],hk,rfl,rfl,rfl⟩
   | cons _ _=>exact hs.elim
  | cons _ _=>cases hk
 | cons p ps ih=>
  intro ss qT K hs hk;obtain ⟨pm,t⟩:=p
  cases ss with
  | nil=>cases hk
  | cons s ss=>
   cases qT with
   | nil=>exact hs.elim
   | cons tv qT=>
    simp only[NY] at hk;obtain ⟨v,wp,h1,h2⟩:=acx h hs.1 hk;obtain ⟨vs,ws,h3,h4⟩:=ih hs.2 h1;exact ⟨(v,vs),_,h3,s,ss,tv,qT,wp,ws,rfl,rfl,rfl,h2,h4⟩
theorem qU {ow:Bool} {A0:Cells} (hA:∀ b i,A b i->A0 b i) {r0:Nat} (hX:ow=true->∀ b i j,j < σ.n->j≠r0->1<=F j b i->A0 b i):∀ (ps:List (PM×Ty)) {v:(c9 (ps.map (·.2))).den} {ss:List Slot} {qT:List Value},
  G6 P A σ a w F ow ps v ss qT []->(∀ r ∈ ss.flatMap nL,r < σ.n->r≠r0)->(∀ ho,qc P w A0 ho ps v qT (λ_ _=>0))/\(∀ (σ':St) (K:St->Option R) (out:(c9 (lP ps)).den),tC σ' ps [] out K=K σ'):=by
 intro ps
 induction ps with
 | nil=>intro v ss qT h hr;exact ⟨λ_=>h.2.1,λσ' K out=>rfl⟩
 | cons p ps ih=>
  intro v ss qT h hr;obtain ⟨pm,t⟩:=p;obtain ⟨s,WQ,tv,zU,wp,CD,rfl,rfl,hw,mR,rG⟩:=h;have qD:∀ b i,A b i->∀ u,ce w b i=some u->ce w b i=some u:=λ_ _ _ _ h=>h
  cases wp with
  | some y=>cases hw
  | none=>
   have hw:[]=CD:=hw;subst hw;obtain ⟨i1,i2⟩:=ih rG (λr hm=>hr r (by grind))
   cases pm with
   | ro=>
    obtain ⟨_,cs,h1,h2⟩:=mR;refine ⟨λho=>⟨tv,zU,λ_ _=>0,λ_ _=>0,rfl,λ_ _=>aH _,⟨cs,h1,Ro.mono (λ_ _ _ _ h=>h) (λb i ha=>?_) t h2⟩,i1 ho⟩,λσ' K out=>i2 σ' K out⟩
    grind
   | fix f=>
    obtain ⟨_,⟨cs,h1,h2⟩,h3⟩:=mR;exact ⟨λho=>⟨tv,zU,λ_ _=>0,λ_ _=>0,rfl,λ_ _=>aH _,⟨⟨cs,h1,Ro.mono (λ_ _ _ _ h=>h) hA t h2⟩,h3⟩,i1 ho⟩,λσ' K out=>i2 σ' K out⟩
   | ke m m'=>obtain ⟨r,p,snap,b,o,cs,_,e,_⟩:=mR;cases e
   | tw m=>obtain ⟨r,p,snap,b,o,cs,_,e,_⟩:=mR;cases e
   | lT m=>obtain ⟨r,p,snap,cs,ad,_,e,_⟩:=mR;cases e
   | nK m=>obtain ⟨H,r,p,snap,cs,ad,_,e,_⟩:=mR;cases e
theorem abk {t:Ty} {cs cc:List Value} (h1:cs.length=t.sz) (h2:∀ x ∈ cs,x.oneCell'=true) (h3:cc.length=t.sz) (h4:∀ x ∈ cc,x.oneCell'=true) (h:cu t cs=cu t cc):cs=cc:=by
 grind [lW]
theorem UB {ow:Bool} {r:Nat} {p:Path}:∀ (ps:List (PM×Ty)) {v:(c9 (ps.map (·.2))).den} {ss:List Slot} {qT:List Value},
  G6 P A σ a w F ow ps v ss qT [(r,p)]->(ss.flatMap nL).count r<=1 ->
  1<=(ss.flatMap nL).count r/\∃ (KD so Gz:Bool) (t:Ty) (m:Md) (H:List Path) (v1:t.den) (cs:List Value) (ad:Option (Nat×Nat)),((Gz=false->H=[])/\(Gz=true->T8 ps=true))/\At σ r p t m H v1/\place σ a w r p=some ⟨t,H,cs,ad⟩/\(so=true->∃ b o,ad=some (b,o)) /\
   (pj ps=true->(t.flat||decide (m=aj t))=true/\t.th=true) /\
   (∀ (A0:Cells) (F0 Fp:FP),(∀ b i,A b i->A0 b i)->(ow=true->∀ b i j,j < σ.n->j≠r->1<=F j b i->A0 b i)->ax P w A0 t m H v1 cs Fp ->
    (so=true->∀ b o,ad=some (b,o)->Has w b o cs/\(∀ j,j < t.sz->w.frozen? ⟨b,o+j,none⟩=false)/\∀ b' i,de b o t.sz b' i+Fp b' i<=F0 b' i)->(so=false->∀ b i,Fp b i<=F0 b i)->∀ ho,(Gz=true->ho H=true)->qc P w A0 ho ps v qT F0) /\
   (Gz=true->KD=true/\so=false/\∀ (σ':St) (K:St->Option R) (out:(c9 (lP ps)).den),tC σ' ps [(r,p)] out K=Bw σ' r p K) /\
   (KD=true->Gz=false->∀ (σ':St) (K:St->Option R) (out:(c9 (lP ps)).den),tC σ' ps [(r,p)] out K=match xo σ' r p t m t.zero (λ_=>some ()) with | some _=>K (σ'.put r .dead) | none=>none) /\
   (KD=false->∀ out:(c9 (lP ps)).den,∃ (m2:Md) (o1:t.den),(pj ps=true->(t.flat||decide (m2=aj t))=true) /\
    (∀ (σ':St) (K:St->Option R),tC σ' ps [(r,p)] out K=xo σ' r p t m2 o1 λzS=>K (match so with | true=>zS | false=>{ zS with vr:=(σ'.nv r (vG (eu p+1))).vr,aT:=σ'.aT })) /\
    ∀ (w':World) (A':Cells) (GM:FP),nG P w' A' ps out qT GM->∃ cc F3,ax P w' A' t m2 [] o1 cc F3/\(∀ b i,F3 b i<=GM b i)/\(so=true->∀ b o,ad=some (b,o)->Has w' b o cc/\∀ b' i,de b o t.sz b' i+F3 b' i<=GM b' i) /\
     (so=false->cu t cc=cu t cs)):=by
 intro ps
 induction ps with
 | nil=>intro v ss qT h hc;cases h.2.2
 | cons p0 ps ih=>
  intro v ss qT h hc;obtain ⟨pm,t⟩:=p0;obtain ⟨s,WQ,tv,zU,wp,CD,rfl,rfl,hw,mR,rG⟩:=h;simp only[fF,List.count_append] at hc ⊢
  cases pm with
  | ro=>
   obtain ⟨CE,cs,h1,h2⟩:=mR;subst CE;have hw:[(r,p)]=CD:=hw;subst hw;obtain ⟨c1,KD,so,Gz,t1,m1,H1,v1,rF,Ix,q0,q1,q2,q3,q4,q5,q8,q7,q6⟩:=ih rG Bys;refine ⟨by omega,KD,so,Gz,t1,m1,H1,v1,rF,Ix,q0,q1,q2,q3,q4,λA0 F0 Fp a1 a2 a3 a4 a5 ho a6=>⟨tv,zU,λ_ _=>0,F0,rfl,λb i=>by simp,⟨cs,h1,Ro.mono (λ_ _ _ _ h=>h) (λb i ha=>?_) t h2⟩,q5 A0 F0 Fp a1 a2 a3 a4 a5 ho a6⟩,λhV=>⟨(q8 hV).1,(q8 hV).2.1,λσ' K out=>(q8 hV).2.2 σ' K out⟩,λhE hV σ' K out=>q7 hE hV σ' K out,λhE out=>q6 hE out⟩
   rcases ha with ha | ⟨zI,r',hm,a_,hp⟩
   ·exact a1 b i ha
   ·refine a2 zI b i r' a_ (λe=>?_) hp;subst e;have:=dF.2 hm;omega
  | fix f=>
   obtain ⟨CE,⟨cs,h1,h2⟩,h3⟩:=mR;subst CE;have hw:[(r,p)]=CD:=hw;subst hw;obtain ⟨c1,KD,so,Gz,t1,m1,H1,v1,rF,Ix,q0,q1,q2,q3,q4,q5,q8,q7,q6⟩:=ih rG Bys;exact ⟨by omega,KD,so,Gz,t1,m1,H1,v1,rF,Ix,q0,q1,q2,q3,q4,λA0 F0 Fp a1 a2 a3 a4 a5 ho a6=>⟨tv,zU,λ_ _=>0,F0,rfl,λb i=>by simp,⟨⟨cs,h1,Ro.mono (λ_ _ _ _ h=>h) a1 t h2⟩,h3⟩,q5 A0 F0 Fp a1 a2 a3 a4 a5 ho a6⟩,λhV=>⟨(q8 hV).1,(q8 hV).2.1,λσ' K out=>(q8 hV).2.2 σ' K out⟩,λhE hV σ' K out=>q7 hE hV σ' K out,λhE out=>q6 hE out⟩
  | tw m=>
   obtain ⟨r1,p1,snap,b,o,cs,rfl,CE,nN,Cv,ji⟩:=mR;subst CE;have hw:[(r,p)]=(r1,p1)::CD:=hw;injection hw with xB Dq;injection xB with xB O4;subst xB;subst Dq;subst O4;have KE:(nL (.ptr r p snap)).count r=1:=by simp[nL]
   obtain ⟨n1,n2⟩:=qU (R:=R) (P:=P) (A0:=λb i=>True) (λ_ _ _=>trivial) (r0:=r) (λ_ _ _ _ _ _ _=>trivial) ps rG (λr' hm _ e=>by subst e;have:=dF.2 hm;omega);refine ⟨by omega,true,true,false,t,m,[],v.1,cs,some (b,o),⟨λ_=>rfl,λe=>by cases e⟩,nN,ji,λ_=>⟨b,o,rfl⟩,λho=>?_,λA0 F0 Fp a1 a2 a3 a4 a5 ho _=>?_,(λe=>by cases e),λ_ _ σ' K out=>?_,λe=>by cases e⟩
   ·simp only[pj,aD] at ho;exact ho.1
   ·obtain ⟨b1,b2,b3⟩:=a4 rfl b o rfl;obtain ⟨k1,_⟩:=qU (R:=R) (P:=P) a1 (r0:=r) a2 ps rG (λr' hm _ e=>by subst e;have:=dF.2 hm;omega);exact ⟨tv,zU,F0,λ_ _=>0,rfl,λb i=>aH _,⟨b,o,cs,Fp,Cv,ax.length _ a3,b1,b2,b3,a3⟩,k1 ho⟩
   ·show (match xo σ' r p t m t.zero (λ_=>some ()) with | some _=>tC (σ'.put r .dead) ps [] out K | none=>none)=_;split
    ·exact n2 _ K out
    ·rfl
  | ke m m'=>
   obtain ⟨r1,p1,snap,b,o,cs,rfl,CE,nN,Cv,ji⟩:=mR;subst CE;have hw:[(r,p)]=(r1,p1)::CD:=hw;injection hw with xB Dq;injection xB with xB O4;subst xB;subst Dq;subst O4;have KE:(nL (.ptr r p snap)).count r=1:=by simp[nL]
   obtain ⟨n1,n2⟩:=qU (R:=R) (P:=P) (A0:=λb i=>True) (λ_ _ _=>trivial) (r0:=r) (λ_ _ _ _ _ _ _=>trivial) ps rG (λr' hm _ e=>by subst e;have:=dF.2 hm;omega);refine ⟨by omega,false,true,false,t,m,[],v.1,cs,some (b,o),⟨λ_=>rfl,λe=>by cases e⟩,nN,ji,λ_=>⟨b,o,rfl⟩,λho=>?_,λA0 F0 Fp a1 a2 a3 a4 a5 ho _=>?_,(λe=>by cases e),(λe=>by cases e),λ_ out=>⟨m',out.1,λho=>?_,λσ' K=>?_,λw' A' GM hm=>?_⟩⟩
   ·simp only[pj,aD] at ho;exact ho.1
   ·obtain ⟨b1,b2,b3⟩:=a4 rfl b o rfl;obtain ⟨k1,_⟩:=qU (R:=R) (P:=P) a1 (r0:=r) a2 ps rG (λr' hm _ e=>by subst e;have:=dF.2 hm;omega);exact ⟨tv,zU,F0,λ_ _=>0,rfl,λb i=>aH _,⟨b,o,cs,Fp,Cv,ax.length _ a3,b1,b2,b3,a3⟩,k1 ho⟩
   ·simp only[pj,aD] at ho;exact ho.2.1
   ·show xo σ' r p t m' out.1 (λσ=>tC σ ps [] out.2 K)=_;congr 1;funext zS;exact n2 zS K out.2
   ·obtain ⟨F1,F2,h1,⟨b',o',L,F3,h2,h3,h4,h5,h6⟩,h7⟩:=hm;simp only[List.head?_cons,aQ,Cv,Value.pointer.injEq,Addr.mk.injEq,eG] at h2;obtain ⟨rfl,rfl⟩:=h2;refine ⟨L,F3,h6,λb' i=>by have:=h5 b' i;have:=h1 b' i;omega,λ_ b2 o2 e=>?_,λe=>by cases e⟩
    simp only[aQ,bL] at e;obtain ⟨rfl,rfl⟩:=e;exact ⟨h4,λb' i=>by have:=h5 b' i;have:=h1 b' i;omega⟩
  | lT m=>
   obtain ⟨r1,p1,snap,cs,ad,rfl,CE,nN,Cv,ji⟩:=mR;subst CE;have hw:[(r,p)]=(r1,p1)::CD:=hw;injection hw with xB Dq;injection xB with xB O4;subst xB;subst Dq;subst O4;have KE:(nL (.ref r p snap)).count r=1:=by simp[nL]
   obtain ⟨n1,n2⟩:=qU (R:=R) (P:=P) (A0:=λb i=>True) (λ_ _ _=>trivial) (r0:=r) (λ_ _ _ _ _ _ _=>trivial) ps rG (λr' hm _ e=>by subst e;have:=dF.2 hm;omega);refine ⟨by omega,false,false,false,t,m,[],v.1,cs,ad,⟨λ_=>rfl,λe=>by cases e⟩,nN,ji,(λe=>by cases e),λho=>?_,λA0 F0 Fp a1 a2 a3 a4 a5 ho _=>?_,(λe=>by cases e),(λe=>by cases e),λ_ out=>⟨m,out.1,λho=>?_,λσ' K=>?_,λw' A' GM hm=>?_⟩⟩
   ·simp only[pj,aD] at ho;exact ho.1
   ·obtain ⟨k1,_⟩:=qU (R:=R) (P:=P) a1 (r0:=r) a2 ps rG (λr' hm _ e=>by subst e;have:=dF.2 hm;omega);exact ⟨tv,zU,F0,λ_ _=>0,rfl,λb i=>aH _,⟨cs,Cv,a3.le (a5 rfl)⟩,k1 ho⟩
   ·simp only[pj,aD] at ho;exact ho.1.1
   ·show xo σ' r p t m out.1 (λzS=>tC { zS with vr:=(σ'.nv r (vG (eu p+1))).vr,aT:=σ'.aT } ps [] out.2 K)=_;congr 1;funext zS;exact n2 _ K out.2
   ·obtain ⟨F1,F2,h1,⟨cc,h2,h3⟩,h7⟩:=hm;simp only[List.head?_cons,aQ,Cv] at h2;exact ⟨cc,F1,h3,λb' i=>by have:=h1 b' i;omega,(λe=>by cases e),λ_=>h2.symm⟩
  | nK m=>
   obtain ⟨H,r1,p1,snap,cs,ad,rfl,CE,nN,Cv,ji⟩:=mR;subst CE;have hw:[(r,p)]=(r1,p1)::CD:=hw;injection hw with xB Dq;injection xB with xB O4;subst xB;subst Dq;subst O4;have KE:(nL (.ref r p snap)).count r=1:=by simp[nL]
   obtain ⟨n1,n2⟩:=qU (R:=R) (P:=P) (A0:=λb i=>True) (λ_ _ _=>trivial) (r0:=r) (λ_ _ _ _ _ _ _=>trivial) ps rG (λr' hm _ e=>by subst e;have:=dF.2 hm;omega);refine ⟨by omega,true,false,true,t,m,H,v.1,cs,ad,⟨λe=>(by cases e),λ_=>rfl⟩,nN,ji,(λe=>by cases e),λho=>?_,λA0 F0 Fp a1 a2 a3 a4 a5 ho a6=>?_,λ_=>⟨rfl,rfl,λσ' K out=>?_⟩,(λ_ e=>by cases e),λe=>by cases e⟩
   ·simp only[pj,aD] at ho;exact ho.1
   ·obtain ⟨k1,_⟩:=qU (R:=R) (P:=P) a1 (r0:=r) a2 ps rG (λr' hm _ e=>by subst e;have:=dF.2 hm;omega);exact ⟨tv,zU,F0,λ_ _=>0,rfl,λb i=>aH _,⟨H,cs,a6 rfl,Cv,a3.le (a5 rfl)⟩,k1 ho⟩
   ·show Bw σ' r p (λzS=>tC zS ps [] out K)=_;congr 1;funext zS;exact n2 _ K out
theorem En {rs:List J8} {rv:Value} {G:FP} (h:nx P w A rs rv G):dq P A σ a w rv (wS rs) G/\∀ t m H v,wS rs=.box t m H v->∃ b,rv=.pointer (some ⟨b,0,none⟩)/\iR w b (t.sz,false):=by
 match rs,h with
 | [],_=>exact ⟨trivial,λ_ _ _ _ e=>by cases e⟩
 | [x],h=>
  obtain ⟨cs,rfl,h2⟩:=h;exact Ic h2
 | x::y::rs,h=>
  obtain ⟨vs,Fi,h1,h2,h3⟩:=h
  exact ⟨⟨vs,Fi,h1,h2,λj z hz=>by
   obtain ⟨v,cs,g1,g2,g3⟩:=h3 j z hz
   exact ⟨v,g1,.inr ⟨cs,g2,g3⟩⟩⟩,λ_ _ _ _ e=>by cases e⟩
theorem nx.free {A':Cells}:∀ {rs:List J8} {rv:Value} {G:FP},(∀ x ∈ rs,(x.t.flat||decide (x.m=aj x.t))=true/\x.t.th=true)->nx P w A rs rv G->nx P w A' rs rv G
 | [],_,_,_,_=>trivial
 | [x],_,_,ho,⟨cs,h1,h2⟩=>⟨cs,h1,ax.free (ho x (by simp)).1 (ho x (by simp)).2 h2⟩
 | x::y::rs,_,_,ho,⟨vs,Fi,h1,h2,h3⟩=>⟨vs,Fi,h1,h2,λj z hz=>by
  grind [ax.free]⟩
theorem AN:∀ (rs:List (Ty×Md)) {ts:List Ty} (out:(c9 (rs.map (·.1)++ts)).den),Ch rs=true->∀ x ∈ (lQ rs out).1,(x.t.flat||decide (x.m=aj x.t))=true/\x.t.th=true
 | [],_,_,_=>λx hx=>by cases hx
 | (t,m)::rs,_,out,h=>λx hx=>by
  simp only[Ch,aD] at h;simp only[lQ,aY] at hx;rcases hx with rfl | hx
  ·exact h.1
  ·exact AN rs out.2 h.2 x hx
theorem nx.mono {A':Cells} (hA:∀ b i,A b i->A' b i):∀ {rs:List J8} {rv:Value} {G:FP},nx P w A rs rv G->nx P w A' rs rv G
 | [],_,_,_=>trivial
 | [x],_,_,⟨cs,h1,h2⟩=>⟨cs,h1,ax.mono hA (λ_ _ _ _ h=>h) (λ_ _ h=>h) _ h2 (λ_ _=>aH _) (λ_ _ _ _ h=>h)⟩
 | x::y::rs,_,_,⟨vs,Fi,h1,h2,h3⟩=>⟨vs,Fi,h1,h2,λj z hz=>by
  obtain ⟨v,cs,g1,g2,g3⟩:=h3 j z hz
  exact ⟨v,cs,g1,g2,ax.mono hA (λ_ _ _ _ h=>h) (λ_ _ h=>h) _ g3 (λ_ _=>aH _) (λ_ _ _ _ h=>h)⟩⟩
end
end OT
namespace OT
open Go
section
variable {P:Program} {C:Ctx} {A:Cells} {X:FP} {σ:St} {a:Act} {w:World} {F:Nat->FP} {R:Type} {x:R} {Q:Exit->Act->World->Prop} {o:Oper} {E:Env}
def BB (b:Bool) (n:Nat):Nat:=match b with
 | true=>n
 | false=>0
theorem YX {w2:World} {A2:Cells}:∀ (q:Path) (t:Ty) {m':Md} {v':t.den} {cs:List Value} {G':FP} {ad:Option (Nat×Nat)} {pl:Pl},ax P w2 A2 t m' [] v' cs G'->eu q<=1->bt w q t [] cs ad=some pl ->
  ∃ H' cc,bt w2 q t [] cs ad=some ⟨pl.t,H',cc,pl.ad⟩/\(eu q < 1->yL pl.t=true->cc=pl.cs):=by
 intro q
 induction q with
 | nil=>
  intro t m' v' cs G' ad pl h2 hq hp;simp only[bt,aQ] at hp;subst hp;exact ⟨_,_,rfl,λ_ _=>rfl⟩
 | cons s q ih=>
  intro t m' v' cs G' ad pl h2 hq hp
  cases t with
  | pair a b=>
   obtain ⟨h0,F1,F2,hs,r1,r2⟩:=h2
   cases s with
   | fst=>
    simp only[bt,h0,aS] at hp ⊢;exact ih a r1 (by simpa [eu] using hq) (by simpa using hp)
   | snd=>
    simp only[bt,h0,aS] at hp ⊢;exact ih b r2 (by simpa [eu] using hq) (by simpa using hp)
   | idx i=>simp[bt] at hp
   | rB i=>simp[bt] at hp
  | aa e=>
   cases s with
   | idx i=>
    obtain ⟨xa,cap,news,Fi,r1,r2,r3,r4,r5,r6,r7,r8⟩:=AL h2;subst r1
    cases xa with
    | none=>grind [bt]
    | some dt=>
     simp only[bt,hole,bT,aF,aS,eA] at hp ⊢;split at hp
     ·rename_i hi;rw[aR hi];have iT:=r6 i _ (aB hi);obtain ⟨g1,g2⟩:=r3 dt rfl;have hl:=ax.length _ iT
      have hh:Has w2 dt.block (dt.off+i*e.sz) ((news.drop (i*e.sz)).take e.sz):=λj u hu=>by
       rw[bN] at hu;split at hu
       ·rw[bK] at hu;rw[cB];exact g2 _ u hu
       ·cases hu
      rw[gc hh hl];obtain ⟨H',cc,h1,h2⟩:=Dk (A:=λ_ _=>True) (m:=.leaf) (v:=v'[i]) (F:=λ_ _=>0) q e iT (.inl (by grind [eu])) hp;grind [eu]
     ·cases hp
   | _=>simp[bt] at hp
  | arr n e=>
   cases s with
   | fst=>simp[bt] at hp
   | snd=>simp[bt] at hp
   | idx i=>simp[bt] at hp
   | rB i=>
    obtain ⟨_,hf,hl,hlen,hr⟩:=h2;simp only[bt,cM,aJ] at hp ⊢;split at hp
    ·rename_i hi;rw[aR hi];exact ih e (Ro.flat e (m:=.leaf) (λ_ _=>0) hf (hr i _ (aB (by grind)))) (by simpa [eu] using hq) hp
    ·cases hp
  | _=>grind [bt]
theorem WR {t:Ty} {m':Md} {v':t.den} {cs:List Value} {G':FP} {w2:World} {A2:Cells} (ad:Option (Nat×Nat)) (h2:ax P w2 A2 t m' [] v' cs G'):tj 1 False w t [] cs ad w2 [] cs:=by
 intro q pl hq hp;grind [YX]
theorem O5 (h:ey P C A σ a w F) {r:Nat} {ow:Bool} {b i:Nat} (ha:AX A F σ.n r ow b i):b < w.heap.size:=by
 rcases ha with ha | ⟨_,j,hj,_,hp⟩
 ·exact h.k9 b i (.inr ha)
 ·exact h.k9 b i (.inl (by grind [dz]))
def y0:List (PM×Ty)->Bool
 | []=>true
 | (.ke _ _,_)::_=>false
 | (.lT _,_)::_=>false
 | (.tw _,_)::_=>false
 | (.nK _,_)::_=>false
 | _::ps=>y0 ps
theorem wU {ow:Bool} {y:Nat×Path} {ws:List (Nat×Path)}:∀ (ps:List (PM×Ty)) {v:(c9 (ps.map (·.2))).den} {ss:List Slot} {qT:List Value},y0 ps=true->G6 P A σ a w F ow ps v ss qT (y::ws)->False
 | [],_,_,_,_,h=>by cases h.2.2
 | (pm,t)::ps,_,_,_,hm,h=>by
  obtain ⟨s,WQ,tv,zU,wp,CD,_,_,hw,mR,rG⟩:=h
  cases pm with
  | ro=>obtain ⟨CE,_⟩:=mR;subst CE;have hw:_=CD:=hw;subst hw;exact wU ps hm rG
  | fix f=>obtain ⟨CE,_⟩:=mR;subst CE;have hw:_=CD:=hw;subst hw;exact wU ps hm rG
  | ke m m'=>cases hm
  | lT m=>cases hm
  | tw m=>cases hm
  | nK m=>cases hm
theorem UC (h:ey P C A σ a w F) {f:FuncId} {g:uQ} (hs:Sound P f g) {ow:Bool} (zI:ow=true->(Ch g.rs&&pj g.ps)=true) {r:Nat} {p:Path} {t:Ty} {m:Md} {v1:t.den} {cs:List Value} {ad:Option (Nat×Nat)} {so:Bool} {v:(c9 (g.ps.map (·.2))).den} {qT:List Value} {out:(c9 (g.rs.map (·.1)++lP g.ps)).den} (hF:g.F v=some out)
  (b1:At σ r p t m [] v1) (b2:place σ a w r p=some ⟨t,[],cs,ad⟩) (b3:so=true->∃ b o,ad=some (b,o))
  (b5 : ∀ (A0:Cells) (F0 Fp:FP),(∀ b i,A b i->A0 b i)->(ow=true->∀ b i j,j < σ.n->j≠r->1<=F j b i->A0 b i)->ax P w A0 t m [] v1 cs Fp ->
      (so=true->∀ b o,ad=some (b,o)->Has w b o cs/\(∀ j,j < t.sz->w.frozen? ⟨b,o+j,none⟩=false)/\∀ b' i,de b o t.sz b' i+Fp b' i<=F0 b' i)->(so=false->∀ b i,Fp b i<=F0 b i)->qc P w A0 (g.Eb v) g.ps v qT F0)
  {d:Option Tmp} {K:St->Option R} (q1:(match xo σ r p t m t.zero (λ_=>some ()) with | some _=>K ((σ.put r .dead).cg d (wS (lQ g.rs out).1)) | none=>none)=some x) (YY:y0 g.ps=true->False) :
  Calls P f qT.toArray w λe w'=>∃ rv,e=.returned rv/\Nx P C K x (a.put d rv) w'/\(y0 g.ps=true->Ext w w' (λ_ _=>0)):=by
 cases Jo:xo σ r p t m t.zero (λ_=>some ()) with
 | none=>grind
 | some u=>
 rw[Jo] at q1;simp only at q1;obtain ⟨hr,m2,H2,v2,d9,Cx,F2,s1,s2,s3,s4,s5,_⟩:=Eh h Jo;obtain ⟨_,e3,e4,e5⟩:=b1.inj s1;subst e3;subst e4;have e5:=gD e5;subst e5;rw[b2] at s2;simp only[aQ,Pl.mk.injEq,dE] at s2;obtain ⟨rfl,rfl⟩:=s2;obtain ⟨fp1,fp2⟩:=ax.fp t s3
 obtain ⟨F0,Iz⟩:∃ F0:FP,∀ b i,F0 b i=BB so (lF ad t.sz b i)+lc w t m [] cs b i:=⟨λb i=>BB so (lF ad t.sz b i)+lc w t m [] cs b i,λ_ _=>rfl⟩
 have aeH:∀ b i,F0 b i<=lF ad t.sz b i+lc w t m [] cs b i:=λb i=>by
  rw[Iz];cases so <;> simp[BB]
 have YZ:∀ b i,F0 b i<=F r b i:=λb i=>by grind
 have rg:∀ b i,F r b i<=bk σ.n F b i:=λb i=>dz F hr b i;have yQ:∀ b i,bk σ.n F b i<=1:=λb i=>by have:=h.qe b i;omega
 have M1:∀ b i,A b i->AX A F σ.n r ow b i:=λb i h=>.inl h;have WS:∀ b i,1<=F r b i->b < w.heap.size:=λb i hp=>h.k9 b i (.inl (by grind))
 have lO:=b5 (AX A F σ.n r ow) F0 (lc w t m [] cs) M1 (λzI b i j hj jx hp=>.inr ⟨zI,j,hj,jx,hp⟩)
  (ax.mono M1 (λ_ _ _ _ h=>h) (λ_ _ h=>h) t fp1 (λ_ _=>aH _) (λ_ _ _ _ h=>h))
  (λhP b o e=>⟨(s5 b o e).1,(s5 b o e).2,λb' i=>by rw[Iz,hP,e];exact aH _⟩) (λhP b i=>by grind)
 refine (hs w _ F0 v _ lO (λb i=>by grind) (λb i hp ha=>?_) (λb i hp=>?_) (h.ET λb i hp=>by grind) out hF).mono λe w' E0=>?_
 ·have h1:=YZ b i;have h2:=rg b i
  rcases ha with ha | ⟨_,j,hj,jx,hpj⟩
  ·exact h.rh b i (by grind) ha
  grind [wo]
 ·rcases hp with hp | hp
  ·grind
  ·exact O5 h hp
 ·obtain ⟨rv,rfl,eo,A',G,GR,GM,g1,g2,g3,g4,g5,g6,g7,g8,g9⟩:=E0;refine ⟨rv,rfl,?_⟩
  obtain ⟨x1,x2⟩:=Jw eo
  obtain ⟨yw,A2,a1,a2,a3,a4,a6⟩:∃ yw A2:Cells,(∀ b i,A b i->yw b i)/\(∀ b i,yw b i->A b i\/(w.heap.size<=b/\b < w'.heap.size/\G b i=0))/\(∀ b i,yw b i->A2 b i)/\(∀ b i,A2 b i->yw b i\/(1<=F0 b i/\G b i=0)) /\
    nx P w' A2 (lQ g.rs out).1 rv GR:=by
   cases ow with
   | true=>
    have ho:=zI rfl;simp only[aD] at ho;exact ⟨A,A,λ_ _ h=>h,λ_ _ h=>.inl h,λ_ _ h=>h,λ_ _ h=>.inl h,nx.free (AN g.rs out ho.1) g8⟩
   | false=>
    have rD:∀ b i,A' b i->G b i=0:=λb i ha=>by
     grind
    refine ⟨λb i=>A b i\/(w.heap.size<=b/\A' b i),A',λ_ _ h=>.inl h,λb i ha=>ha.imp id λ⟨h1,h2⟩=>⟨h1,g6 b i (.inr h2),rD b i h2⟩,λb i ha=>?_,λb i ha=>?_,g8⟩
    ·grind
    ·rcases g2 b i ha with (ha' | ⟨e,_⟩) | h0 | hn
     ·grind
     all_goals grind
  have Y0:=AM eo.size;have h1:=h.put hr (s:=.dead) (v:=tmp a r) (Fd:=λ_ _=>0) (X':=F r) trivial (λb k=>by omega) (λ_ _ _ _ e=>by cases e);rw[sJ] at h1;have IH:=h1.grow x1 (A1:=yw) (X1:=λb i=>if w.heap.size<=b then G b i else F r b i) a1 (λb i ha=>?_) (λb i=>?_);rotate_left
  ·grind
  ·grind
  have h3:=IH.world x2 (λb i hp=>by
   grind)
  have h4:=h3.giveUp (A1:=A2) (X1:=GR) a3 (λb i ha=>by
   grind) (λb i=>by
   grind)
  have wb:=En (σ:=σ.put r .dead) (a:=a) a6;exact ⟨qH h4 q1 wb.1 (λ_ _=>aH _) wb.2,λhm=>(YY hm).elim⟩
theorem Rv (h:ey P C A σ a w F) {f:FuncId} {g:uQ} (hs:Sound P f g) {ow:Bool} (zI:ow=true->(Ch g.rs&&pj g.ps)=true) {r:Nat} {p:Path} {t:Ty} {m:Md} {H:List Path} {v1:t.den} {cs:List Value} {ad:Option (Nat×Nat)} {so:Bool} {v:(c9 (g.ps.map (·.2))).den} {qT:List Value} {out:(c9 (g.rs.map (·.1)++lP g.ps)).den} (hF:g.F v=some out)
  (b1:At σ r p t m H v1) (b2:place σ a w r p=some ⟨t,H,cs,ad⟩) (hP:so=false)
  (b5 : ∀ (A0:Cells) (F0 Fp:FP),(∀ b i,A b i->A0 b i)->(ow=true->∀ b i j,j < σ.n->j≠r->1<=F j b i->A0 b i)->ax P w A0 t m H v1 cs Fp ->
      (so=true->∀ b o,ad=some (b,o)->Has w b o cs/\(∀ j,j < t.sz->w.frozen? ⟨b,o+j,none⟩=false)/\∀ b' i,de b o t.sz b' i+Fp b' i<=F0 b' i)->(so=false->∀ b i,Fp b i<=F0 b i)->qc P w A0 (g.Eb v) g.ps v qT F0)
  {d:Option Tmp} {K:St->Option R} (q1:Bw σ r p (λσ=>K (σ.cg d (wS (lQ g.rs out).1)))=some x) (YY:y0 g.ps=true->False) :
  Calls P f qT.toArray w λe w'=>∃ rv,e=.returned rv/\Nx P C K x (a.put d rv) w'/\(y0 g.ps=true->Ext w w' (λ_ _=>0)):=by
 have hr:r < σ.n:=u9 b2;obtain ⟨A1,qE,F1,rF,Ix,F0,k1,k2,k3,k4,_,k5,k6,k7⟩:=OK h q1 b1;rw[b2] at k5;simp only[aQ,Pl.mk.injEq,dE] at k5;obtain ⟨rfl,rfl⟩:=k5;have rg:∀ b i,F r b i<=bk σ.n F b i:=λb i=>dz F hr b i;have yQ:∀ b i,bk σ.n F b i<=1:=λb i=>by have:=h.qe b i;omega
 have k3t:∀ b i,F0 b i+bk qE.n F1 b i<=1:=λb i=>by have h:=k3.qe b i;simpa using h
 have k3d:∀ b i,1<=F0 b i->¬ A1 b i:=λb i hp=>k3.rh b i (by grind);have k3b:∀ b i,1<=F0 b i\/A1 b i->b < w.heap.size:=λb i hp=>k3.k9 b i (hp.imp (λhp=>by grind) id);have M1:∀ b i,A1 b i->AX A1 F σ.n r ow b i:=λb i h=>.inl h
 have lO:=b5 (AX A1 F σ.n r ow) F0 F0 (λb i h=>.inl (k2 b i h)) (λzI b i j hj jx hp=>.inr ⟨zI,j,hj,jx,hp⟩)
  (ax.mono (λb i h=>.inl (k2 b i h)) (λ_ _ _ _ h=>h) (λ_ _ h=>h) t k6 (λ_ _=>aH _) (λ_ _ _ _ h=>h))
  (λe=>by grind) (λ_ b i=>aH _)
 refine (hs w _ F0 v _ lO (λb i=>by grind) (λb i hp ha=>?_) (λb i hp=>?_) (k3.ET λb i hp=>by grind) out hF).mono λe w' E0=>?_
 ·rcases ha with ha | ⟨_,j,hj,jx,hpj⟩
  all_goals grind [wo]
 ·rcases hp with hp | hp | ⟨_,j,hj,jx,hpj⟩
  ·grind
  ·grind
  ·exact h.k9 b i (.inl (by grind [dz]))
 ·obtain ⟨rv,rfl,eo,A',G,GR,GM,g1,g2,g3,g4,g5,g6,g7,g8,g9⟩:=E0;refine ⟨rv,rfl,?_⟩
  obtain ⟨x1,x2⟩:=Jw eo
  obtain ⟨yw,A2,a1,a2,a3,a4,a6⟩:∃ yw A2:Cells,(∀ b i,A1 b i->yw b i)/\(∀ b i,yw b i->A1 b i\/(w.heap.size<=b/\b < w'.heap.size/\G b i=0))/\(∀ b i,yw b i->A2 b i)/\(∀ b i,A2 b i->yw b i\/(1<=F0 b i/\G b i=0)) /\
    nx P w' A2 (lQ g.rs out).1 rv GR:=by
   cases ow with
   | true=>
    have ho:=zI rfl;simp only[aD] at ho;exact ⟨A1,A1,λ_ _ h=>h,λ_ _ h=>.inl h,λ_ _ h=>h,λ_ _ h=>.inl h,nx.free (AN g.rs out ho.1) g8⟩
   | false=>
    have rD:∀ b i,A' b i->G b i=0:=λb i ha=>by
     grind
    refine ⟨λb i=>A1 b i\/(w.heap.size<=b/\A' b i),A',λ_ _ h=>.inl h,λb i ha=>ha.imp id λ⟨h1,h2⟩=>⟨h1,g6 b i (.inr h2),rD b i h2⟩,λb i ha=>?_,λb i ha=>?_,g8⟩
    ·grind
    ·rcases g2 b i ha with (ha' | ⟨e,_⟩) | h0 | hn
     all_goals grind
  have Y0:=AM eo.size;have IH:=k3.grow x1 (A1:=yw) (X1:=λb i=>if w.heap.size<=b then G b i else F0 b i) a1 (λb i ha=>?_) (λb i=>?_);rotate_left
  ·grind
  ·grind
  have h3:=IH.world x2 (λb i hp=>by
   grind)
  have h4:=h3.giveUp (A1:=A2) (X1:=GR) a3 (λb i ha=>by
   grind) (λb i=>by
   grind)
  have wb:=En (σ:=qE) (a:=a) a6;exact ⟨qH h4 k1 wb.1 (λ_ _=>aH _) wb.2,λhm=>(YY hm).elim⟩
theorem WT (h:ey P C A σ a w F) {f:FuncId} {g:uQ} (hs:Sound P f g) {ow:Bool} (zI:ow=true->(Ch g.rs&&pj g.ps)=true) {xs:List Operand} {ex:List Slot} {II:List Value} (bf:xs.all (ei P)=true)
  (hex:∀ (A':Cells) (σ':St),(∀ b i,A b i->A' b i)->xZ P A' σ' a w ex II) {d:Option Tmp} {K:St->Option R} (hk:Kb g ow σ xs ex d K=some x) :
  Calls P f (xs.map a.eval++II).toArray w λe w'=>∃ rv,e=.returned rv/\Nx P C K x (a.put d rv) w'/\(y0 g.ps=true->Ext w w' (λ_ _=>0)):=by
 unfold Kb at hk;obtain ⟨A1,qE,F1,k1,k2,k3,k4⟩:=abh g.ps xs h hk;have mF:=KC k3 xs bf (hex A1 qE k2);obtain ⟨v,ws,q1,q2⟩:=abj k3 g.ps mF k1;split at q1;rotate_left
 ·cases q1
 rename_i hc;simp only[aD,dL] at hc;obtain ⟨hlen,G7⟩:=hc
 match ws,hlen with
 | [],_=>
  have q1:((g.F v).bind λout=>tC qE g.ps [] (lQ g.rs out).2 λσ=>K (σ.cg d (wS (lQ g.rs out).1)))=some x:=by
   grind [YN]
  cases hF:g.F v with
  | none=>grind
  | some out=>
  rw[hF] at q1;simp only[aA] at q1;obtain ⟨n1,n2⟩:=qU (R:=R) (A0:=AX A1 F1 qE.n qE.n ow) (λb i h=>.inl h) (r0:=qE.n) (λzI b i j hj jx hp=>.inr ⟨zI,j,hj,jx,hp⟩) g.ps q2 (λr _ a_=>by omega);rw[n2] at q1;refine (hs w _ (λ_ _=>0) v _ (n1 _) (λ_ _=>aZ _) (λb i hp=>by omega) (λb i hp=>?_) (k3.ET λb i hp=>by omega) out hF).mono λe w' E0=>?_
  ·rcases hp with hp | hp
   ·omega
   ·exact O5 k3 hp
  ·obtain ⟨rv,rfl,eo,A',G,GR,GM,g1,g2,g3,g4,g5,g6,g7,g8,g9⟩:=E0
   have hX:∀ b i,GR b i<=0\/(w.heap.size<=b/\b < w'.heap.size/\GR b i<=1):=λb i=>by
    grind
   refine ⟨rv,rfl,?_⟩
   cases ow with
   | true=>
    have ho:=zI rfl;simp only[aD] at ho;have IH:=k3.grow eo (A1:=A1) (X1:=GR) (λ_ _ h=>h) (λ_ _ h=>.inl h) hX;have wb:=En (σ:=qE) (a:=a) (nx.free (A':=A1) (AN g.rs out ho.1) g8);exact ⟨qH IH q1 wb.1 (λ_ _=>aH _) wb.2,λ_=>eo⟩
   | false=>
    have IH:=k3.grow eo (A1:=A') (X1:=GR) (λb i ha=>g1 b i (.inl ha)) (λb i ha=>by
     rcases g2 b i ha with (ha' | ⟨e,_⟩) | h0 | hn
     all_goals grind) hX
    have wb:=En (σ:=qE) (a:=a) g8;exact ⟨qH IH q1 wb.1 (λ_ _=>aH _) wb.2,λ_=>eo⟩
 | [(r,p)],_=>
  simp only[apart,aD,dL,eG] at G7;obtain ⟨_,KD,so,Gz,t,m,H,v1,cs,ad,b0,b1,b2,b3,b4,b5,b8,b7,b6⟩:=UB g.ps q2 G7
  have q3:(Gz=true->g.Eb v H=true)/\((g.F v).bind λout=>tC qE g.ps [(r,p)] (lQ g.rs out).2 λσ=>K (σ.cg d (wS (lQ g.rs out).1)))=some x:=by
   cases hv:T8 g.ps with
   | false=>
    rw[hv] at q1;exact ⟨λe=>(by grind),q1⟩
   | true=>
    rw[hv] at q1;simp only[YN] at q1;rw[b1.eq] at q1;grind
  obtain ⟨q0,q1⟩:=q3;replace b5:=λA0 F0 Fp a1 a2 a3 a4 a5=>b5 A0 F0 Fp a1 a2 a3 a4 a5 (g.Eb v) q0
  cases hF:g.F v with
  | none=>grind
  | some out=>
  rw[hF] at q1;simp only[aA] at q1
  cases Gz with
  | true=>
   obtain ⟨hE,hP,_⟩:=b8 rfl;subst hE;exact Rv k3 hs zI hF b1 b2 (b8 rfl).2.1 b5 (((b8 rfl).2.2 qE (λσ=>K (σ.cg d (wS (lQ g.rs out).1))) (lQ g.rs out).2).symm.trans q1) (λhm=>wU g.ps hm q2)
  | false=>
  obtain rfl:=b0.1 rfl
  cases KD with
  | true=>exact UC k3 hs zI hF b1 b2 b3 b5 ((b7 rfl rfl qE (λσ=>K (σ.cg d (wS (lQ g.rs out).1))) (lQ g.rs out).2).symm.trans q1) (λhm=>wU g.ps hm q2)
  | false=>
  obtain ⟨mo,o1,b6o,e1,e2⟩:=b6 rfl (lQ g.rs out).2;rw[e1] at q1;have q1':=q1;obtain ⟨hr,m2,H2,v2,d9,Cx,F2,s1,s2,s3,s4,s5,_⟩:=Eh k3 q1;obtain ⟨_,e3,e4,e5⟩:=b1.inj s1;subst e3;subst e4;have e5:=gD e5;subst e5;rw[b2] at s2;simp only[aQ,Pl.mk.injEq,dE] at s2;obtain ⟨rfl,rfl⟩:=s2;obtain ⟨fp1,fp2⟩:=ax.fp t s3
  obtain ⟨F0,Iz⟩:∃ F0:FP,∀ b i,F0 b i=BB so (lF ad t.sz b i)+lc w t m [] cs b i:=⟨λb i=>BB so (lF ad t.sz b i)+lc w t m [] cs b i,λ_ _=>rfl⟩
  have aeH:∀ b i,F0 b i<=lF ad t.sz b i+lc w t m [] cs b i:=λb i=>by
   rw[Iz];cases so <;> simp[BB]
  have YZ:∀ b i,F0 b i<=F1 r b i:=λb i=>by grind
  have rg:∀ b i,F1 r b i<=bk qE.n F1 b i:=λb i=>dz F1 hr b i;have yQ:∀ b i,bk qE.n F1 b i<=1:=λb i=>by have:=k3.qe b i;omega
  have M1:∀ b i,A1 b i->AX A1 F1 qE.n r ow b i:=λb i h=>.inl h
  have lO:=b5 (AX A1 F1 qE.n r ow) F0 (lc w t m [] cs) M1 (λzI b i j hj jx hp=>.inr ⟨zI,j,hj,jx,hp⟩)
   (ax.mono M1 (λ_ _ _ _ h=>h) (λ_ _ h=>h) t fp1 (λ_ _=>aH _) (λ_ _ _ _ h=>h))
   (λhP b o e=>⟨(s5 b o e).1,(s5 b o e).2,λb' i=>by rw[Iz,hP,e];exact aH _⟩) (λhP b i=>by grind)
  refine (hs w _ F0 v _ lO (λb i=>by grind) (λb i hp ha=>?_) (λb i hp=>?_) (k3.ET λb i hp=>by grind) out hF).mono λe w' E0=>?_
  ·have h1:=YZ b i;have h2:=rg b i
   rcases ha with ha | ⟨_,j,hj,jx,hpj⟩
   ·exact k3.rh b i (by grind) ha
   grind [wo]
  ·rcases hp with hp | hp
   ·exact k3.k9 b i (.inl (by grind))
   ·exact O5 k3 hp
  ·obtain ⟨rv,rfl,eo,A',G,GR,GM,g1,g2,g3,g4,g5,g6,g7,g8,g9⟩:=E0;refine ⟨rv,rfl,?_⟩
   obtain ⟨M2,F3,t1,t2,t3,t4⟩:=e2 w' A' GM g9;obtain ⟨x1,x2⟩:=Jw eo
   obtain ⟨yw,A2,a1,a2,a3,a4,a5,a6⟩:∃ yw A2:Cells,(∀ b i,A1 b i->yw b i)/\(∀ b i,yw b i->A1 b i\/(w.heap.size<=b/\b < w'.heap.size/\G b i=0))/\(∀ b i,yw b i->A2 b i)/\(∀ b i,A2 b i->yw b i\/(1<=F0 b i/\G b i=0)) /\
     ax P w' A2 t mo [] o1 M2 F3/\nx P w' A2 (lQ g.rs out).1 rv GR:=by
    cases ow with
    | true=>
     have ho:=zI rfl;simp only[aD] at ho;exact ⟨A1,A1,λ_ _ h=>h,λ_ _ h=>.inl h,λ_ _ h=>h,λ_ _ h=>.inl h,ax.free (b6o ho.2) (b4 ho.2).2 t1,nx.free (AN g.rs out ho.1) g8⟩
    | false=>
     have rD:∀ b i,A' b i->G b i=0:=λb i ha=>by
      rcases bJ (G b i) with h0 | h0
      ·exact h0
      grind
     refine ⟨λb i=>A1 b i\/(w.heap.size<=b/\A' b i),A',λ_ _ h=>.inl h,λb i ha=>ha.imp id λ⟨h1,h2⟩=>⟨h1,g6 b i (.inr h2),rD b i h2⟩,λb i ha=>?_,λb i ha=>?_,t1,g8⟩
     ·grind
     ·rcases g2 b i ha with (ha' | ⟨e,_⟩) | h0 | hn
      ·grind
      ·cases e
      ·grind
      grind
   have Y0:=AM eo.size;have IH:=k3.grow x1 (A1:=yw) (X1:=λb i=>if w.heap.size<=b then G b i else 0) a1 (λb i ha=>?_) (λb i=>?_);rotate_left
   ·rcases a2 b i ha with ha | ⟨h1,h2,h3⟩
    ·exact .inl ha
    grind
   ·by_cases hb:w.heap.size<=b
    ·rw[aR hb];rcases bJ (G b i) with h0 | h0
     ·left;omega
     grind
    grind
   obtain ⟨_,m4,H4,v4,cs4,ad4,F4,u1,u2,u3,u4,u5,u6⟩:=Eh IH q1';obtain ⟨_,e3,e4,e5⟩:=b1.inj u1;subst e3;subst e4;have e5:=gD e5;subst e5;have WS:∀ b i,1<=F1 r b i->b < w.heap.size:=λb i hp=>k3.k9 b i (.inl (by grind));have ji:=xy (σ':=qE) (a':=a) (w2:=World.news w w') (k3.jg r hr) rfl rfl (λb i ha u hu=>x1.cell b i (k3.k9 b i (.inr ha)) rfl u hu) (λb i hp u hu=>x1.cell b i (WS b i hp) rfl u hu) b2;rw[ji] at u2;simp only[aQ,Pl.mk.injEq,dE] at u2;obtain ⟨rfl,rfl⟩:=u2;have ol:lc (World.news w w') t m [] cs=lc w t m [] cs:=UA t s3 (λb i hp u hu=>x1.cell b i (WS b i (by grind)) rfl u hu);have hfp:∀ b i,lc w t m [] cs b i<=F4 b i:=λb i=>by have:=(ax.fp t u3).2 b i;rw[ol] at this;exact this
   have SM:=ax.length _ t1;have hl:=ax.length _ s3;have qD:so=false->M2=cs:=λhP=>abk SM (ax.one _ t1) hl (ax.one _ s3) (t4 hP)
   have KE:∀ b i,1<=lF ad t.sz b i->F4 b i=0:=λb i hp=>by
    grind
   have aeI:∀ b i,b < w.heap.size->1<=G b i->1<=lF ad t.sz b i\/1<=F4 b i:=λb i hb hp=>by
    grind
   have ady:∀ b i,GR b i+F3 b i<=(if w.heap.size<=b then G b i else 0)+F4 b i:=λb i=>by
    have h7:=g7 b i;have h2:=t2 b i
    by_cases hb:w.heap.size<=b
    ·grind
    ·rw[aV hb];rcases bJ (GR b i+F3 b i) with h0 | h0
     ·omega
     ·have h4:=g4 b i;rcases g3 b i Bys with h1 | h1
      ·rw[Iz] at h1
       cases hP:so with
       | true=>
        obtain ⟨b',o',j0⟩:=b3 hP;grind [lF]
       | false=>
        grind [BB]
      ·omega
   obtain ⟨A3,Dn,Fr,n1,n2,n3,n4,n5⟩:=u6 w' A2 M2 F3 GR (x2.mono λb i hz=>by
     grind) a3 (λb i ha=>by
     rcases a4 b i ha with ha | ⟨h1,h2⟩
     ·exact .inl ha
     ·refine .inr ⟨?_,by grind⟩;have hb:b < w.heap.size:=WS b i (by grind);rw[aV Bys];rw[Iz] at h1
      cases hP:so with
      | true=>
       obtain ⟨b',o',j0⟩:=b3 hP;grind [lF]
      | false=>
       grind [BB]) ady (λb o e=>by
     cases hP:so with
     | true=>grind
     | false=>
      rw[qD hP];intro j u hu;have hj:=(aM.1 hu).1;have h9:lF ad t.sz b (o+j)=1:=by grind [lF,de]
      have h8:=KE b (o+j) Bys;refine x2.cell b (o+j) ?_ ?_ u ((u5 b o e).1 j u hu)
      ·rw[Y0];exact bX (WS b (o+j) (by grind)) eo.size
      ·rw[Iz,hP];have:=hfp b (o+j)
       simp only[BB,bE];omega) (λe=>by
     cases hP:so with
     | true=>obtain ⟨b',o',j0⟩:=b3 hP;rw[e] at j0;cases j0
     | false=>exact qD hP) a5
   have wb:=En (σ:=Dn) (a:=a) (nx.mono n2 a6)
   cases hP:so with
   | true=>
    subst hP;exact ⟨qH n3 n1 wb.1 (λ_ _=>aH _) wb.2,λhm=>(wU g.ps hm q2).elim⟩
   | false=>
    subst hP;have hc:=qD rfl;subst hc
    have h5:=n5 (vG (eu p+1)) (wv _ (k3.mD r)) (EU _ (k3.mD r)) rfl (λp' snap hb bf hlen=>by
     have:=GW (eu p+1) (k3.mD r) hb bf
     exact ⟨1,False,by omega,λ_=>.inl Bys,λ_=>by omega,WR ad a5⟩)
    have aaG:=En (σ:={ Dn with vr:=(qE.nv r (vG (eu p+1))).vr,aT:=qE.aT }) (a:=a) (nx.mono n2 a6);exact ⟨qH h5 n1 aaG.1 (λ_ _=>aH _) aaG.2,λhm=>(wU g.ps hm q2).elim⟩
 | _::_::_,hl=>simp at hl
theorem O6 (h:ey P C A σ a w F) {f:FuncId} {g:uQ} (hs:Sound P f g) {xs:List Operand} {ex:List Slot} {II:List Value} (bf:xs.all (ei P)=true)
  (hex:∀ (A':Cells) (σ':St),(∀ b i,A b i->A' b i)->xZ P A' σ' a w ex II) {d:Option Tmp} {K:St->Option R} (hk:EN g σ xs ex d K=some x) :
  Calls P f (xs.map a.eval++II).toArray w λe w'=>∃ rv,e=.returned rv/\Nx P C K x (a.put d rv) w'/\(y0 g.ps=true->Ext w w' (λ_ _=>0)):=by
 unfold EN at hk;split at hk
 all_goals grind [WT,acw]
theorem G8 {f:FuncId} {cap:Bool} (he:vW P f cap) (args:Array Value):(callFunc f args).run P w=.ok (.enter f args) w:=by
 obtain ⟨fn,h1,h2,h3,_⟩:=he
 have O7:fn.name ≠ "runtime.NumGoroutine" := by simpa using h2
 have S7:fn.body≠none:=by grind
 simp_all [callFunc]
theorem Rw (h:ey P C A σ a w F) {f:FuncId} {args:Array Operand} {ts:Array TypeId} (ho:o.op=.call { callee:=.value (.func f),args:=args,argTypes:=ts }) (bf:args.toList.all (ei P)=true) {g:uQ} (hs:Sound P f g) (he:vW P f false)
  {K:St->Option R} (hk:EN g σ args.toList [] o.dst K=some x):o.wp P a w (λa' w'=>Nx P C K x a' w'/\(y0 g.ps=true->Ext w w' (λ_ _=>0))) Q:=by
 have jL:(execOp a.eval o).run P w=.ok (.enter f (args.map a.eval)) w:=by
  have e:a.eval (.func f)=.func (.func f) #[] #[]:=rfl;grind [execOp,resolve,Deferred.ofValue,invoke,G8]
 unfold Oper.wp;rw[jL,Oper.upon_enter];have hc:=O6 h hs (ex:=[]) (II:=[]) bf (λ_ _ _=>trivial) hk;have:(args.toList.map a.eval++[]).toArray=args.map a.eval:=by grind
 rw[this] at hc;exact hc.mono λe w' ⟨rv,he,hn⟩=>by grind
theorem Rx (h:ey P C A σ a w F) {i:Tmp} {args:Array Operand} {ts:Array TypeId} (ho:o.op=.call { callee:=.value (.tmp i),args:=args,argTypes:=ts }) (bf:args.toList.all (ei P)=true) {f:FuncId} {n:Int} (mF:Ov (σ.get i)=some (f,n)) {g:uQ} (hs:Sound P f g) (he:vW P f g.cap)
  {K:St->Option R} (hk:EN g σ args.toList (match g.cap with | true=>[.cp (.int .i64) n] | false=>[]) o.dst K=some x):o.wp P a w (λa' w'=>Nx P C K x a' w'/\(y0 g.ps=true->Ext w w' (λ_ _=>0))) Q:=by
 have hi:i < σ.n:=by
  rcases cG i σ.n with hi | hi
  ·exact hi
  ·rw[mK (fO.2 hi)] at mF;cases mF
 have hsi:=h.jg i hi;unfold Ov at mF;split at mF;rotate_left
 ·cases mF
 rename_i v hg;injection mF with hv;subst hv;rw[hg] at hsi;obtain ⟨cs,h1,Bb,rfl,fn,h3,h4⟩:=hsi;have e:a.eval (.tmp i)=.func (.func f) #[] Bb:=h1
 have jL:(execOp a.eval o).run P w=.ok (.enter f (args.map a.eval++Bb)) w:=by
  grind [execOp,resolve,Deferred.ofValue,invoke,G8]
 unfold Oper.wp;rw[jL,Oper.upon_enter];obtain ⟨fn',f1,f2,f3,f4⟩:=he;rw[h3] at f1;injection f1 with f1;subst f1
 have hex:∃ II:List Value,(args.toList.map a.eval++II).toArray=args.map a.eval++Bb/\∀ (A':Cells) (σ':St),(∀ b i,A b i->A' b i)->xZ P A' σ' a w (match g.cap with | true=>[.cp (.int .i64) n] | false=>[]) II:=by
  rcases h4 with ⟨h4,rfl⟩ | ⟨h4,ad,rfl,h5,h6,h7⟩
  ·have:g.cap=false:=by grind
   rw[this];exact ⟨[],by grind,λ_ _ _=>trivial⟩
  ·have:g.cap=true:=by grind
   rw[this];refine ⟨[.pointer (some ad)],by grind,λA' σ' hA=>⟨.inl ⟨ad,rfl,h5,[.int .i64 n],rfl,(λj u hu=>?_),rfl⟩,trivial⟩⟩
   grind
 obtain ⟨II,aeJ,hex⟩:=hex;have hc:=O6 h hs bf hex hk;rw[aeJ] at hc;exact hc.mono λe w' ⟨rv,he,hn⟩=>by grind
end
end OT
