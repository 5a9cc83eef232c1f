/- The proof's parts, merged: Operations, first part.. No conditions but those that each states. -/
import Derived.Test.YtghckfpmmofmnaaGreatDa
import Derived.Laws.Slices
import Derived.Laws.Concat
import Derived.Laws.StructEq
import Derived.Laws.Cover3
import Derived.ChangeKeysEq
import Derived.Laws.MakeOwn
import Derived.Laws.IdiomStrings
import Derived.Laws.BytesArg
import Derived.Laws.Tables
import Derived.Great.BuildSlice
import Derived.Deep.AppendSrc
set_option linter.unusedVariables false
set_option linter.unusedSimpArgs false
namespace OT
open Go
section
variable {P:Program} {C:Ctx} {A:Cells} {X:FP} {σ:St} {a:Act} {w:World} {F:Nat->FP} {R:Type} {x:R} {Q:Exit->Act->World->Prop} {o:Oper} {E:Env}
def Nx (P:Program) (C:Ctx) {R:Type} (K:St->Option R) (x:R) (a:Act) (w:World):Prop:=∃ σ',K σ'=some x/\Gn P C σ' a w
abbrev ek (P:Program) (C:Ctx) (A:Cells) (σ:St) (a:Act) (w:World) (F:Nat->FP):Prop:=Rel P C A (λ_ _=>0) σ a w F
theorem pg {v:Value} {w':World} {next:Act->World->Prop} (lg:(execOp a.eval o).run P w=.ok (.value v) w') (hn:next (a.put o.dst v) w'):o.wp P a w next Q:=by
 unfold Oper.wp;rw[lg];exact hn
theorem Ou {w':World} {next:Act->World->Prop} (lg:(execOp a.eval o).run P w=.ok .skip w') (hd:o.dst=none) (hn:next a w'):o.wp P a w next Q:=by
 unfold Oper.wp;rw[lg,Oper.upon,hd];exact hn
def reads:Op->Bool
 | .load .. | .convert ..=>true
 | _=>false
def uZ (o:Oper) (w w':World):Prop:=reads o.op=true->Ext w w' (λ_ _=>0)
theorem uZ.ext {o:Oper} {w w':World} (h:uZ o w w') (hr:reads o.op=true):Ext w w' (λ_ _=>0):=h hr
def Tk (P:Program) (o:Oper) (a:Act) (w:World) (next:Act->World->Prop):Prop:=
 ∃ v,(∀ w',uZ o w w'->(execOp a.eval o).run P w'=.ok (.value v) w')/\next (a.put o.dst v) w
theorem iF {v:Value} {next:Act->World->Prop} (lg:∀ w',uZ o w w'->(execOp a.eval o).run P w'=.ok (.value v) w') (hn:next (a.put o.dst v) w):Tk P o a w next:=⟨v,lg,hn⟩
theorem Tk.wp {next:Act->World->Prop} (h:Tk P o a w next):o.wp P a w next Q:=by
 obtain ⟨v,h1,h2⟩:=h;exact pg (h1 w λ_=>Ext.refl _ _) h2
theorem yA {b i:Nat} {u:Value} (h:ce w b i=some u):b < w.heap.size:=by
 grind [ce,World.cell?]
theorem Has.ext {b o:Nat} {L:List Value} {w':World} (h:Has w b o L) (hw:Ext w w' (λ_ _=>0)):Has w' b o L:=λj u hu=>hw.cell b (o+j) (yA (h j u hu)) rfl u (h j u hu)
theorem qC (h:Rel P C A X σ a w F) {K:St->Option R} {d:Option Tmp} {s:Slot} {v:Value} {Fd:FP} (hk:K (σ.cq d s)=some x) (hs:dn P A σ a w v s Fd) (ht:∀ b i,Fd b i<=X b i)
  (ZX:∀ t m H v',s=.box t m H v'->∃ b,v=.pointer (some ⟨b,0,none⟩)/\jf w b (t.sz,false)):Nx P C K x (a.put d v) w:=by
 obtain ⟨F',hF⟩:=h.cq d (X':=λ_ _=>0) hs (λb i=>by grind) ZX;exact ⟨_,hk,A,F',hF⟩
theorem cx (h:Rel P C A X σ a w F) {K:St->Option R} {d:Option Tmp} {s:Slot} {v:Value} (hk:K (σ.cq d s)=some x) (hs:dn P A σ a w v s (λ_ _=>0))
  (hb:∀ t m H v',s≠.box t m H v'):Nx P C K x (a.put d v) w:=
 qC h hk hs (λ_ _=>aW _) (λt m H v' e=>absurd e (hb t m H v'))
theorem B5 (h:Rel P C A X σ a w F) {K:St->Option R} {d:Option Tmp} {t:Ty} {m:Md} {v:t.den} {cs:List Value} {Fd:FP} (hk:K (σ.cq d (laid t m v))=some x) (hr:au P w A t m [] v cs Fd) (ht:∀ b i,Fd b i<=X b i) :
  Nx P C K x (a.put d (dm t cs)) w:=
 qC h hk (HQ (σ:=σ) (a:=a) hr).1 ht (HQ (σ:=σ) (a:=a) hr).2
theorem ik {t:Nat} {K:Ty->Option R} (h:qQ E t K=some x):∃ T,E.TI t=some T/\K T=some x:=by
 grind [qQ]
theorem JW {s:Slot} {K:Bool->Option R} {tv:Value} {G:FP} (hs:dn P A σ a w tv s G) (h:JH s K=some x):∃ b,tv=.bool b/\K b=some x:=by
 unfold JH at h;split at h
 ·rename_i b;obtain ⟨cs,h1,h2⟩:=hs;simp only[Ro] at h2;subst h2;exact ⟨b,by rw[h1];rfl,h⟩
 ·cases h
theorem xX {s:Slot} {K:Int->Option R} {tv:Value} {G:FP} (hs:dn P A σ a w tv s G) (h:xH s K=some x):∃ k n,tv=.int k n/\K n=some x:=by
 unfold xH at h;split at h
 ·rename_i k n;obtain ⟨cs,h1,h2⟩:=hs;simp only[Ro] at h2;subst h2;exact ⟨k,_,by rw[h1];rfl,h⟩
 ·cases h
theorem Ey (h:Rel P C A X σ a w F) {r:Nat} {p:Path} {pl:Pl} (hp:place σ a w r p=some pl):sA σ a w (dm pl.t pl.cs) r p (wE σ r p pl.t):=by
 have h5:=h.mD r;refine ⟨?_,λ_=>⟨_,hp,rfl,?_⟩⟩
 ·unfold wE;split
  ·intro j y hj;grind
  ·intro j y hj;grind
  ·exact Below.refl _
 ·unfold wE;split
  ·rename_i e he;left;exact ⟨by rw[he];rfl,by grind⟩
  ·rename_i k v he;left;exact ⟨by rw[he];rfl,by grind⟩
  grind
theorem Mw (σ:St) (y:Operand) (t:Ty) (m:Md) (H:List Path) (v:t.den):eh σ y≠.box t m H v:=by
 intro e
 cases y with
 | tmp i=>grind [eh]
 | const v=>simp only[eh] at e;unfold Ah at e;grind
 | func f=>cases e
 | global g=>cases e
theorem V5 (h:ek P C A σ a w F) {y:Operand} (ho:o.op=.move y) (bd:d_ P y=true) {K:St->Option R} (hk:TE σ y o.dst K=some x):Tk P o a w (Nx P C K x):=by
 refine iF (v:=a.eval y) (by simp[execOp,ho]) ?_;unfold TE at hk;have hs:=gi h bd;split at hk
 ·rename_i xs i hx
  have hi:i < σ.n:=by
   grind [eh,mN]
  have hg:σ.get i=.sQ xs:=by
   grind [eh]
  have mF:=h.iZ i hi;rw[hg] at mF;have h2:=h.put hi (s:=.dead) (v:=tmp a i) (Fd:=λ_ _=>0) (X':=λb k=>F i b k) trivial (λb k=>by omega) (λt m H v e=>by cases e);rw[sB] at h2;refine qC h2 hk (Fd:=F i) ?_ (λb i=>aI _) (λt m H v e=>by cases e);obtain ⟨vs,Fi,h3,h4,h5⟩:=mF;exact ⟨vs,Fi,h3,h4,h5⟩
 all_goals grind [cx,Mw]
theorem V6 (h:ek P C A σ a w F) {c y z:Operand} (ho:o.op=.pick c y z) (bd:d_ P c=true/\d_ P y=true/\d_ P z=true) {K:St->Option R}
  (hk:(JH (eh σ c) λc=>match eh σ (bif c then y else z) with
   | .val .bool b=>K (σ.cq o.dst (.val .bool b))
   | _=>none)=some x):Tk P o a w (Nx P C K x):=by
 have hc:=gi h bd.1
 rcases hc with hc | ⟨xs,e⟩
 ·obtain ⟨b,hb,hk⟩:=JW hc hk
  have aey:∀ y':Operand,d_ P y'=true->(match eh σ y' with
   | .val .bool b=>K (σ.cq o.dst (.val .bool b))
   | _=>none)=some x->Nx P C K x (a.put o.dst (a.eval y')) w:=λy' hy hk=>by
   grind [gi,cx]
  cases b <;> simp_all [iF,execOp,asBool]
 ·rw[e] at hk;cases hk
theorem V7 (h:ek P C A σ a w F) (kY:∀ i T,E.TI i=some T->bn P T (.inl i)=true) {t:Nat} {y:Operand} (ho:o.op=.load t y) (bd:d_ P y=true) {K:St->Option R}
  {mv:Bool} (hk:Ej E σ t (eh σ y) mv o.dst K=some x):Tk P o a w (Nx P C K x):=by
 unfold Ej at hk;obtain ⟨T,hT,hk⟩:=ik hk;have jr:=kY _ _ hT
 have run:∀ b off L,a.eval y=.pointer (some ⟨b,off,none⟩)->Has w b off L->L.length=T.sz->(∀ u ∈ L,u.oneCell'=true)->∀ w',uZ o w w'->(execOp a.eval o).run P w'=.ok (.value (dm T L)) w':=λb off L hy hL hl rU w' ug=>by
  have ug:=ug (by rw[ho];rfl);simp[execOp,ho,hy,Instr.loadAt,Instr.sureAddr,zU jr (hL.ext ug) hl rU]
 rcases gi h bd with hs | ⟨xs,e⟩
 rotate_left
 ·grind
 split at hk
 ·rename_i t' v hv;rw[hv] at hs;split at hk
  ·rename_i e;subst e;obtain ⟨⟨b,off,sp⟩,h1,h2,L,h3,h4,h5⟩:=hs;simp only[dI,eF] at h1;simp only at h2;subst h2;exact iF (run b off L h1 (λj u hu=>(h4 j u hu).1) h3 (Ro.one _ h5)) (cx h hk ⟨L,rfl,h5⟩ (λ_ _ _ _ e=>by cases e))
  ·cases hk
 ·rename_i r p snap hv;rw[hv] at hs;split at hk
  ·rename_i pH;obtain ⟨hr,t',m',H',v',co,dr,F',h1,h2,h3,h4,h5,h6⟩:=lZ h hk;obtain ⟨pl,b,off,g1,g2,g3,g4⟩:=hs.2 pH;rw[h3] at g1;injection g1 with g1;subst g1;simp only at g2;subst g2;split at h1
   ·rename_i e;subst e;refine iF (run b off co g3 (h6 b off rfl) (au.length _ h4) (au.one _ h4)) ?_;split at h1
    ·rename_i hf;split at h1
     ·exact cx h h1 ⟨co,rfl,au.flat _ hf h4⟩ (λ_ _ _ _ e=>by cases e)
     ·cases h1
    ·split at h1
     ·rename_i hm;split at h1
      ·rename_i hH;have hH:=bC.1 hH;subst hH;subst hm
       cases mv with
       | false=>exact cx h h1 ⟨co,rfl,au.ro _ (iP _) h4⟩ (λ_ _ _ _ e=>by cases e)
       | true=>exact cx h h1 (Ey h h3) (λ_ _ _ _ e=>by cases e)
      ·cases h1
     ·cases mv with
      | false=>exact cx h h1 (Ey h h3) (λ_ _ _ _ e=>by cases e)
      | true=>
       simp only at h1;split at h1
       ·rename_i hH;have hH:=bC.1 hH;subst hH;obtain ⟨A2,mX,F2,d9,DW,Fv,k1,k2,k3,k4,k5,k6,k7⟩:=Ly h h1 ⟨h2⟩;rw[h3] at k6;simp only[aQ,Pl.mk.injEq,dN] at k6;obtain ⟨rfl,rfl⟩:=k6;have hl:=HQ (σ:=mX) (a:=a) (au.mono k2 (λ_ _ _ _ h=>h) (λ_ _ h=>h) _ k7 (λ_ _=>aI _) (λ_ _ _ _ h=>h));exact qC k3 k1 hl.1 (λb i=>by omega) hl.2
       ·cases h1
   ·cases h1
  ·cases hk
 ·cases hk
theorem TU (h:ek P C A σ a w F) (kY:∀ i T,E.TI i=some T->bn P T (.inl i)=true) {t:Nat} {y:Operand} (ho:o.op=.load t y) (bd:d_ P y=true) {K:St->Option R}
  {mv fr:Bool} (hk:JI E σ t y mv fr o.dst K=some x):Tk P o a w (Nx P C K x):=by
 unfold JI at hk;grind [V7,Aj]
theorem TV {b o b' i:Nat} {v u:Value} (lU:¬ (b=b'/\o=i)) (h:ce w b' i=some u):ce (w.setCell ⟨b,o,none⟩ v) b' i=some u:=by
 by_cases hb:b=b'
 ·subst hb
  cases hh:w.heap[b]? with
  | none=>grind [ce,World.cell?]
  | some ob=>
   cases ob <;> simp_all [World.setCell,fT,ce,World.cell?]
 grind [World.setCell,BM]
theorem pJ {b o:Nat}:∀ (L:List Value) (w:World) (o:Nat),Ext w (w.setCells b o L) (d8 b o L.length)
 | [],w,o=>Ext.refl _ _
 | v::L,w,o=>by
  have ih:=pJ (b:=b) (o:=o+1) L (w.setCell ⟨b,o,none⟩ v) (o+1)
  have h1:Ext w (w.setCell ⟨b,o,none⟩ v) (d8 b o (L.length+1)):=by
   refine ⟨by simp,λb' i hb hz u hu=>?_,λb' n hn=>?_,λb' i hb=>by simp,rfl,rfl,rfl,λb' hb hz=>?_,aI _⟩
   ·grind [TV,d8]
   ·obtain ⟨c,e,fr,h1,h2,h3⟩:=hn;by_cases Mx:b=b'
    ·subst Mx;exact ⟨c.setIfInBounds o v,e,fr,by grind [World.setCell],by simp[h2],h3⟩
    ·exact ⟨c,e,fr,by grind [World.setCell],h2,h3⟩
   ·have lU:b≠b':=λe=>by
     subst e;have:=hz o;grind [d8]
    grind [World.setCell]
  exact h1.trans ih λb' i hb hz=>by
   grind [d8]
theorem yB {w:World} {b o:Nat} {L:List Value} (h:∀ j,j < L.length->(w.cell? ⟨b,o+j,none⟩).isSome=true) (rU:∀ u ∈ L,u.oneCell'=true):Has (w.setCells b o L) b o L:=by
 intro j u hu;grind [HM,World.cell?_setCells_in]
theorem TW (h:ek P C A σ a w F) (kY:∀ i T,E.TI i=some T->bn P T (.inl i)=true) {t:Nat} {y z:Operand} (ho:o.op=.store t y z) (hd:o.dst=none) (bd:d_ P y=true/\d_ P z=true) {mv:Bool} {K:St->Option R}
  (hk:N2 E σ t (eh σ y) (eh σ z) mv K=some x):o.wp P a w (Nx P C K x) Q:=by
 unfold N2 at hk;obtain ⟨T,hT,hk⟩:=ik hk;have jr:=kY _ _ hT
 rcases gi h bd.1 with hs | ⟨xs,e⟩
 rotate_left
 ·grind
 split at hk
 ·rename_i r p snap hv;rw[hv] at hs;split at hk
  ·rename_i pH;split at hk
   ·obtain ⟨pl,b,off,g1,g2,g3,g4⟩:=hs.2 pH
    rcases gi h bd.2 with hz | ⟨xs,e⟩
    rotate_left
    ·grind [nw]
    obtain ⟨A',σ',F',m,v,cs,Fv,k1,k2,k3,k4,kr,k5,k6⟩:=vB h hz hk;obtain ⟨hr,m2,H2,v2,d9,DW,F2,q1,q2,q3,q4,q5,q6⟩:=DV k3 k1
    have i7:DW=some (b,off):=by
     unfold place at g1 q2
     cases hR:ei w (tmp a r) (σ'.get r) with
     | none=>grind
     | some R1=>
      rw[hR] at q2;obtain ⟨H0,A4⟩:=kr w (tmp a r) r R1 hR;rw[A4] at g1;have:=(acI p R1.t g1 q2).2.2;grind
    subst i7;obtain ⟨w_,oh⟩:=q5 b off rfl;have hl:=au.length _ k6;have zp:=au.length _ q3;have rU:=au.one _ k6;have acP:=au.one _ q3
    have Ov:∀ j,j < cs.length->(w.cell? ⟨b,off+j,none⟩).isSome=true:=λj hj=>by
     rw[vK (w_ j _ (aB Bys)) (acP _ (aN _))];rfl
    have dt:=run_storeCells_cells (P:=P) b off cs 0 w (by simpa using Ov) (λj hj=>by grind) rU;have hcv:(dm T cs).cells.toList=cs:=lV hl rU;have ol:(dm T cs).cells.size=T.sz:=by grind
    have lg:(execOp a.eval o).run P w=.ok .skip (w.setCells b off cs):=by
     simp[execOp,ho,g3,k5,Instr.storeAt,Instr.sureAddr,storeVar,run_sizeOf jr,ol,hcv,dt]
    refine Ou lg hd ?_
    have ja:au P (w.setCells b off cs) A' T m [] v cs Fv:=by
     refine au.mono (λ_ _ h=>h) (λb' i ha u hu=>?_) (pJ (b:=b) (o:=off) cs w off).xT _ k6 (λ_ _=>aI _) (λb' i hp u hu=>?_)
     ·refine (pJ (b:=b) (o:=off) cs w off).cell b' i (k3.ld b' i (.inr ha)) ?_ u hu;have h1:=q4 b' i;have h2:=dy F' hr b' i
      rcases bI (lC (some (b,off)) T.sz b' i) with h0 | h0
      ·rw[hl];exact h0
      ·exact absurd ha (k3.qS b' i Bys)
     ·have h1:=q4 b' i;have h2:=dy F' hr b' i;have h3:=k3.qe b' i
      refine (pJ (b:=b) (o:=off) cs w off).cell b' i (k3.ld b' i (.inl Bys)) ?_ u hu;grind [lC]
    have f_:Ext w (w.setCells b off cs) (λb' i=>(0+Fv b' i)+(F2 b' i+lC (some (b,off)) T.sz b' i)):=(pJ (b:=b) (o:=off) cs w off).mono λb' i hz=>by
     grind [lC]
    obtain ⟨A3,CV,Fr,n1,n2,n3,_⟩:=q6 (w.setCells b off cs) A' cs Fv (λ_ _=>0) f_ (λ_ _ h=>h) (λ_ _ h=>.inl h) (λb i=>by omega) (λb' o' e=>by
      grind [yB]) (λe=>by cases e) ja
    exact ⟨CV,n1,A3,_,n3⟩
   ·cases hk
  ·cases hk
 ·cases hk
end
end OT
namespace OT
open Go
section
variable {P:Program} {w:World} {A:Cells}
theorem TX:∀ (p q:Path) (t:Ty) {H:List Path} {cs:List Value} {ad:Option (Nat×Nat)},cb w (p++q) t H cs ad=(cb w p t H cs ad).bind λpl=>cb w q pl.t pl.H pl.cs pl.ad:=by
 intro p
 induction p with
 | nil=>intro q t H cs ad;rfl
 | cons s p ih=>
  intro q t H cs ad
  cases t with
  | pair a b=>
   cases s <;> grind [cb]
  | aa e=>
   cases s with
   | idx i=>
    simp only[dA,cb];split
    ·rfl
    ·split
     all_goals grind
   | _=>simp[cb]
  | arr n e=>
   cases s <;> grind [cb]
  | _=>grind [cb]
theorem I0:∀ (p:Path) (t:Ty) {H:List Path} {cs:List Value} {ad:Option (Nat×Nat)} {pl:Pl},cb w p t H cs ad=some pl->Dp p t=some pl.t:=by
 intro p
 induction p with
 | nil=>intro t H cs ad pl h;simp only[cb,aQ] at h;subst h;rfl
 | cons s p ih=>
  intro t H cs ad pl h
  cases t with
  | pair a b=>
   cases s with
   | fst=>simp only[cb] at h;split at h;cases h;exact ih a h
   | snd=>simp only[cb] at h;split at h;cases h;exact ih b h
   | _=>simp[cb] at h
  | aa e=>
   cases s with
   | idx i=>
    simp only[cb] at h;split at h
    ·cases h
    ·split at h
     ·split at h
      ·exact ih e h
      ·cases h
     ·cases h
   | _=>simp[cb] at h
  | arr n e=>
   cases s with
   | rO i=>
    simp only[cb] at h;split at h
    ·split at h
     ·exact ih e h
     ·cases h
    ·cases h
   | _=>simp[cb] at h
  | _=>grind [cb]
theorem aaz:∀ (q:Path) (t:Ty) {m:Md} {H:List Path} {v:t.den} {cs:List Value} {F:FP} {ad:Option (Nat×Nat)} {pl:Pl},au P w A t m H v cs F->cb w q t H cs ad=some pl ->
  ∃ (m':Md) (v':pl.t.den) (F':FP),au P w A pl.t m' pl.H v' pl.cs F':=by
 intro q
 induction q with
 | nil=>grind [cb]
 | cons s q ih=>
  intro t m H v cs F ad pl hr h
  cases t with
  | pair a b=>
   obtain ⟨h0,F1,F2,hs,h1,h2⟩:=hr;cases s <;> grind [cb]
  | aa e=>
   cases s with
   | idx i=>
    simp only[au] at hr;simp only[cb] at h;split at h
    ·cases h
    ·rename_i hh;rw[aV hh] at hr;split at hr
     ·obtain ⟨a,cap,rfl,h2,h3,h4,h5⟩:=hr
      cases a with
      | none=>cases h
      | some iy=>
       obtain ⟨g1,g2,g3,Fi,g4,g5⟩:=h5 iy rfl;simp only at h;split at h
       ·rename_i hi;obtain ⟨L,hl,hL,ja⟩:=g5 i _ (aB hi);rw[g1,bQ,fy hL hl] at h;grind
       ·cases h
     ·obtain ⟨rfl,rP,a,cap,rfl,h2,h3,h4⟩:=hr
      cases a with
      | none=>cases h
      | some iy=>
       simp only at h;split at h
       ·rename_i hi;obtain ⟨L,hl,hL,ja⟩:=(h4 iy rfl).2 i _ (aB hi);rw[fy (λj u hu=>(hL j u hu).1) hl] at h;exact ih e (Ro.rep e (λ_ _=>0) rP ja) h
       ·cases h
   | _=>simp[cb] at h
  | arr n e=>
   cases s with
   | rO i=>
    obtain ⟨rfl,hf,hl,hlen,hr⟩:=hr;simp only[cb,cJ,aH] at h;split at h
    ·rename_i hi;exact ih e (Ro.flat e (m:=.leaf) (λ_ _=>0) hf (hr i _ (aB (by grind)))) h
    ·cases h
   | _=>simp[cb] at h
  | _=>grind [cb]
def kI:Nat->Ty->Nat
 | j+1,.pair a b=>a.sz+kI j b
 | _,_=>0
theorem QR (ad:Option (Nat×Nat)):iQ ad 0=ad:=by simp_all [iQ]
theorem TY (ad:Option (Nat×Nat)) (j k:Nat):iQ (iQ ad j) k=iQ ad (j+k):=by cases ad <;> simp[iQ,cM]
theorem Sq:∀ (j:Nat) (S:Ty) {t':Ty} {m:Md} {H:List Path} {v:S.den} {cs:List Value} {F:FP} {ad:Option (Nat×Nat)},au P w A S m H v cs F->vW j S=some t' ->
  ∃ H',cb w (o4 j) S H cs ad=some ⟨t',H',(cs.drop (kI j S)).take t'.sz,iQ ad (kI j S)⟩:=by
 intro j
 induction j with
 | zero=>
  intro S t' m H v cs F ad hr h
  cases S with
  | pair a b=>
   injection h with h;subst h;obtain ⟨h0,F1,F2,hs,h1,h2⟩:=hr;simp_all [o4,cb,kI,QR]
  | _=>cases h
 | succ j ih=>
  intro S t' m H v cs F ad hr h
  cases S with
  | pair a b=>
   obtain ⟨h0,F1,F2,hs,h1,h2⟩:=hr;obtain ⟨H',e⟩:=ih b (ad:=iQ ad a.sz) h2 h;grind [o4,cb,kI,List.drop_drop,TY]
  | _=>cases h
theorem Yh:∀ (j:Nat) (T:Ty) {t:Ty},Dp (o4 j) T=some t->∃ t2,vW j T=some t2:=by
 intro j
 induction j with
 | zero=>intro T t h;cases T <;> first | exact ⟨_,rfl⟩ | grind [o4,Dp]
 | succ j ih=>intro T t h;cases T <;> first | (simp[o4,Dp] at h;done) | exact ih _ (by simpa [o4,Dp] using h)
theorem Sr:∀ (j:Nat) (S:Ty) {t':Ty} {fs:List Field} {off:Nat},bn P S (.inr (fs,off))=true->vW j S=some t' ->
  ∃ f,fs[j]?=some f/\f.offset=off+kI j S/\bn P t' (.inl f.type)=true/\1<=t'.sz:=by
 intro j
 induction j with
 | zero=>
  intro S t' fs off hl h
  cases S with
  | pair a b=>
   injection h with h;subst h;cases fs <;> simp_all [bn,kI]
  | _=>cases h
 | succ j ih=>
  intro S t' fs off hl h
  cases S with
  | pair a b=>
   cases fs with
   | nil=>simp[bn] at hl
   | cons f r=>
    simp only[bn,aD,eI,dK] at hl;obtain ⟨f',h1,h2,h3⟩:=ih b hl.2 h;grind [kI]
  | _=>cases h
theorem JX {j:Nat} {S t':Ty} {i:TypeId} (hl:bn P S (.inl i)=true) (h:vW j S=some t') :
  ∃ fs f,P.underlying i=some (.struct fs)/\fs[j]?=some f/\f.offset=kI j S/\bn P t' (.inl f.type)=true/\1<=t'.sz:=by
 cases S with
 | pair a b=>
  simp only[bn,aD] at hl;have h2:=hl.2;split at h2
  ·rename_i fs hu;split at h2
   ·rename_i f r JY
    have h3:bn P (.pair a b) (.inr (f::r,0))=true:=by
     grind [bn]
    grind [Sr]
   ·cases h2
  ·cases h2
 | _=>cases j <;> cases h
theorem wh {t:Ty} {i:TypeId} (h:bn P t (.inl i)=true) {cs:Array Value} {off:Nat} (hl:((cs.toList.drop off).take t.sz).length=t.sz):(part i cs off).run P w=.ok (dm t ((cs.toList.drop off).take t.sz)) w:=by
 unfold part;simp only[Sem.run_bind,Gp h,Result.andThen_ok]
 cases ht:isAgg t with
 | true=>
  simp only[aH,Sem.run_bind,run_sizeOf h,Result.andThen_ok,Sem.run_pure,dm,ht];congr 2;grind
 | false=>
  simp_all [Ot,List.take_one,dm]
end
section
variable {P:Program} {C:Ctx} {A:Cells} {X:FP} {σ:St} {a:Act} {w:World} {F:Nat->FP} {R:Type} {x:R} {Q:Exit->Act->World->Prop} {o:Oper} {E:Env}
theorem My (h:Rel P C A X σ a w F) {r:Nat} {p:Path} {pl:Pl} (hp:place σ a w r p=some pl):∃ (m':Md) (v':pl.t.den) (F':FP),au P w A pl.t m' pl.H v' pl.cs F':=by
 have a8:=uY hp;unfold place at hp
 cases hR:ei w (tmp a r) (σ.get r) with
 | none=>grind
 | some R0=>
  rw[hR] at hp;obtain ⟨m0,v0,F1,q1,q2,q3,_⟩:=yq (h.iZ r a8) hR;grind [aaz]
theorem uD (r:Nat) (p q:Path):place σ a w r (p++q)=(place σ a w r p).bind λpl=>cb w q pl.t pl.H pl.cs pl.ad:=by
 unfold place;cases ei w (tmp a r) (σ.get r) <;> grind [TX]
theorem JZ {r:Nat} {p:Path} {pl:Pl} (hp:place σ a w r p=some pl):IT σ r p=some pl.t:=by
 unfold place at hp;unfold IT N1
 cases hg:σ.get r with
 | own t m H v=>grind [ei,I0]
 | box t m H v=>
  rw[hg] at hp;simp only[ei] at hp;grind [I0]
 | _=>grind [ei]
theorem Yi (p:Path) (j:Nat):ej (p++o4 j)=ej p:=by
 induction p with
 | nil=>induction j <;> grind [o4,ej]
 | cons s p ih=>cases s <;> simp only[dA,ej,ih]
theorem Mz {A':Cells}:∀ (j:Nat) (S:Ty) {v:S.den} {K:(t':Ty)->t'.den->Option R} {cs:List Value},TB j S v K=some x->Ro P w A' S v cs ->
  ∃ t' v',vW j S=some t'/\K t' v'=some x/\Ro P w A' t' v' ((cs.drop (kI j S)).take t'.sz):=by
 intro j
 induction j with
 | zero=>
  intro S v K cs h hr
  cases S with
  | pair a b=>exact ⟨a,v.1,rfl,h,by simp only[kI,dM];exact hr.1⟩
  | _=>cases h
 | succ j ih=>
  intro S v K cs h hr
  cases S with
  | pair a b=>
   obtain ⟨t',v',h1,h2,h3⟩:=ih b (v:=v.2) h hr.2;exact ⟨t',v',h1,h2,by grind [kI,List.drop_drop]⟩
  | _=>cases h
theorem No (h:ek P C A σ a w F) {y:Operand} (ho:o.op=.nilCheck y) (bd:d_ P y=true) {K:St->Option R}
  (hk:(match eh σ y with
  | .ptr r p snap=>if σ.ok r snap then K (σ.cq o.dst (.ptr r p snap)) else none
  | .cp t v=>K (σ.cq o.dst (.cp t v))
  | .val .fn f=>K (σ.cq o.dst (.val .fn f))
  | _=>none)=some x):Tk P o a w (Nx P C K x):=by
 rcases gi h bd with hs | ⟨xs,e⟩
 rotate_left
 ·grind
 split at hk
 ·rename_i r p snap hv;rw[hv] at hs;split at hk
  ·rename_i pH;obtain ⟨pl,b,off,g1,g2,g3,g4⟩:=hs.2 pH;exact iF (v:=a.eval y) (by simp[execOp,ho,g3]) (cx h hk hs (λ_ _ _ _ e=>by cases e))
  ·cases hk
 ·rename_i t v hv;rw[hv] at hs;obtain ⟨ad,h1,_⟩:=id hs;simp only[dI,eF] at h1;exact iF (v:=a.eval y) (by simp[execOp,ho,h1]) (cx h hk hs (λ_ _ _ _ e=>by cases e))
 ·rename_i f hv;rw[hv] at hs;obtain ⟨cs,h1,AJ,h2,_⟩:=id hs;subst h2;exact iF (v:=a.eval y) (by simp[execOp,ho,h1,dm,isAgg]) (cx h hk hs (λ_ _ _ _ e=>by cases e))
 ·cases hk
theorem LB (h:ek P C A σ a w F) (kY:∀ i T,E.TI i=some T->bn P T (.inl i)=true) {S:Nat} {y:Operand} {j:Nat} (ho:o.op=.fieldAddr S y j) (bd:d_ P y=true) {K:St->Option R}
  (hk:Ek E σ S (eh σ y) j o.dst K=some x):Tk P o a w (Nx P C K x):=by
 unfold Ek at hk;obtain ⟨T,hT,hk⟩:=ik hk;have jr:=kY _ _ hT
 have run:∀ t' b off,vW j T=some t'->a.eval y=.pointer (some ⟨b,off,none⟩)->∀ w',uZ o w w'->(execOp a.eval o).run P w'=.ok (.value (.pointer (some ⟨b,off+kI j T,none⟩))) w':=λt' b off ht hy w' _=>by
  obtain ⟨fs,f,h1,h2,h3,h4,h5⟩:=JX jr ht;have ol:=run_sizeOf (P:=P) (w:=w') h4;have lU:¬ t'.sz=0:=by omega
  simp_all [execOp,Instr.fieldAt,Instr.sureAddr,run_underlying,fieldPlace,rC]
 rcases gi h bd with hs | ⟨xs,e⟩
 rotate_left
 ·grind
 split at hk
 ·rename_i t' v hv;rw[hv] at hs;split at hk
  ·rename_i e;subst e;obtain ⟨⟨b,off,sp⟩,h1,h2,L,h3,h4,h5⟩:=hs;simp only[dI,eF] at h1;simp only at h2;subst h2;obtain ⟨t2,v2,q1,q2,q3⟩:=Mz j t' hk h5;refine iF (run t2 b off q1 h1) (cx h q2 ⟨_,rfl,rfl,_,Ro.length _ q3,λk u hu=>?_,q3⟩ (λ_ _ _ _ e=>by cases e));grind
  ·cases hk
 ·rename_i r p snap hv;rw[hv] at hs;split at hk
  ·rename_i pH;split at hk
   ·rename_i B6;split at hk
    ·rename_i hf;obtain ⟨pl,b,off,g1,g2,g3,g4⟩:=hs.2 pH;rw[JZ g1] at B6;injection B6 with B6;obtain ⟨t',FM⟩:=dZ.1 hf;refine iF (run t' b off FM g3) (cx h hk ⟨hs.1,λ_=>?_⟩ (λ_ _ _ _ e=>by cases e));obtain ⟨m',v',F',ja⟩:=My h g1;obtain ⟨tp,Hp,csp,Z6⟩:=pl;simp only at B6 g2 ja;subst B6;obtain ⟨H',e⟩:=Sq (ad:=Z6) j tp ja FM;grind [iQ,Yi,uD]
    ·cases hk
   ·cases hk
  ·cases hk
 ·cases hk
theorem TZ (h:ek P C A σ a w F) (kY:∀ i T,E.TI i=some T->bn P T (.inl i)=true) {S:Nat} {y:Operand} {j:Nat} (ho:o.op=.field S y j) (bd:d_ P y=true) {K:St->Option R}
  (hk:Ln E σ S (eh σ y) j o.dst K=some x):Tk P o a w (Nx P C K x):=by
 unfold Ln at hk;obtain ⟨T,hT,hk⟩:=ik hk;have jr:=kY _ _ hT
 have run:∀ t' cs,vW j T=some t'->a.eval y=dm T cs->((cs.drop (kI j T)).take t'.sz).length=t'.sz->∀ w',uZ o w w'->(execOp a.eval o).run P w'=.ok (.value (dm t' ((cs.drop (kI j T)).take t'.sz))) w':=λt' cs ht hy hl w' _=>by
  obtain ⟨fs,f,h1,h2,h3,h4,h5⟩:=JX jr ht
  have aeM:dm T cs=.agg cs.toArray:=by cases T <;> first | rfl | (cases j <;> cases ht)
  have:=wh (P:=P) (w:=w') h4 (cs:=cs.toArray) (off:=kI j T) (by simpa using hl);simp_all [execOp,Instr.field,run_underlying,asAgg]
 rcases gi h bd with hs | ⟨xs,e⟩
 rotate_left
 ·grind
 split at hk
 ·rename_i t' v hv;rw[hv] at hs;split at hk
  ·rename_i e;subst e;obtain ⟨cs,h1,h2⟩:=hs;obtain ⟨t2,v2,q1,q2,q3⟩:=Mz j t' hk h2;exact iF (run t2 cs q1 h1 (Ro.length _ q3)) (cx h q2 ⟨_,rfl,q3⟩ (λ_ _ _ _ e=>by cases e))
  ·cases hk
 ·rename_i r p snap hv;rw[hv] at hs;split at hk
  ·rename_i pH;split at hk
   ·rename_i B6;obtain ⟨hr,t',m',H',v',co,dr,F',h1,h2,h3,h4,h5,h6⟩:=lZ h hk;obtain ⟨pl,g1,g2,g3⟩:=hs.2 pH;rw[JZ g1] at B6;injection B6 with B6;obtain ⟨m0,v0,F0,ja⟩:=My h g1;obtain ⟨tp,Hp,csp,Z6⟩:=pl;simp only at B6 g2 ja;subst B6
    have hf:∃ t2,vW j tp=some t2:=by
     have h7:=h3;rw[uD,g1] at h7;exact Yh j tp (I0 _ _ h7)
    obtain ⟨t2,ht2⟩:=hf;obtain ⟨H2,e⟩:=Sq (ad:=Z6) j tp ja ht2;have i7:place σ a w r (p++o4 j)=some ⟨t2,H2,(csp.drop (kI j tp)).take t2.sz,iQ Z6 (kI j tp)⟩:=by grind [uD]
    rw[i7] at h3;injection h3 with h3;simp only[Pl.mk.injEq] at h3;obtain ⟨rfl,rfl,rfl,rfl⟩:=h3;refine iF (run t2 csp ht2 g2 (au.length _ h4)) ?_;split at h1
    ·rename_i hc;split at h1
     ·rename_i hH;have hH:=bC.1 hH;subst hH;refine cx h h1 ⟨_,rfl,?_⟩ (λ_ _ _ _ e=>by cases e);grind [au.flat,au.ro,iP]
     ·cases h1
    ·exact cx h h1 (Ey h i7) (λ_ _ _ _ e=>by cases e)
   ·cases hk
  ·cases hk
 ·cases hk
end
end OT
namespace OT
open Go
section
variable {P:Program} {C:Ctx} {A:Cells} {X:FP} {σ:St} {a:Act} {w:World} {F:Nat->FP} {R:Type} {x:R} {Q:Exit->Act->World->Prop} {o:Oper} {E:Env}
theorem I1 {n:Int} {len:Nat} {K:Nat->Option R} (h:VM n len K=some x):0<=n/\n < (len:Int)/\K n.toNat=some x:=by
 grind [VM]
theorem bind_some {α:Type} {o:Option α} {K:α->Option R} (h:o.bind K=some x):∃ y,o=some y/\K y=some x:=by
 cases o <;> grind
theorem vL {e:Ty} {i:TypeId} (h:bn P (.aa e) (.inl i)=true):∃ el,P.underlying i=some (.slice el)/\1<=e.sz/\bn P e (.inl el)=true:=by
 grind [bn,Nat.ble_eq]
theorem Ss {n:Nat} {e:Ty} {i:TypeId} (h:bn P (.arr n e) (.inl i)=true):∃ el,P.underlying i=some (.array n el)/\1<=e.sz/\bn P e (.inl el)=true:=by
 grind [bn,Nat.ble_eq,Nat.beq_eq]
theorem nA {i:TypeId} (h:bn P .str (.inl i)=true):P.underlying i=some .string:=by
 grind [bn]
theorem rn {k:IntKind} {i:TypeId} (h:bn P (.int k) (.inl i)=true):P.underlying i=some (.int k):=by
 grind [bn]
theorem QS (p q:Path):ej (p++q)=ej p+ej q:=by
 induction p with
 | nil=>simp[ej]
 | cons s p ih=>cases s <;> simp only[dA,ej,ih] <;> omega
theorem J0 (h:Rel P C A X σ a w F) {r:Nat} {p:Path} {pl:Pl} {b off:Nat} (hp:place σ a w r p=some pl) (lN:pl.ad=some (b,off)):DU σ a w (.pointer (some ⟨b,off,none⟩)) r p (xS σ r p):=by
 have h5:=h.mD r;refine ⟨?_,λ_=>⟨pl,b,off,hp,lN,rfl,by grind [xS]⟩⟩
 unfold xS;intro j y hj;grind
theorem LC (h:ek P C A σ a w F) (kY:∀ i T,E.TI i=some T->bn P T (.inl i)=true) {t:Nat} {y z:Operand} (ho:o.op=.indexAddr t y z) (bd:d_ P y=true/\d_ P z=true) {K:St->Option R}
  (hk:El E σ t (eh σ y) (eh σ z) o.dst K=some x):Tk P o a w (Nx P C K x):=by
 unfold El at hk;obtain ⟨T,hT,hk⟩:=ik hk;have jr:=kY _ _ hT
 rcases gi h bd.2 with hz | ⟨xs,e⟩
 rotate_left
 ·rw[e] at hk;cases hk
 obtain ⟨kz,n,Su,hk⟩:=xX hz hk
 have Gq:∀ e ad len cap,T=.aa e->a.eval y=.slice (some ad) len cap->ad.spot=none->0<=n->n < (len:Int)->∀ w',uZ o w w'->(execOp a.eval o).run P w'=.ok (.value (.pointer (some ⟨ad.block,ad.off+n.toNat*e.sz,none⟩))) w':=λe ad len cap sU hy qz h0 h1 w' _=>by
  subst sU;obtain ⟨el,hu,_,hle⟩:=vL jr;obtain ⟨b,off,sp⟩:=ad;simp only at qz;subst qz;have ol:=run_sizeOf (P:=P) (w:=w') hle;simp[execOp,ho,hy,Su,Instr.indexAt,asIntOf,run_underlying hu,h0,h1,ol,rC]
 have abR:∀ m e b off,T=.arr m e->a.eval y=.pointer (some ⟨b,off,none⟩)->0<=n->n < (m:Int)->∀ w',uZ o w w'->(execOp a.eval o).run P w'=.ok (.value (.pointer (some ⟨b,off+n.toNat*e.sz,none⟩))) w':=λm e b off sU hy h0 h1 w' _=>by
  subst sU;obtain ⟨el,hu,_,hle⟩:=Ss jr;have ol:=run_sizeOf (P:=P) (w:=w') hle;simp[execOp,ho,hy,Su,Instr.indexAt,asIntOf,run_underlying hu,h0,h1,ol,rC,Instr.sureAddr]
 have roS:∀ (e:Ty) (v:List e.den) (tv:Value) (yv:e.den),T=.aa e->a.eval y=tv->Ro P w A (.aa e) v [tv]->0<=n->v[n.toNat]?=some yv->K (σ.cq o.dst (.cp e yv))=some x->Tk P o a w (Nx P C K x):=λe v tv yv sU hy yz h0 Gr hk=>by
  obtain ⟨xa,cap,h1,h2,h3,h4⟩:=yz;simp only[dI,eF] at h1;subst h1;have a8:=(aP.1 Gr).1
  cases xa with
  | none=>grind
  | some ad=>
   obtain ⟨g1,g2⟩:=h4 ad rfl;obtain ⟨L,l1,l2,l3⟩:=g2 _ _ Gr;exact iF (Gq e ad _ cap sU hy (g1 Bys) h0 Bys) (cx h hk ⟨_,rfl,rfl,L,l1,l2,l3⟩ (λ_ _ _ _ e=>by cases e))
 rcases gi h bd.1 with hs | ⟨xs,e⟩
 rotate_left
 ·grind
 split at hk
 ·rename_i e v hv;rw[hv] at hs;split at hk
  ·rename_i sU;split at hk
   ·rename_i h0;obtain ⟨yv,Gr,hk⟩:=bind_some hk;obtain ⟨cs,h1,h2⟩:=hs;have hl:=Ro.length _ h2
    match cs,hl with
    | [tv],_=>exact roS e v tv yv sU (by rw[h1,eo _ _ rfl]) h2 h0 Gr hk
   ·cases hk
  ·cases hk
 ·rename_i m e v hv;rw[hv] at hs;split at hk
  ·rename_i sU;split at hk
   ·rename_i h0;obtain ⟨yv,Gr,hk⟩:=bind_some hk;obtain ⟨⟨b,off,sp⟩,h1,h2,L,h3,h4,h5⟩:=hs;simp only[dI,eF] at h1;simp only at h2;subst h2;obtain ⟨q1,q2,q3,q4⟩:=h5;have a8:n.toNat < m:=q2 ▸ (aP.1 Gr).1;have yz:=q4 _ _ Gr;refine iF (abR m e b off sU h1 h0 Bys) (cx h hk ⟨_,rfl,rfl,_,Ro.length _ yz,λk u hu=>?_,yz⟩ (λ_ _ _ _ e=>by cases e));grind
   ·cases hk
  ·cases hk
 ·rename_i r p snap hv;rw[hv] at hs;split at hk
  ·rename_i pH;obtain ⟨hr,t',m',H',v',co,dr,F',h1,h2,h3,h4,h5,h6⟩:=lZ h hk;obtain ⟨pl,g1,g2,g3⟩:=hs.2 pH;rw[h3] at g1;injection g1 with g1;subst g1;simp only at g2;split at h1
   ·cases h1
   ·rename_i hH;have hH:hole H'=false:=fA.2 hH;split at h1
    ·rename_i sU;split at h1
     ·rename_i e Sv;have hl:=au.length _ h4;split at h1
      ·rename_i jz;obtain ⟨i0,i1,h1⟩:=I1 h1;have ja:=h4;simp only[au,hH,aF,aS,jz,aH] at ja;obtain ⟨xa,cap,rfl,q2,q3,q4,q5⟩:=ja
       cases xa with
       | none=>grind
       | some iy=>
        obtain ⟨r1,r2,r3,Fi,r4,r5⟩:=q5 iy rfl;rw[eo _ _ rfl] at g2;have a8:n.toNat < List.length Sv:=by omega
        refine iF (Gq e iy _ cap sU.symm g2 r2 i0 i1) (cx h h1 (J0 (pl:=⟨e,H'.filterMap (lc n.toNat),rd w iy.block (iy.off+n.toNat*e.sz) e.sz,some (iy.block,iy.off+n.toNat*e.sz)⟩) h ?_ rfl) (λ_ _ _ _ e=>by cases e));grind [uD,cb]
      ·rename_i jz;split at h1
       ·rename_i h0;obtain ⟨yv,Gr,h1⟩:=bind_some h1;have ja:=h4;simp only[au,hH,aF,aS,jz] at ja
        match co,hl with
        | [tv],_=>
         rw[eo _ _ rfl] at g2;grind
       ·cases h1
     ·cases h1
    ·cases h1
  ·cases hk
 ·rename_i r p snap lo hi hv;rw[hv] at hs;split at hk
  ·rename_i pH;obtain ⟨hr,t',m',H',v',co,dr,F',h1,h2,h3,h4,h5,h6⟩:=lZ h hk;obtain ⟨pl,e,xa,len,cap,xk,cap',g1,g2,g3,g4,g5,g6,g7,Sn,g8,g9,g10⟩:=hs.2 pH;rw[h3] at g1;injection g1 with g1;subst g1;simp only at g2 g3;subst g2;subst g3;split at h1
   ·cases h1
   ·rename_i hH;have hH:hole H'=false:=fA.2 hH;split at h1
    ·rename_i sU;obtain ⟨i0,i1,h1⟩:=I1 h1
     have BV:∃ iy,xa=some iy/\iy.spot=none:=by
      simp only[au,hH,aF,aS] at h4
      cases xa with
      | none=>
       split at h4
       ·grind
       ·obtain ⟨_,_,xa2,LD,q1,q2,q3,_⟩:=h4;grind
      | some iy=>
       refine ⟨iy,rfl,?_⟩
       split at h4
       ·grind
       ·obtain ⟨_,_,xa2,LD,q1,q2,q3,q4⟩:=h4;grind
     obtain ⟨iy,rfl,qz⟩:=BV;obtain ⟨Ic,e1,e2,e3,e4⟩:=g9 iy rfl;subst e1;have e4:=e4 Bys;refine iF (Gq e Ic _ cap' sU.symm g6 (e2.trans qz) i0 i1) ?_
     have Ow:(⟨Ic.block,Ic.off+n.toNat*e.sz,none⟩:Addr)=⟨iy.block,iy.off+(lo+n.toNat)*e.sz,none⟩:=by
      grind
     rw[Ow];have a8:lo+n.toNat < len:=by omega
     refine cx h h1 (J0 (pl:=⟨e,H'.filterMap (lc (lo+n.toNat)),rd w iy.block (iy.off+(lo+n.toNat)*e.sz) e.sz,some (iy.block,iy.off+(lo+n.toNat)*e.sz)⟩) h ?_ rfl) (λ_ _ _ _ e=>by cases e);grind [uD,cb]
    ·cases h1
  ·cases hk
 ·rename_i r p snap hv;rw[hv] at hs;split at hk
  ·rename_i pH;obtain ⟨hr,t',m',H',v',co,dr,F',h1,h2,h3,h4,h5,h6⟩:=lZ h hk;obtain ⟨pl,b,off,g1,g2,g3,g4⟩:=hs.2 pH;rw[h3] at g1;injection g1 with g1;subst g1;simp only at g2;subst g2;split at h1
   ·rename_i sU;split at h1
    ·rename_i m e Sv;obtain ⟨i0,i1,h1⟩:=I1 h1;obtain ⟨hH,hf,hl,hlen,yz⟩:=h4;subst hH;have a8:n.toNat < m:=by omega
     refine iF (abR m e b off sU.symm g3 i0 Bys) (cx h h1 ⟨hs.1,λ_=>⟨⟨e,[],(co.drop (n.toNat*e.sz)).take e.sz,some (b,off+n.toNat*e.sz)⟩,b,off+n.toNat*e.sz,?_,rfl,rfl,?_⟩⟩ (λ_ _ _ _ e=>by cases e))
     ·grind [uD,cb,iQ]
     ·rw[QS];exact g4
    ·cases h1
   ·cases h1
  ·cases hk
 ·cases hk
end
end OT
namespace OT
open Go
section
variable {P:Program} {C:Ctx} {A:Cells} {X:FP} {σ:St} {a:Act} {w:World} {F:Nat->FP} {R:Type} {x:R} {Q:Exit->Act->World->Prop} {o:Oper} {E:Env}
theorem V8 (s:List UInt8) (n:Nat):(⟨s.toArray⟩:ByteArray)[n]?=s[n]?:=by
 by_cases h:n < s.length
 ·have h1:n < (⟨s.toArray⟩:ByteArray).size:=by simpa [ByteArray.size] using h
  rw[getElem?_pos _ n h1,aB h];rfl
 grind [ByteArray.size]
theorem T5 (h:ek P C A σ a w F) (kY:∀ i T,E.TI i=some T->bn P T (.inl i)=true) {t:Nat} {y z:Operand} (ho:o.op=.index t y z) (bd:d_ P y=true/\d_ P z=true) {K:St->Option R}
  (hk:N3 E σ t (eh σ y) (eh σ z) o.dst K=some x):Tk P o a w (Nx P C K x):=by
 unfold N3 at hk;have MA:=ik hk;clear hk;obtain ⟨T,hT,nB⟩:=MA;have jr:=kY _ _ hT
 rcases gi h bd.2 with hz | ⟨xs,e⟩
 rotate_left
 ·rw[e] at nB;cases nB
 have hk3:=xX hz nB;clear nB;obtain ⟨kz,n,Su,hk⟩:=hk3
 rcases gi h bd.1 with hs | ⟨xs,e⟩
 rotate_left
 ·grind
 split at hk
 ·rename_i s hv;rw[hv] at hs;split at hk
  ·rename_i sU;subst sU;split at hk
   ·rename_i h0;obtain ⟨c,hc,hk⟩:=bind_some hk;obtain ⟨cs,h1,h2⟩:=hs;simp only[Ro] at h2;subst h2;have hb:=V8 s n.toNat;rw[hc] at hb;refine iF (v:=.int .u8 c.toNat) ?_ (cx h hk ⟨[_],rfl,rfl⟩ (λ_ _ _ _ e=>by cases e));simp[execOp,ho,h1,dm,isAgg,Su,Instr.index,asIntOf,run_underlying (nA jr),h0,hb]
   ·cases hk
  ·cases hk
 ·rename_i m e v hv;rw[hv] at hs;split at hk
  ·rename_i sU;subst sU;split at hk
   ·rename_i h0;obtain ⟨yv,Gr,hk⟩:=bind_some hk;obtain ⟨cs,h1,h2⟩:=hs;obtain ⟨q1,q2,q3,q4⟩:=id h2;obtain ⟨el,hu,_,hle⟩:=Ss jr;have a8:n.toNat < m:=q2 ▸ (aP.1 Gr).1;have BS:n < (m:Int):=by omega
    have yz:=q4 _ _ Gr;refine iF (v:=dm e ((cs.drop (n.toNat*e.sz)).take e.sz)) (λw' _=>?_) (cx h hk ⟨_,rfl,yz⟩ (λ_ _ _ _ e=>by cases e));have hp:=wh (P:=P) (w:=w') hle (cs:=cs.toArray) (off:=n.toNat*e.sz) (by grind [Ro.length]);simp only[List.toList_toArray] at hp;have ol:=run_sizeOf (P:=P) (w:=w') hle;simp_all [execOp,dm,isAgg,Instr.index,asIntOf,run_underlying]
   ·cases hk
  ·cases hk
 ·cases hk
theorem B7 {t:Ty} {m:Md} {H:List Path} {e:Ty} {v:List e.den} {cs:List Value} {G:FP} (h:au P w A (.aa e) m H v cs G) (hH:hole H=false) :
  ∃ xa cap,cs=[.slice xa (List.length v) cap]/\List.length v<=cap/\(xa=none->List.length v=0):=by
 simp only[au,hH,aF,aS] at h;split at h
 ·grind
 ·obtain ⟨_,_,xa,cap,q1,q2,q3,q4⟩:=h;grind
theorem B8 {t:Nat} {y:Operand} (ho:o.op=.call { callee:=.builtin .len,args:=#[y],argTypes:=#[t] }) :
  (execOp a.eval o).run P w=((Builtin.len_ #[t] o.type #[a.eval y]).run P w).andThen λv w'=>.ok (.value v) w':=by
 simp_all [execOp,resolve,invoke,builtin]
theorem Yj (h:ek P C A σ a w F) (kY:∀ i T,E.TI i=some T->bn P T (.inl i)=true) {t:Nat} {y:Operand} (ho:o.op=.call { callee:=.builtin .len,args:=#[y],argTypes:=#[t] }) (bd:d_ P y=true) {K:St->Option R}
  (hk:Ya E σ t (eh σ y) (λn=>K (σ.cq o.dst (.val (.int .i64) (n:Int))))=some x):Tk P o a w (Nx P C K x):=by
 unfold Ya at hk;obtain ⟨T,hT,hk⟩:=ik hk;have jr:=kY _ _ hT
 rcases gi h bd with hs | ⟨xs,e⟩
 rotate_left
 ·grind
 have fin:∀ n:Nat,K (σ.cq o.dst (.val (.int .i64) (n:Int)))=some x->Nx P C K x (a.put o.dst (.int .i64 (n:Int))) w:=λn hk=>cx h hk ⟨[_],rfl,rfl⟩ (λ_ _ _ _ e=>by cases e);split at hk
 ·split at hk
  ·rename_i s hv;rw[hv] at hs;obtain ⟨cs,h1,h2⟩:=hs;simp only[Ro] at h2;subst h2;refine iF (v:=.int .i64 (s.length:Int)) (λw' _=>?_) (fin _ hk);have e:a.eval y=.string ⟨List.toArray s⟩:=h1;have e2:(⟨List.toArray s⟩:ByteArray).size=s.length:=rfl;rw[B8 ho,e];unfold Builtin.len_;simp only[List.getElem?_toArray,eS,Sem.run_bind,run_underlying (nA jr),Result.andThen_ok,Sem.run_pure,goInt,e2]
  ·cases hk
 ·rename_i e;obtain ⟨el,hu,_,hle⟩:=vL jr
  have run:∀ xa n cap,a.eval y=.slice xa n cap->∀ w',uZ o w w'->(execOp a.eval o).run P w'=.ok (.value (.int .i64 (n:Int))) w':=λxa n cap hy w' _=>by
   rw[B8 ho];simp[Builtin.len_,hy,run_underlying hu,goInt]
  split at hk
  ·rename_i e' v hv;rw[hv] at hs;obtain ⟨cs,h1,xa,cap,h2,_⟩:=hs;subst h2;exact iF (run xa _ cap h1) (fin _ hk)
  ·rename_i hv;rw[hv] at hs;exact iF (run none 0 0 hs) (fin _ hk)
  ·rename_i r p snap hv;rw[hv] at hs;split at hk
   ·rename_i pH;obtain ⟨hr,t',m',H',v',co,dr,F',h1,h2,h3,h4,h5,h6⟩:=lZ h hk;obtain ⟨pl,g1,g2,g3⟩:=hs.2 pH;rw[h3] at g1;injection g1 with g1;subst g1;simp only at g2;split at h1
    ·cases h1
    ·rename_i hH;have hH:hole H'=false:=fA.2 hH;split at h1
     ·rename_i e' Sv;obtain ⟨xa,cap,q1,q2,q3⟩:=B7 (t:=.unit) h4 hH;subst q1;exact iF (run xa _ cap g2) (fin _ h1)
     ·cases h1
   ·cases hk
  ·rename_i r p snap lo hi hv;rw[hv] at hs;split at hk
   ·rename_i pH;obtain ⟨pl,e',xa,len,cap,xk,cap',g1,g2,g3,g4,g5,g6,g7,Sn,g8,g9,g10⟩:=hs.2 pH;grind [iF]
   ·cases hk
  ·cases hk
 ·cases hk
theorem V9 {len cap:Nat} {lo hi:Option Operand} {K:Nat->Nat->Option R} (pK:len<=cap) (xl:∀ y,lo=some y->dn P A σ a w (a.eval y) (eh σ y) (λ_ _=>0)) (Ii:∀ y,hi=some y->dn P A σ a w (a.eval y) (eh σ y) (λ_ _=>0))
  (hk:vJ len (lo.map (eh σ)) (hi.map (eh σ)) K=some x):∃ l h,l<=h/\h<=len/\K l h=some x/\(∀ w',(Instr.sliceBounds true len cap (lo.map a.eval) (hi.map a.eval) none).run P w'=.ok (l,h,cap) w') /\
   (len=cap->∀ w',(Instr.sliceBounds false len cap (lo.map a.eval) (hi.map a.eval) none).run P w'=.ok (l,h,cap) w'):=by
 have ld:∀ (k:IntKind) (i:Int) (y:Nat) code,0<=i->i<=(y:Int)->∀ w',(Instr.sliceBound (.int k i) y code).run P w'=.ok i.toNat w':=λk i y code h0 h1 w'=>run_sliceBound w' k i y code h0 h1
 have two:∀ (V_ sR:Option Value) (l h:Nat),(V_=none/\l=0\/∃ k n,V_=some (.int k n)/\0<=n/\n<=(h:Int)/\l=n.toNat)->(sR=none/\h=len\/∃ k n,sR=some (.int k n)/\0<=n/\n<=(len:Int)/\h=n.toNat) ->
   (∀ w',(Instr.sliceBounds true len cap V_ sR none).run P w'=.ok (l,h,cap) w')/\(len=cap->∀ w',(Instr.sliceBounds false len cap V_ sR none).run P w'=.ok (l,h,cap) w'):=λV_ sR l h h1 h2=>by
  rcases h2 with ⟨rfl,rfl⟩ | ⟨k2,n2,rfl,b1,b2,rfl⟩
  ·rcases h1 with ⟨rfl,rfl⟩ | ⟨k1,n1,rfl,a1,a2,rfl⟩
   ·simp_all [Instr.sliceBounds]
   ·exact ⟨by simp_all [Instr.sliceBounds],λ_=>by simp_all [Instr.sliceBounds]⟩
  ·have c1:=ld k2 n2 cap .sliceAcap b1 Bys;have c2:=ld k2 n2 cap .sliceAlen b1 Bys
   rcases h1 with ⟨rfl,rfl⟩ | ⟨k1,n1,rfl,a1,a2,rfl⟩
   all_goals simp_all [Instr.sliceBounds]
 unfold vJ at hk
 cases lo with
 | none=>
  cases hi <;> grind [xX]
 | some yl=>
  cases hi <;> grind [xX]
theorem Np (s:List UInt8) (l h:Nat) (hl:l<=h) (hh:h<=s.length):(⟨s.toArray⟩:ByteArray).extract l h=⟨((s.take h).drop l).toArray⟩:=by
 apply ByteArray.ext;grind [ByteArray.data_extract]
theorem T6 (h:ek P C A σ a w F) (kY:∀ i T,E.TI i=some T->bn P T (.inl i)=true) {t:Nat} {y:Operand} {lo hi:Option Operand} (ho:o.op=.slice t y lo hi none)
  (bd:d_ P y=true/\(∀ z,lo=some z->d_ P z=true)/\(∀ z,hi=some z->d_ P z=true)) {K:St->Option R}
  (hk:N4 E σ t (eh σ y) (lo.map (eh σ)) (hi.map (eh σ)) o.dst K=some x):Tk P o a w (Nx P C K x):=by
 unfold N4 at hk;have MA:=ik hk;clear hk;obtain ⟨T,hT,hk⟩:=MA;have jr:=kY _ _ hT
 have Z7:∀ z,d_ P z=true->(∀ xs,eh σ z≠.sQ xs)->dn P A σ a w (a.eval z) (eh σ z) (λ_ _=>0):=λz hz hn=>by
  grind [gi]
 have bound:∀ (len cap:Nat) (K':Nat->Nat->Option R),len<=cap->vJ len (lo.map (eh σ)) (hi.map (eh σ)) K'=some x->∃ l h,l<=h/\h<=len/\K' l h=some x/\(∀ w',(Instr.sliceBounds true len cap (lo.map a.eval) (hi.map a.eval) none).run P w'=.ok (l,h,cap) w') /\
   (len=cap->∀ w',(Instr.sliceBounds false len cap (lo.map a.eval) (hi.map a.eval) none).run P w'=.ok (l,h,cap) w'):=λlen cap K' hc hb=>by
  refine V9 hc (λz hz=>Z7 z (bd.2.1 z hz) λxs e=>?_) (λz hz=>Z7 z (bd.2.2 z hz) λxs e=>?_) hb
  ·subst hz;unfold vJ at hb;grind [xH]
  ·subst hz;unfold vJ at hb
   cases lo with
   | none=>grind [xH]
   | some yl=>
    simp only[bN,e] at hb;unfold xH at hb;grind
 have Gq:∀ e xa len cap l h,T=.aa e->a.eval y=.slice xa len cap->l<=cap->(∀ ad,xa=some ad->0 < cap->ad.spot=none)->(∀ w',(Instr.sliceBounds true len cap (lo.map a.eval) (hi.map a.eval) none).run P w'=.ok (l,h,cap) w') ->
   ∀ w',uZ o w w'->(execOp a.eval o).run P w'=.ok (.value (.slice (if cap=l then xa else xa.map λad=>⟨ad.block,ad.off+l*e.sz,none⟩) (h - l) (cap - l))) w':=λe xa len cap l h sU hy hlc qz hb w' _=>by
  have hb:=hb w';subst sU;obtain ⟨el,hu,_,hle⟩:=vL jr;have ol:=run_sizeOf (P:=P) (w:=w') hle;unfold execOp;simp only[ho,gZ,Instr.sliceAt,Instr.slice,Sem.run_bind,run_underlying hu,Result.andThen_ok,hy,hb,ol,Sem.run_pure];by_cases xm:cap=l
  ·simp[xm]
  ·congr 4
   cases xa with
   | none=>rfl
   | some ad=>
    obtain ⟨b,off,sp⟩:=ad;grind [rC]
 have addr:∀ (xa:Option Addr) (cap l h n:Nat) (e:Ty),l<=h->h<=n->n<=cap->(∀ ad,xa=some ad->0 < cap->ad.spot=none) ->
   (xa=none->(if cap=l then xa else xa.map λad=>⟨ad.block,ad.off+l*e.sz,none⟩)=none) /\
   (∀ ad,xa=some ad->∃ dr,(if cap=l then xa else xa.map λad=>⟨ad.block,ad.off+l*e.sz,none⟩)=some dr/\dr.spot=ad.spot/\dr.block=ad.block/\(l < h->dr.off=ad.off+l*e.sz)) /\
   (l=0->(if cap=l then xa else xa.map λad=>(⟨ad.block,ad.off+l*e.sz,none⟩:Addr))=xa):=λxa cap l h n e h1 h2 h3 qz=>by
  refine ⟨λe=>by grind,λad e=>?_,λe0=>?_⟩
  ·grind
  ·subst e0;split
   ·rfl
   ·cases xa with
    | none=>rfl
    | some ad=>
     obtain ⟨b,off,sp⟩:=ad;grind
 have Z8:∀ {e:Ty} {v:List e.den} {m:Md} {H:List Path} {xa n cap} {G:FP},au P w A (.aa e) m H v [.slice xa n cap] G->hole H=false->∀ ad,xa=some ad->0 < cap->ad.spot=none:=λ{e v m H xa n cap G} ja hH ad V3 I2=>by
  simp only[au,hH,aF,aS] at ja;split at ja
  ·grind
  ·obtain ⟨_,_,xa2,LD,q1,q2,q3,q4⟩:=ja;grind
 rcases gi h bd.1 with hs | ⟨xs,e⟩
 rotate_left
 ·grind
 split at hk
 ·rename_i s hv;rw[hv] at hs;split at hk
  ·rename_i sU;have Z9:=jr;rw[sU] at Z9;obtain ⟨l,h',b1,b2,hk,b3,b4⟩:=bound s.length s.length _ (aI _) hk;obtain ⟨cs,h1,h2⟩:=hs;simp only[Ro] at h2;subst h2;have e1:a.eval y=.string ⟨List.toArray s⟩:=h1;have e2:(⟨List.toArray s⟩:ByteArray).size=s.length:=rfl;refine iF (v:=.string ⟨((s.take h').drop l).toArray⟩) (λw' _=>?_) (cx h hk ⟨[_],rfl,rfl⟩ (λ_ _ _ _ e=>by cases e));unfold execOp;simp only[ho,gZ,Instr.sliceAt,Instr.slice,Sem.run_bind,run_underlying (nA Z9),Result.andThen_ok,e1,Option.isSome_none,aF,aS,e2,b4 rfl w',Sem.run_pure,Np s l h' b1 b2]
  ·cases hk
 ·rename_i e v hv;rw[hv] at hs;split at hk
  ·rename_i sU;obtain ⟨cs,h1,h2⟩:=hs;obtain ⟨xa,cap,q1,q2,q3,q4⟩:=id h2;subst q1;rw[eo _ _ rfl] at h1;obtain ⟨l,h',b1,b2,hk,b3,_⟩:=bound (List.length v) cap _ q2 hk;obtain ⟨r1,r2,r3⟩:=addr xa cap l h' _ e b1 b2 q2 (λad e=>(q4 ad e).1);exact iF (Gq e xa _ cap l h' sU h1 Bys (λad e=>(q4 ad e).1) b3) (cx h hk ⟨_,(eo (.aa e) _ rfl).symm,Ro.piece h2 b1 b2 Bys r1 r2⟩ (λ_ _ _ _ e=>by cases e))
  ·cases hk
 ·rename_i r p snap hv;rw[hv] at hs;split at hk
  ·rename_i pH;obtain ⟨hr,t',m',H',v',co,dr,F',h1,h2,h3,h4,h5,h6⟩:=lZ h hk;obtain ⟨pl,g1,g2,g3⟩:=hs.2 pH;rw[h3] at g1;injection g1 with g1;subst g1;simp only at g2 g3;split at h1
   ·cases h1
   ·rename_i hH;have hH:hole H'=false:=fA.2 hH;split at h1
    ·rename_i sU;split at h1
     ·rename_i e Sv;obtain ⟨xa,cap,q1,q2,q3⟩:=B7 (t:=.unit) h4 hH;subst q1;rw[eo _ _ rfl] at g2;have qz:=Z8 h4 hH;split at h1
      ·obtain ⟨l,h',b1,b2,h1,b3,_⟩:=bound (List.length Sv) cap _ q2 h1;obtain ⟨r1,r2,r3⟩:=addr xa cap l h' _ e b1 b2 q2 qz;refine iF (Gq e xa _ cap l h' sU.symm g2 Bys qz b3) (cx h h1 ⟨hs.1,λ_=>⟨_,e,xa,_,cap,_,cap - l,h3,rfl,rfl,b1,b2,rfl,by omega,r3,r1,r2,?_⟩⟩ (λ_ _ _ _ e=>by cases e));grind
      ·rename_i jz;obtain ⟨l,h',b1,b2,h1,b3,_⟩:=bound (List.length Sv) cap _ q2 h1;obtain ⟨r1,r2,r3⟩:=addr xa cap l h' _ e b1 b2 q2 qz;simp only[au,hH,aF,aS,jz] at h4;exact iF (Gq e xa _ cap l h' sU.symm g2 Bys qz b3) (cx h h1 ⟨_,(eo (.aa e) _ rfl).symm,Ro.piece h4.2.2 b1 b2 Bys r1 r2⟩ (λ_ _ _ _ e=>by cases e))
     ·cases h1
    ·cases h1
  ·cases hk
 ·rename_i r p snap l0 h0 hv;rw[hv] at hs;split at hk
  ·rename_i pH;obtain ⟨hr,t',m',H',v',co,dr,F',h1,h2,h3,h4,h5,h6⟩:=lZ h hk;obtain ⟨pl,e,xa,n,cap,xk,cap',g1,g2,g3,g4,g5,g6,g7,Sn,g8,g9,g10⟩:=hs.2 pH;have g1':=g1;rw[h3] at g1;injection g1 with g1;subst g1;simp only at g2 g3;subst g2;subst g3;split at h1
   ·cases h1
   ·rename_i hH;have hH:hole H'=false:=fA.2 hH;split at h1
    ·rename_i sU;obtain ⟨xa2,LD,q1,q2,q3⟩:=B7 (t:=.unit) h4 hH;simp only[dI,Value.slice.injEq,eF] at q1;obtain ⟨rfl,rfl,rfl⟩:=q1;have qz:=Z8 h4 hH
     have abS:∀ ad,xk=some ad->0 < cap'->ad.spot=none:=λad e' I2=>by
      cases V3:xa <;> grind
     obtain ⟨l,h',b1,b2,h1,b3,_⟩:=bound (h0 - l0) cap' _ Bys h1;obtain ⟨r1,r2,r3⟩:=addr xk cap' l h' _ e b1 b2 Bys abS;refine iF (Gq e xk _ cap' l h' sU.symm g6 Bys abS b3) (cx h h1 ⟨hs.1,λ_=>⟨⟨.aa e,H',[.slice xa (List.length v') cap],dr⟩,e,xa,List.length v',cap,(if cap'=l then xk else xk.map λad=>⟨ad.block,ad.off+l*e.sz,none⟩),cap' - l,h3,rfl,rfl,by omega,by omega,?_,by omega,λe0=>?_,λe'=>?_,λad e'=>?_,g10⟩⟩ (λ_ _ _ _ e=>by cases e))
     ·grind
     ·grind
     ·grind
     grind
    ·cases h1
  ·cases hk
 ·cases hk
end
end OT
namespace OT
open Go
theorem sZ (k:IntKind) (n:Int):qK k (FJ k n)=k.wrap n:=by
 cases k <;> first | rfl | skip
 show ((UInt8.ofNat (n % 2 ^ 8).toNat).toNat:Int)=_;grind [UInt8.toNat_ofNat',IntKind.wrap,IntKind.bits,IntKind.signed]
theorem LE (k:IntKind) (n:Int) (h:k=.u8->0<=n/\n < 256):qK k (ZR k n)=n:=by
 cases k <;> first | rfl | skip
 obtain ⟨h1,h2⟩:=h rfl;show ((UInt8.ofNat (n % 2 ^ 8).toNat).toNat:Int)=_;rw[fL];omega
theorem Wa (v:DO .u8):0<=qK .u8 v/\qK .u8 v < 256:=by
 have:UInt8.toNat v < 256:=iA v;show 0<=((UInt8.toNat v:Nat):Int)/\((UInt8.toNat v:Nat):Int) < 256;omega
section
variable {P:Program} {C:Ctx} {A:Cells} {X:FP} {σ:St} {a:Act} {w:World} {F:Nat->FP} {R:Type} {x:R} {Q:Exit->Act->World->Prop} {o:Oper} {E:Env}
theorem aaA {op:BinOp} {k k':IntKind} {na nb:Int} {K:(t:Ty)->t.den->Option R} (hk:N6 op k na nb K=some x) (Om:k=k'\/op=.shl\/op=.shr) (hu:k=.u8->0<=na/\na < 256) (hu':k'=.u8->0<=nb/\nb < 256) (T:TypeId) :
  ∃ t v tv,K t v=some x/\Ro P w A t v [tv]/\isAgg t=false/\∀ w:World,(binOp op T (.int k na) (.int k' nb)).run P w=.ok tv w:=by
 have same:op≠.shl->op≠.shr->k=k':=λh1 h2=>by grind
 unfold N6 at hk;split at hk
 ·have:=same (by simp) (by simp);subst this;exact ⟨_,_,.int k (k.wrap (na+nb)),hk,by simp only[Ro,sZ],rfl,λw=>by simp[Go.binOp,Op.intArith]⟩
 ·have:=same (by simp) (by simp);subst this;exact ⟨_,_,.int k (k.wrap (na - nb)),hk,by simp only[Ro,sZ],rfl,λw=>by simp[Go.binOp,Op.intArith]⟩
 ·have:=same (by simp) (by simp);subst this;exact ⟨_,_,.int k (k.wrap (na*nb)),hk,by simp only[Ro,sZ],rfl,λw=>by simp[Go.binOp,Op.intArith]⟩
 ·have:=same (by simp) (by simp);subst this;split at hk
  ·cases hk
  ·rename_i hnz;exact ⟨_,_,.int k (k.wrap (na.tdiv nb)),hk,by simp only[Ro,sZ],rfl,λw=>by simp[Go.binOp,Op.intDiv,hnz]⟩
 ·have:=same (by simp) (by simp);subst this;split at hk
  ·cases hk
  ·rename_i hnz;refine ⟨_,_,.int k (na.tmod nb),hk,?_,rfl,λw=>by simp[Go.binOp,Op.intDiv,hnz]⟩
   simp only[Ro];rw[LE k _ (λe=>?_)];have h1:=hu e;have h2:=hu' e
   have:=Int.tmod_nonneg nb h1.1;have h3:na.tmod nb < nb:=Int.tmod_lt_of_pos na Bys;omega
 ·have:=same (by simp) (by simp);subst this;exact ⟨_,_,.int k (k.wrap ((BitVec.ofInt k.bits na &&& BitVec.ofInt k.bits nb).toNat:Int)),hk,by simp only[Ro,sZ],rfl,λw=>by grind [Go.binOp,Op.intBits,Sem.run_pure]⟩
 ·have:=same (by simp) (by simp);subst this;exact ⟨_,_,.int k (k.wrap ((BitVec.ofInt k.bits na ||| BitVec.ofInt k.bits nb).toNat:Int)),hk,by simp only[Ro,sZ],rfl,λw=>by grind [Go.binOp,Op.intBits,Sem.run_pure]⟩
 ·have:=same (by simp) (by simp);subst this;exact ⟨_,_,.int k (k.wrap ((BitVec.ofInt k.bits na ^^^ BitVec.ofInt k.bits nb).toNat:Int)),hk,by simp only[Ro,sZ],rfl,λw=>by grind [Go.binOp,Op.intBits,Sem.run_pure]⟩
 ·split at hk
  ·cases hk
  ·rename_i hn;exact ⟨_,_,.int k (k.wrap (na*2 ^ (min nb.toNat k.bits))),hk,by simp only[Ro,sZ],rfl,λw=>by simp[Go.binOp,Op.shift,hn]⟩
 ·split at hk
  ·cases hk
  ·rename_i hn;refine ⟨_,_,.int k (na.fdiv (2 ^ (min nb.toNat k.bits))),hk,?_,rfl,λw=>by simp[Go.binOp,Op.shift,hn]⟩
   simp only[Ro];rw[LE k _ (λe=>?_)];have h1:=hu e;have hp:(0:Int) < 2 ^ (min nb.toNat k.bits):=Int.pow_pos Bys;rw[gI _ Bys];have h2:=Int.ediv_nonneg h1.1 (Int.le_of_lt hp);have h3:=Int.ediv_le_self (2 ^ (min nb.toNat k.bits)) h1.1;omega
 ·have:=same (by simp) (by simp);subst this;exact ⟨.bool,decide (na=nb),_,hk,rfl,rfl,λw=>by simp[Go.binOp,Op.intCmp];rfl⟩
 ·have:=same (by simp) (by simp);subst this;exact ⟨.bool,!decide (na=nb),_,hk,rfl,rfl,λw=>by simp[Go.binOp,Op.intCmp,bne];rfl⟩
 ·have:=same (by simp) (by simp);subst this;exact ⟨.bool,decide (na < nb),_,hk,rfl,rfl,λw=>by simp[Go.binOp,Op.intCmp]⟩
 ·have:=same (by simp) (by simp);subst this;exact ⟨.bool,decide (na<=nb),_,hk,rfl,rfl,λw=>by simp[Go.binOp,Op.intCmp]⟩
 ·have:=same (by simp) (by simp);subst this;exact ⟨.bool,decide (nb < na),_,hk,rfl,rfl,λw=>by simp[Go.binOp,Op.intCmp]⟩
 ·have:=same (by simp) (by simp);subst this;exact ⟨.bool,decide (nb<=na),_,hk,rfl,rfl,λw=>by simp[Go.binOp,Op.intCmp]⟩
 ·cases hk
theorem aaB {op:BinOp} {s t:List UInt8} {K:(t:Ty)->t.den->Option R} (hk:Yb op s t K=some x) (T:TypeId) :
  ∃ ty v tv,K ty v=some x/\Ro P w A ty v [tv]/\isAgg ty=false/\∀ w:World,(binOp op T (.string ⟨s.toArray⟩) (.string ⟨t.toArray⟩)).run P w=.ok tv w:=by
 have h0:∀ w:World,(binOp op T (.string ⟨s.toArray⟩) (.string ⟨t.toArray⟩)).run P w=(Op.stringOp op ⟨s.toArray⟩ ⟨t.toArray⟩).run P w:=λw=>by cases op <;> rfl
 simp only[h0];unfold Yb at hk;split at hk
 ·split at hk
  ·rename_i hc;refine ⟨.str,s++t,.string ⟨(s++t).toArray⟩,hk,rfl,rfl,λw=>?_⟩
   grind [run_string_add_sum,ByteArray.size,ct,ByteArray.mk_append_mk]
  ·cases hk
 ·exact ⟨.bool,decide (s=t),_,hk,rfl,rfl,λw=>by simp[Op.stringOp];grind⟩
 ·exact ⟨.bool,!decide (s=t),_,hk,rfl,rfl,λw=>by simp[Op.stringOp];grind⟩
 ·cases hk
theorem BA {tv:Value} {s:List UInt8} {G:FP} (h:dn P A σ a w tv (.val .str s) G):tv=.string ⟨s.toArray⟩:=by
 obtain ⟨cs,h1,h2⟩:=h;simp only[Ro] at h2;subst h2;exact h1
theorem BB {tv:Value} {k:IntKind} {n:DO k} {G:FP} (h:dn P A σ a w tv (.val (.int k) n) G):tv=.int k (qK k n):=by
 obtain ⟨cs,h1,h2⟩:=h;simp only[Ro] at h2;subst h2;exact h1
theorem Ox {tv:Value} {b:Bool} {G:FP} (h:dn P A σ a w tv (.val .bool b) G):tv=.bool b:=by
 obtain ⟨cs,h1,h2⟩:=h;simp only[Ro] at h2;subst h2;exact h1
theorem Wb (h:ek P C A σ a w F) {op:UnOp} {t:Nat} {y:Operand} (ho:o.op=.unOp op t y) (bd:d_ P y=true) {K:St->Option R}
  (hk:(match op,eh σ y with
  | .not,.val .bool b=>K (σ.cq o.dst (.val .bool (!b)))
  | .neg,.val (.int k) n=>K (σ.cq o.dst (.val (.int k) (FJ k (0 - qK k n))))
  | _,_=>none)=some x):Tk P o a w (Nx P C K x):=by
 rcases gi h bd with hs | ⟨xs,e⟩
 rotate_left
 ·grind
 split at hk
 ·rename_i b ho hv;rw[hv] at hs;have e:=Ox hs;exact iF (v:=.bool (!b)) (by simp[execOp,ho,e,Op.unary]) (cx h hk ⟨[_],rfl,rfl⟩ (λ_ _ _ _ e=>by cases e))
 ·rename_i k n ho hv;rw[hv] at hs;have e:=BB hs;exact iF (v:=.int k (k.wrap (0 - qK k n))) (by simp[execOp,ho,e,Op.unary,Op.intArith]) (cx h hk ⟨[_],rfl,by simp only[Ro,sZ]⟩ (λ_ _ _ _ e=>by cases e))
 ·cases hk
end
end OT
namespace OT
open Go
section
variable {P:Program} {w:World} {A:Cells}
theorem Z_:∀ (t:Ty),(∀ (i:TypeId) (d:Nat) (v1 v2:t.den) (rp d9:List Value),bn P t (.inl i)=true->sT P t (.inl i)=true->dep t<=d->Ro P w A t v1 rp->Ro P w A t v2 d9->(Op.equalIn d i (dm t rp) (dm t d9)).run P w=.ok (t.eq v1 v2) w) /\
  (∀ (fs:List Field) (off d:Nat) (v1 v2:t.den) (xs ys:Array Value),bn P t (.inr (fs,off))=true->sT P t (.inr fs)=true->dep t<=d+1->Ro P w A t v1 (xs.toList.drop off)->Ro P w A t v2 (ys.toList.drop off)->(Op.eqFields d xs ys fs).run P w=.ok (t.eq v1 v2) w):=by
 intro t
 induction t with
 | int k=>
  refine ⟨λi d v1 v2 rp d9 hl he hd h1 h2=>?_,λfs off d v1 v2 xs ys hl=>by simp[bn] at hl⟩
  simp only[Ro] at h1 h2;subst h1;subst h2
  cases d with
  | zero=>simp[dep] at hd
  | succ d=>
   rw[eo _ _ rfl,eo _ _ rfl,run_equalIn_int w d i k k _ _ (rn hl)];congr 1
   cases k with
   | u8=>exact fH.2 (by simp only[qK,Ty.eq,iI];constructor;(intro h;exact fI.1 Bys);grind)
   | _=>grind [qK,Ty.eq]
 | bool=>
  refine ⟨λi d v1 v2 rp d9 hl he hd h1 h2=>?_,λfs off d v1 v2 xs ys hl=>by simp[bn] at hl⟩
  simp only[Ro] at h1 h2;subst h1;subst h2
  have hu:P.underlying i=some .bool:=by
   grind [bn]
  cases d with
  | zero=>simp[dep] at hd
  | succ d=>rw[eo _ _ rfl,eo _ _ rfl,run_equalIn_bool' w d i _ _ hu];rfl
 | str=>
  refine ⟨λi d v1 v2 rp d9 hl he hd h1 h2=>?_,λfs off d v1 v2 xs ys hl=>by simp[bn] at hl⟩
  simp only[Ro] at h1 h2;subst h1;subst h2
  cases d with
  | zero=>simp[dep] at hd
  | succ d=>
   rw[eo _ _ rfl,eo _ _ rfl,run_equalIn_string w d i _ _ (nA hl),ByteArray.toList_mk,ByteArray.toList_mk];grind [Ty.eq]
 | unit=>
  refine ⟨λi d v1 v2 rp d9 hl he hd h1 h2=>?_,λfs off d v1 v2 xs ys hl he hd h1 h2=>?_⟩
  ·simp only[Ro] at h1 h2;subst h1;subst h2;simp only[bn,aD] at hl;have h3:=hl.2;split at h3
   ·rename_i fs hu;have hf:P.fieldsOf i=fs:=by simp[Program.fieldsOf,hu]
    cases d with
    | zero=>simp[dep] at hd
    | succ d=>
     have Dr:fs.toList=[]:=bC.1 h3;simp only[sT,cC] at he;show (Op.equalIn (d+1) i (.agg #[]) (.agg #[])).run P w=_;rw[run_equalIn_struct w d i _ _ (by grind) he,hf,Dr];rfl
   ·cases h3
  ·simp only[bn,bC] at hl;subst hl;rfl
 | pair a b nz nr=>
  have second:∀ (fs:List Field) (off d:Nat) (v1 v2:(Ty.pair a b).den) (xs ys:Array Value),bn P (.pair a b) (.inr (fs,off))=true->sT P (.pair a b) (.inr fs)=true->dep (.pair a b)<=d+1->Ro P w A (.pair a b) v1 (xs.toList.drop off)->Ro P w A (.pair a b) v2 (ys.toList.drop off)->(Op.eqFields d xs ys fs).run P w=.ok ((Ty.pair a b).eq v1 v2) w:=by
   intro fs off d v1 v2 xs ys hl he hd h1 h2
   cases fs with
   | nil=>simp[bn] at hl
   | cons f r=>
    simp only[bn,aD,eI,dK] at hl;simp only[sT,aD,bne_iff_ne,ne_eq] at he;simp only[dep] at hd;obtain ⟨Wc,Wd⟩:=h1;obtain ⟨h2a,h2b⟩:=h2;have p1:=wh (P:=P) (w:=w) hl.1.2 (cs:=xs) (off:=off) (Ro.length _ Wc);have p2:=wh (P:=P) (w:=w) hl.1.2 (cs:=ys) (off:=off) (Ro.length _ h2a);have e1:=nz.1 f.type d v1.1 v2.1 _ _ hl.1.2 he.1.2 Bys Wc h2a;rw[dE] at Wd h2b;have e2:=nr.2 r (off+a.sz) d v1.2 v2.2 xs ys hl.2 he.2 Bys Wd h2b;simp only[Op.eqFields,ne_eq,he.1.1,eD,aH,Sem.run_bind,hl.1.1.1,p1,p2,e1,Result.andThen_ok];cases hq:a.eq v1.1 v2.1 <;> simp_all [Ty.eq]
  refine ⟨λi d v1 v2 rp d9 hl he hd h1 h2=>?_,second⟩
  simp only[bn,aD] at hl;simp only[sT,aD,cC] at he;have h3:=hl.2;have h4:=he.2;split at h3
  ·rename_i fs hu;rw[hu] at h4;simp only at h4;have hf:P.fieldsOf i=fs:=by simp[Program.fieldsOf,hu]
   split at h3
   ·rename_i f r JY;rw[JY] at h4;simp only at h4
    cases d with
    | zero=>grind [dep]
    | succ d=>
     show (Op.equalIn (d+1) i (.agg rp.toArray) (.agg d9.toArray)).run P w=_;rw[run_equalIn_struct w d i _ _ (by grind) he.1,hf,JY];refine second (f::r) 0 d v1 v2 _ _ ?_ ?_ hd (by simpa using h1) (by simpa using h2)
     all_goals grind [bn,sT]
   ·cases h3
  ·cases h3
 | arr n e ih=>
  refine ⟨λi d v1 v2 rp d9 hl he hd h1 h2=>?_,λfs off d v1 v2 xs ys hl=>by simp[bn] at hl⟩
  simp only[bn,aD] at hl;have h3:=hl.2;simp only[sT] at he;split at h3
  ·rename_i n' el hu;simp only[aD,eI,dK] at h3;obtain ⟨⟨rfl,_⟩,hle⟩:=h3;rw[hu] at he;simp only at he;obtain ⟨inf,i1,i2,_⟩:=lD (mG hle);have ol:P.cellsOf el=e.sz:=by grind [Program.cellsOf]
   obtain ⟨_,l1,_,r1⟩:=h1;obtain ⟨_,l2,_,r2⟩:=h2
   cases d with
   | zero=>simp[dep] at hd
   | succ d=>
    simp only[dep] at hd
    have key:∀ (m j:Nat),j+m=n->(Op.eqItems d el e.sz rp.toArray d9.toArray (List.range' j m)).run P w=.ok (((List.drop j v1).zip (List.drop j v2)).all λp=>e.eq p.1 p.2) w:=by
     intro m
     induction m with
     | zero=>
      intro j hj;rw[eU Bys];rfl
     | succ m ihm=>
      intro j hj;have g1:=aB (l:=v1) (i:=j) Bys;have g2:=aB (l:=v2) (i:=j) Bys;have a1:=r1 j _ g1;have a2:=r2 j _ g2;have p1:=wh (P:=P) (w:=w) hle (cs:=rp.toArray) (off:=j*e.sz) (Ro.length _ a1);have p2:=wh (P:=P) (w:=w) hle (cs:=d9.toArray) (off:=j*e.sz) (Ro.length _ a2);have e1:=ih.1 el d _ _ _ _ hle he Bys a1 a2;rw[gR,cE (l:=v1) (i:=j) Bys,cE (l:=v2) (i:=j) Bys];simp only[Op.eqItems,Sem.run_bind,p1,p2,e1,Result.andThen_ok,List.zip_cons_cons,eA]
      cases hq:e.eq v1[j] v2[j] with
      | true=>grind
      | false=>simp
    show (Op.equalIn (d+1) i (.agg rp.toArray) (.agg d9.toArray)).run P w=_;rw[run_equalIn_array w d _ _ hu i1,ol,fD];exact key n 0 Bys
  ·cases h3
 | _=>grind [sT]
end
section
variable {P:Program} {C:Ctx} {A:Cells} {X:FP} {σ:St} {a:Act} {w:World} {F:Nat->FP} {R:Type} {x:R} {Q:Exit->Act->World->Prop} {o:Oper} {E:Env}
def aaa (P:Program) (E:Env):Prop:=∀ i T,E.TI i=some T->T.oZ=true->isAgg T=true->sT P T (.inl i)=true/\P.eqGuardType P.depth i=false/\dep T<=10000
theorem Ez {op:BinOp} {t:TypeId} {y z:Operand} {u v:Value} (h:¬ (∃ p q,u=.agg p/\v=.agg q)) (h2:u≠.nilIface):(eqGuard op t y z u v).run P w=.ok () w:=by
 simp_all [eqGuard]
theorem Ro.oZ {w':World} {A':Cells}:∀ (t:Ty) {v:t.den} {cs:List Value},t.oZ=true->Ro P w A t v cs->Ro P w' A' t v cs:=by
 intro t
 induction t with
 | pair a b nz nr=>
  intro v cs hq h;simp only[Ty.oZ,aD] at hq;exact ⟨nz hq.1 h.1,nr hq.2 h.2⟩
 | arr n e ih=>intro v cs hq h;exact ⟨h.1,h.2.1,h.2.2.1,λi x hx=>ih hq (h.2.2.2 i x hx)⟩
 | aa e ih=>grind [Ty.oZ]
 | ptr e ih=>grind [Ty.oZ]
 | fn=>grind [Ty.oZ]
 | map k v=>grind [Ty.oZ]
 | _=>intro v cs hq h;exact h
theorem T7 (h:ek P C A σ a w F) (kY:∀ i T,E.TI i=some T->bn P T (.inl i)=true) (heq:aaa P E) {op:BinOp} {t t2:Nat} {y z:Operand} (ho:o.op=.binOp op t y z t2) (bd:d_ P y=true/\d_ P z=true) {K:St->Option R}
  (hk:N7 E t op (eh σ y) (eh σ z) (λt v=>K (σ.cq o.dst (.val t v)))=some x):Tk P o a w (Nx P C K x):=by
 rcases gi h bd.1 with hy | ⟨xs,e⟩
 rotate_left
 ·grind [N7]
 rcases gi h bd.2 with hz | ⟨xs,e⟩
 rotate_left
 ·grind [N7]
 have fin:∀ (ty:Ty) (v:ty.den) (tv:Value),K (σ.cq o.dst (.val ty v))=some x->Ro P w A ty v [tv]->isAgg ty=false->(∀ w',uZ o w w'->(eqGuard op t y z (a.eval y) (a.eval z)).run P w'=.ok () w')->(∀ w',uZ o w w'->(binOp op t (a.eval y) (a.eval z)).run P w'=.ok tv w')->Tk P o a w (Nx P C K x):=λty v tv hk hr ha hg hb=>by
  refine iF (v:=tv) (λw' ug=>?_) (cx h hk ⟨[tv],(eo ty tv ha).symm,hr⟩ (λ_ _ _ _ e=>by cases e));grind [execOp,Sem.run_bind,Result.andThen_ok,Sem.run_pure]
 unfold N7 at hk;split at hk
 ·rename_i k n1 k' n2 J1 Oy;rw[J1] at hy;rw[Oy] at hz;have e1:=BB hy;have e2:=BB hz;have hg:∀ w',uZ o w w'->(eqGuard op t y z (a.eval y) (a.eval z)).run P w'=.ok () w':=λw' _=>by grind [Ez]
  have Om:(k=k'\/op=.shl\/op=.shr)/\N6 op k (qK k n1) (qK k' n2) (λt v=>K (σ.cq o.dst (.val t v)))=some x:=by
   grind
  obtain ⟨ty,v,tv,q1,q2,q3,q4⟩:=aaA (P:=P) (A:=A) (w:=w) Om.2 Om.1 (λe=>by subst e;exact Wa n1) (λe=>by subst e;exact Wa n2) t;grind
 ·rename_i s1 s2 J1 Oy;rw[J1] at hy;rw[Oy] at hz;have e1:=BA hy;have e2:=BA hz;have hg:∀ w',uZ o w w'->(eqGuard op t y z (a.eval y) (a.eval z)).run P w'=.ok () w':=λw' _=>by grind [Ez]
  obtain ⟨ty,v,tv,q1,q2,q3,q4⟩:=aaB (P:=P) (A:=A) (w:=w) hk t;grind
 ·rename_i ty v1 ty' v2 hni hns J1 Oy;rw[J1] at hy;rw[Oy] at hz
  have main:∀ (e:ty=ty') (hq:ty.oZ=true) (hT:E.TI t=some ty) (w':World),uZ o w w'->(eqGuard op t y z (a.eval y) (a.eval z)).run P w'=.ok () w'/\(∀ b,b=ty.eq v1 (e ▸ v2)->(op=.eql->(binOp op t (a.eval y) (a.eval z)).run P w'=.ok (.bool b) w')/\(op=.neq->(binOp op t (a.eval y) (a.eval z)).run P w'=.ok (.bool (!b)) w')):=λe hq hT w' ug=>by
   subst e;obtain ⟨rp,e1,r1⟩:=hy;obtain ⟨d9,e2,r2⟩:=hz;have r1:=Ro.oZ (w':=w') (A':=A) _ hq r1;have r2:=Ro.oZ (w':=w') (A':=A) _ hq r2;have jr:=kY _ _ hT
   cases hag:isAgg ty with
   | true=>
    obtain ⟨q1,q2,q3⟩:=heq _ _ hT hq hag;have aeN:=(Z_ (P:=P) (w:=w') (A:=A) ty).1 t 10000 v1 v2 rp d9 jr q1 q3 r1 r2;simp_all [dm,run_eqGuard_agg,run_eql_struct,run_neq_struct]
   | false=>
    cases ty with
    | int k=>grind
    | str=>grind
    | bool=>
     simp only[Ro] at r1 r2;subst r1;subst r2;rw[eo _ _ rfl] at e1 e2
     have hu:P.underlying t=some .bool:=by
      grind [bn]
     rw[e1,e2];refine ⟨Ez (by grind) (by grind),λb hb=>⟨λh=>?_,λh=>?_⟩⟩
     ·subst h;subst hb;have:=run_equalIn_bool' (P:=P) w' 9999 t v1 v2 hu;simp only[Go.binOp,Op.equal,Op.maxDepth,Sem.run_bind,this,Result.andThen_ok,Sem.run_pure];rfl
     ·subst h;subst hb;have:=run_equalIn_bool' (P:=P) w' 9999 t v1 v2 hu;simp only[Go.binOp,Op.equal,Op.maxDepth,Sem.run_bind,this,Result.andThen_ok,Sem.run_pure];rfl
    | _=>grind [Ty.oZ,isAgg]
  split at hk
  ·split at hk
   ·rename_i hq;obtain ⟨T,hT,hk⟩:=ik hk;split at hk
    ·rename_i e;subst e;obtain ⟨e,hk⟩:=di hk;have m:=main e.symm hq hT;subst e;exact fin .bool _ _ hk rfl rfl (λw' ug=>(m w' ug).1) (λw' ug=>((m w' ug).2 _ rfl).1 rfl)
    ·cases hk
   ·cases hk
  ·split at hk
   ·rename_i hq;obtain ⟨T,hT,hk⟩:=ik hk;split at hk
    ·rename_i e;subst e;obtain ⟨e,hk⟩:=di hk;have m:=main e.symm hq hT;subst e;exact fin .bool _ _ hk rfl rfl (λw' ug=>(m w' ug).1) (λw' ug=>((m w' ug).2 _ rfl).2 rfl)
    ·cases hk
   ·cases hk
  ·cases hk
 ·rename_i e v J1 Oy;rw[J1] at hy;rw[Oy] at hz;obtain ⟨T,hT,hk⟩:=ik hk;split at hk
  ·rename_i eT;subst eT
   obtain ⟨te,hu⟩:∃ te,P.underlying t=some (.slice te):=by
    grind [bn]
   obtain ⟨cs,h1,a0,cap,h2,h3,h4,h5⟩:=hy;subst h2;rw[eo _ _ rfl] at h1;have hz':a.eval z=.slice none 0 0:=hz;have hg:∀ w',uZ o w w'->(eqGuard op t y z (a.eval y) (a.eval z)).run P w'=.ok () w':=λw' _=>by grind [Ez]
   have key:∀ (b:Bool),BH v (K (σ.cq o.dst (.val .bool b))) (K (σ.cq o.dst (.val .bool !b)))=some x->K (σ.cq o.dst (.val .bool (if a0.isNone then b else !b)))=some x:=λb hb=>by
    cases v with
    | nil=>
     grind [BH,both]
    | cons y v=>
     have:a0.isNone=false:=by
      cases a0 <;> grind
     rw[this];exact hb
   unfold abz at hk;split at hk
   ·refine fin .bool _ (.bool a0.isNone) (key true hk) ?_ rfl hg λw' _=>?_
    ·cases a0 <;> rfl
    grind [run_equal_slice_nil,Go.binOp,Sem.run_bind,Result.andThen_ok,Sem.run_pure]
   ·refine fin .bool _ (.bool !a0.isNone) (key false hk) ?_ rfl hg λw' _=>?_
    ·cases a0 <;> rfl
    grind [run_neq_slice_nil]
   ·cases hk
  ·cases hk
 ·cases hk
end
end OT
namespace OT
open Go
section
variable {P:Program} {C:Ctx} {A:Cells} {X:FP} {σ:St} {a:Act} {w:World} {F:Nat->FP} {R:Type} {x:R} {Q:Exit->Act->World->Prop} {o:Oper} {E:Env}
theorem qg (w:World) (ob:Obj):Ext w (w.alloc ob) (λ_ _=>0):=by
 refine ⟨by simp,λb i hb _ u hu=>?_,λb n hn=>?_,λb i hb=>World.frozen?_alloc_old w ob _ (by simp;omega),rfl,rfl,rfl,λb hb _=>?_,aI _⟩
 ·grind [BM,World.alloc]
 ·obtain ⟨c,e,fr,h1,h2,h3⟩:=hn;refine ⟨c,e,fr,?_,h2,h3⟩
  grind [World.alloc]
 grind [World.alloc]
theorem I3 (w:World):Ext w w.drew (λ_ _=>0):=⟨aI _,λ_ _ _ _ _ h=>h,λ_ _ h=>h,λ_ _ _=>rfl,rfl,rfl,rfl,λ_ _ _=>rfl,Nat.le_succ _⟩
theorem CW (w:World) (c:Array Value) (e:TypeId) (fr:Nat×Nat) (u:Bool) (oh:(u=true/\c.size<=fr.1)\/fr.2<=fr.1):jf (w.alloc (.cells c e fr)) w.heap.size (c.size,u):=
 ⟨c,e,fr,heap_alloc_new w _,rfl,λi hi=>by grind,λhu=>by grind⟩
theorem CX (w:World) (c:Array Value) (e:TypeId) (fr:Nat×Nat) {k:Nat} {L:List Value} (hL:∀ j u,L[j]?=some u->c[k+j]?=some u) (rU:∀ u ∈ L,u.oneCell'=true):Has (w.alloc (.cells c e fr)) w.heap.size k L:=by
 intro j u hu;grind [HM,World.cell?,heap_alloc_new]
theorem Rel.alloc (h:Rel P C A X σ a w F) (c:Array Value) (e:TypeId) (fr:Nat×Nat):Rel P C A (λb i=>X b i+d8 w.heap.size 0 c.size b i) σ a (w.alloc (.cells c e fr)) F:=by
 refine h.grow (qg w _) (λ_ _ h=>h) (λ_ _ h=>.inl h) (λb i=>?_);by_cases hb:b=w.heap.size
 ·subst hb;right
  have hx:X w.heap.size i=0:=by
   rcases bI (X w.heap.size i) with h0 | h0
   ·exact h0
   ·have:=h.ld w.heap.size i (.inl Bys);omega
  exact ⟨aI _,by simp,by grind [d8]⟩
 grind [d8]
theorem Rel.drew (h:Rel P C A X σ a w F):Rel P C A X σ a w.drew F:=h.grow (I3 w) (λ_ _ h=>h) (λ_ _ h=>.inl h) (λ_ _=>.inl (aI _))
theorem au.alloc (h:Rel P C A X σ a w F) {t:Ty} {m:Md} {H:List Path} {v:t.den} {cs:List Value} {G:FP} (hr:au P w A t m H v cs G) (hG:∀ b i,1<=G b i->b < w.heap.size) {w':World} (hw:Ext w w' (λ_ _=>0)):au P w' A t m H v cs G:=
 au.mono (λ_ _ h=>h) (λb i ha u hu=>hw.cell b i (h.ld b i (.inr ha)) rfl u hu) hw.xT t hr (λ_ _=>aI _) (λb i hp u hu=>hw.cell b i (hG b i hp) rfl u hu)
theorem Sw (h:Rel P C A X σ a w F) {K:St->Option R} {d:Option Tmp} {t:Ty} {m:Md} {v:t.den} {cs:List Value} {Fv:FP} (e:TypeId) (hk:K (σ.cq d (.box t m [] v))=some x)
  (hr:au P w A t m [] v cs Fv) (hX:∀ b i,Fv b i<=X b i):∃ A' F',Rel P C A' (λ_ _=>0) (σ.cq d (.box t m [] v)) (a.put d (.pointer (some ⟨w.heap.size,0,none⟩))) (w.alloc (.cells cs.toArray e)) F':=by
 have hl:=au.length t hr;have h1:=h.alloc cs.toArray e (0,0);have jz:=CW w cs.toArray e (0,0) false (.inr (aI _));simp only[gO,hl] at jz h1;have xi:=au.alloc h hr (λb i hp=>h.ld b i (.inl (by grind))) (qg w (.cells cs.toArray e))
 obtain ⟨F',hF⟩:=h1.cq d (s:=.box t m [] v) (v:=.pointer (some ⟨w.heap.size,0,none⟩)) (Fd:=λb i=>d8 w.heap.size 0 t.sz b i+Fv b i) (X':=λ_ _=>0)
  ⟨w.heap.size,0,cs,Fv,rfl,hl,CX w cs.toArray e (0,0) (λj u hu=>by simpa using hu) (au.one _ hr),λj hj=>by simp_all,λ_ _=>aI _,xi⟩
  (λb i=>by grind) (λt' m' H' v' e'=>by grind)
 grind
theorem wi:∀ (t:Ty),t.w8=true->∃ L,zc t=some L:=by
 intro t
 induction t <;> grind [Ty.w8,zc]
theorem We (h:ek P C A σ a w F) (kY:∀ i T,E.TI i=some T->bn P T (.inl i)=true) {t:Nat} (ho:o.op=.alloc t) {K:St->Option R}
  (hk:(qQ E t λT=>if T.w8 then K (σ.cq o.dst (.box T (aj T) [] T.zero)) else none)=some x):o.wp P a w (λa' w'=>Nx P C K x a' w'/\Ext w w' (λ_ _=>0)) Q:=by
 obtain ⟨T,hT,hk⟩:=ik hk;split at hk
 ·rename_i Ij;have jr:=kY _ _ hT;obtain ⟨L,hL⟩:=wi T Ij;obtain ⟨z,DX,Ak⟩:=AN (P:=P) (w:=w) jr hL;obtain ⟨r1,r2,r3⟩:=CU (P:=P) (w:=w) (A:=A) T hL jr;refine pg (v:=.pointer (some ⟨w.heap.size,0,none⟩)) (w':=w.alloc (.cells L.toArray t)) ?_ ?_
  ·have:z.cells=L.toArray:=by grind
   simp_all [execOp,Instr.alloc,newVar,newRow]
  ·obtain ⟨A',F',hF⟩:=Sw h t hk r1 (λ_ _=>aI _);exact ⟨⟨_,hk,A',F',hF⟩,qg w _⟩
 ·cases hk
end
end OT
namespace OT
open Go
section
variable {P:Program} {C:Ctx} {A:Cells} {X:FP} {σ:St} {a:Act} {w:World} {F:Nat->FP} {R:Type} {x:R} {Q:Exit->Act->World->Prop} {o:Oper} {E:Env}
theorem HR (h:Rel P C A X σ a w F) {K:St->Option R} {d:Option Tmp} {e:Ty} {m:Md} {v:List e.den} {c:Array Value} {cap:Nat} {el:TypeId} {fr:Nat×Nat} {Fi:Nat->FP} (oh:(IV e=true/\c.size<=fr.1)\/fr.2<=fr.1)
  (hk:K (σ.cq d (.own (.aa e) (.aa true m) [] v))=some x) (hc:c.size=cap*e.sz) (pK:cap<=maxLen) (hv:List.length v<=cap) (hX:∀ b i,bi (List.length v) Fi b i<=X b i)
  (sC:∀ (i:Nat) (y:e.den),v[i]?=some y->∃ L:List Value,L.length=e.sz/\(∀ j u,L[j]?=some u->c[i*e.sz+j]?=some u)/\au P w A e m [] y L (Fi i)) :
  Nx P C K x (a.put d (.slice (some ⟨w.heap.size,0,none⟩) (List.length v) cap)) (w.alloc (.cells c el fr)):=by
 have h1:=h.alloc c el fr;have jz:=CW w c el fr (IV e) oh;rw[hc] at jz h1;refine qC h1 hk (Fd:=λb i=>d8 w.heap.size 0 (cap*e.sz) b i+bi (List.length v) Fi b i) ⟨_,(eo (.aa e) _ rfl).symm,?_⟩ (λb i=>by grind) (λ_ _ _ _ e=>by cases e);simp only[au,hole,bP,aF,aS,Md.own,aH,Md.e];refine ⟨_,cap,rfl,hv,pK,(λe=>by cases e),λad lN=>?_⟩
 injection lN with lN;subst lN;refine ⟨rfl,rfl,jz,Fi,λ_ _=>aI _,λi y hy=>?_⟩
 obtain ⟨L,l1,l2,l3⟩:=sC i y hy;have hi:=(aP.1 hy).1;refine ⟨L,l1,CX w c el fr l2 (au.one _ l3),?_⟩
 simp only[dX];exact au.alloc h l3 (λb k hp=>h.ld b k (.inl (by grind [dy]))) (qg w _)
theorem Nq (h:ek P C A σ a w F) (kY:∀ i T,E.TI i=some T->bn P T (.inl i)=true) {t:Nat} {y z:Operand} (ho:o.op=.makeSlice t y z) (bd:d_ P y=true/\d_ P z=true) {K:St->Option R}
  (hk:(qQ E t λt=>match t with
  | .aa e=>xH (eh σ y) λn=>xH (eh σ z) λc=>
   if e.w8 then (if 0<=n/\n<=c/\c<=(ct:Int) then K (σ.cq o.dst (.own (.aa e) (aj (.aa e)) [] (List.replicate n.toNat e.zero))) else none) else none
  | _=>none)=some x):o.wp P a w (λa' w'=>Nx P C K x a' w'/\Ext w w' (λ_ _=>0)) Q:=by
 obtain ⟨T,hT,hk⟩:=ik hk;have jr:=kY _ _ hT;split at hk
 ·rename_i e
  rcases gi h bd.1 with hy | ⟨xs,e'⟩
  rotate_left
  ·rw[e'] at hk;cases hk
  obtain ⟨k1,n,hn,hk⟩:=xX hy hk
  rcases gi h bd.2 with hz | ⟨xs,e'⟩
  rotate_left
  ·rw[e'] at hk;cases hk
  obtain ⟨k2,c,hc,hk⟩:=xX hz hk;split at hk
  ·rename_i Ij;split at hk
   ·rename_i hb;obtain ⟨el,hu,ol,hle⟩:=vL jr;obtain ⟨inf,i1,i2,i3,i4⟩:=lD (mG hle);obtain ⟨L,hL⟩:=wi e Ij;obtain ⟨zv,z1,z2⟩:=i4 L hL;obtain ⟨r1,r2,r3⟩:=CU (P:=P) (w:=w) (A:=A) e hL hle
    have abT:(inf.bytes:Int)*c<=281474976710656:=by
     have h1:(inf.bytes:Int)<=512:=by omega
     have h2:(inf.bytes:Int)*c<=512*c:=Int.mul_le_mul_of_nonneg_right h1 Bys;grind [ct]
    have lg:=run_make (P:=P) w t el inf zv hu i1 z1 k1 k2 n c hb.1 hb.2.1 abT (by grind [ct]);have hzs:zv.cells.size=e.sz:=by grind
    have hlen:List.length (List.replicate n.toNat e.zero)=n.toNat:=by simp
    refine pg (v:=.slice (some ⟨w.heap.size,0,none⟩) n.toNat c.toNat) (w':=w.alloc (.cells (madeCells zv.cells (c.toNat*inf.size)) el)) ?_ ?_
    ·grind [execOp,Sem.run_bind,Result.andThen_ok,Sem.run_pure]
    ·refine ⟨?_,qg w _⟩
     have hnx:=HR h (K:=K) (d:=o.dst) (v:=List.replicate n.toNat e.zero) (c:=madeCells zv.cells (c.toNat*inf.size)) (cap:=c.toNat) (el:=el) (fr:=(0,0)) (m:=aj e) (Fi:=λ_ _ _=>0) (.inr (aI _)) hk
      (by rw[size_madeCells,i2]) (by grind [ct,maxLen]) (by grind) (λb i=>by grind [nH])
      (λi y hy=>by
       have hi:i < n.toNat:=by grind
       have hy:y=e.zero:=by grind
       subst hy;refine ⟨L,r3,λj u hu=>?_,r1⟩
       have hj:j < e.sz:=r3 ▸ (aP.1 hu).1
       have a8:i*e.sz+j < c.toNat*e.sz:=by
        have:(i+1)*e.sz<=c.toNat*e.sz:=aZ _ Bys;grind
       grind [Nat.mul_comm,Nat.mul_add_mod,Nat.mod_eq_of_lt,madeCells])
     grind
   ·cases hk
  ·cases hk
 ·cases hk
theorem Oz (h:ek P C A σ a w F) (kY:∀ i T,E.TI i=some T->bn P T (.inl i)=true) {s t:Nat} {y:Operand} (ho:o.op=.convert s t y) (bd:d_ P y=true) (J2:∀ T,E.TI t=some T->T.flat=true) {K:St->Option R}
  (hk:Em E σ s t (eh σ y) o.dst K=some x):Tk P o a w (Nx P C K x):=by
 unfold Em at hk;obtain ⟨S,hS,hk⟩:=ik hk;obtain ⟨T,hT,hk⟩:=ik hk;have BU:=kY _ _ hS;have B9:=kY _ _ hT
 rcases gi h bd with hs | ⟨xs,e⟩
 rotate_left
 ·grind [uk]
 split at hk
 ·rename_i k;split at hk
  ·rename_i k' n hv;rw[hv] at hs;have e:=BB hs;split at hk
   ·rename_i hSe;obtain ⟨dS,hd,_⟩:=Bb BU;refine iF (v:=.int k (k.wrap (qK k' n))) (λw' _=>?_) (cx h hk ⟨[_],rfl,by simp only[Ro,sZ]⟩ (λ_ _ _ _ e=>by cases e));unfold execOp;simp only[ho,e,Sem.run_bind]
    have:(convert s t (.int k' (qK k' n))).run P w'=.ok (.int k (k.wrap (qK k' n))) w':=by
     unfold convert;simp only[Sem.run_bind,run_underlying hd,run_underlying (rn B9),Result.andThen_ok];cases dS <;> rfl
    simp_all
   ·cases hk
  ·cases hk
 ·split at hk
  ·split at hk
   ·rename_i b hv;rw[hv] at hs;have e:=BA hs;refine iF (v:=.string ⟨List.toArray b⟩) (λw' _=>?_) (cx h hk ⟨[_],rfl,rfl⟩ (λ_ _ _ _ e=>by cases e));unfold execOp
    have:(convert s t (.string ⟨List.toArray b⟩)).run P w'=.ok (.string ⟨List.toArray b⟩) w':=by
     unfold convert;simp only[Sem.run_bind,run_underlying (nA BU),run_underlying (nA B9),Result.andThen_ok];rfl
    simp_all
   ·cases hk
  ·obtain ⟨v,cs,hk,h1,h2⟩:=So h hs hk;obtain ⟨el,hu,_,hle⟩:=vL BU;obtain ⟨xa,cap,q1,q2,q3,q4⟩:=h2;subst q1;rw[eo _ _ rfl] at h1;have v8:List UInt8:=v
   have lg:∀ w',uZ o w w'->(convert s t (a.eval y)).run P w'=.ok (.string ⟨List.toArray v⟩) w':=λw' ug=>by
    have ug:=ug (by rw[ho];rfl);rw[h1]
    cases xa with
    | none=>
     have:v=[]:=bR (q3 rfl);subst this;exact run_convert_bytes_nil w' s el hu (rn hle) _ _ t (nA B9)
    | some ad=>
     obtain ⟨g1,g2⟩:=q4 _ rfl;refine run_convert_bytes_back w' s t el _ cap v hu (rn hle) (nA B9) λj hj=>?_;obtain ⟨L,l1,l2,l3⟩:=g2 j _ (aB hj);simp only[Ro] at l3;subst l3;have:=(l2 0 _ rfl).1;obtain ⟨b,off,sp⟩:=ad;have qz:=g1 Bys;simp only at qz;subst qz;rw[rC];simp only[Ty.sz,iB,eM] at this;exact vK (ug.cell _ _ (yA this) rfl _ this) rfl
   refine iF (v:=.string ⟨List.toArray v⟩) (λw' ug=>?_) (cx h hk ⟨[_],rfl,rfl⟩ (λ_ _ _ _ e=>by cases e));grind [execOp,Sem.run_bind,Result.andThen_ok,Sem.run_pure]
  ·cases hk
 all_goals grind [Ty.flat]
theorem J3 (h:ek P C A σ a w F) (kY:∀ i T,E.TI i=some T->bn P T (.inl i)=true) {s t:Nat} {y:Operand} (ho:o.op=.convert s t y) (bd:d_ P y=true) (J2:∀ T,E.TI t=some T->T.flat=true) (J4:(match eh σ y with | .val (.int _) _=>true | .val .str _=>true | .val (.aa (.int .u8)) _=>true | _=>false)=true) {K:St->Option R}
  (hk:Em E σ s t (eh σ y) o.dst K=some x) :
  ∃ v,(∀ w',(∀ b i,A b i->∀ u,ce w b i=some u->ce w' b i=some u)->(execOp a.eval o).run P w'=.ok (.value v) w')/\Nx P C K x (a.put o.dst v) w:=by
 unfold Em at hk;obtain ⟨S,hS,hk⟩:=ik hk;obtain ⟨T,hT,hk⟩:=ik hk;have BU:=kY _ _ hS;have B9:=kY _ _ hT
 rcases gi h bd with hs | ⟨xs,e⟩
 rotate_left
 ·grind
 split at hk
 ·rename_i k;split at hk
  ·rename_i k' n hv;rw[hv] at hs;have e:=BB hs;split at hk
   ·rename_i hSe;obtain ⟨dS,hd,_⟩:=Bb BU;refine ⟨.int k (k.wrap (qK k' n)),(λw' _=>?_),cx h hk ⟨[_],rfl,by simp only[Ro,sZ]⟩ (λ_ _ _ _ e=>by cases e)⟩
    unfold execOp;simp only[ho,e,Sem.run_bind]
    have:(convert s t (.int k' (qK k' n))).run P w'=.ok (.int k (k.wrap (qK k' n))) w':=by
     unfold convert;simp only[Sem.run_bind,run_underlying hd,run_underlying (rn B9),Result.andThen_ok];cases dS <;> rfl
    simp_all
   ·cases hk
  ·cases hk
 ·split at hk
  ·split at hk
   ·rename_i b hv;rw[hv] at hs;have e:=BA hs;refine ⟨.string ⟨List.toArray b⟩,(λw' _=>?_),cx h hk ⟨[_],rfl,rfl⟩ (λ_ _ _ _ e=>by cases e)⟩
    unfold execOp
    have:(convert s t (.string ⟨List.toArray b⟩)).run P w'=.ok (.string ⟨List.toArray b⟩) w':=by
     unfold convert;simp only[Sem.run_bind,run_underlying (nA BU),run_underlying (nA B9),Result.andThen_ok];rfl
    simp_all
   ·cases hk
  ·have hop:∃ v',eh σ y=.val (.aa (.int .u8)) v':=by
    grind [uk,jS]
   obtain ⟨v,hv⟩:=hop;rw[hv] at hs hk;simp only[uk] at hk;obtain ⟨_,hk⟩:=di hk;obtain ⟨cs,h1,h2⟩:=hs;obtain ⟨el,hu,_,hle⟩:=vL BU;obtain ⟨xa,cap,q1,q2,q3,q4⟩:=h2;subst q1;rw[eo _ _ rfl] at h1;have v8:List UInt8:=v
   have lg:∀ w',(∀ b i,A b i->∀ u,ce w b i=some u->ce w' b i=some u)->(convert s t (a.eval y)).run P w'=.ok (.string ⟨List.toArray v⟩) w':=λw' ug=>by
    rw[h1]
    cases xa with
    | none=>
     have:v=[]:=bR (q3 rfl);subst this;exact run_convert_bytes_nil w' s el hu (rn hle) _ _ t (nA B9)
    | some ad=>
     obtain ⟨g1,g2⟩:=q4 _ rfl;refine run_convert_bytes_back w' s t el _ cap v hu (rn hle) (nA B9) λj hj=>?_;obtain ⟨L,l1,l2,l3⟩:=g2 j _ (aB hj);simp only[Ro] at l3;subst l3;have zp:=l2 0 _ rfl;obtain ⟨b,off,sp⟩:=ad;have qz:=g1 Bys;simp only at qz;subst qz;rw[rC];simp only[Ty.sz,iB,eM] at zp;exact vK (ug _ _ zp.2 _ zp.1) rfl
   refine ⟨.string ⟨List.toArray v⟩,(λw' ug=>?_),cx h hk ⟨[_],rfl,rfl⟩ (λ_ _ _ _ e=>by cases e)⟩
   grind [execOp,Sem.run_bind,Result.andThen_ok,Sem.run_pure]
  ·cases hk
 all_goals grind [Ty.flat]
theorem QT (h:ek P C A σ a w F) (kY:∀ i T,E.TI i=some T->bn P T (.inl i)=true) {s t:Nat} {y:Operand} (ho:o.op=.convert s t y) (bd:d_ P y=true) {K:St->Option R}
  (hk:Em E σ s t (eh σ y) o.dst K=some x):o.wp P a w (λa' w'=>Nx P C K x a' w'/\Ext w w' (λ_ _=>0)) Q:=by
 unfold Em at hk;obtain ⟨S,hS,hk⟩:=ik hk;obtain ⟨T,hT,hk⟩:=ik hk;have BU:=kY _ _ hS;have B9:=kY _ _ hT
 rcases gi h bd with hs | ⟨xs,e⟩
 rotate_left
 ·grind [uk]
 split at hk
 ·rename_i k;split at hk
  ·rename_i k' n hv;rw[hv] at hs;have e:=BB hs;split at hk
   ·rename_i hSe;obtain ⟨dS,hd,_⟩:=Bb BU;refine pg (v:=.int k (k.wrap (qK k' n))) (w':=w) ?_ ⟨cx h hk ⟨[_],rfl,by simp only[Ro,sZ]⟩ (λ_ _ _ _ e=>by cases e),Ext.refl _ _⟩;unfold execOp;simp only[ho,e,Sem.run_bind]
    have:(convert s t (.int k' (qK k' n))).run P w=.ok (.int k (k.wrap (qK k' n))) w:=by
     unfold convert;simp only[Sem.run_bind,run_underlying hd,run_underlying (rn B9),Result.andThen_ok];cases dS <;> rfl
    simp_all
   ·cases hk
  ·cases hk
 ·split at hk
  ·split at hk
   ·rename_i b hv;rw[hv] at hs;have e:=BA hs;refine pg (v:=.string ⟨List.toArray b⟩) (w':=w) ?_ ⟨cx h hk ⟨[_],rfl,rfl⟩ (λ_ _ _ _ e=>by cases e),Ext.refl _ _⟩;unfold execOp
    have:(convert s t (.string ⟨List.toArray b⟩)).run P w=.ok (.string ⟨List.toArray b⟩) w:=by
     unfold convert;simp only[Sem.run_bind,run_underlying (nA BU),run_underlying (nA B9),Result.andThen_ok];rfl
    simp_all
   ·cases hk
  ·obtain ⟨v,cs,hk,h1,h2⟩:=So h hs hk;obtain ⟨el,hu,_,hle⟩:=vL BU;obtain ⟨xa,cap,q1,q2,q3,q4⟩:=h2;subst q1;rw[eo _ _ rfl] at h1;have v8:List UInt8:=v
   have lg:(convert s t (a.eval y)).run P w=.ok (.string ⟨List.toArray v⟩) w:=by
    rw[h1]
    cases xa with
    | none=>
     have:v=[]:=bR (q3 rfl);subst this;exact run_convert_bytes_nil w s el hu (rn hle) _ _ t (nA B9)
    | some ad=>
     obtain ⟨g1,g2⟩:=q4 _ rfl;refine run_convert_bytes_back w s t el _ cap v hu (rn hle) (nA B9) λj hj=>?_;obtain ⟨L,l1,l2,l3⟩:=g2 j _ (aB hj);simp only[Ro] at l3;subst l3;have:=(l2 0 _ rfl).1;obtain ⟨b,off,sp⟩:=ad;have qz:=g1 Bys;simp only at qz;subst qz;rw[rC];simp only[Ty.sz,iB,eM] at this;exact vK (this) rfl
   refine pg (v:=.string ⟨List.toArray v⟩) (w':=w) ?_ ⟨cx h hk ⟨[_],rfl,rfl⟩ (λ_ _ _ _ e=>by cases e),Ext.refl _ _⟩;grind [execOp,Sem.run_bind,Result.andThen_ok,Sem.run_pure]
  ·cases hk
 ·split at hk
  ·rename_i b hv;rw[hv] at hs;have e:=BA hs;split at hk
   ·rename_i hSe;rw[hSe] at BU;split at hk;rotate_left
    ·cases hk
    rename_i pK;obtain ⟨el,hu,_,hle⟩:=vL B9;have lg:=run_bytes_of_string (P:=P) w s t el ⟨List.toArray b⟩ (nA BU) hu (rn hle);have hlen:(⟨List.toArray b⟩:ByteArray).size=List.length b:=rfl;have hge:=grownCap_ge w (List.length b) 0 el;have Og:=grownCap_le_maxLen w (List.length b) 0 el (by grind [ct,maxLen]);rw[hlen] at lg
    have ol:(bytesRow ⟨List.toArray b⟩ (grownCap w (List.length b) 0 el)).size=grownCap w (List.length b) 0 el:=by
     grind [bytesRow]
    refine pg ?_ ⟨HR (h.drew) (K:=K) (d:=o.dst) (e:=.int .u8) (v:=b) (m:=.leaf) (Fi:=λ_ _ _=>0) (cap:=grownCap w (List.length b) 0 el) (el:=el) (fr:=((bytesRow ⟨List.toArray b⟩ (grownCap w (List.length b) 0 el)).size,(bytesRow ⟨List.toArray b⟩ (grownCap w (List.length b) 0 el)).size+1)) (c:=bytesRow ⟨List.toArray b⟩ (grownCap w (List.length b) 0 el)) (.inl ⟨rfl,aI _⟩) hk
     (by grind [Ty.sz]) Og hge (λb i=>by grind [nH]) (λi y hy=>?_),(I3 w).trans (qg w.drew _) (λ_ _ _ _=>rfl)⟩
    ·simp_all [execOp]
    ·have hi:=(aP.1 hy).1;have hb:=bytesRow_at ⟨List.toArray b⟩ (grownCap w (List.length b) 0 el) i (by simpa using hi);refine ⟨[.int .u8 (UInt8.toNat y)],rfl,λj u hu=>?_,rfl⟩
     grind [Ty.sz]
   ·cases hk
  ·cases hk
 ·cases hk
end
end OT
namespace OT
open Go
section
variable {P:Program} {C:Ctx} {A:Cells} {X:FP} {σ:St} {a:Act} {w:World} {F:Nat->FP} {R:Type} {x:R} {Q:Exit->Act->World->Prop} {o:Oper} {E:Env}
theorem OA (h:ek P C A σ a w F) {i j:Nat} (ho:o.op=.extract (.tmp i) j) {K:St->Option R}
  (hk:(match σ.get i with
   | .sQ xs=>match xs[j]? with
    | some x=>if x.t=.unit then none else K ((σ.put i (.sQ (xs.set j ⟨.unit,.leaf,()⟩))).cq o.dst (laid x.t x.m x.v))
    | none=>none
   | _=>none)=some x):Tk P o a w (Nx P C K x):=by
 split at hk
 ·rename_i xs hg;split at hk
  ·rename_i y hy;split at hk
   ·cases hk
   ·rename_i hnu
    have hi:i < σ.n:=by
     grind [mN]
    have hs:=h.iZ i hi;rw[hg] at hs;obtain ⟨vs,Fi,h1,h2,h3⟩:=hs;obtain ⟨v,h4,h5⟩:=h3 j y hy
    rcases h5 with h5 | ⟨cs,h6,h7⟩
    ·grind
    have hj:=(aP.1 hy).1
    have BZ:=h.put hi (s:=.sQ (xs.set j ⟨.unit,.leaf,()⟩)) (v:=tmp a i) (Fd:=bi xs.length (gv Fi j λ_ _=>0)) (X':=Fi j)
     ⟨vs,gv Fi j λ_ _=>0,h1,λb k=>by grind,λk y' Id=>by
      rw[eC] at Id;split at Id
      ·rename_i e;subst e;injection Id with Id;subst Id;exact ⟨v,h4,.inl rfl⟩
      grind [gv]⟩
     (λb k=>by grind [uX]) (λt m H v e=>by cases e)
    rw[sB] at BZ;refine iF (v:=v) ?_ ?_
    ·unfold execOp;have e:a.eval (.tmp i)=.tuple vs:=h1;simp_all [Instr.extract]
    grind [B5]
  ·cases hk
 ·cases hk
theorem Rel.adF (h:Rel P C A X σ a w F) {d n:Nat} (hd:∀ R,ei w (tmp a d) (σ.get d)=some R->dm R.t R.cs=C.args.getD n undef):Rel P C A X { σ with ay:=(d,n,true)::σ.ay } a w F:=by
 have oE:zy σ a w { σ with ay:=(d,n,true)::σ.ay } a w:=λr p snap hb=>⟨hb,λbd=>⟨bd,λhl pl i7=>⟨pl.H,pl.cs,i7,λ_=>rfl⟩⟩⟩
 refine ⟨h.size,h.defers,λi hi=>dn.nx oE (λ_ _ h=>h) (λ_ _ _ _ h=>h) (λ_ _ h=>h) (λ_ _ _=>⟨λ_ h=>h,rfl⟩) (h.iZ i hi),λd r p snap hm=>sA.nx oE (h.gh d r p snap hm),h.qe,h.qS,h.ld,h.mD,h.ext,h.own,h.a0,h.a1,λj k hm=>?_,λr t m H v hg hl=>h.whole r t m H v hg λk hm=>hl k (bD _ hm),λj k hm R hR=>?_,h.yp⟩
 ·rcases aY.1 hm with e | hm
  ·grind
  ·exact h.pu j k hm
 ·rcases aY.1 hm with e | hm
  ·injection e with e1 e2;injection e2 with e2 e3;subst e1;subst e2;exact hd R hR
  ·exact h.om j k hm R hR
theorem T8 {l:List (Nat×Nat×Bool)} {i n:Nat} (h:JG l i=some n):(i,n,true) ∈ l:=by
 induction l <;> grind [JG,Nat.beq_eq]
theorem aaC (h:ek P C A σ a w F) {t:Nat} {y:Operand} (ho:o.op=.box t y) (bd:d_ P y=true) {mv:Bool} {K:St->Option R}
  (hk:(qQ E t λt=>nw σ (eh σ y) mv t λm v σ'=>K (N9 σ y o.dst (σ'.cq o.dst (.box t m [] v))))=some x):o.wp P a w (λa' w'=>Nx P C K x a' w'/\Ext w w' (λ_ _=>0)) Q:=by
 obtain ⟨T,hT,hk⟩:=ik hk
 rcases gi h bd with hs | ⟨xs,e⟩
 rotate_left
 ·grind [nw]
 have hk0:=hk;obtain ⟨A',σ',F',m,v,cs,Fv,k1,k2,k3,k4,kr,k5,k6⟩:=vB h hs hk;have hl:=au.length _ k6;have rU:=au.one _ k6;have hcv:(dm T cs).cells=cs.toArray:=by grind [lV]
 obtain ⟨A2,F2,hF⟩:=Sw k3 (K:=λs=>some s) (x:=σ'.cq o.dst (.box T m [] v)) (d:=o.dst) t rfl k6 (λb i=>by omega);refine pg (v:=.pointer (some ⟨w.heap.size,0,none⟩)) (w':=w.alloc (.cells cs.toArray t)) ?_ ?_
 ·simp_all [execOp,Instr.box,newVar,newRow]
 ·refine ⟨⟨_,k1,A2,F2,?_⟩,qg w _⟩
  clear hk;unfold N9;split
  ·rename_i i d hd;split
   ·rename_i t0 m0 H0 v0 hg;split
    ·rename_i n hn;rw[hd] at hF ⊢;refine Rel.adF hF λR hR=>?_;have mm:=h.om i n (T8 hn) ⟨t0,H0,(tmp a i).cells.toList,none⟩ (by rw[hg];rfl);have kY:tmp a i=dm T cs:=k5
     have ht0:t0=T:=by
      simp only[eh,hg] at hk0;grind [nw,qy,yg,o3,di]
     subst ht0;simp only[kY,lV hl rU] at mm;simp only[St.cq,zA] at hR;split at hR
     ·rename_i hc
      have htd:tmp (a.put (some d) (.pointer (some ⟨w.heap.size,0,none⟩))) d=.pointer (some ⟨w.heap.size,0,none⟩):=by
       rw[pe,aM ⟨rfl,by rw[h.size,<- k4];exact hc.2⟩]
      rw[htd] at hR;simp only[ei,aQ] at hR;subst hR;have hh:=CX w cs.toArray t (0,0) (k:=0) (L:=cs) (λj u hu=>by simpa using hu) rU;grind [fy]
     ·rename_i hc
      have hge:σ'.n<=d:=by
       grind
      rw[mN (fK.2 hge)] at hR;cases hR
    ·exact hF
   ·exact hF
  ·exact hF
end
end OT
namespace OT
open Go
section
variable {P:Program} {C:Ctx} {A:Cells} {X:FP} {σ:St} {a:Act} {w:World} {F:Nat->FP} {R:Type} {x:R} {Q:Exit->Act->World->Prop} {o:Oper} {E:Env}
theorem Rel.giveUp (h:Rel P C A X σ a w F) {A1:Cells} {X1:FP} (hA:∀ b i,A b i->A1 b i) (Ih:∀ b i,A1 b i->A b i\/(1<=X b i/\X1 b i=0)) (hX:∀ b i,X1 b i<=X b i):Rel P C A1 X1 σ a w F:=by
 have oE:zy σ a w σ a w:=λr p snap hb=>⟨hb,λbd=>⟨bd,λhl pl i7=>⟨pl.H,pl.cs,i7,λ_=>rfl⟩⟩⟩
 refine ⟨h.size,h.defers,λi hi=>dn.nx oE hA (λ_ _ _ _ h=>h) (λ_ _ h=>h) (λ_ _ _=>⟨λ_ h=>h,rfl⟩) (h.iZ i hi),h.gh,λb i=>by have:=h.qe b i;grind,
  λb i hp ha=>?_,λb i hp=>?_,h.mD,h.ext,λb i hp=>h.own b i (by grind),λb i ha=>hA b i (h.a0 b i ha),λb i ha=>?_,h.pu,h.whole,h.om,h.yp⟩
 ·rcases Ih b i ha with ha | ha
  ·exact h.qS b i (by grind) ha
  ·have:=h.qe b i;omega
 ·rcases hp with hp | ha
  ·exact h.ld b i (.inl (by grind))
  ·rcases Ih b i ha with ha | ha
   ·exact h.ld b i (.inr ha)
   ·exact h.ld b i (.inl Bys)
 ·rcases Ih b i ha with ha | ha
  ·exact h.a1 b i ha
  ·exact .inr (h.own b i Bys)
theorem Wf {off:Nat} {l cs:List Value} (h:off+l.length<=cs.length) :
  ((l.toArray.zipIdx).foldl (λcs (x:Value×Nat)=>cs.setIfInBounds (off+x.2) x.1) cs.toArray)=(cs.take off++l++cs.drop (off+l.length)).toArray:=by
 obtain ⟨h1,h2⟩:=Great.foldl_set off l 0 cs.toArray;have e:(l.toArray.zipIdx).foldl (λcs (x:Value×Nat)=>cs.setIfInBounds (off+x.2) x.1) cs.toArray=(l.zipIdx 0).foldl (λcs (x:Value×Nat)=>cs.setIfInBounds (off+x.2) x.1) cs.toArray:=by simp
 rw[e];apply Array.ext_getElem?;grind
theorem Gs {pl:Nat->Option (Nat×Nat)} {j off sz:Nat} (hp:pl j=some (off,sz)) {t:Ty} {l cs:List Value} (hl:l.length=sz) (h1:(dm t l).cells.toList=l) (h:off+sz<=cs.length) (rest:List (Nat×Value)) :
  Instr.fill pl cs.toArray ((j,dm t l)::rest)=Instr.fill pl (cs.take off++l++cs.drop (off+sz)).toArray rest:=by
 have hc:(dm t l).cells=l.toArray:=Array.ext' (by simpa using h1);grind [Instr.fill,Wf]
theorem Wg:∀ (n:Nat) (t:Ty) {t':Ty} {m m':Md} {v:t.den} {y:t'.den} {cs ys:List Value} {G H:FP} {K:Md->t.den->Option R},au P w A t m [] v cs G->au P w A t' m' [] y ys H ->
  FZ n t m v t' m' y K=some x->∃ m2 v2,K m2 v2=some x/\au P w A t m2 [] v2 (cs.take (kI n t)++ys++cs.drop (kI n t+t'.sz)) (λb i=>G b i+H b i)/\kI n t+t'.sz<=cs.length:=by
 intro n
 induction n with
 | zero=>
  intro t t' m m' v y cs ys G H K hr hy hk
  cases t with
  | pair a b=>
   simp only[FZ] at hk;obtain ⟨e,hk⟩:=di hk;subst e;have hl:=au.length _ hr;have hly:=au.length _ hy;obtain ⟨h0,F1,F2,hs,h1,h2⟩:=hr;refine ⟨_,_,hk,⟨rfl,H,F2,λb i=>by grind,?_,?_⟩,?_⟩
   all_goals simp_all [kI,Md.l,Md.r,Ty.sz]
  | _=>cases hk
 | succ n ih=>
  intro t t' m m' v y cs ys G H K hr hy hk
  cases t with
  | pair a b=>
   simp only[FZ] at hk;have hl:=au.length _ hr;obtain ⟨h0,F1,F2,hs,h1,h2⟩:=hr;obtain ⟨m2,v2,k1,k2,k3⟩:=ih b h2 hy hk;simp only[bX] at k3;simp only[Ty.sz] at hl;refine ⟨_,_,k1,⟨rfl,F1,λb i=>F2 b i+H b i,λb i=>by grind,?_,?_⟩,?_⟩
   ·simp only[kI,dX,Md.l]
    have:(cs.take (a.sz+kI n b)++ys++cs.drop (a.sz+kI n b+t'.sz)).take a.sz=cs.take a.sz:=by
     simp_all [List.take_append_of_le_length,eR]
    rw[this];exact h1
   ·simp only[kI,dX,Md.r]
    have:(cs.take (a.sz+kI n b)++ys++cs.drop (a.sz+kI n b+t'.sz)).drop a.sz=(cs.drop a.sz).take (kI n b)++ys++(cs.drop a.sz).drop (kI n b+t'.sz):=by
     rw[bK,gA (by simp;omega),eQ,dE,bK];rw[show a.sz+kI n b - a.sz=kI n b by omega,show a.sz+(kI n b+t'.sz)=a.sz+kI n b+t'.sz by omega]
    grind
   ·simp only[kI];omega
  | _=>cases hk
theorem OB {α β:Type} (g:α->Option β):∀ (l:List α) (ps:List β),l.mapM g=some ps->∀ (j:Nat) (f:α),l[j]?=some f->ps[j]?=g f
 | [],ps,h,j,f,hf=>by cases hf
 | y::l,ps,h,j,f,hf=>by
  simp only[List.mapM_cons,Option.bind_eq_bind,Option.pure_def] at h
  cases hy:g y with
  | none=>simp[hy] at h
  | some z=>
   cases hr:l.mapM g with
   | none=>grind
   | some r=>
    simp only[hy,hr,aA,aQ] at h;subst h
    cases j with
    | zero=>grind
    | succ j=>exact OB g l r hr j f hf
theorem T9:∀ (t:Ty) {fs:List Field} {off:Nat},bn P t (.inr (fs,off))=true->∃ ps,fs.mapM (λf=>(P.info? f.type).map λi=>(f.offset,i.size))=some ps:=by
 intro t
 induction t with
 | unit=>
  simp_all [bn]
 | pair a b nz nr=>
  intro fs off h
  cases fs with
  | nil=>simp_all
  | cons f r=>
   simp only[bn,aD] at h;obtain ⟨ps,yC⟩:=nr h.2;obtain ⟨inf,hi,_⟩:=lD (mG h.1.2);grind
 | _=>grind [bn]
theorem Nr {T:Ty} {i:TypeId} (hl:bn P T (.inl i)=true) {j:Nat} {t':Ty} (hj:vW j T=some t') :
  ∃ fs ps,P.underlying i=some (.struct fs)/\fs.toList.mapM (λf=>(P.info? f.type).map λi=>(f.offset,i.size))=some ps/\∀ j t',vW j T=some t'->ps.toArray[j]?=some (kI j T,t'.sz):=by
 cases T with
 | pair a b=>
  have hl0:=hl;simp only[bn,aD] at hl;have h2:=hl.2;split at h2
  ·rename_i fs hu;split at h2
   ·rename_i f r JY
    have h3:bn P (.pair a b) (.inr (f::r,0))=true:=by
     grind [bn]
    obtain ⟨ps,yC⟩:=T9 _ h3;refine ⟨fs,ps,hu,by grind,λj t' hj=>?_⟩
    obtain ⟨f',q1,q2,q3,q4⟩:=Sr j (.pair a b) h3 hj;have:=OB _ _ _ yC j f' q1;obtain ⟨inf,hi,hs,_⟩:=lD (mG q3);grind
   ·cases h2
  ·cases h2
 | _=>cases j <;> cases hj
theorem Wh {T:Ty} {fz:Nat->Bool} {pl:Nat->Option (Nat×Nat)} (i7:∀ j t',vW j T=some t'->pl j=some (kI j T,t'.sz)) {K:Md->T.den->St->Option R} :
  ∀ (ps:List (Nat×Operand)) {n:Nat} {σ:St} {A:Cells} {X:FP} {F:Nat->FP} {m:Md} {v:T.den} {cs:List Value},ps.all (λp=>d_ P p.2)=true->Rel P C A X σ a w F->au P w A T m [] v cs X ->
   F7 E σ T fz ps n m v K=some x->∃ A' σ' F' m' v' co X',K m' v' σ'=some x/\Rel P C A' X' σ' a w F'/\au P w A' T m' [] v' co X'/\Instr.fill pl cs.toArray (ps.map λp=>(p.1,a.eval p.2))=some co.toArray:=by
 intro ps
 induction ps with
 | nil=>intro n σ A X F m v cs bd h hr hk;exact ⟨A,σ,F,m,v,cs,X,hk,h,hr,rfl⟩
 | cons p ps ih=>
  intro n σ A X F m v cs bd h hr hk;obtain ⟨j,y⟩:=p;simp only[eA,aD] at bd;simp only[F7] at hk;split at hk
  ·rename_i t' FM
   rcases gi h bd.1 with hs | ⟨xs,e⟩
   rotate_left
   ·grind [nw]
   obtain ⟨A1,qA,F1,m1,v1,rp,Fv,k1,k2,k3,k4,kr,k5,k6⟩:=vB h hs hk;have xi:=au.mono (P:=P) (A':=A1) k2 (λ_ _ _ _ h=>h) (λ_ _ h=>h) T hr (λ_ _=>aI _) (λ_ _ _ _ h=>h);obtain ⟨m2,v2,q1,q2,q3⟩:=Wg j T xi k6 k1;obtain ⟨A',σ',F',m',v',co,X',g1,g2,g3,g4⟩:=ih bd.2 k3 q2 q1;refine ⟨A',σ',F',m',v',co,X',g1,g2,g3,?_⟩
   rw[dR,k5,Gs (i7 j t' FM) (au.length _ k6) (lV (au.length _ k6) (au.one _ k6)) q3];exact g4
  ·cases hk
theorem aaD {n j:Nat} {e:Ty} {v:List e.den} {y:e.den} {cs ys:List Value} (h:Ro P w A (.arr n e) v cs) (hy:Ro P w A e y ys) (hj:j < v.length) :
  Ro P w A (.arr n e) (v.set j y) (cs.take (j*e.sz)++ys++cs.drop (j*e.sz+e.sz))/\j*e.sz+e.sz<=cs.length:=by
 obtain ⟨h1,h2,h3,h4⟩:=h;have hly:=Ro.length _ hy
 have hle:j*e.sz+e.sz<=cs.length:=by
  rw[h3,<- eH];exact aZ _ Bys
 refine ⟨⟨h1,by simpa using h2,by grind,λi z hz=>?_⟩,hle⟩
 rw[eC] at hz;split at hz
 ·grind
 ·rename_i lU;have h5:=h4 i z hz
  have:((cs.take (j*e.sz)++ys++cs.drop (j*e.sz+e.sz)).drop (i*e.sz)).take e.sz=(cs.drop (i*e.sz)).take e.sz:=by
   rcases cK i j with sw | sw
   ·have h6:i*e.sz+e.sz<=j*e.sz:=by rw[<-eH];exact aZ _ Bys
    grind [List.drop_take]
   ·have h6:j*e.sz+e.sz<=i*e.sz:=by rw[<-eH];exact aZ _ Bys
    have h7:(cs.take (j*e.sz)++ys).length=j*e.sz+e.sz:=by grind
    rw[List.drop_append,h7,eU Bys,cG,dE];congr 2;omega
  grind
theorem aaE {n0:Nat} {e:Ty} {fz:Nat->Bool} (hf:e.flat=true) {K:List e.den->St->Option R} :
  ∀ (ps:List (Nat×Operand)) {n:Nat} {σ:St} {A:Cells} {F:Nat->FP} {v:List e.den} {cs:List Value},ps.all (λp=>d_ P p.2)=true->ek P C A σ a w F->Ro P w A (.arr n0 e) v cs ->
   N5 σ e fz ps n v K=some x->∃ A' σ' F' v' co,K v' σ'=some x/\ek P C A' σ' a w F'/\Ro P w A' (.arr n0 e) v' co/\Instr.fill (λi=>some (i*e.sz,e.sz)) cs.toArray (ps.map λp=>(p.1,a.eval p.2))=some co.toArray:=by
 intro ps
 induction ps with
 | nil=>intro n σ A F v cs bd h hr hk;exact ⟨A,σ,F,v,cs,hk,h,hr,rfl⟩
 | cons p ps ih=>
  intro n σ A F v cs bd h hr hk;obtain ⟨j,y⟩:=p;simp only[eA,aD] at bd;simp only[N5] at hk
  rcases gi h bd.1 with hs | ⟨xs,e⟩
  rotate_left
  ·grind [nw]
  obtain ⟨A1,qA,F1,m1,v1,rp,Fv,k1,k2,k3,k4,kr,k5,k6⟩:=vB h hs hk;split at k1
  ·rename_i hj;have xi:Ro P w A1 (.arr n0 e) v cs:=Ro.mono (λ_ _ _ _ h=>h) k2 _ hr;obtain ⟨q1,q2⟩:=aaD xi (au.flat _ hf k6) hj;obtain ⟨A',σ',F',v',co,g1,g2,g3,g4⟩:=ih bd.2 (k3.less (X':=λ_ _=>0) λ_ _=>aW _) q1 k1;refine ⟨A',σ',F',v',co,g1,g2,g3,?_⟩
   rw[dR,k5,Gs (pl:=λi=>some (i*e.sz,e.sz)) rfl (au.length _ k6) (lV (au.length _ k6) (au.one _ k6)) q2];exact g4
  ·cases k1
theorem T_ (h:ek P C A σ a w F) (kY:∀ i T,E.TI i=some T->bn P T (.inl i)=true) {t:Nat} {ps:Array (Nat×Operand)} {fz:Nat->Bool} (ho:o.op=.build t ps) (bd:ps.toList.all (λp=>d_ P p.2)=true) {K:St->Option R}
  (hk:(qQ E t λt=>match t with
  | .arr n e=>if e.w8 then N5 σ e fz ps.toList 0 (Ty.arr n e).zero λv σ=>K (σ.cq o.dst (laid (.arr n e) (aj (.arr n e)) v)) else none
  | .pair t1 t2=>if (Ty.pair t1 t2).w8 then F7 E σ (.pair t1 t2) fz ps.toList 0 (aj (.pair t1 t2)) (Ty.pair t1 t2).zero λm v σ=>K (σ.cq o.dst (laid (.pair t1 t2) m v)) else none
  | _=>none)=some x):Tk P o a w (Nx P C K x):=by
 obtain ⟨T,hT,hk⟩:=ik hk;have jr:=kY _ _ hT
 have run:∀ (cells:Array Value),P.built t (ps.map λ(i,x)=>(i,a.eval x)).toList=some cells->∀ w',uZ o w w'->(execOp a.eval o).run P w'=.ok (.value (.agg cells)) w':=λcells hc w' _=>by
  simp_all [execOp,run_build]
 have yC:(ps.map λ(i,x)=>(i,a.eval x)).toList=ps.toList.map λp=>(p.1,a.eval p.2):=by simp
 rw[yC] at run;split at hk
 ·rename_i n e;split at hk
  ·rename_i hz
   have acQ:e.flat=true:=by
    grind [bn]
   obtain ⟨L,hL⟩:=wi (.arr n e) (by simpa [Ty.w8] using hz);obtain ⟨r1,r2,r3⟩:=CU (P:=P) (w:=w) (A:=A) _ hL jr;obtain ⟨inf,i1,i2,i3,i4⟩:=lD (mG jr);obtain ⟨z,z1,z2⟩:=i4 L hL;obtain ⟨A',σ',F',v',co,g1,g2,g3,g4⟩:=aaE acQ ps.toList bd h r2 hk
   have hu:∃ el ie,P.underlying t=some (.array n el)/\P.info? el=some ie/\ie.size=e.sz:=by
    have hl:=jr;simp only[bn,aD] at hl;have h2:=hl.2;split at h2
    ·rename_i n' el hu;simp only[aD,eI] at h2;obtain ⟨ie,j1,j2,_⟩:=lD (mG h2.2);grind
    ·cases h2
   obtain ⟨el,ie,u1,u2,u3⟩:=hu;have hz':z.cells=L.toArray:=Array.ext' (by simpa using z2);have e1:dm (.arr n e) co=.agg co.toArray:=rfl;refine iF (v:=dm (.arr n e) co) (run _ ?_) ?_
   ·grind [Program.built]
   ·exact B5 g2 g1 (Ro.flat _ (λ_ _=>0) (by grind [Ty.flat]) g3) (λ_ _=>aI _)
  ·cases hk
 ·rename_i t1 t2;split at hk
  ·rename_i hz;obtain ⟨L,hL⟩:=wi (.pair t1 t2) hz;obtain ⟨r1,r2,r3⟩:=CU (P:=P) (w:=w) (A:=A) _ hL jr;obtain ⟨inf,i1,i2,i3,i4⟩:=lD (mG jr);obtain ⟨z,z1,z2⟩:=i4 L hL;have hz':z.cells=L.toArray:=Array.ext' (by simpa using z2);obtain ⟨fs,pls,u1,u2,u3⟩:=Nr jr (j:=0) rfl;obtain ⟨A',σ',F',m',v',co,X',g1,g2,g3,g4⟩:=Wh (pl:=λj=>pls.toArray[j]?) u3 ps.toList bd h r1 hk;refine iF (v:=dm (.pair t1 t2) co) (run _ ?_) (B5 g2 g1 g3 (λ_ _=>aI _));grind [Program.built]
  ·cases hk
 ·cases hk
theorem aaF {e:Ty} {fz:Nat->Bool} (ol:1<=e.sz) {K:Md->List e.den->St->Option R} :
  ∀ (ps:List (Nat×Operand)) {n:Nat} {σ:St} {A:Cells} {X:FP} {F:Nat->FP} {m:Md} {v:List e.den} {L Z:List Value} {Fi:Nat->FP},ps.all (λp=>d_ P p.2)=true->Rel P C A X σ a w F ->
   List.length v=n->L.length=n*e.sz->Z.length=ps.length*e.sz->(∀ b i,bi n Fi b i<=X b i)->(∀ (i:Nat) (y:e.den),v[i]?=some y->au P w A e m [] y ((L.drop (i*e.sz)).take e.sz) (Fi i)) ->
   IU σ e fz ps n m v K=some x->∃ (A':Cells) (σ':St) (F':Nat->FP) (m':Md) (v':List e.den) (L':List Value) (X':FP) (J5:Nat->FP),K m' v' σ'=some x/\Rel P C A' X' σ' a w F'/\List.length v'=n+ps.length/\L'.length=(n+ps.length)*e.sz/\(∀ b i,bi (n+ps.length) J5 b i<=X' b i) /\
    (∀ (i:Nat) (y:e.den),v'[i]?=some y->au P w A' e m' [] y ((L'.drop (i*e.sz)).take e.sz) (J5 i))/\Instr.fill (λi=>some (i*e.sz,e.sz)) (L++Z).toArray (ps.map λp=>(p.1,a.eval p.2))=some L'.toArray:=by
 intro ps
 induction ps with
 | nil=>
  intro n σ A X F m v L Z Fi bd h hv hL hZ hX hr hk;have:Z=[]:=by simpa using hZ
  subst this;exact ⟨A,σ,F,m,v,L,X,Fi,hk,h,hv,hL,hX,hr,by simp[Instr.fill]⟩
 | cons p ps ih=>
  intro n σ A X F m v L Z Fi bd h hv hL hZ hX hr hk;obtain ⟨j,y⟩:=p;simp only[eA,aD] at bd;simp only[IU] at hk;split at hk
  ·rename_i hj;have hj:j=n:=by simpa using hj
   subst hj
   rcases gi h bd.1 with hs | ⟨xs,e⟩
   rotate_left
   ·grind [nw]
   obtain ⟨A1,qA,F1,m1,v1,rp,Fv,k1,k2,k3,k4,kr,k5,k6⟩:=vB h hs hk;have A5:=au.length _ k6;have hZ1:Z.length=e.sz+ps.length*e.sz:=by grind
   have hgo:∀ {A2:Cells} {X2:FP} {m2:Md} {OC:Nat->FP},Rel P C A2 X2 qA a w F1->(∀ b i,bi (j+1) OC b i<=X2 b i)->(∀ (i:Nat) (y:e.den),v[i]?=some y->au P w A2 e m2 [] y ((L.drop (i*e.sz)).take e.sz) (OC i)) ->
     au P w A2 e m2 [] v1 rp (OC j)->IU qA e fz ps (j+1) m2 (v++[v1]) K=some x ->
     ∃ (A':Cells) (σ':St) (F':Nat->FP) (m':Md) (v':List e.den) (L':List Value) (X':FP) (J5:Nat->FP),K m' v' σ'=some x/\Rel P C A' X' σ' a w F'/\List.length v'=j+(ps.length+1)/\L'.length=(j+(ps.length+1))*e.sz/\(∀ b i,bi (j+(ps.length+1)) J5 b i<=X' b i) /\
      (∀ (i:Nat) (y:e.den),v'[i]?=some y->au P w A' e m' [] y ((L'.drop (i*e.sz)).take e.sz) (J5 i))/\Instr.fill (λi=>some (i*e.sz,e.sz)) (L++Z).toArray ((j,a.eval y)::ps.map λp=>(p.1,a.eval p.2))=some L'.toArray:=by
    intro A2 X2 m2 OC h2 hX2 wd hn2 nB
    obtain ⟨A',σ',F',m',v',L',X',J5,g1,g2,g3,g4,g5,g6,g7⟩:=ih (L:=L++rp) (Z:=Z.drop e.sz) (Fi:=OC) bd.2 h2 (by simp[hv]) (by grind) (by simp[hZ1]) hX2 (λi z hz=>by
     by_cases hi:i=j
     ·grind
     ·have a8:i < j:=by
       grind
      rw[cS Bys] at hz;have h6:i*e.sz+e.sz<=j*e.sz:=by rw[<-eH];exact aZ _ Bys
      grind) nB
    refine ⟨A',σ',F',m',v',L',X',J5,g1,g2,by omega,by grind,λb i=>by grind,g6,?_⟩
    rw[k5,Gs (pl:=λi=>some (i*e.sz,e.sz)) rfl A5 (lV A5 (au.one _ k6)) (by simp[hL,hZ1])];grind [List.drop_append,List.drop_of_length_le,Nat.add_sub_cancel_left]
   have xi:∀ (i:Nat) (y:e.den),v[i]?=some y->au P w A1 e m [] y ((L.drop (i*e.sz)).take e.sz) (Fi i):=λi y hy=>au.mono (P:=P) (A':=A1) k2 (λ_ _ _ _ h=>h) (λ_ _ h=>h) e (hr i y hy) (λ_ _=>aI _) (λ_ _ _ _ h=>h);split at k1
   ·rename_i hm;subst hm;refine hgo (OC:=gv Fi j Fv) k3 (λb i=>?_) (λi y hy=>?_) (by grind [gv]) k1
    ·have h1:=wa j 1 (gv Fi j Fv) b i;have h2:bi j (gv Fi j Fv) b i=bi j Fi b i:=by rw[Od Fi (aI j)]
     have h3:bi 1 (λk=>gv Fi j Fv (j+k)) b i=Fv b i:=by simp[bi,gv]
     grind
    grind [gv]
   ·
    have yz:∃ A2:Cells,(∀ b i,A1 b i->A2 b i)/\Rel P C A2 (λ_ _=>0) qA a w F1/\Ro P w A2 e v1 rp/\∀ (i:Nat) (y:e.den),v[i]?=some y->Ro P w A2 e y ((L.drop (i*e.sz)).take e.sz):=by
     refine ⟨λb i=>A1 b i\/1<=X b i+Fv b i,λ_ _ h=>.inl h,k3.giveUp (λ_ _ h=>.inl h) (λb i ha=>ha.imp id λhp=>⟨hp,rfl⟩) (λ_ _=>aW _),au.ym (λ_ _ h=>.inl h) e k6 (λb i hp=>.inr Bys),λi y hy=>?_⟩
     grind [au.ym,dy]
    obtain ⟨A2,a1,a2,a3,a4⟩:=yz;exact hgo (OC:=λ_ _ _=>0) a2 (λb i=>by grind [nH]) (λi y hy=>Ro.rep _ _ (iP _) (a4 i y hy)) (Ro.rep _ _ (iP _) a3) k1
  ·cases hk
theorem LF (h:ek P C A σ a w F) (kY:∀ i T,E.TI i=some T->bn P T (.inl i)=true) {t n:Nat} {ps:Array (Nat×Operand)} {fz:Nat->Bool} (ho:o.op=.buildSlice t n ps) (bd:ps.toList.all (λp=>d_ P p.2)=true) {K:St->Option R}
  (hk:(qQ E t λt=>match t with
  | .aa e=>if Nat.beq n ps.size&&e.w8&&Nat.ble (n*e.sz) 16777216 then IU σ e fz ps.toList 0 (aj e) [] λm v σ=>K (σ.cq o.dst (.own (.aa e) (.aa true m) [] v)) else none
  | _=>none)=some x):o.wp P a w (λa' w'=>Nx P C K x a' w'/\Ext w w' (λ_ _=>0)) Q:=by
 obtain ⟨T,hT,hk⟩:=ik hk;have jr:=kY _ _ hT;split at hk
 ·rename_i e;split at hk
  ·rename_i hc;simp only[aD,eI,dK] at hc;obtain ⟨⟨hn,hz⟩,pK⟩:=hc;have hl:=jr;simp only[bn,aD] at hl;have h2:=hl.2;split at h2
   ·rename_i el hu;simp only[aD,dK] at h2;obtain ⟨ol,sC⟩:=h2;obtain ⟨Lz,hLz⟩:=wi e hz;obtain ⟨r1,r2,r3⟩:=CU (P:=P) (w:=w) (A:=A) _ hLz sC;obtain ⟨inf,i1,i2,i3,i4⟩:=lD (mG sC);obtain ⟨z,z1,z2⟩:=i4 Lz hLz;have hzl:z.cells.size=e.sz:=by grind
    obtain ⟨A',σ',F',m',v',L',X',J5,g1,g2,g3,g4,g5,g6,g7⟩:=aaF (P:=P) ol ps.toList (n:=0) (L:=[]) (Z:=((Array.range (n*e.sz)).map (z.cells[· % z.cells.size]!)).toList) (Fi:=λ_ _ _=>0) (m:=aj e) bd h rfl (by simp) (by simp[hn]) (λb i=>by grind [nH]) (λi y hy=>by cases hy) hk;simp only[cG,Array.toArray_toList] at g7;simp only[bQ] at g3 g4 g5;have Al:ps.toList.length=n:=by simpa using hn.symm
    rw[Al] at g3 g4 g5
    have lg:(execOp a.eval o).run P w=.ok (.value (.slice (some ⟨w.heap.size,0,none⟩) n n)) (w.alloc (.cells L'.toArray el)):=by
     by_cases J6:n*e.sz=0
     ·have:n=0:=by rcases Nat.mul_eq_zero.1 J6 with h | h <;> omega
      subst this;have yC:ps=#[]:=by grind
      subst yC;have ZU:L'=[]:=by simpa using g4
      subst ZU;simp[execOp,ho,Instr.buildSlice,run_underlying hu,Go.sizeOf,typeInfo,i1,Instr.fill,newRow,show Array.range 0=#[] from rfl]
     simp_all [run_buildSlice,execOp]
    refine pg (w':=w.alloc (.cells L'.toArray el)) lg ?_
    have pH:=HR g2 (K:=K) (x:=x) (d:=o.dst) (e:=e) (m:=m') (v:=v') (c:=L'.toArray) (cap:=n) (el:=el) (fr:=(0,0)) (Fi:=J5) (.inr (aI _)) g1 (by simp[g4]) (by simp only[maxLen];have:=Nat.le_mul_of_pos_right n ol;omega) Bys
     (λb i=>by grind) (λi y hy=>⟨(L'.drop (i*e.sz)).take e.sz,au.length _ (g6 i y hy),(λj u hu=>by
      grind),g6 i y hy⟩)
    grind [qg]
   ·cases h2
  ·cases hk
 ·cases hk
end
end OT
namespace OT
open Go
section
variable {P:Program} {C:Ctx} {A:Cells} {X:FP} {σ:St} {a:Act} {w:World} {F:Nat->FP} {R:Type} {x:R} {Q:Exit->Act->World->Prop} {o:Oper} {E:Env}
theorem Rel.world (h:Rel P C A X σ a w F) {w1:World} {G:FP} (hw:Ext w w1 G) (hG:∀ b i,1<=G b i->1<=X b i):Rel P C A X σ a w1 F:=by
 have uA:∀ b i,A b i->∀ u,ce w b i=some u->ce w1 b i=some u:=λb i ha u hu=>by
  refine hw.cell b i (h.ld b i (.inr ha)) ?_ u hu;rcases bI (G b i) with h0 | h0
  ·exact h0
  ·exact absurd ha (h.qS b i (by grind))
 have Gl:∀ j,j < σ.n->∀ b i,1<=F j b i->(∀ u,ce w b i=some u->ce w1 b i=some u)/\w1.frozen? ⟨b,i,none⟩=w.frozen? ⟨b,i,none⟩:=λj hj b i hp=>by
  have hs:=dy F hj b i;have hb:=h.ld b i (.inl Bys);refine ⟨λu hu=>hw.cell b i hb ?_ u hu,hw.AK b i hb⟩
  rcases bI (G b i) with h0 | h0
  ·exact h0
  ·have:=hG b i h0;have:=h.qe b i;omega
 have oE:zy σ a w σ a w1:=λr p snap hb=>⟨hb,λbd=>⟨bd,λhl pl i7=>⟨pl.H,pl.cs,by
  have a8:=uY i7
  exact xj (h.iZ r a8) rfl rfl uA (λb i hp=>(Gl r a8 b i hp).1) i7,λ_=>rfl⟩⟩⟩
 refine ⟨h.size,h.defers,λi hi=>dn.nx oE (λ_ _ h=>h) uA hw.xT (Gl i hi) (h.iZ i hi),λd r p snap hm=>sA.nx oE (h.gh d r p snap hm),h.qe,h.qS,λb i hp=>cO (h.ld b i hp) hw.size,
  h.mD,h.ext.trans hw (λb i hb hz=>?_),h.own,h.a0,h.a1,h.pu,λr t m H v hg hl=>?_,λj k hm R' qf=>?_,h.yp⟩
 ·rcases bI (G b i) with h0 | h0
  ·exact h0
  ·rcases h.own b i (by grind) with h1 | h1 <;> omega
 ·obtain ⟨b,h1,h2⟩:=h.whole r t m H v hg hl;exact ⟨b,h1,hw.xT _ _ h2⟩
 ·rcases cK j σ.n with hj | hj
  ·have mF:=h.iZ j hj
   cases A4:ei w (tmp a j) (σ.get j) with
   | none=>exfalso;cases hg:σ.get j <;> rw[hg] at A4 qf <;> simp only[ei] at A4 qf <;> first | grind | grind | grind
   | some R0=>
    rw[yr mF (λb i hp=>(Gl j hj b i hp).1) A4] at qf;injection qf with qf;subst qf;exact h.om j k hm _ A4
  ·rw[mN (fK.2 hj)] at qf;cases qf
theorem J7 {b o sz:Nat} {n:Nat} (h:∀ i,i < n->∃ L:List Value,L.length=sz/\Has w b (o+i*sz) L):Has w b o (rd w b o (n*sz))/\∀ i L,i < n->L.length=sz->Has w b (o+i*sz) L->((rd w b o (n*sz)).drop (i*sz)).take sz=L:=by
 have HS:∀ j,j < n*sz->(ce w b (o+j)).isSome=true:=λj hj=>by
  have ol:0 < sz:=by grind
  have hi:j / sz < n:=Nat.div_lt_of_lt_mul (by grind);obtain ⟨L,h1,h2⟩:=h _ hi;have hm:j % sz < L.length:=by simp_all [Nat.mod_lt]
  have:=h2 (j % sz) _ (aB hm);grind [Nat.div_add_mod]
 refine ⟨λj u hu=>?_,λi L hi hl hL=>?_⟩
 ·have hj:=(aP.1 hu).1;rw[Ai] at hj;unfold rd at hu;rw[eL,gE hj] at hu;simp only[bN,aQ] at hu;obtain ⟨u',hu'⟩:=dZ.1 (HS j hj);grind
 ·have h6:i*sz+sz<=n*sz:=by rw[<-eH];exact aZ _ Bys
  apply eB;intro j;rw[bT,bM];by_cases hj:j < sz
  ·rw[aM hj];unfold rd;rw[eL,gE Bys];have:=hL j L[j] (aB Bys);grind
  grind
theorem J8 {e:Ty} {m:Md} {H:List Path} (hH:hole H=false) {v:List e.den} {cs:List Value} {Fv:FP} (hr:au P w A (.aa e) m H v cs Fv) :
  ∃ xa cap news Fi,cs=[.slice xa (List.length v) cap]/\(List.length v<=cap/\(xa=none->List.length v=0))/\(∀ ad,xa=some ad->(0 < cap->ad.spot=none)/\Has w ad.block ad.off news)/\news.length=List.length v*e.sz/\(∀ u ∈ news,u.oneCell'=true) /\
   (∀ (i:Nat) (y:e.den),v[i]?=some y->au P w A e m.e (H.filterMap (lc i)) y ((news.drop (i*e.sz)).take e.sz) (Fi i))/\(∀ b i,bi (List.length v) Fi b i<=Fv b i) /\
   (m.own=true->List.length v<=cap/\cap<=maxLen/\(xa=none->cap=0)/\∀ ad,xa=some ad->ad.off=0/\ad.spot=none/\jf w ad.block (cap*e.sz,IV e)/\∀ b i,d8 ad.block 0 (cap*e.sz) b i+bi (List.length v) Fi b i<=Fv b i):=by
 have rU:∀ (news:List Value) (Fi:Nat->FP),news.length=List.length v*e.sz->(∀ (i:Nat) (y:e.den),v[i]?=some y->au P w A e m.e (H.filterMap (lc i)) y ((news.drop (i*e.sz)).take e.sz) (Fi i))->∀ u ∈ news,u.oneCell'=true:=by
  intro news Fi hl sC u hu;obtain ⟨j,hj,rfl⟩:=cV.1 hu;have ol:0 < e.sz:=by grind
  have hi:j / e.sz < List.length v:=Nat.div_lt_of_lt_mul (by grind);have h1:=au.one _ (sC _ _ (aB hi));refine h1 _ (bU (i:=j % e.sz) ?_);grind [Nat.mod_lt,Nat.div_add_mod]
 simp only[au,hH,aF,aS] at hr;split at hr
 ·rename_i jz;obtain ⟨xa,cap,rfl,h1,h2,h3,h4⟩:=hr
  cases xa with
  | none=>
   have pK:=h3 rfl;have hv0:List.length v=0:=by omega
   have hv:v=[]:=bR hv0;subst hv;exact ⟨none,cap,[],λ_ _ _=>0,rfl,⟨aW _,λ_=>rfl⟩,(λad e=>by cases e),by simp,(λu hu=>by cases hu),(λi y hy=>by cases hy),λb i=>by grind [nH],λ_=>⟨h1,h2,h3,λad e=>by cases e⟩⟩
  | some ad=>
   obtain ⟨g1,g2,g3,Fi,g4,g5⟩:=h4 ad rfl
   have hp:∀ i,i < List.length v->∃ L:List Value,L.length=e.sz/\Has w ad.block (0+i*e.sz) L:=λi hi=>by
    obtain ⟨L,l1,l2,_⟩:=g5 i _ (aB hi);grind
   obtain ⟨p1,p2⟩:=J7 hp
   have sC:∀ (i:Nat) (y:e.den),v[i]?=some y->au P w A e m.e (H.filterMap (lc i)) y (((rd w ad.block 0 (List.length v*e.sz)).drop (i*e.sz)).take e.sz) (Fi i):=λi y hy=>by
    grind
   refine ⟨some ad,cap,rd w ad.block 0 (List.length v*e.sz),Fi,rfl,⟨h1,(λe=>by cases e)⟩,λdr e=>?_,Ai _ _ _ _,rU _ _ (Ai _ _ _ _) sC,sC,λb i=>by grind,λ_=>⟨h1,h2,h3,λdr e=>?_⟩⟩
   all_goals grind
 ·rename_i jz;obtain ⟨rfl,rP,xa,cap,rfl,h1,h2,h3⟩:=hr
  cases xa with
  | none=>
   have hv:v=[]:=bR (h2 rfl);subst hv;exact ⟨none,cap,[],λ_ _ _=>0,rfl,⟨aW _,λ_=>rfl⟩,(λad e=>by cases e),by simp,(λu hu=>by cases hu),(λi y hy=>by cases hy),(λb i=>by grind [nH]),λh=>absurd h jz⟩
  | some ad=>
   obtain ⟨g1,g2⟩:=h3 ad rfl
   have hp:∀ i,i < List.length v->∃ L:List Value,L.length=e.sz/\Has w ad.block (ad.off+i*e.sz) L:=λi hi=>by
    obtain ⟨L,l1,l2,_⟩:=g2 i _ (aB hi);exact ⟨L,l1,λj u hu=>(l2 j u hu).1⟩
   obtain ⟨p1,p2⟩:=J7 hp
   have sC:∀ (i:Nat) (y:e.den),v[i]?=some y->au P w A e m.e (([]:List Path).filterMap (lc i)) y (((rd w ad.block ad.off (List.length v*e.sz)).drop (i*e.sz)).take e.sz) (λ_ _=>0):=λi y hy=>by
    obtain ⟨L,l1,l2,l3⟩:=g2 i y hy;rw[p2 i L (aP.1 hy).1 l1 (λj u hu=>(l2 j u hu).1)];grind [Ro.rep]
   refine ⟨some ad,cap,rd w ad.block ad.off (List.length v*e.sz),λ_ _ _=>0,rfl,⟨h1,(λe=>by cases e)⟩,λdr e=>?_,Ai _ _ _ _,rU _ _ (Ai _ _ _ _) sC,sC,(λb i=>by grind [nH]),λh=>absurd h jz⟩
   grind
theorem Gt {e:Ty} {m:Md} {v:List e.den} {cs:List Value} {Fv:FP} (hr:au P w A (.aa e) m [] v cs Fv) :
  ∃ xa cap news Fi,cs=[.slice xa (List.length v) cap]/\(List.length v<=cap/\(xa=none->List.length v=0))/\(∀ ad,xa=some ad->(0 < cap->ad.spot=none)/\Has w ad.block ad.off news)/\news.length=List.length v*e.sz/\(∀ u ∈ news,u.oneCell'=true) /\
   (∀ (i:Nat) (y:e.den),v[i]?=some y->au P w A e m.e [] y ((news.drop (i*e.sz)).take e.sz) (Fi i))/\(∀ b i,bi (List.length v) Fi b i<=Fv b i) /\
   (m.own=true->List.length v<=cap/\cap<=maxLen/\(xa=none->cap=0)/\∀ ad,xa=some ad->ad.off=0/\ad.spot=none/\jf w ad.block (cap*e.sz,IV e)/\∀ b i,d8 ad.block 0 (cap*e.sz) b i+bi (List.length v) Fi b i<=Fv b i):=
 J8 rfl hr
theorem LG (h:Rel P C A X σ a w F) {s:Slot} {tv:Value} {G:FP} (hs:dn P A σ a w tv s G) {mv:Bool} {e:Ty} {tx:TypeId} (CY:(∃ e',P.underlying tx=some (.slice e'))\/P.underlying tx=some .string)
  {K:Md->List e.den->St->Option R} (hk:CP σ s e mv K=some x) :
  ∃ (A':Cells) (σ':St) (F':Nat->FP) (me:Md) (y:List e.den) (news:List Value) (Fv:FP) (Fi:Nat->FP),K me y σ'=some x/\(∀ b i,A b i->A' b i)/\Rel P C A' (λb i=>X b i+Fv b i) σ' a w F'/\rT σ σ' /\
   Src P e.sz tx tv (List.length y) news w/\(∀ k,k<=List.length y->(Builtin.firstCells e.sz k tv).run P w=.ok (news.take (k*e.sz)).toArray w)/\(∀ (i:Nat) (z:e.den),y[i]?=some z->au P w A' e me [] z ((news.drop (i*e.sz)).take e.sz) (Fi i))/\∀ b i,bi (List.length y) Fi b i<=Fv b i:=by
 unfold CP at hk;split at hk
 ·rename_i s';obtain ⟨e1,hk⟩:=di hk;injection e1 with e1;subst e1;obtain ⟨cs,h1,h2⟩:=hs;simp only[Ro] at h2;subst h2;have BY:tv=.string ⟨List.toArray s'⟩:=h1;subst BY;have hlen:(byteCells ⟨List.toArray s'⟩)=List.map (λ(b:UInt8)=>Value.int .u8 b.toNat) s':=by simp[byteCells]
  have ol:(⟨List.toArray s'⟩:ByteArray).size=List.length s':=rfl;refine ⟨A,σ,F,.leaf,s',byteCells ⟨List.toArray s'⟩,λ_ _=>0,λ_ _ _=>0,hk,λ_ _ h=>h,h,rT.refl σ,⟨CY,λ_=>rfl,firstCells_string _ w,firstCells_string _ w.drew,by grind [Ty.sz],λu hu=>?_⟩,λk hk=>?_,λi z hz=>?_,λb i=>by grind [nH]⟩
  ·obtain ⟨_,_,rfl⟩:=eV.1 hu;rfl
  ·rw[hlen];have aeO:((⟨List.toArray s'⟩:ByteArray).extract 0 k).data.toList=s'.take k:=by simp[ByteArray.data_extract]
   simp only[Builtin.firstCells,Sem.run_pure,Ty.sz,iB];simp_all
  ·have:((byteCells ⟨List.toArray s'⟩).drop (i*Ty.sz (.int .u8))).take (Ty.sz (.int .u8))=[Value.int .u8 z.toNat]:=by
    show ((byteCells ⟨List.toArray s'⟩).drop (i*1)).take 1=_;grind [List.take_one,List.head?_drop]
   exact this
 ·rename_i s' hns;obtain ⟨A',σ',F',m,v,cs,Fv,k1,k2,k3,k4,kr,k5,k6⟩:=vB h hs hk;obtain ⟨xa,cap,news,Fi,r1,r2,r3,r4,r5,r6,r7,r8⟩:=Gt k6;rw[r1,eo _ _ rfl] at k5;subst k5
  have Ov:∀ ad,xa=some ad->∀ j u,news[j]?=some u->w.cell? (ad.add j)=some u:=λad e1 j u hu=>by
   obtain ⟨g1,g2⟩:=r3 ad e1;have hj:=(aP.1 hu).1
   have I2:0 < cap:=by
    grind
   obtain ⟨b,off,sp⟩:=ad;have:=g1 I2;simp only at this;subst this;rw[rC];exact vK (g2 j u hu) (r5 u (bU hu))
  refine ⟨A',σ',F',m.e,v,news,Fv,Fi,k1,k2,k3,kr,?_,?_,r6,r7⟩
  rotate_left
  ·intro k hk
   cases xa with
   | none=>
    simp_all [run_firstCells_none]
   | some ad=>
    grind [Nat.mul_le_mul_right,run_firstCells_some]
  cases xa with
  | none=>
   have h0:=r2.2 rfl;have hn:news=[]:=bR (by grind);subst hn;rw[h0];exact ⟨CY,λ_=>rfl,run_firstCells_none w e.sz 0 0 cap,run_firstCells_none w.drew e.sz 0 0 cap,by simp,λu hu=>by cases hu⟩
  | some ad=>
   have hc:=Ov ad rfl;exact ⟨CY,λ_=>rfl,run_firstCells_some w e.sz (List.length v) ad (List.length v) cap news r4 hc,run_firstCells_some w.drew e.sz (List.length v) ad (List.length v) cap news r4 (by simpa using hc),r4,r5⟩
theorem I4 {e:Ty} {me:Md} {v y:List e.den} {rD news:List Value} {Fi Gi:Nat->FP} (hl:rD.length=List.length v*e.sz)
  (h1:∀ (i:Nat) (z:e.den),v[i]?=some z->au P w A e me [] z ((rD.drop (i*e.sz)).take e.sz) (Fi i)) (h2:∀ (i:Nat) (z:e.den),y[i]?=some z->au P w A e me [] z ((news.drop (i*e.sz)).take e.sz) (Gi i)) :
  ∀ (i:Nat) (z:e.den),(v++y)[i]?=some z->au P w A e me [] z (((rD++news).drop (i*e.sz)).take e.sz) (if i < List.length v then Fi i else Gi (i - List.length v)):=by
 intro i z hz;by_cases hi:i < List.length v
 ·rw[aM hi];rw[cS hi] at hz;have h6:i*e.sz+e.sz<=List.length v*e.sz:=by rw[<-eH];exact aZ _ Bys
  grind
 grind [Nat.mul_le_mul_right,List.drop_append,List.drop_of_length_le,Nat.sub_mul]
theorem OD (n m:Nat) (Fi Gi:Nat->FP) (b i:Nat):bi (n+m) (λi=>if i < n then Fi i else Gi (i - n)) b i=bi n Fi b i+bi m Gi b i:=by
 rw[wa];congr 1
 all_goals simp_all [yk,aV]
theorem Ro.indep {A':Cells}:∀ (t:Ty) {v:t.den} {cs:List Value},t.flat=true->t.sV=true->Ro P w A t v cs->Ro P w A' t v cs:=by
 intro t
 induction t with
 | pair a b nz nr=>
  intro v cs hf hn h;simp only[Ty.flat,Ty.sV,aD] at hf hn;exact ⟨nz hf.1 hn.1 h.1,nr hf.2 hn.2 h.2⟩
 | arr n e ih=>
  intro v cs hf hn h;exact ⟨h.1,h.2.1,h.2.2.1,λi x hx=>ih hf hn (h.2.2.2 i x hx)⟩
 | aa e ih=>grind [Ty.flat]
 | ptr e ih=>grind [Ty.flat]
 | fn=>grind [Ty.sV]
 | map k v=>grind [Ty.flat]
 | _=>intro v cs hf hn h;exact h
theorem J9 {A1 A2:Cells} {mX:St} {F2:Nat->FP} {t tx:Nat} {y z:Operand} (ho:o.op=.call { callee:=.builtin .append,args:=#[y,z],argTypes:=#[t,tx] }) {e:Ty} {el:Nat} (hu:P.underlying t=some (.slice el)) (sC:bn P e (.inl el)=true)
  {m me:Md} {v yv:List e.den} {cs news:List Value} {Fv Fw:FP} {Gi:Nat->FP} {K:St->Option R} (jz:m.own=true) (k5:a.eval y=dm (.aa e) cs) (k6:au P w A1 (.aa e) m [] v cs Fv) (pK:v.length+yv.length<=ct)
  (q1:K (mX.cq o.dst (.own (.aa e) (.aa true (if me=m.e then me else ak e)) [] (v++yv)))=some x) (q2:∀ b i,A1 b i->A2 b i) (q3:Rel P C A2 (λb i=>0+Fv b i+Fw b i) mX a w F2)
  (q4:Src P e.sz tx (a.eval z) (List.length yv) news w) (q5:∀ (i:Nat) (z:e.den),yv[i]?=some z->au P w A2 e me [] z ((news.drop (i*e.sz)).take e.sz) (Gi i)) (q6:∀ b i,bi (List.length yv) Gi b i<=Fw b i):o.wp P a w (Nx P C K x) Q:=by
 obtain ⟨inf,zv,i1,i2,i3,i4,i5,_⟩:=zT (mG sC);obtain ⟨xa,cap,rD,Fi,r1,r2,r3,r4,r5,r6,r7,r8⟩:=Gt k6;obtain ⟨c1,c2,c3,c4⟩:=r8 jz;rw[r1,eo _ _ rfl] at k5;have r6':∀ (i:Nat) (z:e.den),v[i]?=some z->au P w A2 e m.e [] z ((rD.drop (i*e.sz)).take e.sz) (Fi i):=λi z hz=>au.mono (P:=P) (A':=A2) q2 (λ_ _ _ _ h=>h) (λ_ _ h=>h) e (r6 i z hz) (λ_ _=>aI _) (λ_ _ _ _ h=>h)
 have zC:∃ (A3:Cells) (X3:FP) (Hi:Nat->FP),Rel P C A3 X3 mX a w F2/\(∀ (i:Nat) (z:e.den),(v++yv)[i]?=some z->au P w A3 e (if me=m.e then me else ak e) [] z (((rD++news).drop (i*e.sz)).take e.sz) (Hi i)) /\
   (∀ b i,bi (List.length v+List.length yv) Hi b i<=X3 b i)/\∀ ad,xa=some ad->∀ b i,d8 ad.block 0 (cap*e.sz) b i+bi (List.length v+List.length yv) Hi b i<=X3 b i:=by
  by_cases CT:me=m.e
  ·subst CT;refine ⟨A2,_,_,q3,by simp only[aH];exact I4 r4 r6' q5,λb i=>?_,λad lN b i=>?_⟩
   all_goals grind [OD]
  ·simp only[aV CT]
   obtain ⟨B,hB1,hB2,hB3⟩:∃ B:FP,(∀ b i,B b i+bi (List.length v) Fi b i<=Fv b i)/\(∀ ad,xa=some ad->∀ b i,d8 ad.block 0 (cap*e.sz) b i=B b i)/\∀ b i,B b i<=1:=by
    cases xa with
    | none=>exact ⟨λ_ _=>0,λb i=>by grind,(λad e=>by cases e),λ_ _=>aW _⟩
    | some ad=>exact ⟨d8 ad.block 0 (cap*e.sz),(c4 ad rfl).2.2.2,(λdr e=>by grind),λb i=>by grind [d8]⟩
   obtain ⟨A3,sy⟩:∃ A3:Cells,∀ b i,A3 b i↔(A2 b i\/(1<=0+Fv b i+Fw b i/\B b i=0)):=⟨λb i=>A2 b i\/(1<=0+Fv b i+Fw b i/\B b i=0),λ_ _=>iG⟩
   refine ⟨A3,B,λ_ _ _=>0,q3.giveUp (λb i h=>(sy b i).2 (.inl h)) (λb i ha=>(sy b i).1 ha) (λb i=>by grind),?_,λb i=>by grind [nH],λad lN b i=>by grind [nH]⟩
   have yt:∀ b i,(0+Fv b i+Fw b i)+bi mX.n F2 b i<=1:=λb i=>q3.qe b i
   have hv3:∀ (i:Nat) (z:e.den),v[i]?=some z->au P w A3 e (ak e) [] z ((rD.drop (i*e.sz)).take e.sz) (λ_ _=>0):=λi z hz=>Ro.rep _ _ (iP _) (au.ym (λb i h=>(sy b i).2 (.inl h)) e (r6' i z hz) λb k hp=>(sy b k).2 (.inr (by
    grind [dy])))
   have hy3:∀ (i:Nat) (z:e.den),yv[i]?=some z->au P w A3 e (ak e) [] z ((news.drop (i*e.sz)).take e.sz) (λ_ _=>0):=λi z hz=>Ro.rep _ _ (iP _) (au.ym (λb i h=>(sy b i).2 (.inl h)) e (q5 i z hz) λb k hp=>(sy b k).2 (.inr (by
    grind [dy])))
   exact λi z hz=>by simpa using I4 (Fi:=λ_ _ _=>0) (Gi:=λ_ _ _=>0) r4 hv3 hy3 i z hz
 obtain ⟨A3,X3,Hi,n1,n2,n3,n4⟩:=zC;have Sk:List.length (v++yv)=List.length v+List.length yv:=by simp
 by_cases Bc:List.length v+List.length yv<=cap
 ·cases xa with
  | none=>
   have hc0:=c3 rfl;have hv0:v=[]:=bR Bys;have hy0:yv=[]:=bR Bys;subst hv0;subst hy0;have xm:(Builtin.firstCells e.sz 0 (a.eval z)).run P w=.ok news.toArray w:=by have:=q4.cells;simpa using this
   have lg:(execOp a.eval o).run P w=.ok (.value (.slice none 0 cap)) w:=by
    rcases q4.kind with ⟨e',Sx⟩ | Sx <;>
     simp[execOp,ho,resolve,invoke,builtin,Builtin.append_,k5,run_underlying hu,run_underlying Sx,Go.sizeOf,typeInfo,i1,q4.len,i2,xm]
   refine pg lg (qC n1 q1 (Fd:=λ_ _=>0) ⟨[.slice none 0 cap],(eo _ _ rfl).symm,?_⟩ (λ_ _=>aW _) (λ_ _ _ _ e=>by cases e));grind [au,Md.own]
  | some ad=>
   obtain ⟨d1,d4,d2,d3⟩:=c4 ad rfl;obtain ⟨_,d5⟩:=r3 ad rfl;obtain ⟨b,off,sp⟩:=ad;simp only at d1 d2 d3 d4 d5;subst d1;subst d4;have n4':∀ b' i,d8 b 0 (cap*e.sz) b' i+bi (List.length v+List.length yv) Hi b' i<=X3 b' i:=n4 _ rfl;have Al:=q4.newsLen;have B_:List.length v*e.sz+news.length<=cap*e.sz:=by rw[Al,<- cU];exact aZ _ Bc
   have to:∀ j,j < cap*e.sz->(w.cell? ⟨b,j,none⟩).isSome=true:=λj hj=>by
    obtain ⟨c,e',fr,w1,w2,w3⟩:=d2;grind [World.cell?]
   have lg:=run_append_room_src (P:=P) w t tx o.type el inf hu i1 b 0 (List.length v) cap (a.eval z) (List.length yv) news (by grind) Bc (λj hj=>by grind) (λj hj=>by rw[i2,bQ];exact d2.frozen Bys);rw[i2,bQ] at lg
   have Ua:(execOp a.eval o).run P w=.ok (.value (.slice (some ⟨b,0,none⟩) (List.length v+List.length yv) cap)) (w.setCells b (List.length v*e.sz) news):=by
    simp_all [execOp,resolve,invoke,builtin]
   have f_:=pJ (b:=b) (o:=List.length v*e.sz) news w (List.length v*e.sz)
   have hX1:∀ b' i,1<=d8 b (List.length v*e.sz) news.length b' i->1<=d8 b 0 (cap*e.sz) b' i:=λb' i hp=>by
    grind [d8]
   have hn':=n1.world f_ (λb' i hp=>by grind);refine pg Ua (qC hn' q1 (Fd:=X3) ⟨[.slice (some ⟨b,0,none⟩) (List.length v+List.length yv) cap],(eo _ _ rfl).symm,?_⟩ (λ_ _=>aI _) (λ_ _ _ _ e=>by cases e));simp only[au,hole,bP,aF,aS,Md.own,aH,Md.e];refine ⟨some ⟨b,0,none⟩,cap,by rw[Sk],by omega,c2,(λe=>by cases e),λdr e'=>?_⟩
   injection e' with e';subst e';refine ⟨rfl,rfl,f_.xT _ _ d2,Hi,λb' i=>by grind,λi zz hz=>?_⟩
   have ja:=n2 i zz hz;have OE:i < List.length v+List.length yv:=by grind
   refine ⟨_,au.length _ ja,?_,?_⟩
   ·
    have tV:Has (w.setCells b (List.length v*e.sz) news) b 0 (rD++news):=λj u hu=>by
     rw[bQ];by_cases hj:j < rD.length
     ·rw[cS hj] at hu;have hold:=d5 j u hu;rw[bQ] at hold;refine f_.cell b j (by obtain ⟨c,e',fr,w1,_⟩:=d2;grind) ?_ u hold;grind [d8]
     ·rw[fE Bys] at hu;have:=yB (w:=w) (b:=b) (o:=List.length v*e.sz) (L:=news) (λk hk=>to _ Bys) q4.one _ u hu;grind
    intro j u hu;rw[bT] at hu;split at hu
    ·rw[bM] at hu;have:=tV _ u hu;grind
    ·cases hu
   ·simp only[dX];refine au.mono (P:=P) (λ_ _ h=>h) (λb' k ha u hu=>f_.cell b' k (n1.ld b' k (.inr ha)) ?_ u hu) f_.xT e ja (λ_ _=>aI _) (λb' k hp u hu=>f_.cell b' k ?_ ?_ u hu)
    ·rcases bI (d8 b (List.length v*e.sz) news.length b' k) with h0 | h0
     ·exact h0
     ·exact absurd ha (n1.qS b' k (by grind))
    ·exact n1.ld b' k (.inl (by grind [dy]))
    ·rcases bI (d8 b (List.length v*e.sz) news.length b' k) with h0 | h0
     ·exact h0
     ·have h1:=hX1 b' k h0;have h2:=n4' b' k;have h3:=dy Hi OE b' k;have h4:=n1.qe b' k;omega
 ·
  have acR:(Builtin.firstCells inf.size (List.length v) (.slice xa (List.length v) cap)).run P w.drew=.ok rD.toArray w.drew:=by
   cases xa with
   | none=>
    simp_all [run_firstCells_none]
   | some ad=>
    obtain ⟨_,d4,_,_⟩:=c4 ad rfl;obtain ⟨_,d5⟩:=r3 ad rfl;obtain ⟨b,off,sp⟩:=ad;simp only at d4 d5;subst d4;exact run_firstCells_some w.drew inf.size (List.length v) ⟨b,off,none⟩ (List.length v) cap rD (by grind) (λj u hu=>by rw[rC];exact vK (d5 j u hu) (r5 u (bU hu)))
  simp only[ct] at pK
  have lg:=run_append_grow_src (P:=P) w t tx o.type el inf zv hu i1 i4 xa (List.length v) cap rD acR (a.eval z) (List.length yv) news (by grind) Bys Bys
   (growslice_fits Bys (bH (Nat.mul_le_mul pK i3) (by decide)))
  have Ua:(execOp a.eval o).run P w=.ok (.value (.slice (some ⟨w.heap.size,0,none⟩) (List.length v+List.length yv) (grownCap w (List.length v+List.length yv) cap el)))
    (w.drew.alloc (.cells ((rD++news).toArray++Builtin.zeroCells zv.cells (grownCap w (List.length v+List.length yv) cap el - (List.length v+List.length yv))) el)):=by
   simp_all [execOp,resolve,invoke,builtin]
  have hge:=grownCap_ge w (List.length v+List.length yv) cap el;have hgm:=grownCap_le_maxLen w (List.length v+List.length yv) cap el (by grind [maxLen]);have Al:=q4.newsLen
  have pH:=HR n1.drew (K:=K) (x:=x) (d:=o.dst) (e:=e) (m:=if me=m.e then me else ak e) (v:=v++yv) (c:=(rD++news).toArray++Builtin.zeroCells zv.cells (grownCap w (List.length v+List.length yv) cap el - (List.length v+List.length yv)))
   (cap:=grownCap w (List.length v+List.length yv) cap el) (el:=el) (fr:=(0,0)) (Fi:=Hi) (.inr (aI _)) q1
   (by
    rw[Array.size_append,size_zeroCells,i5,gO,cB,r4,Al,<- cU,<- cU]
    congr 1;omega) hgm (by grind)
   (λb i=>by grind) (λi zz hz=>by
    have ja:=n2 i zz hz;refine ⟨_,au.length _ ja,λj u hu=>?_,au.mono (P:=P) (w:=w) (w':=w.drew) (A:=A3) (A':=A3) (λ_ _ h=>h) (λ_ _ _ _ h=>h) (λb n hn=>hn) e ja (λ_ _=>aI _) (λ_ _ _ _ h=>h)⟩
    grind)
  rw[Sk] at pH;exact pg Ua pH
theorem step_append (h:ek P C A σ a w F) (kY:∀ i T,E.TI i=some T->bn P T (.inl i)=true) {t tx:Nat} {y z:Operand} (ho:o.op=.call { callee:=.builtin .append,args:=#[y,z],argTypes:=#[t,tx] }) (bd:d_ P y=true/\d_ P z=true)
  (CY:(∃ e',P.underlying tx=some (.slice e'))\/P.underlying tx=some .string) {mv tf:Bool} {K:St->Option R} (hk:Lo E σ t (eh σ y) z mv tf o.dst K=some x):o.wp P a w (Nx P C K x) Q:=by
 unfold Lo at hk;obtain ⟨T,hT,hk⟩:=ik hk;have jr:=kY _ _ hT;split at hk
 ·rename_i e;have hl:=jr;simp only[bn,aD] at hl;have h2:=hl.2;split at h2;rotate_left
  ·cases h2
  rename_i el hu;simp only[aD,dK] at h2;obtain ⟨ol,sC⟩:=h2;split at hk
  ·rename_i DY;simp only[aD] at DY;obtain ⟨_,DY,J2⟩:=DY
   rcases gi h bd.2 with CZ | ⟨xs,e'⟩
   rotate_left
   ·grind [CP,nw]
   obtain ⟨A0,σ0,F0,me,yv,news,Fw,Gi,q1,_,_,_,q4,_,q5,_⟩:=LG h CZ CY hk
   rcases gi h bd.1 with hs | ⟨xs,e'⟩
   rotate_left
   ·grind [nw]
   obtain ⟨A1,qA,F1,m,v,cs,Fv,k1,k2,k3,k4,kr,k5,k6⟩:=vB h hs q1;split at k1;rotate_left
   ·cases k1
   rename_i jz;split at k1;rotate_left
   ·cases k1
   rename_i pK
   exact J9 (me:=ak e) (Fw:=λ_ _=>0) (Gi:=λ_ _ _=>0) ho hu sC jz k5 k6 pK (by grind) (λ_ _ h=>h) k3 q4
    (λi zz hz=>Ro.rep _ _ (iP _) (Ro.indep e DY J2 (au.flat e DY (q5 i zz hz)))) (λb i=>by grind [nH])
  rcases gi h bd.1 with hs | ⟨xs,e'⟩
  rotate_left
  ·grind [nw]
  obtain ⟨A1,qA,F1,m,v,cs,Fv,k1,k2,k3,k4,kr,k5,k6⟩:=vB h hs hk;split at k1;rotate_left
  ·cases k1
  rename_i jz
  rcases gi k3 bd.2 with CZ | ⟨xs,e'⟩
  rotate_left
  ·grind [CP,nw]
  obtain ⟨A2,mX,F2,me,yv,news,Fw,Gi,q1,q2,q3,qr,q4,_,q5,q6⟩:=LG k3 CZ CY k1;split at q1;rotate_left
  ·cases q1
  rename_i pK;exact J9 ho hu sC jz k5 k6 pK q1 q2 q3 q4 q5 q6
 ·cases hk
end
end OT
namespace OT
open Go
section
variable {P:Program} {C:Ctx} {A:Cells} {X:FP} {σ:St} {a:Act} {w:World} {F:Nat->FP} {R:Type} {x:R} {Q:Exit->Act->World->Prop} {o:Oper} {E:Env}
theorem Ns (h:ek P C A σ a w F) {f:Nat} {first cs:Array Operand} (ho:o.op=.makeFunc (.func f) first cs) (dt:(P.funcs[f]?).any (λfn=>fn.nfree == cs.size)=true) {K:St->Option R}
  (hk:(if first.size=0 then
   match cs.toList with
   | []=>K (σ.cq o.dst (.val .fn (f,0)))
   | [.tmp i]=>match σ.get i with
    | .box (.int .i64) _ _ n=>K (((σ.put i .dead).put i (.cp (.int .i64) n)).cq o.dst (.val .fn (f,n)))
    | _=>none
   | _=>none
  else none)=some x):Tk P o a w (Nx P C K x):=by
 simp only[Option.any_eq_true,iI] at dt;obtain ⟨fn,hf,hn⟩:=dt;split at hk
 ·rename_i h0;have OF:first=#[]:=fX h0
  subst OF;split at hk
  ·rename_i sS;have sS:cs=#[]:=by grind
   subst sS;refine iF (v:=.func (.func f) #[] #[]) (by simp[execOp,ho,Instr.makeFunc]) (cx h hk ⟨[.func (.func f) #[] #[]],rfl,#[],rfl,fn,hf,.inl ⟨by simpa using hn,rfl⟩⟩ (λ_ _ _ _ e=>by cases e))
  ·rename_i i sS;have sS:cs=#[.tmp i]:=by grind
   subst sS;split at hk
   ·rename_i m H n hg
    have hi:i < σ.n:=by
     grind [mN]
    have hs:=h.iZ i hi;rw[hg] at hs;obtain ⟨b,off,L,F1,s1,s2,s3,s4,s5,s6⟩:=hs;simp only[au,Ro] at s6;subst s6;have h1:=h.put hi (s:=.dead) (v:=tmp a i) (Fd:=λ_ _=>0) (X':=F i) trivial (λb k=>by omega) (λ_ _ _ _ e=>by cases e);rw[sB] at h1;have hle:∀ b' i',d8 b off 1 b' i'<=F i b' i':=λb' i'=>by grind
    have h2:=h1.giveUp (A1:=λb' i'=>A b' i'\/1<=d8 b off 1 b' i') (X1:=λ_ _=>0) (λ_ _ h=>.inl h) (λb' i' ha=>ha.imp id λhp=>⟨by grind,rfl⟩) (λ_ _=>aW _);have to:ce w b off=some (.int .i64 n):=s3 0 _ rfl;have hA:1<=d8 b off 1 b off:=by simp[d8]
    have h3:=h2.put (d:=i) hi (s:=.cp (.int .i64) n) (v:=tmp a i) (Fd:=λ_ _=>0) (X':=λ_ _=>0)
     ⟨⟨b,off,none⟩,by rw[s1],rfl,[.int .i64 n],rfl,(λj u hu=>by
      grind),rfl⟩ (λb k=>by omega) (λ_ _ _ _ e=>by cases e)
    rw[sB] at h3;have ev:a.eval (.tmp i)=.pointer (some ⟨b,off,none⟩):=s1
    refine iF (v:=.func (.func f) #[] #[.pointer (some ⟨b,off,none⟩)]) (by simp[execOp,ho,Instr.makeFunc,ev])
     (cx h3 hk ⟨[.func (.func f) #[] #[.pointer (some ⟨b,off,none⟩)]],rfl,_,rfl,fn,hf,.inr ⟨by simpa using hn,_,rfl,rfl,to,.inr hA⟩⟩ (λ_ _ _ _ e=>by cases e))
   ·cases hk
  ·cases hk
 ·cases hk
theorem QU (h:ek P C A σ a w F) {y:Operand} (ho:o.op=.assign y) (bd:d_ P y=true) {T:Nat} {mv:Bool} {K:St->Option R} (hk:Lp E σ T y mv o.dst K=some x):Tk P o a w (Nx P C K x):=by
 refine iF (v:=a.eval y) (by simp[execOp,ho]) ?_;unfold Lp at hk;by_cases adG:∃ i xs,y=.tmp i/\σ.get i=.sQ xs
 ·obtain ⟨i,xs,rfl,hg⟩:=adG;have e:eh σ (.tmp i)=.sQ xs:=by grind [eh]
  rw[e] at hk
  cases xs with
  | nil=>
   have hi:i < σ.n:=by
    grind [mN]
   have hs:=h.iZ i hi;rw[hg] at hs;obtain ⟨vs,Fi,h1,h2,h3⟩:=hs;exact cx h hk ⟨vs,λ_ _ _=>0,h1,λb i=>by simp[bi],λj y hy=>by cases hy⟩ (λ_ _ _ _ e=>by cases e)
  | cons _ _=>cases hk
 rcases gi h bd with hs | ⟨xs,e⟩
 rotate_left
 ·exfalso
  cases y with
  | tmp i=>
   grind [eh]
  | const v=>simp only[eh] at e;unfold Ah at e;grind
  | func f=>cases e
  | global g=>cases e
 split at hk
 ·grind [cx]
 ·rename_i hv;rw[hv] at hs;obtain ⟨t,hT,hk⟩:=ik hk;split at hk
  ·have hs:a.eval y=.slice none 0 0:=hs;rw[hs];refine cx h hk ⟨[.slice none 0 0],(eo _ _ rfl).symm,?_⟩ (λ_ _ _ _ e=>by cases e);grind [au,hole,vS,Md.own]
  ·cases hk
 ·grind [cx]
 ·cases hk
 ·grind [vB,B5]
 ·grind [vB,B5]
 ·rename_i r p snap hv;rw[hv] at hs;split at hk
  ·rename_i t m H v hg;split at hk
   ·rename_i hc;simp only[aD,cC] at hc;split at hk
    ·rename_i i hd
     have hr:r < σ.n:=by
      grind [mN]
     have mF:=h.iZ r hr;rw[hg] at mF;obtain ⟨b,off,L,F1,s1,s2,s3,s4,s5,s6⟩:=mF;obtain ⟨pl,b',o',g1,g2,g3,g4⟩:=hs.2 hc.1.1
     have i7:place σ a w r []=some ⟨t,H,rd w b off t.sz,some (b,off)⟩:=by
      unfold place;rw[hg,s1];rfl
     rw[i7] at g1;injection g1 with g1;subst g1;simp only[aQ,bJ] at g2;obtain ⟨rfl,rfl⟩:=g2;have h1:=h.put hr (s:=.dead) (v:=tmp a r) (Fd:=λ_ _=>0) (X':=F r) trivial (λb k=>by omega) (λ_ _ _ _ e=>by cases e);rw[sB] at h1;obtain ⟨bw,w1,w2⟩:=h.whole r t m H v hg (JV hc.2);rw[s1] at w1;injection w1 with w1;injection w1 with w1;injection w1 with w1 w3;subst w1;have:=qC (K:=K) (x:=x) (d:=some i) h1 hk (v:=a.eval y) (s:=.box t m H v) (Fd:=F r) ⟨b,off,L,F1,g3,s2,s3,s4,s5,s6⟩ (λb i=>aI _) (λt' m' H' v' e=>by grind);grind
    ·cases hk
   grind [cx]
  grind [cx]
 grind [cx,Mw]
theorem sc {α:Type} (v y:List α) {lo n:Nat} (h:lo+n<=v.length) (hy:n<=y.length):(o5 v lo n y).length=v.length:=by
 grind [o5]
theorem OG {α:Type} (v y:List α) {lo n:Nat} (h:lo+n<=v.length) (hy:n<=y.length) (i:Nat):(o5 v lo n y)[i]?=if lo<=i/\i < lo+n then y[i - lo]? else v[i]?:=by
 unfold o5;by_cases h1:i < lo
 all_goals grind
theorem MB (h:ek P C A σ a w F) {r:Nat} {p:Path} {e:Ty} {m:Md} {v y:List e.den} {news:List Value} {Gi:Nat->FP} {me:Md} {lo n:Nat} {K:St->Option R} (jt:At σ r p (.aa e) m [] v) (jz:m.own=true) (hf:e.flat=true) (hn:lo+n<=List.length v) (hy:n<=List.length y)
  (hl:news.length=List.length y*e.sz) (rU:∀ u ∈ news,u.oneCell'=true) (sC:∀ (i:Nat) (z:e.den),y[i]?=some z->au P w A e me [] z ((news.drop (i*e.sz)).take e.sz) (Gi i))
  (hk:w9 σ r p (.aa e) m (o5 v lo n y) (λσ'=>K { σ' with vr:=(σ.nq r yf).vr,ay:=σ.ay })=some x) :
  ∃ (xa:Option Addr) (cap:Nat) (ad:Option (Nat×Nat)) (w2:World) (A3:Cells) (σ':St) (F3:Nat->FP),place σ a w r p=some ⟨.aa e,[],[.slice xa (List.length v) cap],ad⟩/\K σ'=some x/\ek P C A3 σ' a w2 F3 /\
   (xa=none->w2=w/\List.length v=0)/\∀ ad,xa=some ad->ad.off=0/\ad.spot=none/\(n=0->w2=w)/\(storeCells ⟨ad.block,lo*e.sz,none⟩ (news.take (n*e.sz))).run P w=.ok () w2:=by
 obtain ⟨hr,m2,H2,v2,d9,DW,F2,q1,q2,q3,q4,q5,q6⟩:=DV h hk;obtain ⟨_,e2,e3,e4⟩:=jt.inj q1;subst e2;subst e3;have e4:=fW e4;subst e4;have ja:=q3;simp only[au,hole,bP,aF,aS,jz,aH] at q3;obtain ⟨xa,cap,rfl,c1,c2,c3,c4⟩:=q3;have Sk:=sc v y hn hy;have Ig:∀ b i,F r b i<=1:=λb i=>by have:=h.qe b i;grind [dy]
 have fin:∀ (w2:World),Ext w w2 (λb i=>0+(F2 b i+lC DW (Ty.aa e).sz b i))->(∀ b o,DW=some (b,o)->Has w2 b o [.slice xa (List.length v) cap])->au P w2 A (.aa e) m [] (o5 v lo n y) [.slice xa (List.length v) cap] F2 ->
   (∀ (i:Nat) (z:e.den),(o5 v lo n y)[i]?=some z->∀ ad,xa=some ad->∃ L,L.length=e.sz/\Has w2 ad.block (ad.off+i*e.sz) L/\au P w2 A e .leaf [] z L (λ_ _=>0)) ->
   ∃ (A3:Cells) (σ':St) (F3:Nat->FP),K σ'=some x/\ek P C A3 σ' a w2 F3:=by
  intro w2 g1 g2 g3 g4;obtain ⟨A3,CV,Fr,n1,n2,n3,n4,n5⟩:=q6 w2 A _ F2 (λ_ _=>0) g1 (λ_ _ h=>h) (λ_ _ h=>.inl h) (λb i=>by omega) g2 (λ_=>rfl) g3;refine ⟨A3,_,_,n1,n5 yf (zR (h.mD r)) (Gj (h.mD r)) rfl λp' snap hb bd hlen=>?_⟩
  have h5:=IZ (h.mD r) hb bd;refine ⟨ej p'+1,False,by omega,λ_=>.inl Bys,λ_=>by omega,?_⟩
  intro q pl hq hp
  cases q with
  | nil=>
   simp only[cb,aQ] at hp;subst hp;exact ⟨_,_,rfl,λ_=>rfl⟩
  | cons s q=>
   cases s with
   | idx i=>
    cases xa with
    | none=>grind [cb]
    | some ad=>
     simp only[cb,hole,bP,aF,aS,dX] at hp ⊢;split at hp
     ·rename_i hi;rw[aM hi];have sR:i < (o5 v lo n y).length:=by grind
      obtain ⟨L,l1,l2,l3⟩:=g4 i _ (aB sR) ad rfl;rw[fy l2 l1];obtain ⟨H',co,h1,h2⟩:=CS (A:=A) (m:=.leaf) (v:=(o5 v lo n y)[i]) (F:=λ_ _=>0) q e l3 (.inr hf) hp;grind
     ·cases hp
   | _=>simp[cb] at hp
 cases xa with
 | none=>
  have h0:=c3 rfl;have hv0:List.length v=0:=by omega
  grind [Ext.refl]
 | some ad=>
  obtain ⟨d1,d2,d3,Fi,d4,d5⟩:=c4 ad rfl;obtain ⟨b,off,sp⟩:=ad;simp only at d1 d2 d3 d4 d5;subst d1;subst d2;have hle:lo*e.sz+n*e.sz<=cap*e.sz:=by rw[<-cU];exact aZ _ Bys
  have Al:(news.take (n*e.sz)).length=n*e.sz:=by
   grind [Nat.mul_le_mul_right]
  have to:∀ j,j < cap*e.sz->(w.cell? ⟨b,j,none⟩).isSome=true:=λj hj=>by
   obtain ⟨c,e',fr,w1,w2,w3⟩:=d3;grind [World.cell?]
  have dt:=run_storeCells_cells (P:=P) b (lo*e.sz) (news.take (n*e.sz)) 0 w (λj hj=>by grind) (λj hj=>by rw[eM];exact d3.frozen Bys) (λu hu=>rU u (dG hu));rw[eM] at dt;have f_:=pJ (b:=b) (o:=lo*e.sz) (news.take (n*e.sz)) w (lo*e.sz);rw[Al] at f_
  have Gd:∀ b' i,d8 b (lo*e.sz) (n*e.sz) b' i<=d8 b 0 (cap*e.sz) b' i:=λb' i=>by
   grind [d8]
  have hA:∀ b' i,A b' i->∀ u,ce w b' i=some u->ce (w.setCells b (lo*e.sz) (news.take (n*e.sz))) b' i=some u:=λb' i ha u hu=>by
   refine f_.cell b' i (h.ld b' i (.inr ha)) ?_ u hu;rcases bI (d8 b (lo*e.sz) (n*e.sz) b' i) with h0 | h0
   ·exact h0
   ·exact absurd ha (h.qS b' i (by grind [dy]))
  have adH:∀ (i:Nat) (z:e.den),(o5 v lo n y)[i]?=some z->∃ L,L.length=e.sz/\Has (w.setCells b (lo*e.sz) (news.take (n*e.sz))) b (i*e.sz) L/\Ro P (w.setCells b (lo*e.sz) (news.take (n*e.sz))) A e z L:=by
   intro i z hz;rw[OG v y hn hy] at hz;split at hz
   ·rename_i hi;have xi:=au.flat _ hf (sC _ z hz);refine ⟨_,Ro.length _ xi,λj u hu=>?_,Ro.mono hA (λ_ _ h=>h) e xi⟩
    rw[bT] at hu;split at hu
    ·rename_i hj;rw[bM] at hu;have h6:(i - lo)*e.sz+e.sz<=n*e.sz:=by rw[<-eH];exact aZ _ Bys
     have:=yB (w:=w) (b:=b) (o:=lo*e.sz) (L:=news.take (n*e.sz)) (λk hk=>to _ Bys) (λu hu=>rU u (dG hu)) ((i - lo)*e.sz+j) u (by grind);rw[<-this];have h7:i*e.sz=lo*e.sz+(i - lo)*e.sz:=by rw[<-cU];congr 1;omega
     congr 1;omega
    ·cases hu
   ·rename_i hi;obtain ⟨L,l1,l2,l3⟩:=d5 i z hz;have xi:=au.flat _ hf l3;refine ⟨L,l1,λj u hu=>?_,Ro.mono hA (λ_ _ h=>h) e xi⟩
    refine f_.cell b _ (by obtain ⟨c,e',fr,w1,_⟩:=d3;grind) ?_ u (l2 j u hu);have hj:=(aP.1 hu).1;simp only[d8];rw[aV];rintro ⟨_,h8,h9⟩;rcases cK i lo with Wi | Wi
    ·have h6:i*e.sz+e.sz<=lo*e.sz:=by rw[<-eH];exact aZ _ Bys
     omega
    ·have h6:lo*e.sz+n*e.sz<=i*e.sz:=by rw[<-cU];exact aZ _ Bys
     omega
  have HP:au P (w.setCells b (lo*e.sz) (news.take (n*e.sz))) A (.aa e) m [] (o5 v lo n y) [.slice (some ⟨b,0,none⟩) (List.length v) cap] F2:=by
   simp only[au,hole,bP,aF,aS,jz,aH];refine ⟨some ⟨b,0,none⟩,cap,by rw[Sk],by omega,c2,(λe=>by cases e),λdr e'=>?_⟩
   injection e' with e';subst e';refine ⟨rfl,rfl,f_.xT _ _ d3,λ_ _ _=>0,λb' i=>by grind [nH],λi z hz=>?_⟩
   obtain ⟨L,l1,l2,l3⟩:=adH i z hz;grind [Ro.flat]
  have w_:∀ b' o',DW=some (b',o')->Has (w.setCells b (lo*e.sz) (news.take (n*e.sz))) b' o' [.slice (some ⟨b,0,none⟩) (List.length v) cap]:=λb' o' ea j u hu=>by
   have h1:=(q5 b' o' ea).1 j u hu;have hj:=(aP.1 hu).1;have h2:=q4 b' (o'+j);have h3:=d4 b' (o'+j);have h4:=Gd b' (o'+j);have h5:=Ig b' (o'+j);have h7:=dy F hr b' (o'+j)
   have h6:lC DW (Ty.aa e).sz b' (o'+j)=1:=by
    grind [lC,d8,Ty.sz]
   exact f_.cell _ _ (h.ld b' (o'+j) (.inl (by grind))) Bys u h1
  obtain ⟨A3,CV,F3,n1,n2⟩:=fin _ (f_.mono λb' i hz=>by
    grind) w_ HP (λi z hz ad e=>by
    grind [Ro.flat])
  refine ⟨_,cap,DW,_,A3,CV,F3,q2,n1,n2,(λe=>by cases e),λdr e'=>?_⟩
  injection e' with e';subst e';refine ⟨rfl,rfl,λJ6=>?_,dt⟩
  subst J6;simp[World.setCells]
theorem Wj (h:ek P C A σ a w F) (kY:∀ i T,E.TI i=some T->bn P T (.inl i)=true) {t tx:Nat} {y z:Operand} (ho:o.op=.call { callee:=.builtin .copy,args:=#[y,z],argTypes:=#[t,tx] }) (bd:d_ P y=true/\d_ P z=true)
  (CY:(∃ e',P.underlying tx=some (.slice e'))\/P.underlying tx=some .string) {K:St->Option R} (hk:TC E σ t y (eh σ z) o.dst K=some x):o.wp P a w (Nx P C K x) Q:=by
 unfold TC at hk;obtain ⟨T,hT,hk⟩:=ik hk;have jr:=kY _ _ hT;split at hk
 ·rename_i e;have hl:=jr;simp only[bn,aD] at hl;have h2:=hl.2;split at h2;rotate_left
  ·cases h2
  rename_i el hu;simp only[aD,dK] at h2;obtain ⟨ol,sC⟩:=h2;have abU:=run_sizeOf (P:=P) (w:=w) sC;split at hk;rotate_left
  ·cases hk
  rename_i hf
  rcases gi h bd.2 with CZ | ⟨xs,e'⟩
  rotate_left
  ·grind [CP,nw]
  obtain ⟨A2,mX,F2,me,yv,news,Fw,Gi,q1,q2,q3,qr,q4,q4',q5,q6⟩:=LG h CZ CY hk;have h2:ek P C A2 mX a w F2:=q3.less λ_ _=>aW _
  have run:∀ (xa:Option Addr) (n cap:Nat) (w2:World),a.eval y=.slice xa n cap->(match (generalizing:=false) xa with | none=>w2=w | some ad=>(storeCells ad (news.take (min (List.length yv) n*e.sz))).run P w=.ok () w2) ->
    (execOp a.eval o).run P w=.ok (.value (.int .i64 ((min (List.length yv) n:Nat):Int))) w2:=by
   intro xa n cap w2 hy dt;have hfc:=q4' (min (List.length yv) n) (hJ _ _)
   cases xa with
   | none=>
    simp only at dt;subst dt;simp[execOp,ho,resolve,invoke,builtin,Builtin.copy_,hy,run_underlying hu,q4.len,abU,Nat.min_def] at hfc ⊢;simp[hfc,goInt]
   | some ad=>
    simp only at dt;simp[execOp,ho,resolve,invoke,builtin,Builtin.copy_,hy,run_underlying hu,q4.len,abU,Nat.min_def] at hfc dt ⊢;simp[hfc,dt,goInt]
  rcases gi h2 bd.1 with hs | ⟨xs,e'⟩
  rotate_left
  ·grind
  split at q1
  ·rename_i r p snap lo hi hv;rw[hv] at hs;split at q1
   ·rename_i pH;obtain ⟨hr,t',m',H',v',co,dr,F',h1,jt,h3,h4,h5,h6⟩:=lZ h2 q1;split at h1
    ·rename_i hc;simp only[aD,bC] at hc;obtain ⟨jz,hH⟩:=hc;subst hH;obtain ⟨e1,h1⟩:=di h1;subst e1;obtain ⟨pl,e2,xa,n,cap,xk,cap',g1,g2,g3,g4,g5,g6,g7,g8,g9,g10,g11⟩:=hs.2 pH
     have hvn:n=List.length v':=by
      grind [au,hole]
     obtain ⟨xb,LD,DW,w2,A3,CV,F3,c1,c2,c3,c4,c5⟩:=MB h2 (K:=λσ'=>K (σ'.cq o.dst (.val (.int .i64) ((min (List.length yv) (hi - lo):Nat):Int)))) ⟨jt⟩ jz hf (lo:=lo) (n:=min (List.length yv) (hi - lo)) Bys (hJ _ _) q4.newsLen q4.one q5 h1;rw[c1] at g1;injection g1 with g1;subst g1;simp only[dI,Value.slice.injEq,eF] at g3;obtain ⟨rfl,g3,rfl⟩:=g3;injection g2 with g2;subst g2;refine pg (run xk (hi - lo) cap' w2 g6 ?_) (cx c3 c2 ⟨[.int .i64 _],rfl,rfl⟩ (λ_ _ _ _ e=>by cases e))
     cases xb with
     | none=>grind
     | some ad=>
      obtain ⟨abV,k1,k2,k3,k4⟩:=g10 ad rfl;rw[k1];obtain ⟨j1,j2,j3,j4⟩:=c5 ad rfl;simp only;by_cases a8:lo < hi
      ·have:abV=⟨ad.block,lo*e.sz,none⟩:=by
        have h1:=k4 a8;obtain ⟨x1,x2,x3⟩:=abV;grind
       grind
      ·have J6:min (List.length yv) (hi - lo)=0:=by omega
       rw[J6,Nat.zero_mul,List.take_zero];rw[j3 J6];rfl
    ·cases h1
   ·cases q1
  ·rename_i r p snap hv;rw[hv] at hs;split at q1
   ·rename_i pH;obtain ⟨hr,t',m',H',v',co,dr,F',h1,jt,h3,h4,h5,h6⟩:=lZ h2 q1;split at h1
    ·rename_i hc;simp only[aD,bC] at hc;obtain ⟨jz,hH⟩:=hc;subst hH;obtain ⟨e1,h1⟩:=di h1;subst e1;obtain ⟨pl,g1,g2,g3⟩:=hs.2 pH;obtain ⟨xb,LD,DW,w2,A3,CV,F3,c1,c2,c3,c4,c5⟩:=MB h2 (K:=λσ'=>K (σ'.cq o.dst (.val (.int .i64) ((min (List.length yv) (List.length v'):Nat):Int)))) ⟨jt⟩ jz hf (lo:=0) (n:=min (List.length yv) (List.length v')) Bys (hJ _ _) q4.newsLen q4.one q5 h1;rw[c1] at g1;injection g1 with g1;subst g1;simp only[eo (.aa e) _ rfl] at g2;refine pg (run xb (List.length v') LD w2 g2 ?_) (cx c3 c2 ⟨[.int .i64 _],rfl,rfl⟩ (λ_ _ _ _ e=>by cases e))
     cases xb with
     | none=>grind
     | some ad=>
      obtain ⟨j1,j2,j3,j4⟩:=c5 ad rfl;obtain ⟨b,off,sp⟩:=ad;grind
    ·cases h1
   ·cases q1
  ·cases q1
 ·cases hk
end
end OT
namespace OT
open Go
def lh (w:World):(t:Ty)->Md->List Path->List Value->FP
 | .pair a b,m,H,cs=>λx i=>lh w a m.l (H.filterMap xg) (cs.take a.sz) x i+lh w b m.r (H.filterMap xh) (cs.drop a.sz) x i
 | .aa e,m,H,cs=>
  if hole H then λ_ _=>0 else if m.own then
   match cs with
   | [.slice (some ad) n cap]=>λx i=>d8 ad.block 0 (cap*e.sz) x i+bi n (λj=>lh w e m.e (H.filterMap (lc j)) (rd w ad.block (j*e.sz) e.sz)) x i
   | _=>λ_ _=>0
  else λ_ _=>0
 | .ptr e,m,H,cs=>
  if hole H then λ_ _=>0 else if m.own then
   match cs with
   | [.pointer (some ad)]=>λx i=>d8 ad.block 0 e.sz x i+lh w e m.e [] (rd w ad.block 0 e.sz) x i
   | _=>λ_ _=>0
  else λ_ _=>0
 | .map _ _,m,H,cs=>
  if hole H then λ_ _=>0 else if m.own then
   match cs with
   | [.map (some r)]=>d8 r 0 1
   | _=>λ_ _=>0
  else λ_ _=>0
 | _,_,_,_=>λ_ _=>0
section
variable {P:Program} {w w1:World} {A:Cells}
theorem au.fp:∀ (t:Ty) {m:Md} {H:List Path} {v:t.den} {cs:List Value} {F:FP},au P w A t m H v cs F->au P w A t m H v cs (lh w t m H cs)/\∀ b i,lh w t m H cs b i<=F b i:=by
 intro t
 induction t with
 | pair a b nz nr=>
  intro m H v cs F h;obtain ⟨h0,F1,F2,hs,h1,h2⟩:=h;obtain ⟨a1,a2⟩:=nz h1;obtain ⟨b1,b2⟩:=nr h2;exact ⟨⟨h0,_,_,λ_ _=>aI _,a1,b1⟩,λb i=>by grind [lh]⟩
 | aa e ih=>
  intro m H v cs F h;have h':=h;simp only[au] at h;split at h
  ·simp_all [au,lh]
  ·rename_i hh;split at h
   ·rename_i hm;obtain ⟨xa,cap,rfl,h1,h2,h3,h4⟩:=h
    cases xa with
    | none=>
     grind [lh,au]
    | some ad=>
     obtain ⟨g1,g2,g3,Fi,g4,g5⟩:=h4 ad rfl
     have each:∀ (i:Nat) (x:e.den),v[i]?=some x->∃ L:List Value,L.length=e.sz/\Has w ad.block (i*e.sz) L/\au P w A e m.e (H.filterMap (lc i)) x L (lh w e m.e (H.filterMap (lc i)) (rd w ad.block (i*e.sz) e.sz)) /\
       ∀ b k,lh w e m.e (H.filterMap (lc i)) (rd w ad.block (i*e.sz) e.sz) b k<=Fi i b k:=λi x hx=>by
      grind [fy]
     have hle:∀ b i,bi (List.length v) (λj=>lh w e m.e (H.filterMap (lc j)) (rd w ad.block (j*e.sz) e.sz)) b i<=bi (List.length v) Fi b i:=λb i=>Lv b i λj hj=>by
      obtain ⟨_,_,_,_,q⟩:=each j _ (aB hj);exact q b i
     refine ⟨?_,λb i=>by grind [lh]⟩
     simp only[au,hh,hm,aH,aF,aS];refine ⟨some ad,cap,rfl,h1,h2,h3,λdr e'=>?_⟩
     injection e' with e';subst e';refine ⟨g1,g2,g3,λj=>lh w e m.e (H.filterMap (lc j)) (rd w ad.block (j*e.sz) e.sz),λb i=>by grind [lh],λi x hx=>?_⟩
     grind
   simp_all [au,lh]
 | ptr e ih=>
  intro m H v cs F h;simp only[au] at h;split at h
  ·simp_all [au,lh]
  ·rename_i hh;split at h
   ·grind [lh,fy,au]
   simp_all [au,lh]
 | arr n e ih=>intro m H v cs F h;exact ⟨h,λ_ _=>aW _⟩
 | map k v=>
  intro m H x cs F h;simp only[au] at h;split at h
  ·simp_all [au,lh]
  ·rename_i hh;split at h
   ·rename_i hm;obtain ⟨h1,h2,r,vx,rfl,h4,h5,h6,h7⟩:=h;refine ⟨?_,λb i=>?_⟩
    ·simp only[au,hh,hm,aH,aF,aS];exact ⟨h1,h2,r,vx,rfl,h4,by simp[lh,hh,hm,d8],h6,h7⟩
    ·simp only[lh,hh,hm,aH,aF,aS,d8];grind
   simp_all [au,lh]
 | _=>intro m H v cs F h;exact ⟨h,λ_ _=>aW _⟩
theorem Ub:∀ (t:Ty) {m:Md} {H:List Path} {v:t.den} {cs:List Value} {F:FP},au P w A t m H v cs F->(∀ b i,1<=F b i->∀ u,ce w b i=some u->ce w1 b i=some u)->lh w1 t m H cs=lh w t m H cs:=by
 intro t
 induction t with
 | pair a b nz nr=>
  intro m H v cs F h hF;obtain ⟨h0,F1,F2,hs,h1,h2⟩:=h;have e1:=nz h1 (λb i hp=>hF b i (by grind));have e2:=nr h2 (λb i hp=>hF b i (by grind));simp_all [lh]
 | aa e ih=>
  intro m H v cs F h hF;simp only[au] at h;split at h
  ·simp_all [lh]
  ·rename_i hh;split at h
   ·rename_i hm;obtain ⟨xa,cap,rfl,h1,h2,h3,h4⟩:=h
    cases xa with
    | none=>simp only[lh]
    | some ad=>
     obtain ⟨g1,g2,g3,Fi,g4,g5⟩:=h4 ad rfl;simp only[lh,hh,hm,aH,aF,aS];funext b i;congr 1;refine congrFun (congrFun (yk λj hj=>?_) b) i;obtain ⟨L,l1,l2,l3⟩:=g5 j _ (aB hj);have hle:j*e.sz+e.sz<=cap*e.sz:=by rw[<-eH];exact aZ _ Bys
     have l2':Has w1 ad.block (j*e.sz) L:=λk u hu=>hF _ _ (by
      grind [d8]) u (l2 k u hu)
     grind [fy,dy]
   simp_all [lh]
 | ptr e ih=>
  intro m H v cs F h hF;simp only[au] at h;split at h
  ·simp_all [lh]
  ·rename_i hh;split at h
   ·rename_i hm;obtain ⟨b0,rfl,h1,L,F1,h2,h3,h4,h5⟩:=h
    have Sy:Has w1 b0 0 L:=λk u hu=>hF _ _ (by
     grind [d8]) u (h3 k u hu)
    simp only[lh,hh,hm,aH,aF,aS,fy h3 h2,fy Sy h2];rw[ih h5 (λb i hp=>hF b i (by grind))]
   simp_all [lh]
 | _=>intro m H v cs F h hF;rfl
theorem au.indep {A':Cells}:∀ (t:Ty) {v:t.den} {cs:List Value} {F:FP},t.sV=true->au P w A t (aj t) [] v cs F->au P w A' t (aj t) [] v cs F:=by
 intro t
 induction t with
 | pair a b nz nr=>
  intro v cs F hn h;simp only[Ty.sV,aD] at hn;obtain ⟨h0,F1,F2,hs,h1,h2⟩:=h;exact ⟨h0,F1,F2,hs,nz hn.1 h1,nr hn.2 h2⟩
 | aa e ih=>
  intro v cs F hn h;simp only[au,hole,bP,aF,aS,aj,vS,Md.own,aH] at h ⊢;obtain ⟨xa,cap,h1,h2,h3,h4,h5⟩:=h;refine ⟨xa,cap,h1,h2,h3,h4,λad e'=>?_⟩
  obtain ⟨g1,g2,g3,Fi,g4,g5⟩:=h5 ad e';refine ⟨g1,g2,g3,Fi,g4,λi x hx=>?_⟩
  obtain ⟨L,l1,l2,l3⟩:=g5 i x hx;exact ⟨L,l1,l2,ih hn l3⟩
 | ptr e ih=>
  intro v cs F hn h;simp only[au,hole,bP,aF,aS,aj,vS,Md.own,aH] at h ⊢;obtain ⟨b,h1,h2,L,F1,h3,h4,h5,h6⟩:=h;exact ⟨b,h1,h2,L,F1,h3,h4,h5,ih hn h6⟩
 | arr n e ih=>
  intro v cs F hn h;exact ⟨h.1,Ro.indep _ (by have:=h.2.1;grind [Ty.flat]) hn h.2⟩
 | fn=>grind [Ty.sV]
 | map k v=>
  grind [Ty.sV,au,vS,Md.own,Ro.indep]
 | _=>intro v cs F hn h;exact h
theorem au.free {A':Cells} {t:Ty} {m:Md} {v:t.den} {cs:List Value} {F:FP} (ho:(t.flat||decide (m=aj t))=true) (hn:t.sV=true) (h:au P w A t m [] v cs F):au P w A' t m [] v cs F:=by
 grind [Ro.flat,Ro.indep,au.flat,au.indep]
def World.news (w w2:World):World:={ w2 with heap:=(w.heap.toList++w2.heap.toList.drop w.heap.size).toArray }
theorem MC {w2:World} (h:w.heap.size<=w2.heap.size) (k:Nat):(World.news w w2).heap[k]?=if k < w.heap.size then w.heap[k]? else w2.heap[k]?:=by
 grind [World.news]
theorem Am {w2:World} (h:w.heap.size<=w2.heap.size):(World.news w w2).heap.size=w2.heap.size:=by grind [World.news]
theorem wj {w2:World} (h:w.heap.size<=w2.heap.size) {b:Nat} (hb:b < w.heap.size):(World.news w w2).heap[b]?=w.heap[b]?:=by grind [MC]
theorem EA {w2:World} (h:w.heap.size<=w2.heap.size) {b:Nat} (hb:w.heap.size<=b):(World.news w w2).heap[b]?=w2.heap[b]?:=by grind [MC]
theorem Ds {w2:World} {b:Nat} (h:w2.heap[b]?=w.heap[b]?) (i:Nat):ce w2 b i=ce w b i:=BM h i
theorem zV {w2:World} {b:Nat} (h:w2.heap[b]?=w.heap[b]?) (i:Nat):w2.frozen? ⟨b,i,none⟩=w.frozen? ⟨b,i,none⟩:=by simp[World.frozen?,h]
theorem yD {w2:World} {b:Nat} (h:w2.heap[b]?=w.heap[b]?) (n:Nat×Bool):jf w b n↔jf w2 b n:=by grind [jf]
theorem jf.lt {b:Nat} {n:Nat×Bool} (h:jf w b n):b < w.heap.size:=by
 obtain ⟨c,e,fr,h1,_⟩:=h;grind
theorem I5 {w2:World} {F:FP} (h:Ext w w2 F):Ext w (World.news w w2) (λ_ _=>0)/\Ext (World.news w w2) w2 F:=by
 have hs:=h.size
 refine ⟨⟨by grind [Am],λb i hb _ u hu=>by grind [Ds,wj],λb n hn=>(yD (wj hs hn.lt) n).1 hn,λb i hb=>zV (wj hs hb) i,h.os,h.tape,h.output,λb hb _=>wj hs hb,h.drawn⟩,
  ⟨by grind [Am],λb i hb hz u hu=>?_,λb n hn=>?_,λb i hb=>?_,rfl,rfl,rfl,λb hb hz=>?_,aI _⟩⟩
 ·by_cases Ca:b < w.heap.size
  ·rw[Ds (wj hs Ca)] at hu;exact h.cell b i Ca hz u hu
  grind [Ds,EA]
 ·by_cases Ca:b < w.heap.size
  ·exact h.xT b n ((yD (wj hs Ca) n).2 hn)
  grind [yD,EA]
 ·by_cases Ca:b < w.heap.size
  ·rw[zV (wj hs Ca)];exact h.AK b i Ca
  grind [zV,EA]
 ·by_cases Ca:b < w.heap.size
  ·rw[wj hs Ca];exact h.obj b Ca hz
  grind [EA]
end
def ArgRel (P:Program) (w:World) (A:Cells) (ho:List Path->Bool) (pm:PM) (t:Ty) (v:t.den) (x:Value) (F:FP):Prop:=
 match pm with
 | .ro=>∃ cs,x=dm t cs/\Ro P w A t v cs
 | .fix f=>(∃ cs,x=dm t cs/\Ro P w A t v cs)/\∀ e:t=.fn,(e ▸ v:Ty.fn.den).1=f
 | .jl m _=>∃ b o L F1,x=.pointer (some ⟨b,o,none⟩)/\L.length=t.sz/\Has w b o L/\(∀ j,j < t.sz->w.frozen? ⟨b,o+j,none⟩=false)/\(∀ b' i,d8 b o t.sz b' i+F1 b' i<=F b' i)/\au P w A t m [] v L F1
 | .lR m=>∃ cs,x=dm t cs/\au P w A t m [] v cs F
 | .pG m=>∃ H cs,ho H=true/\x=dm t cs/\au P w A t m H v cs F
 | .tj m=>∃ b o L F1,x=.pointer (some ⟨b,o,none⟩)/\L.length=t.sz/\Has w b o L/\(∀ j,j < t.sz->w.frozen? ⟨b,o+j,none⟩=false)/\(∀ b' i,d8 b o t.sz b' i+F1 b' i<=F b' i)/\au P w A t m [] v L F1
def qd (P:Program) (w:World) (A:Cells) (ho:List Path->Bool):(ps:List (PM×Ty))->(b_ (ps.map (·.2))).den->List Value->FP->Prop
 | [],_,xs,_=>xs=[]
 | (pm,t)::ps,v,xs,F=>∃ (x:Value) (Sz:List Value) (F1 F2:FP),xs=x::Sz/\(∀ b i,F1 b i+F2 b i<=F b i)/\ArgRel P w A ho pm t v.1 x F1/\qd P w A ho ps v.2 Sz F2
abbrev OH:List Path->Bool:=λH=>H.isEmpty
theorem qd.none {P:Program} {w:World} {A:Cells} {ho:List Path->Bool} (hh:∀ H,ho H=true->H=[]):∀ (ps:List (PM×Ty)) {v:(b_ (ps.map (·.2))).den} {xs:List Value} {F:FP},qd P w A ho ps v xs F->qd P w A OH ps v xs F
 | [],_,_,_,h=>h
 | (pm,t)::ps,_,_,_,⟨x,Sz,F1,F2,h1,h2,h3,h4⟩=>⟨x,Sz,F1,F2,h1,h2,by
  cases pm with
  | pG m=>obtain ⟨H,cs,g1,g2⟩:=h3;rw[hh H g1] at g2;exact ⟨[],cs,rfl,g2⟩
  | _=>exact h3,qd.none hh ps h4⟩
def ph (P:Program) (w:World) (A:Cells):(ps:List (PM×Ty))->(b_ (lL ps)).den->List Value->FP->Prop
 | [],_,_,_=>True
 | (.ro,_)::ps,v,xs,F=>ph P w A ps v xs.tail F
 | (.fix _,_)::ps,v,xs,F=>ph P w A ps v xs.tail F
 | (.tj _,_)::ps,v,xs,F=>ph P w A ps v xs.tail F
 | (.pG _,_)::ps,v,xs,F=>ph P w A ps v xs.tail F
 | (.jl _ m,t)::ps,v,xs,F=>∃ (F1 F2:FP),(∀ b i,F1 b i+F2 b i<=F b i)/\(∃ b o L F3,xs.head?=some (.pointer (some ⟨b,o,none⟩))/\L.length=t.sz/\Has w b o L/\(∀ b' i,d8 b o t.sz b' i+F3 b' i<=F1 b' i)/\au P w A t m [] v.1 L F3)/\ph P w A ps v.2 xs.tail F2
 | (.lR m,t)::ps,v,xs,F=>∃ (F1 F2:FP),(∀ b i,F1 b i+F2 b i<=F b i)/\(∃ cs,xs.head?=some (dm t cs)/\au P w A t m [] v.1 cs F1)/\ph P w A ps v.2 xs.tail F2
def oM (P:Program) (w:World) (A:Cells) (rs:List JF) (rv:Value) (F:FP):Prop:=
 match rs with
 | []=>True
 | [x]=>∃ cs,rv=dm x.t cs/\au P w A x.t x.m [] x.v cs F
 | xs=>∃ (vs:Array Value) (Fi:Nat->FP),rv=.tuple vs/\(∀ b i,bi xs.length Fi b i<=F b i)/\∀ j x,xs[j]?=some x->∃ v cs,vs[j]?=some v/\v=dm x.t cs/\au P w A x.t x.m [] x.v cs (Fi j)
def Sound (P:Program) (f:FuncId) (g:vV):Prop:=
 ∀ (w:World) (A:Cells) (F0:FP) (v:(b_ (g.ps.map (·.2))).den) (xs:List Value),qd P w A (g.FK v) g.ps v xs F0->(∀ b i,F0 b i<=1)->(∀ b i,1<=F0 b i->¬ A b i)->(∀ b i,1<=F0 b i\/A b i->b < w.heap.size)->xA P w F0 ->
  ∀ out,g.F v=some out->Calls P f xs.toArray w λe w'=>∃ rv,e=.returned rv/\Ext w w' F0/\∃ (A':Cells) (G GR GM:FP),(∀ b i,A b i->A' b i)/\(∀ b i,A' b i->A b i\/1<=F0 b i\/w.heap.size<=b) /\
   (∀ b i,1<=G b i->1<=F0 b i\/w.heap.size<=b)/\(∀ b i,G b i<=1)/\(∀ b i,1<=G b i->¬ A' b i)/\(∀ b i,1<=G b i\/A' b i->b < w'.heap.size)/\(∀ b i,GR b i+GM b i<=G b i) /\
   oM P w' A' (lM g.rs out).1 rv GR/\ph P w' A' g.ps (lM g.rs out).2 xs GM
def wH (P:Program) (f:FuncId) (cap:Bool):Prop:=∃ fn,P.funcs[f]?=some fn/\(fn.name == "runtime.NumGoroutine")=false/\fn.body.isNone=false/\fn.nfree=(match cap with | true=>1 | false=>0)
end OT
namespace OT
open Go
section
variable {P:Program} {C:Ctx} {A:Cells} {X:FP} {σ:St} {a:Act} {w:World} {F:Nat->FP} {R:Type} {x:R}
theorem aaG {K:St->Option R}:∀ (ps:List (PM×Ty)) (xs:List Operand) {σ:St} {A:Cells} {F:Nat->FP},ek P C A σ a w F->tk σ ps xs K=some x ->
  ∃ (A':Cells) (σ':St) (F':Nat->FP),K σ'=some x/\(∀ b i,A b i->A' b i)/\ek P C A' σ' a w F'/\σ'.n=σ.n:=by
 intro ps
 induction ps with
 | nil=>intro xs σ A F h hk;exact ⟨A,σ,F,by cases xs <;> exact hk,λ_ _ h=>h,h,rfl⟩
 | cons p ps ih=>
  intro xs σ A F h hk
  cases xs with
  | nil=>obtain ⟨pm,t⟩:=p;exact ⟨A,σ,F,by cases pm <;> exact hk,λ_ _ h=>h,h,rfl⟩
  | cons y xs=>
   obtain ⟨pm,t⟩:=p
   have fin:∀ {m' m:Md} {r:Nat} {p:Path},(if m'=m then tk σ ps xs K else xR σ r p m λσ=>tk σ ps xs K)=some x ->
     ∃ (A':Cells) (σ':St) (F':Nat->FP),K σ'=some x/\(∀ b i,A b i->A' b i)/\ek P C A' σ' a w F'/\σ'.n=σ.n:=λhk=>by
    grind [QQ]
   cases pm with
   | ro=>exact ih xs h hk
   | fix f=>exact ih xs h hk
   | jl m m'=>
    simp only[tk] at hk;split at hk
    ·split at hk
     ·obtain ⟨hr,t',m',H',v',co,dr,F',h1,_⟩:=lZ h hk;exact fin h1
     ·cases hk
    ·cases hk
   | tj m=>
    simp only[tk] at hk;split at hk
    ·split at hk
     ·obtain ⟨hr,t',m',H',v',co,dr,F',h1,_⟩:=lZ h hk;exact fin h1
     ·cases hk
    ·cases hk
   | lR m=>
    simp only[tk] at hk;split at hk
    ·split at hk
     ·obtain ⟨hr,t',m',H',v',co,dr,F',h1,_⟩:=lZ h hk;exact fin h1
     ·cases hk
    ·cases hk
   | pG m=>
    simp only[tk] at hk;split at hk
    ·split at hk
     ·obtain ⟨hr,t',m',H',v',co,dr,F',h1,_⟩:=lZ h hk;exact fin h1
     ·cases hk
    ·cases hk
theorem Wk (h:ek P C A σ a w F) {r:Nat} {t:Ty} {m:Md} {v:t.den} (hg:σ.get r=.box t m [] v):∃ (A':Cells) (F':Nat->FP),(∀ b i,A b i->A' b i)/\ek P C A' ((σ.put r .dead).put r (.cp t v)) a w F'/\Ro P w A' (.ptr t) v [tmp a r]/\r < σ.n:=by
 have hi:r < σ.n:=by
  grind [mN]
 have hs:=h.iZ r hi;rw[hg] at hs;obtain ⟨b,off,L,F1,s1,s2,s3,s4,s5,s6⟩:=hs;have h1:=h.put hi (s:=.dead) (v:=tmp a r) (Fd:=λ_ _=>0) (X':=F r) trivial (λb k=>by omega) (λ_ _ _ _ e=>by cases e);rw[sB] at h1;have h2:=h1.giveUp (A1:=λb' i'=>A b' i'\/1<=F r b' i') (X1:=λ_ _=>0) (λ_ _ h=>.inl h) (λb' i' ha=>ha.imp id λhp=>⟨hp,rfl⟩) (λ_ _=>aW _)
 have yz:Ro P w (λb' i'=>A b' i'\/1<=F r b' i') (.ptr t) v [tmp a r]:=
  ⟨⟨b,off,none⟩,by rw[s1],rfl,L,s2,(λj u hu=>⟨s3 j u hu,.inr (by
   grind [d8])⟩),au.ym (λ_ _ h=>.inl h) t s6 (λb' i' hp=>.inr (by grind))⟩
 have h3:=h2.put (d:=r) hi (s:=.cp t v) (v:=tmp a r) (Fd:=λ_ _=>0) (X':=λ_ _=>0) yz (λb k=>by omega) (λ_ _ _ _ e=>by cases e);grind [sB]
theorem aaH (h:ek P C A σ a w F) {i:Nat} (hi:i < σ.n) {t:Ty} {v:t.den} (yz:Ro P w A (.ptr t) v [tmp a i]):∃ F':Nat->FP,ek P C A ((σ.put i .dead).put i (.cp t v)) a w F':=by
 have h1:=h.put hi (s:=.dead) (v:=tmp a i) (Fd:=λ_ _=>0) (X':=F i) trivial (λb k=>by omega) (λ_ _ _ _ e=>by cases e);rw[sB] at h1;have h2:=h1.giveUp (A1:=A) (X1:=λ_ _=>0) (λ_ _ h=>h) (λb' i' ha=>.inl ha) (λ_ _=>aW _);have h3:=h2.put (d:=i) hi (s:=.cp t v) (v:=tmp a i) (Fd:=λ_ _=>0) (X':=λ_ _=>0) yz (λb k=>by omega) (λ_ _ _ _ e=>by cases e);grind [sB]
theorem Yk (h:ek P C A σ a w F) {i r:Nat} {snap:List Nat} {t:Ty} {m:Md} {H:List Path} {v:t.den} (hi:i < σ.n) (hs:σ.get i=.ptr r [] snap) (bd:σ.ok r snap=true) (hg:σ.get r=.box t m H v):tmp a i=tmp a r:=by
 have h1:=h.iZ i hi;rw[hs] at h1;obtain ⟨pl,b,o,p1,p2,p3,p4⟩:=h1.2 bd
 have hr:r < σ.n:=by
  grind [mN]
 have h2:=h.iZ r hr;rw[hg] at h2;obtain ⟨b2,off,L,F1,s1,_⟩:=h2;grind [place,ei,cb]
theorem abW {K:St->Option R}:∀ (ps:List (PM×Ty)) (xs:List Operand) {σ:St} {A:Cells} {F:Nat->FP},ek P C A σ a w F->BJ σ ps xs K=some x ->
  ∃ (A':Cells) (σ':St) (F':Nat->FP),K σ'=some x/\(∀ b i,A b i->A' b i)/\ek P C A' σ' a w F'/\σ'.n=σ.n:=by
 intro ps
 induction ps with
 | nil=>intro xs σ A F h hk;exact ⟨A,σ,F,by cases xs <;> exact hk,λ_ _ h=>h,h,rfl⟩
 | cons p ps ih=>
  intro xs σ A F h hk
  cases xs with
  | nil=>obtain ⟨pm,t⟩:=p;exact ⟨A,σ,F,by cases pm <;> exact hk,λ_ _ h=>h,h,rfl⟩
  | cons y xs=>
   obtain ⟨pm,t⟩:=p
   have fin:∀ {r:Nat} {p:Path},(zw σ r p λσ=>BJ σ ps xs K)=some x ->
     ∃ (A':Cells) (σ':St) (F':Nat->FP),K σ'=some x/\(∀ b i,A b i->A' b i)/\ek P C A' σ' a w F'/\σ'.n=σ.n:=λhk=>by
    grind [Aj]
   cases pm with
   | fix f=>exact ih xs h hk
   | jl m m'=>exact ih xs h hk
   | tj m=>exact ih xs h hk
   | lR m=>exact ih xs h hk
   | pG m=>exact ih xs h hk
   | ro=>
    simp only[BJ] at hk;split at hk
    ·grind
    ·split at hk
     ·grind
     ·grind
     ·rename_i r p snap hop;split at hk
      ·rename_i bd;split at hk
       ·rename_i t m H v hg;split at hk
        ·rename_i hc;simp only[aD,bC] at hc;obtain ⟨hH,B_⟩:=hc;subst hH;obtain ⟨A1,F1,Ih,h3,h4,h5⟩:=Wk h hg
         have go:∀ {mX:St} {F2:Nat->FP},ek P C A1 mX a w F2->BJ mX ps xs K=some x->mX.n=σ.n->∃ (A':Cells) (σ':St) (F':Nat->FP),K σ'=some x/\(∀ b i,A b i->A' b i)/\ek P C A' σ' a w F'/\σ'.n=σ.n:=λh3 hk hn=>by
          grind
         cases y with
         | tmp i=>
          simp only[abA] at hk;split at hk
          ·exact go h3 hk rfl
          ·rename_i Gu;simp only[Bool.or_eq_false_iff,Bool.not_eq_false',Nat.blt_eq] at Gu;obtain ⟨g1,g2⟩:=Gu;have hi:i < σ.n:=g2;have Sl:i≠r:=λe=>by simp_all
           have hs:σ.get i=.ptr r [] snap:=by
            grind [eh]
           have he:=Yk h hi hs bd hg;rw[<-he] at h4;obtain ⟨F3,h6⟩:=aaH h3 (i:=i) g2 h4;exact go h6 hk rfl
         | const c=>exact go h3 hk rfl
         | func f=>exact go h3 hk rfl
         | global g=>exact go h3 hk rfl
        ·cases hk
       ·cases hk
      ·cases hk
     grind
def AX (A:Cells) (F:Nat->FP) (n r0:Nat) (ow:Bool):Cells:=λb i=>A b i\/(ow=true/\∃ j,j < n/\j≠r0/\1<=F j b i)
def aab (P:Program) (A:Cells) (σ:St) (a:Act) (w:World) (F:Nat->FP) (ow:Bool) (pm:PM) (t:Ty) (v:t.den) (s:Slot) (tv:Value) (wp:Option (Nat×Path)):Prop:=
 match pm with
 | .ro=>wp=none/\∃ cs,tv=dm t cs/\Ro P w (λb i=>A b i\/(ow=true/\∃ r ∈ nF s,r < σ.n/\1<=F r b i)) t v cs
 | .fix f=>wp=none/\(∃ cs,tv=dm t cs/\Ro P w A t v cs)/\∀ e:t=.fn,(e ▸ v:Ty.fn.den).1=f
 | .jl m _=>∃ r p snap b o cs,s=.ptr r p snap/\wp=some (r,p)/\At σ r p t m [] v/\tv=.pointer (some ⟨b,o,none⟩)/\place σ a w r p=some ⟨t,[],cs,some (b,o)⟩
 | .lR m=>∃ r p snap cs ad,s=.ref r p snap/\wp=some (r,p)/\At σ r p t m [] v/\tv=dm t cs/\place σ a w r p=some ⟨t,[],cs,ad⟩
 | .pG m=>∃ H r p snap cs ad,s=.ref r p snap/\wp=some (r,p)/\At σ r p t m H v/\tv=dm t cs/\place σ a w r p=some ⟨t,H,cs,ad⟩
 | .tj m=>∃ r p snap b o cs,s=.ptr r p snap/\wp=some (r,p)/\At σ r p t m [] v/\tv=.pointer (some ⟨b,o,none⟩)/\place σ a w r p=some ⟨t,[],cs,some (b,o)⟩
def Gv (P:Program) (A:Cells) (σ:St) (a:Act) (w:World) (F:Nat->FP) (ow:Bool):(ps:List (PM×Ty))->(b_ (ps.map (·.2))).den->List Slot->List Value->List (Nat×Path)->Prop
 | [],_,ss,qL,ws=>ss=[]/\qL=[]/\ws=[]
 | (pm,t)::ps,v,ss,qL,ws=>∃ s Wl tv zD wp Cb,ss=s::Wl/\qL=tv::zD/\ws=(match (generalizing:=false) wp with | some x=>x::Cb | none=>Cb)/\aab P A σ a w F ow pm t v.1 s tv wp/\Gv P A σ a w F ow ps v.2 Wl zD Cb
def xI (P:Program) (A:Cells) (σ:St) (a:Act) (w:World):List Slot->List Value->Prop
 | [],[]=>True
 | s::ss,tv::qL=>(dn P A σ a w tv s (λ_ _=>0)\/∃ xs,s=.sQ xs)/\xI P A σ a w ss qL
 | _,_=>False
theorem J_ (h:ek P C A σ a w F):∀ (xs:List Operand) {ss:List Slot} {qL:List Value},xs.all (d_ P)=true->xI P A σ a w ss qL->xI P A σ a w (xs.map (eh σ)++ss) (xs.map a.eval++qL)
 | [],_,_,_,h2=>h2
 | y::xs,_,_,bd,h2=>by
  simp only[eA,aD] at bd;exact ⟨gi h bd.1,J_ h xs bd.2 h2⟩
theorem acS (h:ek P C A σ a w F) {s:Slot} {tv:Value} {G:FP} (hs:dn P A σ a w tv s G) {t:Ty} {K:t.den->Option R} (hk:N8 σ s t K=some x) :
  ∃ (v:t.den) (cs:List Value),K v=some x/\tv=dm t cs/\Ro P w A t v cs:=by
 cases s with
 | val t' v=>
  obtain ⟨e,hk⟩:=di hk;subst e;obtain ⟨cs,h1,h2⟩:=hs;grind
 | cp t' v=>
  obtain ⟨e,hk⟩:=di hk;subst e;exact ⟨v,[tv],hk,(eo _ _ rfl).symm,hs⟩
 | ye=>
  simp only[N8] at hk;split at hk
  ·rename_i t e;have hs:tv=.slice none 0 0:=hs;subst hs;exact ⟨[],_,hk,(eo _ _ rfl).symm,none,0,rfl,aI _,λ_=>rfl,λad lN=>by cases lN⟩
  ·cases hk
 | ref r p snap=>
  simp only[N8] at hk;split at hk
  ·rename_i bd;obtain ⟨hr,t',m',H',v',co,dr,F',h1,h2,h3,h4,h5,h6⟩:=lZ h hk;obtain ⟨pl,g1,g2,g3⟩:=hs.2 bd;grind [di,au.flat,au.ro,iP]
  ·cases hk
 | sub r p snap lo hi=>
  simp only[N8] at hk;split at hk
  ·rename_i bd;obtain ⟨hr,t',m',H',v',co,dr,F',h1,h2,h3,h4,h5,h6⟩:=lZ h hk;obtain ⟨pl,e,xa,n,cap,xk,cap',g1,g2,g3,g4,g5,g6,g7,Sn,g8,g9,g10⟩:=hs.2 bd;rw[h3] at g1;injection g1 with g1;subst g1;simp only at g2 g3;subst g2;subst g3;split at h1
   ·rename_i hc;simp only[aD,bC,bF] at hc;obtain ⟨hH,hm⟩:=hc;subst hH;subst hm;obtain ⟨e',h1⟩:=di h1;subst e';exact ⟨_,_,h1,by rw[eo _ _ rfl];exact g6,Ro.piece (au.ro _ (iP _) h4) g4 g5 g7 g8 g9⟩
   ·cases h1
  ·cases hk
 | _=>simp[N8] at hk
theorem abX (h:ek P C A σ a w F) {ow:Bool} {pm:PM} {t:Ty} {s:Slot} {tv:Value} (hs:dn P A σ a w tv s (λ_ _=>0)\/∃ xs,s=.sQ xs) {K:t.den->Option (Nat×Path)->Option R} (hk:BI σ ow pm t s K=some x) :
  ∃ v wp,K v wp=some x/\aab P A σ a w F ow pm t v s tv wp:=by
 rcases hs with hs | ⟨xs,rfl⟩
 rotate_left
 ·cases pm with
  | ro=>cases ow <;> simp[BI,uk,N8] at hk
  | _=>simp[BI] at hk
 cases pm with
 | ro=>
  cases ow with
  | true=>
   simp only[BI] at hk;have a8:=Gm h hk;obtain ⟨v,cs,h1,h2,h3⟩:=Mv h hs hk;exact ⟨v,none,h1,rfl,cs,h2,Ro.mono (λ_ _ _ _ h=>h) (λb i ha=>ha.imp id λ⟨r,hr,hp⟩=>⟨rfl,r,hr,a8 r hr,hp⟩) t h3⟩
  | false=>
   simp only[BI] at hk;obtain ⟨v,cs,h1,h2,h3⟩:=acS h hs hk;exact ⟨v,none,h1,rfl,cs,h2,Ro.mono (λ_ _ _ _ h=>h) (λb i ha=>.inl ha) t h3⟩
 | fix f=>
  simp only[BI] at hk;split at hk
  ·rename_i v;split at hk
   ·rename_i hf;obtain ⟨e,hk⟩:=di hk;subst e;obtain ⟨cs,h1,h2⟩:=hs;exact ⟨v,none,hk,rfl,⟨cs,h1,h2⟩,λe=>by simpa using hf⟩
   ·cases hk
  ·cases hk
 | jl m m'=>
  simp only[BI] at hk;split at hk
  ·rename_i r p snap;split at hk
   ·rename_i bd;obtain ⟨hr,t',m',H',v',co,dr,F',h1,h2,h3,h4,h5,h6⟩:=lZ h hk;obtain ⟨pl,b,o,g1,g2,g3,g4⟩:=hs.2 bd;rw[h3] at g1;injection g1 with g1;subst g1;simp only at g2;subst g2;split at h1
    ·rename_i hc;simp only[aD,bC,bF] at hc;obtain ⟨hH,hm⟩:=hc;subst hH;subst hm;obtain ⟨e,h1⟩:=di h1;subst e;exact ⟨v',_,h1,r,p,snap,b,o,co,rfl,rfl,⟨h2⟩,g3,h3⟩
    ·cases h1
   ·cases hk
  ·cases hk
 | tj m=>
  simp only[BI] at hk;split at hk
  ·rename_i r p snap;split at hk
   ·rename_i bd;obtain ⟨hr,t',m',H',v',co,dr,F',h1,h2,h3,h4,h5,h6⟩:=lZ h hk;obtain ⟨pl,b,o,g1,g2,g3,g4⟩:=hs.2 bd;rw[h3] at g1;injection g1 with g1;subst g1;simp only at g2;subst g2;split at h1
    ·rename_i hc;simp only[aD,bC,bF] at hc;obtain ⟨hH,hm⟩:=hc;subst hH;subst hm;obtain ⟨e,h1⟩:=di h1;subst e;exact ⟨v',_,h1,r,p,snap,b,o,co,rfl,rfl,⟨h2⟩,g3,h3⟩
    ·cases h1
   ·cases hk
  ·cases hk
 | lR m=>
  simp only[BI] at hk;split at hk
  ·rename_i r p snap;split at hk
   ·rename_i bd;obtain ⟨hr,t',m',H',v',co,dr,F',h1,h2,h3,h4,h5,h6⟩:=lZ h hk;obtain ⟨pl,g1,g2,g3⟩:=hs.2 bd;rw[h3] at g1;injection g1 with g1;subst g1;split at h1
    ·rename_i hc;simp only[aD,bC,bF] at hc;obtain ⟨hH,hm⟩:=hc;subst hH;subst hm;obtain ⟨e,h1⟩:=di h1;subst e;exact ⟨v',_,h1,r,p,snap,co,dr,rfl,rfl,⟨h2⟩,g2,h3⟩
    ·cases h1
   ·cases hk
  ·cases hk
 | pG m=>
  simp only[BI] at hk;split at hk
  ·rename_i r p snap;split at hk
   ·rename_i bd;obtain ⟨hr,t',m',H',v',co,dr,F',h1,h2,h3,h4,h5,h6⟩:=lZ h hk;obtain ⟨pl,g1,g2,g3⟩:=hs.2 bd;rw[h3] at g1;injection g1 with g1;subst g1;split at h1
    ·rename_i hm;subst hm;obtain ⟨e,h1⟩:=di h1;subst e;exact ⟨v',_,h1,H',r,p,snap,co,dr,rfl,rfl,⟨h2⟩,g2,h3⟩
    ·cases h1
   ·cases hk
  ·cases hk
theorem aaI (h:ek P C A σ a w F) {ow:Bool}:∀ (ps:List (PM×Ty)) {ss:List Slot} {qL:List Value} {K:(b_ (ps.map (·.2))).den->List (Nat×Path)->Option R},xI P A σ a w ss qL->NF σ ow ps ss K=some x ->
  ∃ v ws,K v ws=some x/\Gv P A σ a w F ow ps v ss qL ws:=by
 intro ps
 induction ps with
 | nil=>
  intro ss qL K hs hk
  cases ss with
  | nil=>
   cases qL with
   | nil=>exact ⟨(),[],hk,rfl,rfl,rfl⟩
   | cons _ _=>exact hs.elim
  | cons _ _=>cases hk
 | cons p ps ih=>
  intro ss qL K hs hk;obtain ⟨pm,t⟩:=p
  cases ss with
  | nil=>cases hk
  | cons s ss=>
   cases qL with
   | nil=>exact hs.elim
   | cons tv qL=>
    simp only[NF] at hk;obtain ⟨v,wp,h1,h2⟩:=abX h hs.1 hk;obtain ⟨vs,ws,h3,h4⟩:=ih hs.2 h1;exact ⟨(v,vs),_,h3,s,ss,tv,qL,wp,ws,rfl,rfl,rfl,h2,h4⟩
theorem qM {ow:Bool} {A0:Cells} (hA:∀ b i,A b i->A0 b i) {r0:Nat} (hX:ow=true->∀ b i j,j < σ.n->j≠r0->1<=F j b i->A0 b i):∀ (ps:List (PM×Ty)) {v:(b_ (ps.map (·.2))).den} {ss:List Slot} {qL:List Value},
  Gv P A σ a w F ow ps v ss qL []->(∀ r ∈ ss.flatMap nF,r < σ.n->r≠r0)->(∀ ho,qd P w A0 ho ps v qL (λ_ _=>0))/\(∀ (σ':St) (K:St->Option R) (out:(b_ (lL ps)).den),tm σ' ps [] out K=K σ'):=by
 intro ps
 induction ps with
 | nil=>intro v ss qL h hr;exact ⟨λ_=>h.2.1,λσ' K out=>rfl⟩
 | cons p ps ih=>
  intro v ss qL h hr;obtain ⟨pm,t⟩:=p;obtain ⟨s,Wl,tv,zD,wp,Cb,rfl,rfl,hw,mU,rq⟩:=h;have sS:∀ b i,A b i->∀ u,ce w b i=some u->ce w b i=some u:=λ_ _ _ _ h=>h
  cases wp with
  | some y=>cases hw
  | none=>
   have hw:[]=Cb:=hw;subst hw;obtain ⟨i1,i2⟩:=ih rq (λr hm=>hr r (by grind))
   cases pm with
   | ro=>
    obtain ⟨_,cs,h1,h2⟩:=mU;refine ⟨λho=>⟨tv,zD,λ_ _=>0,λ_ _=>0,rfl,λ_ _=>aI _,⟨cs,h1,Ro.mono (λ_ _ _ _ h=>h) (λb i ha=>?_) t h2⟩,i1 ho⟩,λσ' K out=>i2 σ' K out⟩
    grind
   | fix f=>
    obtain ⟨_,⟨cs,h1,h2⟩,h3⟩:=mU;exact ⟨λho=>⟨tv,zD,λ_ _=>0,λ_ _=>0,rfl,λ_ _=>aI _,⟨⟨cs,h1,Ro.mono (λ_ _ _ _ h=>h) hA t h2⟩,h3⟩,i1 ho⟩,λσ' K out=>i2 σ' K out⟩
   | jl m m'=>obtain ⟨r,p,snap,b,o,cs,_,e,_⟩:=mU;cases e
   | tj m=>obtain ⟨r,p,snap,b,o,cs,_,e,_⟩:=mU;cases e
   | lR m=>obtain ⟨r,p,snap,cs,ad,_,e,_⟩:=mU;cases e
   | pG m=>obtain ⟨H,r,p,snap,cs,ad,_,e,_⟩:=mU;cases e
theorem aaJ {t:Ty} {cs co:List Value} (h1:cs.length=t.sz) (h2:∀ x ∈ cs,x.oneCell'=true) (h3:co.length=t.sz) (h4:∀ x ∈ co,x.oneCell'=true) (h:dm t cs=dm t co):cs=co:=by
 grind [lV]
theorem Uc {ow:Bool} {r:Nat} {p:Path}:∀ (ps:List (PM×Ty)) {v:(b_ (ps.map (·.2))).den} {ss:List Slot} {qL:List Value},
  Gv P A σ a w F ow ps v ss qL [(r,p)]->(ss.flatMap nF).count r<=1 ->
  1<=(ss.flatMap nF).count r/\∃ (vC sd FN:Bool) (t:Ty) (m:Md) (H:List Path) (v1:t.den) (cs:List Value) (ad:Option (Nat×Nat)),((FN=false->H=[])/\(FN=true->TD ps=true))/\At σ r p t m H v1/\place σ a w r p=some ⟨t,H,cs,ad⟩/\(sd=true->∃ b o,ad=some (b,o)) /\
   (o_ ps=true->(t.flat||decide (m=aj t))=true/\t.sV=true) /\
   (∀ (A0:Cells) (F0 Fp:FP),(∀ b i,A b i->A0 b i)->(ow=true->∀ b i j,j < σ.n->j≠r->1<=F j b i->A0 b i)->au P w A0 t m H v1 cs Fp ->
    (sd=true->∀ b o,ad=some (b,o)->Has w b o cs/\(∀ j,j < t.sz->w.frozen? ⟨b,o+j,none⟩=false)/\∀ b' i,d8 b o t.sz b' i+Fp b' i<=F0 b' i)->(sd=false->∀ b i,Fp b i<=F0 b i)->∀ ho,(FN=true->ho H=true)->qd P w A0 ho ps v qL F0) /\
   (FN=true->vC=true/\sd=false/\∀ (σ':St) (K:St->Option R) (out:(b_ (lL ps)).den),tm σ' ps [(r,p)] out K=A8 σ' r p K) /\
   (vC=true->FN=false->∀ (σ':St) (K:St->Option R) (out:(b_ (lL ps)).den),tm σ' ps [(r,p)] out K=match w9 σ' r p t m t.zero (λ_=>some ()) with | some _=>K (σ'.put r .dead) | none=>none) /\
   (vC=false->∀ out:(b_ (lL ps)).den,∃ (m2:Md) (o1:t.den),(o_ ps=true->(t.flat||decide (m2=aj t))=true) /\
    (∀ (σ':St) (K:St->Option R),tm σ' ps [(r,p)] out K=w9 σ' r p t m2 o1 λzB=>K (match sd with | true=>zB | false=>{ zB with vr:=(σ'.nq r (vw (ej p+1))).vr,ay:=σ'.ay })) /\
    ∀ (w':World) (A':Cells) (GM:FP),ph P w' A' ps out qL GM->∃ co F3,au P w' A' t m2 [] o1 co F3/\(∀ b i,F3 b i<=GM b i)/\(sd=true->∀ b o,ad=some (b,o)->Has w' b o co/\∀ b' i,d8 b o t.sz b' i+F3 b' i<=GM b' i) /\
     (sd=false->dm t co=dm t cs)):=by
 intro ps
 induction ps with
 | nil=>intro v ss qL h hc;cases h.2.2
 | cons p0 ps ih=>
  intro v ss qL h hc;obtain ⟨pm,t⟩:=p0;obtain ⟨s,Wl,tv,zD,wp,Cb,rfl,rfl,hw,mU,rq⟩:=h;simp only[eN,List.count_append] at hc ⊢
  cases pm with
  | ro=>
   obtain ⟨Cc,cs,h1,h2⟩:=mU;subst Cc;have hw:[(r,p)]=Cb:=hw;subst hw;obtain ⟨c1,vC,sd,FN,t1,m1,H1,v1,rp,Ic,q0,q1,q2,q3,q4,q5,q8,q7,q6⟩:=ih rq Bys;refine ⟨by omega,vC,sd,FN,t1,m1,H1,v1,rp,Ic,q0,q1,q2,q3,q4,λA0 F0 Fp a1 a2 a3 a4 a5 ho a6=>⟨tv,zD,λ_ _=>0,F0,rfl,λb i=>by simp,⟨cs,h1,Ro.mono (λ_ _ _ _ h=>h) (λb i ha=>?_) t h2⟩,q5 A0 F0 Fp a1 a2 a3 a4 a5 ho a6⟩,λhV=>⟨(q8 hV).1,(q8 hV).2.1,λσ' K out=>(q8 hV).2.2 σ' K out⟩,λhE hV σ' K out=>q7 hE hV σ' K out,λhE out=>q6 hE out⟩
   rcases ha with ha | ⟨zq,r',hm,a8,hp⟩
   ·exact a1 b i ha
   ·refine a2 zq b i r' a8 (λe=>?_) hp;subst e;have:=dH.2 hm;omega
  | fix f=>
   obtain ⟨Cc,⟨cs,h1,h2⟩,h3⟩:=mU;subst Cc;have hw:[(r,p)]=Cb:=hw;subst hw;obtain ⟨c1,vC,sd,FN,t1,m1,H1,v1,rp,Ic,q0,q1,q2,q3,q4,q5,q8,q7,q6⟩:=ih rq Bys;exact ⟨by omega,vC,sd,FN,t1,m1,H1,v1,rp,Ic,q0,q1,q2,q3,q4,λA0 F0 Fp a1 a2 a3 a4 a5 ho a6=>⟨tv,zD,λ_ _=>0,F0,rfl,λb i=>by simp,⟨⟨cs,h1,Ro.mono (λ_ _ _ _ h=>h) a1 t h2⟩,h3⟩,q5 A0 F0 Fp a1 a2 a3 a4 a5 ho a6⟩,λhV=>⟨(q8 hV).1,(q8 hV).2.1,λσ' K out=>(q8 hV).2.2 σ' K out⟩,λhE hV σ' K out=>q7 hE hV σ' K out,λhE out=>q6 hE out⟩
  | tj m=>
   obtain ⟨r1,p1,snap,b,o,cs,rfl,Cc,jt,BY,i7⟩:=mU;subst Cc;have hw:[(r,p)]=(r1,p1)::Cb:=hw;injection hw with xn An;injection xn with xn OI;subst xn;subst An;subst OI;have Ka:(nF (.ptr r p snap)).count r=1:=by simp[nF]
   obtain ⟨n1,n2⟩:=qM (R:=R) (P:=P) (A0:=λb i=>True) (λ_ _ _=>trivial) (r0:=r) (λ_ _ _ _ _ _ _=>trivial) ps rq (λr' hm _ e=>by subst e;have:=dH.2 hm;omega);refine ⟨by omega,true,true,false,t,m,[],v.1,cs,some (b,o),⟨λ_=>rfl,λe=>by cases e⟩,jt,i7,λ_=>⟨b,o,rfl⟩,λho=>?_,λA0 F0 Fp a1 a2 a3 a4 a5 ho _=>?_,(λe=>by cases e),λ_ _ σ' K out=>?_,λe=>by cases e⟩
   ·simp only[o_,aD] at ho;exact ho.1
   ·obtain ⟨b1,b2,b3⟩:=a4 rfl b o rfl;obtain ⟨k1,_⟩:=qM (R:=R) (P:=P) a1 (r0:=r) a2 ps rq (λr' hm _ e=>by subst e;have:=dH.2 hm;omega);exact ⟨tv,zD,F0,λ_ _=>0,rfl,λb i=>aI _,⟨b,o,cs,Fp,BY,au.length _ a3,b1,b2,b3,a3⟩,k1 ho⟩
   ·show (match w9 σ' r p t m t.zero (λ_=>some ()) with | some _=>tm (σ'.put r .dead) ps [] out K | none=>none)=_;split
    ·exact n2 _ K out
    ·rfl
  | jl m m'=>
   obtain ⟨r1,p1,snap,b,o,cs,rfl,Cc,jt,BY,i7⟩:=mU;subst Cc;have hw:[(r,p)]=(r1,p1)::Cb:=hw;injection hw with xn An;injection xn with xn OI;subst xn;subst An;subst OI;have Ka:(nF (.ptr r p snap)).count r=1:=by simp[nF]
   obtain ⟨n1,n2⟩:=qM (R:=R) (P:=P) (A0:=λb i=>True) (λ_ _ _=>trivial) (r0:=r) (λ_ _ _ _ _ _ _=>trivial) ps rq (λr' hm _ e=>by subst e;have:=dH.2 hm;omega);refine ⟨by omega,false,true,false,t,m,[],v.1,cs,some (b,o),⟨λ_=>rfl,λe=>by cases e⟩,jt,i7,λ_=>⟨b,o,rfl⟩,λho=>?_,λA0 F0 Fp a1 a2 a3 a4 a5 ho _=>?_,(λe=>by cases e),(λe=>by cases e),λ_ out=>⟨m',out.1,λho=>?_,λσ' K=>?_,λw' A' GM hm=>?_⟩⟩
   ·simp only[o_,aD] at ho;exact ho.1
   ·obtain ⟨b1,b2,b3⟩:=a4 rfl b o rfl;obtain ⟨k1,_⟩:=qM (R:=R) (P:=P) a1 (r0:=r) a2 ps rq (λr' hm _ e=>by subst e;have:=dH.2 hm;omega);exact ⟨tv,zD,F0,λ_ _=>0,rfl,λb i=>aI _,⟨b,o,cs,Fp,BY,au.length _ a3,b1,b2,b3,a3⟩,k1 ho⟩
   ·simp only[o_,aD] at ho;exact ho.2.1
   ·show w9 σ' r p t m' out.1 (λσ=>tm σ ps [] out.2 K)=_;congr 1;funext zB;exact n2 zB K out.2
   ·obtain ⟨F1,F2,h1,⟨b',o',L,F3,h2,h3,h4,h5,h6⟩,h7⟩:=hm;simp only[List.head?_cons,aQ,BY,Value.pointer.injEq,Addr.mk.injEq,eF] at h2;obtain ⟨rfl,rfl⟩:=h2;refine ⟨L,F3,h6,λb' i=>by have:=h5 b' i;have:=h1 b' i;omega,λ_ b2 o2 e=>?_,λe=>by cases e⟩
    simp only[aQ,bJ] at e;obtain ⟨rfl,rfl⟩:=e;exact ⟨h4,λb' i=>by have:=h5 b' i;have:=h1 b' i;omega⟩
  | lR m=>
   obtain ⟨r1,p1,snap,cs,ad,rfl,Cc,jt,BY,i7⟩:=mU;subst Cc;have hw:[(r,p)]=(r1,p1)::Cb:=hw;injection hw with xn An;injection xn with xn OI;subst xn;subst An;subst OI;have Ka:(nF (.ref r p snap)).count r=1:=by simp[nF]
   obtain ⟨n1,n2⟩:=qM (R:=R) (P:=P) (A0:=λb i=>True) (λ_ _ _=>trivial) (r0:=r) (λ_ _ _ _ _ _ _=>trivial) ps rq (λr' hm _ e=>by subst e;have:=dH.2 hm;omega);refine ⟨by omega,false,false,false,t,m,[],v.1,cs,ad,⟨λ_=>rfl,λe=>by cases e⟩,jt,i7,(λe=>by cases e),λho=>?_,λA0 F0 Fp a1 a2 a3 a4 a5 ho _=>?_,(λe=>by cases e),(λe=>by cases e),λ_ out=>⟨m,out.1,λho=>?_,λσ' K=>?_,λw' A' GM hm=>?_⟩⟩
   ·simp only[o_,aD] at ho;exact ho.1
   ·obtain ⟨k1,_⟩:=qM (R:=R) (P:=P) a1 (r0:=r) a2 ps rq (λr' hm _ e=>by subst e;have:=dH.2 hm;omega);exact ⟨tv,zD,F0,λ_ _=>0,rfl,λb i=>aI _,⟨cs,BY,a3.le (a5 rfl)⟩,k1 ho⟩
   ·simp only[o_,aD] at ho;exact ho.1.1
   ·show w9 σ' r p t m out.1 (λzB=>tm { zB with vr:=(σ'.nq r (vw (ej p+1))).vr,ay:=σ'.ay } ps [] out.2 K)=_;congr 1;funext zB;exact n2 _ K out.2
   ·obtain ⟨F1,F2,h1,⟨co,h2,h3⟩,h7⟩:=hm;simp only[List.head?_cons,aQ,BY] at h2;exact ⟨co,F1,h3,λb' i=>by have:=h1 b' i;omega,(λe=>by cases e),λ_=>h2.symm⟩
  | pG m=>
   obtain ⟨H,r1,p1,snap,cs,ad,rfl,Cc,jt,BY,i7⟩:=mU;subst Cc;have hw:[(r,p)]=(r1,p1)::Cb:=hw;injection hw with xn An;injection xn with xn OI;subst xn;subst An;subst OI;have Ka:(nF (.ref r p snap)).count r=1:=by simp[nF]
   obtain ⟨n1,n2⟩:=qM (R:=R) (P:=P) (A0:=λb i=>True) (λ_ _ _=>trivial) (r0:=r) (λ_ _ _ _ _ _ _=>trivial) ps rq (λr' hm _ e=>by subst e;have:=dH.2 hm;omega);refine ⟨by omega,true,false,true,t,m,H,v.1,cs,ad,⟨λe=>(by cases e),λ_=>rfl⟩,jt,i7,(λe=>by cases e),λho=>?_,λA0 F0 Fp a1 a2 a3 a4 a5 ho a6=>?_,λ_=>⟨rfl,rfl,λσ' K out=>?_⟩,(λ_ e=>by cases e),λe=>by cases e⟩
   ·simp only[o_,aD] at ho;exact ho.1
   ·obtain ⟨k1,_⟩:=qM (R:=R) (P:=P) a1 (r0:=r) a2 ps rq (λr' hm _ e=>by subst e;have:=dH.2 hm;omega);exact ⟨tv,zD,F0,λ_ _=>0,rfl,λb i=>aI _,⟨H,cs,a6 rfl,BY,a3.le (a5 rfl)⟩,k1 ho⟩
   ·show A8 σ' r p (λzB=>tm zB ps [] out K)=_;congr 1;funext zB;exact n2 _ K out
theorem DZ {rs:List JF} {rv:Value} {G:FP} (h:oM P w A rs rv G):dn P A σ a w rv (wF rs) G/\∀ t m H v,wF rs=.box t m H v->∃ b,rv=.pointer (some ⟨b,0,none⟩)/\jf w b (t.sz,false):=by
 match rs,h with
 | [],_=>exact ⟨trivial,λ_ _ _ _ e=>by cases e⟩
 | [x],h=>
  obtain ⟨cs,rfl,h2⟩:=h;exact HQ h2
 | x::y::rs,h=>
  obtain ⟨vs,Fi,h1,h2,h3⟩:=h
  exact ⟨⟨vs,Fi,h1,h2,λj z hz=>by
   obtain ⟨v,cs,g1,g2,g3⟩:=h3 j z hz
   exact ⟨v,g1,.inr ⟨cs,g2,g3⟩⟩⟩,λ_ _ _ _ e=>by cases e⟩
theorem oM.free {A':Cells}:∀ {rs:List JF} {rv:Value} {G:FP},(∀ x ∈ rs,(x.t.flat||decide (x.m=aj x.t))=true/\x.t.sV=true)->oM P w A rs rv G->oM P w A' rs rv G
 | [],_,_,_,_=>trivial
 | [x],_,_,ho,⟨cs,h1,h2⟩=>⟨cs,h1,au.free (ho x (by simp)).1 (ho x (by simp)).2 h2⟩
 | x::y::rs,_,_,ho,⟨vs,Fi,h1,h2,h3⟩=>⟨vs,Fi,h1,h2,λj z hz=>by
  grind [au.free]⟩
theorem Ao:∀ (rs:List (Ty×Md)) {ts:List Ty} (out:(b_ (rs.map (·.1)++ts)).den),BK rs=true->∀ x ∈ (lM rs out).1,(x.t.flat||decide (x.m=aj x.t))=true/\x.t.sV=true
 | [],_,_,_=>λx hx=>by cases hx
 | (t,m)::rs,_,out,h=>λx hx=>by
  simp only[BK,aD] at h;simp only[lM,aY] at hx;rcases hx with rfl | hx
  ·exact h.1
  ·exact Ao rs out.2 h.2 x hx
theorem oM.mono {A':Cells} (hA:∀ b i,A b i->A' b i):∀ {rs:List JF} {rv:Value} {G:FP},oM P w A rs rv G->oM P w A' rs rv G
 | [],_,_,_=>trivial
 | [x],_,_,⟨cs,h1,h2⟩=>⟨cs,h1,au.mono hA (λ_ _ _ _ h=>h) (λ_ _ h=>h) _ h2 (λ_ _=>aI _) (λ_ _ _ _ h=>h)⟩
 | x::y::rs,_,_,⟨vs,Fi,h1,h2,h3⟩=>⟨vs,Fi,h1,h2,λj z hz=>by
  obtain ⟨v,cs,g1,g2,g3⟩:=h3 j z hz
  exact ⟨v,cs,g1,g2,au.mono hA (λ_ _ _ _ h=>h) (λ_ _ h=>h) _ g3 (λ_ _=>aI _) (λ_ _ _ _ h=>h)⟩⟩
end
end OT
namespace OT
open Go
section
variable {P:Program} {C:Ctx} {A:Cells} {X:FP} {σ:St} {a:Act} {w:World} {F:Nat->FP} {R:Type} {x:R} {Q:Exit->Act->World->Prop} {o:Oper} {E:Env}
def Bd (b:Bool) (n:Nat):Nat:=match b with
 | true=>n
 | false=>0
theorem Yl {w2:World} {A2:Cells}:∀ (q:Path) (t:Ty) {m':Md} {v':t.den} {cs:List Value} {G':FP} {ad:Option (Nat×Nat)} {pl:Pl},au P w2 A2 t m' [] v' cs G'->ej q<=1->cb w q t [] cs ad=some pl ->
  ∃ H' co,cb w2 q t [] cs ad=some ⟨pl.t,H',co,pl.ad⟩/\(ej q < 1->yn pl.t=true->co=pl.cs):=by
 intro q
 induction q with
 | nil=>
  intro t m' v' cs G' ad pl h2 hq hp;simp only[cb,aQ] at hp;subst hp;exact ⟨_,_,rfl,λ_ _=>rfl⟩
 | cons s q ih=>
  intro t m' v' cs G' ad pl h2 hq hp
  cases t with
  | pair a b=>
   obtain ⟨h0,F1,F2,hs,r1,r2⟩:=h2
   cases s with
   | fst=>
    simp only[cb,h0,aS] at hp ⊢;exact ih a r1 (by simpa [ej] using hq) (by simpa using hp)
   | snd=>
    simp only[cb,h0,aS] at hp ⊢;exact ih b r2 (by simpa [ej] using hq) (by simpa using hp)
   | idx i=>simp[cb] at hp
   | rO i=>simp[cb] at hp
  | aa e=>
   cases s with
   | idx i=>
    obtain ⟨xa,cap,news,Fi,r1,r2,r3,r4,r5,r6,r7,r8⟩:=Gt h2;subst r1
    cases xa with
    | none=>grind [cb]
    | some dr=>
     simp only[cb,hole,bP,aF,aS,dX] at hp ⊢;split at hp
     ·rename_i hi;rw[aM hi];have ja:=r6 i _ (aB hi);obtain ⟨g1,g2⟩:=r3 dr rfl;have hl:=au.length _ ja
      have hh:Has w2 dr.block (dr.off+i*e.sz) ((news.drop (i*e.sz)).take e.sz):=λj u hu=>by
       rw[bT] at hu;split at hu
       ·rw[bM] at hu;rw[cM];exact g2 _ u hu
       ·cases hu
      rw[fy hh hl];obtain ⟨H',co,h1,h2⟩:=CS (A:=λ_ _=>True) (m:=.leaf) (v:=v'[i]) (F:=λ_ _=>0) q e ja (.inl (by grind [ej])) hp;grind [ej]
     ·cases hp
   | _=>simp[cb] at hp
  | arr n e=>
   cases s with
   | fst=>simp[cb] at hp
   | snd=>simp[cb] at hp
   | idx i=>simp[cb] at hp
   | rO i=>
    obtain ⟨_,hf,hl,hlen,hr⟩:=h2;simp only[cb,cJ,aH] at hp ⊢;split at hp
    ·rename_i hi;rw[aM hi];exact ih e (Ro.flat e (m:=.leaf) (λ_ _=>0) hf (hr i _ (aB (by grind)))) (by simpa [ej] using hq) hp
    ·cases hp
  | _=>grind [cb]
theorem Wm {t:Ty} {m':Md} {v':t.den} {cs:List Value} {G':FP} {w2:World} {A2:Cells} (ad:Option (Nat×Nat)) (h2:au P w2 A2 t m' [] v' cs G'):sW 1 False w t [] cs ad w2 [] cs:=by
 intro q pl hq hp;grind [Yl]
theorem OJ (h:ek P C A σ a w F) {r:Nat} {ow:Bool} {b i:Nat} (ha:AX A F σ.n r ow b i):b < w.heap.size:=by
 rcases ha with ha | ⟨_,j,hj,_,hp⟩
 ·exact h.ld b i (.inr ha)
 ·exact h.ld b i (.inl (by grind [dy]))
def yE:List (PM×Ty)->Bool
 | []=>true
 | (.jl _ _,_)::_=>false
 | (.lR _,_)::_=>false
 | (.tj _,_)::_=>false
 | (.pG _,_)::_=>false
 | _::ps=>yE ps
theorem wI {ow:Bool} {y:Nat×Path} {ws:List (Nat×Path)}:∀ (ps:List (PM×Ty)) {v:(b_ (ps.map (·.2))).den} {ss:List Slot} {qL:List Value},yE ps=true->Gv P A σ a w F ow ps v ss qL (y::ws)->False
 | [],_,_,_,_,h=>by cases h.2.2
 | (pm,t)::ps,_,_,_,hm,h=>by
  obtain ⟨s,Wl,tv,zD,wp,Cb,_,_,hw,mU,rq⟩:=h
  cases pm with
  | ro=>obtain ⟨Cc,_⟩:=mU;subst Cc;have hw:_=Cb:=hw;subst hw;exact wI ps hm rq
  | fix f=>obtain ⟨Cc,_⟩:=mU;subst Cc;have hw:_=Cb:=hw;subst hw;exact wI ps hm rq
  | jl m m'=>cases hm
  | lR m=>cases hm
  | tj m=>cases hm
  | pG m=>cases hm
theorem Ud (h:ek P C A σ a w F) {f:FuncId} {g:vV} (hs:Sound P f g) {ow:Bool} (zq:ow=true->(BK g.rs&&o_ g.ps)=true) {r:Nat} {p:Path} {t:Ty} {m:Md} {v1:t.den} {cs:List Value} {ad:Option (Nat×Nat)} {sd:Bool} {v:(b_ (g.ps.map (·.2))).den} {qL:List Value} {out:(b_ (g.rs.map (·.1)++lL g.ps)).den} (hF:g.F v=some out)
  (b1:At σ r p t m [] v1) (b2:place σ a w r p=some ⟨t,[],cs,ad⟩) (b3:sd=true->∃ b o,ad=some (b,o))
  (b5 : ∀ (A0:Cells) (F0 Fp:FP),(∀ b i,A b i->A0 b i)->(ow=true->∀ b i j,j < σ.n->j≠r->1<=F j b i->A0 b i)->au P w A0 t m [] v1 cs Fp ->
      (sd=true->∀ b o,ad=some (b,o)->Has w b o cs/\(∀ j,j < t.sz->w.frozen? ⟨b,o+j,none⟩=false)/\∀ b' i,d8 b o t.sz b' i+Fp b' i<=F0 b' i)->(sd=false->∀ b i,Fp b i<=F0 b i)->qd P w A0 (g.FK v) g.ps v qL F0)
  {d:Option Tmp} {K:St->Option R} (q1:(match w9 σ r p t m t.zero (λ_=>some ()) with | some _=>K ((σ.put r .dead).cq d (wF (lM g.rs out).1)) | none=>none)=some x) (Ym:yE g.ps=true->False) :
  Calls P f qL.toArray w λe w'=>∃ rv,e=.returned rv/\Nx P C K x (a.put d rv) w'/\(yE g.ps=true->Ext w w' (λ_ _=>0)):=by
 cases BT:w9 σ r p t m t.zero (λ_=>some ()) with
 | none=>grind
 | some u=>
 rw[BT] at q1;simp only at q1;obtain ⟨hr,m2,H2,v2,d9,DW,F2,s1,s2,s3,s4,s5,_⟩:=DV h BT;obtain ⟨_,e3,e4,e5⟩:=b1.inj s1;subst e3;subst e4;have e5:=fW e5;subst e5;rw[b2] at s2;simp only[aQ,Pl.mk.injEq,dN] at s2;obtain ⟨rfl,rfl⟩:=s2;obtain ⟨fp1,fp2⟩:=au.fp t s3
 obtain ⟨F0,Ie⟩:∃ F0:FP,∀ b i,F0 b i=Bd sd (lC ad t.sz b i)+lh w t m [] cs b i:=⟨λb i=>Bd sd (lC ad t.sz b i)+lh w t m [] cs b i,λ_ _=>rfl⟩
 have adI:∀ b i,F0 b i<=lC ad t.sz b i+lh w t m [] cs b i:=λb i=>by
  rw[Ie];cases sd <;> simp[Bd]
 have Yn:∀ b i,F0 b i<=F r b i:=λb i=>by grind
 have qR:∀ b i,F r b i<=bi σ.n F b i:=λb i=>dy F hr b i;have yt:∀ b i,bi σ.n F b i<=1:=λb i=>by have:=h.qe b i;omega
 have MD:∀ b i,A b i->AX A F σ.n r ow b i:=λb i h=>.inl h;have Wn:∀ b i,1<=F r b i->b < w.heap.size:=λb i hp=>h.ld b i (.inl (by grind))
 have mm:=b5 (AX A F σ.n r ow) F0 (lh w t m [] cs) MD (λzq b i j hj lU hp=>.inr ⟨zq,j,hj,lU,hp⟩)
  (au.mono MD (λ_ _ _ _ h=>h) (λ_ _ h=>h) t fp1 (λ_ _=>aI _) (λ_ _ _ _ h=>h))
  (λhP b o e=>⟨(s5 b o e).1,(s5 b o e).2,λb' i=>by rw[Ie,hP,e];exact aI _⟩) (λhP b i=>by grind)
 refine (hs w _ F0 v _ mm (λb i=>by grind) (λb i hp ha=>?_) (λb i hp=>?_) (h.Et λb i hp=>by grind) out hF).mono λe w' EB=>?_
 ·have h1:=Yn b i;have h2:=qR b i
  rcases ha with ha | ⟨_,j,hj,lU,hpj⟩
  ·exact h.qS b i (by grind) ha
  grind [v_]
 ·rcases hp with hp | hp
  ·grind
  ·exact OJ h hp
 ·obtain ⟨rv,rfl,f_,A',G,GR,GM,g1,g2,g3,g4,g5,g6,g7,g8,g9⟩:=EB;refine ⟨rv,rfl,?_⟩
  obtain ⟨x1,x2⟩:=I5 f_
  obtain ⟨xY,A2,a1,a2,a3,a4,a6⟩:∃ xY A2:Cells,(∀ b i,A b i->xY b i)/\(∀ b i,xY b i->A b i\/(w.heap.size<=b/\b < w'.heap.size/\G b i=0))/\(∀ b i,xY b i->A2 b i)/\(∀ b i,A2 b i->xY b i\/(1<=F0 b i/\G b i=0)) /\
    oM P w' A2 (lM g.rs out).1 rv GR:=by
   cases ow with
   | true=>
    have ho:=zq rfl;simp only[aD] at ho;exact ⟨A,A,λ_ _ h=>h,λ_ _ h=>.inl h,λ_ _ h=>h,λ_ _ h=>.inl h,oM.free (Ao g.rs out ho.1) g8⟩
   | false=>
    have rP:∀ b i,A' b i->G b i=0:=λb i ha=>by
     grind
    refine ⟨λb i=>A b i\/(w.heap.size<=b/\A' b i),A',λ_ _ h=>.inl h,λb i ha=>ha.imp id λ⟨h1,h2⟩=>⟨h1,g6 b i (.inr h2),rP b i h2⟩,λb i ha=>?_,λb i ha=>?_,g8⟩
    ·grind
    ·rcases g2 b i ha with (ha' | ⟨e,_⟩) | h0 | hn
     ·grind
     all_goals grind
  have Yo:=Am f_.size;have h1:=h.put hr (s:=.dead) (v:=tmp a r) (Fd:=λ_ _=>0) (X':=F r) trivial (λb k=>by omega) (λ_ _ _ _ e=>by cases e);rw[sB] at h1;have Ik:=h1.grow x1 (A1:=xY) (X1:=λb i=>if w.heap.size<=b then G b i else F r b i) a1 (λb i ha=>?_) (λb i=>?_);rotate_left
  ·grind
  ·grind
  have h3:=Ik.world x2 (λb i hp=>by
   grind)
  have h4:=h3.giveUp (A1:=A2) (X1:=GR) a3 (λb i ha=>by
   grind) (λb i=>by
   grind)
  have vT:=DZ (σ:=σ.put r .dead) (a:=a) a6;exact ⟨qC h4 q1 vT.1 (λ_ _=>aI _) vT.2,λhm=>(Ym hm).elim⟩
theorem QV (h:ek P C A σ a w F) {f:FuncId} {g:vV} (hs:Sound P f g) {ow:Bool} (zq:ow=true->(BK g.rs&&o_ g.ps)=true) {r:Nat} {p:Path} {t:Ty} {m:Md} {H:List Path} {v1:t.den} {cs:List Value} {ad:Option (Nat×Nat)} {sd:Bool} {v:(b_ (g.ps.map (·.2))).den} {qL:List Value} {out:(b_ (g.rs.map (·.1)++lL g.ps)).den} (hF:g.F v=some out)
  (b1:At σ r p t m H v1) (b2:place σ a w r p=some ⟨t,H,cs,ad⟩) (hP:sd=false)
  (b5 : ∀ (A0:Cells) (F0 Fp:FP),(∀ b i,A b i->A0 b i)->(ow=true->∀ b i j,j < σ.n->j≠r->1<=F j b i->A0 b i)->au P w A0 t m H v1 cs Fp ->
      (sd=true->∀ b o,ad=some (b,o)->Has w b o cs/\(∀ j,j < t.sz->w.frozen? ⟨b,o+j,none⟩=false)/\∀ b' i,d8 b o t.sz b' i+Fp b' i<=F0 b' i)->(sd=false->∀ b i,Fp b i<=F0 b i)->qd P w A0 (g.FK v) g.ps v qL F0)
  {d:Option Tmp} {K:St->Option R} (q1:A8 σ r p (λσ=>K (σ.cq d (wF (lM g.rs out).1)))=some x) (Ym:yE g.ps=true->False) :
  Calls P f qL.toArray w λe w'=>∃ rv,e=.returned rv/\Nx P C K x (a.put d rv) w'/\(yE g.ps=true->Ext w w' (λ_ _=>0)):=by
 have hr:r < σ.n:=uY b2;obtain ⟨A1,qA,F1,rp,Ic,F0,k1,k2,k3,k4,_,k5,k6,k7⟩:=Oq h q1 b1;rw[b2] at k5;simp only[aQ,Pl.mk.injEq,dN] at k5;obtain ⟨rfl,rfl⟩:=k5;have qR:∀ b i,F r b i<=bi σ.n F b i:=λb i=>dy F hr b i;have yt:∀ b i,bi σ.n F b i<=1:=λb i=>by have:=h.qe b i;omega
 have k3t:∀ b i,F0 b i+bi qA.n F1 b i<=1:=λb i=>by have h:=k3.qe b i;simpa using h
 have k3d:∀ b i,1<=F0 b i->¬ A1 b i:=λb i hp=>k3.qS b i (by grind);have k3b:∀ b i,1<=F0 b i\/A1 b i->b < w.heap.size:=λb i hp=>k3.ld b i (hp.imp (λhp=>by grind) id);have MD:∀ b i,A1 b i->AX A1 F σ.n r ow b i:=λb i h=>.inl h
 have mm:=b5 (AX A1 F σ.n r ow) F0 F0 (λb i h=>.inl (k2 b i h)) (λzq b i j hj lU hp=>.inr ⟨zq,j,hj,lU,hp⟩)
  (au.mono (λb i h=>.inl (k2 b i h)) (λ_ _ _ _ h=>h) (λ_ _ h=>h) t k6 (λ_ _=>aI _) (λ_ _ _ _ h=>h))
  (λe=>by grind) (λ_ b i=>aI _)
 refine (hs w _ F0 v _ mm (λb i=>by grind) (λb i hp ha=>?_) (λb i hp=>?_) (k3.Et λb i hp=>by grind) out hF).mono λe w' EB=>?_
 ·rcases ha with ha | ⟨_,j,hj,lU,hpj⟩
  all_goals grind [v_]
 ·rcases hp with hp | hp | ⟨_,j,hj,lU,hpj⟩
  ·grind
  ·grind
  ·exact h.ld b i (.inl (by grind [dy]))
 ·obtain ⟨rv,rfl,f_,A',G,GR,GM,g1,g2,g3,g4,g5,g6,g7,g8,g9⟩:=EB;refine ⟨rv,rfl,?_⟩
  obtain ⟨x1,x2⟩:=I5 f_
  obtain ⟨xY,A2,a1,a2,a3,a4,a6⟩:∃ xY A2:Cells,(∀ b i,A1 b i->xY b i)/\(∀ b i,xY b i->A1 b i\/(w.heap.size<=b/\b < w'.heap.size/\G b i=0))/\(∀ b i,xY b i->A2 b i)/\(∀ b i,A2 b i->xY b i\/(1<=F0 b i/\G b i=0)) /\
    oM P w' A2 (lM g.rs out).1 rv GR:=by
   cases ow with
   | true=>
    have ho:=zq rfl;simp only[aD] at ho;exact ⟨A1,A1,λ_ _ h=>h,λ_ _ h=>.inl h,λ_ _ h=>h,λ_ _ h=>.inl h,oM.free (Ao g.rs out ho.1) g8⟩
   | false=>
    have rP:∀ b i,A' b i->G b i=0:=λb i ha=>by
     grind
    refine ⟨λb i=>A1 b i\/(w.heap.size<=b/\A' b i),A',λ_ _ h=>.inl h,λb i ha=>ha.imp id λ⟨h1,h2⟩=>⟨h1,g6 b i (.inr h2),rP b i h2⟩,λb i ha=>?_,λb i ha=>?_,g8⟩
    ·grind
    ·rcases g2 b i ha with (ha' | ⟨e,_⟩) | h0 | hn
     all_goals grind
  have Yo:=Am f_.size;have Ik:=k3.grow x1 (A1:=xY) (X1:=λb i=>if w.heap.size<=b then G b i else F0 b i) a1 (λb i ha=>?_) (λb i=>?_);rotate_left
  ·grind
  ·grind
  have h3:=Ik.world x2 (λb i hp=>by
   grind)
  have h4:=h3.giveUp (A1:=A2) (X1:=GR) a3 (λb i ha=>by
   grind) (λb i=>by
   grind)
  have vT:=DZ (σ:=qA) (a:=a) a6;exact ⟨qC h4 k1 vT.1 (λ_ _=>aI _) vT.2,λhm=>(Ym hm).elim⟩
theorem Wo (h:ek P C A σ a w F) {f:FuncId} {g:vV} (hs:Sound P f g) {ow:Bool} (zq:ow=true->(BK g.rs&&o_ g.ps)=true) {xs:List Operand} {ex:List Slot} {Il:List Value} (bd:xs.all (d_ P)=true)
  (hex:∀ (A':Cells) (σ':St),(∀ b i,A b i->A' b i)->xI P A' σ' a w ex Il) {d:Option Tmp} {K:St->Option R} (hk:JJ g ow σ xs ex d K=some x) :
  Calls P f (xs.map a.eval++Il).toArray w λe w'=>∃ rv,e=.returned rv/\Nx P C K x (a.put d rv) w'/\(yE g.ps=true->Ext w w' (λ_ _=>0)):=by
 unfold JJ at hk;obtain ⟨A1,qA,F1,k1,k2,k3,k4⟩:=aaG g.ps xs h hk;have mF:=J_ k3 xs bd (hex A1 qA k2);obtain ⟨v,ws,q1,q2⟩:=aaI k3 g.ps mF k1;split at q1;rotate_left
 ·cases q1
 rename_i hc;simp only[aD,dK] at hc;obtain ⟨hlen,Gw⟩:=hc
 match ws,hlen with
 | [],_=>
  have q1:((g.F v).bind λout=>tm qA g.ps [] (lM g.rs out).2 λσ=>K (σ.cq d (wF (lM g.rs out).1)))=some x:=by
   grind [Yc]
  cases hF:g.F v with
  | none=>grind
  | some out=>
  rw[hF] at q1;simp only[aA] at q1;obtain ⟨n1,n2⟩:=qM (R:=R) (A0:=AX A1 F1 qA.n qA.n ow) (λb i h=>.inl h) (r0:=qA.n) (λzq b i j hj lU hp=>.inr ⟨zq,j,hj,lU,hp⟩) g.ps q2 (λr _ a8=>by omega);rw[n2] at q1;refine (hs w _ (λ_ _=>0) v _ (n1 _) (λ_ _=>aW _) (λb i hp=>by omega) (λb i hp=>?_) (k3.Et λb i hp=>by omega) out hF).mono λe w' EB=>?_
  ·rcases hp with hp | hp
   ·omega
   ·exact OJ k3 hp
  ·obtain ⟨rv,rfl,f_,A',G,GR,GM,g1,g2,g3,g4,g5,g6,g7,g8,g9⟩:=EB
   have hX:∀ b i,GR b i<=0\/(w.heap.size<=b/\b < w'.heap.size/\GR b i<=1):=λb i=>by
    grind
   refine ⟨rv,rfl,?_⟩
   cases ow with
   | true=>
    have ho:=zq rfl;simp only[aD] at ho;have Ik:=k3.grow f_ (A1:=A1) (X1:=GR) (λ_ _ h=>h) (λ_ _ h=>.inl h) hX;have vT:=DZ (σ:=qA) (a:=a) (oM.free (A':=A1) (Ao g.rs out ho.1) g8);exact ⟨qC Ik q1 vT.1 (λ_ _=>aI _) vT.2,λ_=>f_⟩
   | false=>
    have Ik:=k3.grow f_ (A1:=A') (X1:=GR) (λb i ha=>g1 b i (.inl ha)) (λb i ha=>by
     rcases g2 b i ha with (ha' | ⟨e,_⟩) | h0 | hn
     all_goals grind) hX
    have vT:=DZ (σ:=qA) (a:=a) g8;exact ⟨qC Ik q1 vT.1 (λ_ _=>aI _) vT.2,λ_=>f_⟩
 | [(r,p)],_=>
  simp only[apart,aD,dK,eF] at Gw;obtain ⟨_,vC,sd,FN,t,m,H,v1,cs,ad,b0,b1,b2,b3,b4,b5,b8,b7,b6⟩:=Uc g.ps q2 Gw
  have q3:(FN=true->g.FK v H=true)/\((g.F v).bind λout=>tm qA g.ps [(r,p)] (lM g.rs out).2 λσ=>K (σ.cq d (wF (lM g.rs out).1)))=some x:=by
   cases hv:TD g.ps with
   | false=>
    rw[hv] at q1;exact ⟨λe=>(by grind),q1⟩
   | true=>
    rw[hv] at q1;simp only[Yc] at q1;rw[b1.eq] at q1;grind
  obtain ⟨q0,q1⟩:=q3;replace b5:=λA0 F0 Fp a1 a2 a3 a4 a5=>b5 A0 F0 Fp a1 a2 a3 a4 a5 (g.FK v) q0
  cases hF:g.F v with
  | none=>grind
  | some out=>
  rw[hF] at q1;simp only[aA] at q1
  cases FN with
  | true=>
   obtain ⟨hE,hP,_⟩:=b8 rfl;subst hE;exact QV k3 hs zq hF b1 b2 (b8 rfl).2.1 b5 (((b8 rfl).2.2 qA (λσ=>K (σ.cq d (wF (lM g.rs out).1))) (lM g.rs out).2).symm.trans q1) (λhm=>wI g.ps hm q2)
  | false=>
  obtain rfl:=b0.1 rfl
  cases vC with
  | true=>exact Ud k3 hs zq hF b1 b2 b3 b5 ((b7 rfl rfl qA (λσ=>K (σ.cq d (wF (lM g.rs out).1))) (lM g.rs out).2).symm.trans q1) (λhm=>wI g.ps hm q2)
  | false=>
  obtain ⟨mo,o1,b6o,e1,e2⟩:=b6 rfl (lM g.rs out).2;rw[e1] at q1;have q1':=q1;obtain ⟨hr,m2,H2,v2,d9,DW,F2,s1,s2,s3,s4,s5,_⟩:=DV k3 q1;obtain ⟨_,e3,e4,e5⟩:=b1.inj s1;subst e3;subst e4;have e5:=fW e5;subst e5;rw[b2] at s2;simp only[aQ,Pl.mk.injEq,dN] at s2;obtain ⟨rfl,rfl⟩:=s2;obtain ⟨fp1,fp2⟩:=au.fp t s3
  obtain ⟨F0,Ie⟩:∃ F0:FP,∀ b i,F0 b i=Bd sd (lC ad t.sz b i)+lh w t m [] cs b i:=⟨λb i=>Bd sd (lC ad t.sz b i)+lh w t m [] cs b i,λ_ _=>rfl⟩
  have adI:∀ b i,F0 b i<=lC ad t.sz b i+lh w t m [] cs b i:=λb i=>by
   rw[Ie];cases sd <;> simp[Bd]
  have Yn:∀ b i,F0 b i<=F1 r b i:=λb i=>by grind
  have qR:∀ b i,F1 r b i<=bi qA.n F1 b i:=λb i=>dy F1 hr b i;have yt:∀ b i,bi qA.n F1 b i<=1:=λb i=>by have:=k3.qe b i;omega
  have MD:∀ b i,A1 b i->AX A1 F1 qA.n r ow b i:=λb i h=>.inl h
  have mm:=b5 (AX A1 F1 qA.n r ow) F0 (lh w t m [] cs) MD (λzq b i j hj lU hp=>.inr ⟨zq,j,hj,lU,hp⟩)
   (au.mono MD (λ_ _ _ _ h=>h) (λ_ _ h=>h) t fp1 (λ_ _=>aI _) (λ_ _ _ _ h=>h))
   (λhP b o e=>⟨(s5 b o e).1,(s5 b o e).2,λb' i=>by rw[Ie,hP,e];exact aI _⟩) (λhP b i=>by grind)
  refine (hs w _ F0 v _ mm (λb i=>by grind) (λb i hp ha=>?_) (λb i hp=>?_) (k3.Et λb i hp=>by grind) out hF).mono λe w' EB=>?_
  ·have h1:=Yn b i;have h2:=qR b i
   rcases ha with ha | ⟨_,j,hj,lU,hpj⟩
   ·exact k3.qS b i (by grind) ha
   grind [v_]
  ·rcases hp with hp | hp
   ·exact k3.ld b i (.inl (by grind))
   ·exact OJ k3 hp
  ·obtain ⟨rv,rfl,f_,A',G,GR,GM,g1,g2,g3,g4,g5,g6,g7,g8,g9⟩:=EB;refine ⟨rv,rfl,?_⟩
   obtain ⟨Wp,F3,t1,t2,t3,t4⟩:=e2 w' A' GM g9;obtain ⟨x1,x2⟩:=I5 f_
   obtain ⟨xY,A2,a1,a2,a3,a4,a5,a6⟩:∃ xY A2:Cells,(∀ b i,A1 b i->xY b i)/\(∀ b i,xY b i->A1 b i\/(w.heap.size<=b/\b < w'.heap.size/\G b i=0))/\(∀ b i,xY b i->A2 b i)/\(∀ b i,A2 b i->xY b i\/(1<=F0 b i/\G b i=0)) /\
     au P w' A2 t mo [] o1 Wp F3/\oM P w' A2 (lM g.rs out).1 rv GR:=by
    cases ow with
    | true=>
     have ho:=zq rfl;simp only[aD] at ho;exact ⟨A1,A1,λ_ _ h=>h,λ_ _ h=>.inl h,λ_ _ h=>h,λ_ _ h=>.inl h,au.free (b6o ho.2) (b4 ho.2).2 t1,oM.free (Ao g.rs out ho.1) g8⟩
    | false=>
     have rP:∀ b i,A' b i->G b i=0:=λb i ha=>by
      rcases bI (G b i) with h0 | h0
      ·exact h0
      grind
     refine ⟨λb i=>A1 b i\/(w.heap.size<=b/\A' b i),A',λ_ _ h=>.inl h,λb i ha=>ha.imp id λ⟨h1,h2⟩=>⟨h1,g6 b i (.inr h2),rP b i h2⟩,λb i ha=>?_,λb i ha=>?_,t1,g8⟩
     ·grind
     ·rcases g2 b i ha with (ha' | ⟨e,_⟩) | h0 | hn
      ·grind
      ·cases e
      ·grind
      grind
   have Yo:=Am f_.size;have Ik:=k3.grow x1 (A1:=xY) (X1:=λb i=>if w.heap.size<=b then G b i else 0) a1 (λb i ha=>?_) (λb i=>?_);rotate_left
   ·rcases a2 b i ha with ha | ⟨h1,h2,h3⟩
    ·exact .inl ha
    grind
   ·by_cases hb:w.heap.size<=b
    ·rw[aM hb];rcases bI (G b i) with h0 | h0
     ·left;omega
     grind
    grind
   obtain ⟨_,m4,H4,v4,ZV,ad4,F4,u1,u2,u3,u4,u5,u6⟩:=DV Ik q1';obtain ⟨_,e3,e4,e5⟩:=b1.inj u1;subst e3;subst e4;have e5:=fW e5;subst e5;have Wn:∀ b i,1<=F1 r b i->b < w.heap.size:=λb i hp=>k3.ld b i (.inl (by grind));have i7:=xj (σ':=qA) (a':=a) (w2:=World.news w w') (k3.iZ r hr) rfl rfl (λb i ha u hu=>x1.cell b i (k3.ld b i (.inr ha)) rfl u hu) (λb i hp u hu=>x1.cell b i (Wn b i hp) rfl u hu) b2;rw[i7] at u2;simp only[aQ,Pl.mk.injEq,dN] at u2;obtain ⟨rfl,rfl⟩:=u2;have oh:lh (World.news w w') t m [] cs=lh w t m [] cs:=Ub t s3 (λb i hp u hu=>x1.cell b i (Wn b i (by grind)) rfl u hu);have hfp:∀ b i,lh w t m [] cs b i<=F4 b i:=λb i=>by have:=(au.fp t u3).2 b i;rw[oh] at this;exact this
   have VX:=au.length _ t1;have hl:=au.length _ s3;have sS:sd=false->Wp=cs:=λhP=>aaJ VX (au.one _ t1) hl (au.one _ s3) (t4 hP)
   have Ka:∀ b i,1<=lC ad t.sz b i->F4 b i=0:=λb i hp=>by
    grind
   have Ue:∀ b i,b < w.heap.size->1<=G b i->1<=lC ad t.sz b i\/1<=F4 b i:=λb i hb hp=>by
    grind
   have acT:∀ b i,GR b i+F3 b i<=(if w.heap.size<=b then G b i else 0)+F4 b i:=λb i=>by
    have h7:=g7 b i;have h2:=t2 b i
    by_cases hb:w.heap.size<=b
    ·grind
    ·rw[aV hb];rcases bI (GR b i+F3 b i) with h0 | h0
     ·omega
     ·have h4:=g4 b i;rcases g3 b i Bys with h1 | h1
      ·rw[Ie] at h1
       cases hP:sd with
       | true=>
        obtain ⟨b',o',lN⟩:=b3 hP;grind [lC]
       | false=>
        grind [Bd]
      ·omega
   obtain ⟨A3,CV,Fr,n1,n2,n3,n4,n5⟩:=u6 w' A2 Wp F3 GR (x2.mono λb i hz=>by
     grind) a3 (λb i ha=>by
     rcases a4 b i ha with ha | ⟨h1,h2⟩
     ·exact .inl ha
     ·refine .inr ⟨?_,by grind⟩;have hb:b < w.heap.size:=Wn b i (by grind);rw[aV Bys];rw[Ie] at h1
      cases hP:sd with
      | true=>
       obtain ⟨b',o',lN⟩:=b3 hP;grind [lC]
      | false=>
       grind [Bd]) acT (λb o e=>by
     cases hP:sd with
     | true=>grind
     | false=>
      rw[sS hP];intro j u hu;have hj:=(aP.1 hu).1;have h9:lC ad t.sz b (o+j)=1:=by grind [lC,d8]
      have h8:=Ka b (o+j) Bys;refine x2.cell b (o+j) ?_ ?_ u ((u5 b o e).1 j u hu)
      ·rw[Yo];exact cO (Wn b (o+j) (by grind)) f_.size
      ·rw[Ie,hP];have:=hfp b (o+j)
       simp only[Bd,bQ];omega) (λe=>by
     cases hP:sd with
     | true=>obtain ⟨b',o',lN⟩:=b3 hP;rw[e] at lN;cases lN
     | false=>exact sS hP) a5
   have vT:=DZ (σ:=CV) (a:=a) (oM.mono n2 a6)
   cases hP:sd with
   | true=>
    subst hP;exact ⟨qC n3 n1 vT.1 (λ_ _=>aI _) vT.2,λhm=>(wI g.ps hm q2).elim⟩
   | false=>
    subst hP;have hc:=sS rfl;subst hc
    have h5:=n5 (vw (ej p+1)) (we _ (k3.mD r)) (Eu _ (k3.mD r)) rfl (λp' snap hb bd hlen=>by
     have:=Gk (ej p+1) (k3.mD r) hb bd
     exact ⟨1,False,by omega,λ_=>.inl Bys,λ_=>by omega,Wm ad a5⟩)
    have aac:=DZ (σ:={ CV with vr:=(qA.nq r (vw (ej p+1))).vr,ay:=qA.ay }) (a:=a) (oM.mono n2 a6);exact ⟨qC h5 n1 aac.1 (λ_ _=>aI _) aac.2,λhm=>(wI g.ps hm q2).elim⟩
 | _::_::_,hl=>simp at hl
theorem OK (h:ek P C A σ a w F) {f:FuncId} {g:vV} (hs:Sound P f g) {xs:List Operand} {ex:List Slot} {Il:List Value} (bd:xs.all (d_ P)=true)
  (hex:∀ (A':Cells) (σ':St),(∀ b i,A b i->A' b i)->xI P A' σ' a w ex Il) {d:Option Tmp} {K:St->Option R} (hk:En g σ xs ex d K=some x) :
  Calls P f (xs.map a.eval++Il).toArray w λe w'=>∃ rv,e=.returned rv/\Nx P C K x (a.put d rv) w'/\(yE g.ps=true->Ext w w' (λ_ _=>0)):=by
 unfold En at hk;split at hk
 all_goals grind [Wo,abW]
theorem Gx {f:FuncId} {cap:Bool} (he:wH P f cap) (args:Array Value):(callFunc f args).run P w=.ok (.enter f args) w:=by
 obtain ⟨fn,h1,h2,h3,_⟩:=he
 have h2':fn.name ≠ "runtime.NumGoroutine" := by simpa using h2
 have Sy:fn.body≠none:=by grind
 simp_all [callFunc]
theorem QW (h:ek P C A σ a w F) {f:FuncId} {args:Array Operand} {ts:Array TypeId} (ho:o.op=.call { callee:=.value (.func f),args:=args,argTypes:=ts }) (bd:args.toList.all (d_ P)=true) {g:vV} (hs:Sound P f g) (he:wH P f false)
  {K:St->Option R} (hk:En g σ args.toList [] o.dst K=some x):o.wp P a w (λa' w'=>Nx P C K x a' w'/\(yE g.ps=true->Ext w w' (λ_ _=>0))) Q:=by
 have lg:(execOp a.eval o).run P w=.ok (.enter f (args.map a.eval)) w:=by
  have e:a.eval (.func f)=.func (.func f) #[] #[]:=rfl;grind [execOp,resolve,Deferred.ofValue,invoke,Gx]
 unfold Oper.wp;rw[lg,Oper.upon_enter];have hc:=OK h hs (ex:=[]) (Il:=[]) bd (λ_ _ _=>trivial) hk;have:(args.toList.map a.eval++[]).toArray=args.map a.eval:=by grind
 rw[this] at hc;exact hc.mono λe w' ⟨rv,he,hn⟩=>by grind
theorem QX (h:ek P C A σ a w F) {i:Tmp} {args:Array Operand} {ts:Array TypeId} (ho:o.op=.call { callee:=.value (.tmp i),args:=args,argTypes:=ts }) (bd:args.toList.all (d_ P)=true) {f:FuncId} {n:Int} (mF:N_ (σ.get i)=some (f,n)) {g:vV} (hs:Sound P f g) (he:wH P f g.cap)
  {K:St->Option R} (hk:En g σ args.toList (match g.cap with | true=>[.cp (.int .i64) n] | false=>[]) o.dst K=some x):o.wp P a w (λa' w'=>Nx P C K x a' w'/\(yE g.ps=true->Ext w w' (λ_ _=>0))) Q:=by
 have hi:i < σ.n:=by
  rcases cK i σ.n with hi | hi
  ·exact hi
  ·rw[mN (fK.2 hi)] at mF;cases mF
 have hsi:=h.iZ i hi;unfold N_ at mF;split at mF;rotate_left
 ·cases mF
 rename_i v hg;injection mF with hv;subst hv;rw[hg] at hsi;obtain ⟨cs,h1,AJ,rfl,fn,h3,h4⟩:=hsi;have e:a.eval (.tmp i)=.func (.func f) #[] AJ:=h1
 have lg:(execOp a.eval o).run P w=.ok (.enter f (args.map a.eval++AJ)) w:=by
  grind [execOp,resolve,Deferred.ofValue,invoke,Gx]
 unfold Oper.wp;rw[lg,Oper.upon_enter];obtain ⟨fn',f1,f2,f3,f4⟩:=he;rw[h3] at f1;injection f1 with f1;subst f1
 have hex:∃ Il:List Value,(args.toList.map a.eval++Il).toArray=args.map a.eval++AJ/\∀ (A':Cells) (σ':St),(∀ b i,A b i->A' b i)->xI P A' σ' a w (match g.cap with | true=>[.cp (.int .i64) n] | false=>[]) Il:=by
  rcases h4 with ⟨h4,rfl⟩ | ⟨h4,ad,rfl,h5,h6,h7⟩
  ·have:g.cap=false:=by grind
   rw[this];exact ⟨[],by grind,λ_ _ _=>trivial⟩
  ·have:g.cap=true:=by grind
   rw[this];refine ⟨[.pointer (some ad)],by grind,λA' σ' hA=>⟨.inl ⟨ad,rfl,h5,[.int .i64 n],rfl,(λj u hu=>?_),rfl⟩,trivial⟩⟩
   grind
 obtain ⟨Il,adJ,hex⟩:=hex;have hc:=OK h hs bd hex hk;rw[adJ] at hc;exact hc.mono λe w' ⟨rv,he,hn⟩=>by grind
end
end OT
