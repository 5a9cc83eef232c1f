/- The proof's parts, merged: Operations, first part.. No conditions but those that each states. -/
import Derived.Test.YtghckfpmmofmnaaGreatUa
import Derived.Laws.Slices
import Derived.Laws.Concat
import Derived.Laws.StructEq
import Derived.Laws.Cover3
import Derived.ChangeKeysEq
import Derived.Laws.MakeOwn
import Derived.Laws.IdiomStrings
import Derived.Laws.BytesArg
import Derived.Laws.Tables
import Derived.Great.BuildSlice
import Derived.Deep.AppendSrc
set_option linter.unusedVariables false
set_option linter.unusedSimpArgs false
namespace OT
open Go
section
variable {P:Program} {C:Ctx} {A:Cells} {X:FP} {σ:St} {a:Act} {w:World} {F:Nat->FP} {R:Type} {x:R} {Q:Exit->Act->World->Prop} {o:Oper} {E:Env}
def Nx (P:Program) (C:Ctx) {R:Type} (K:St->Option R) (x:R) (a:Act) (w:World):Prop:=∃ σ',K σ'=some x/\GK P C σ' a w
abbrev ee (P:Program) (C:Ctx) (A:Cells) (σ:St) (a:Act) (w:World) (F:Nat->FP):Prop:=Rel P C A (λ_ _=>0) σ a w F
theorem pg {v:Value} {w':World} {next:Act->World->Prop} (lm:(execOp a.eval o).run P w=.ok (.value v) w') (hn:next (a.put o.dst v) w'):o.wp P a w next Q:=by
 unfold Oper.wp;rw[lm];exact hn
theorem Pm {w':World} {next:Act->World->Prop} (lm:(execOp a.eval o).run P w=.ok .skip w') (hd:o.dst=none) (hn:next a w'):o.wp P a w next Q:=by
 unfold Oper.wp;rw[lm,Oper.upon,hd];exact hn
def reads:Op->Bool
 | .load .. | .convert ..=>true
 | _=>false
def uQ (o:Oper) (w w':World):Prop:=reads o.op=true->Ext w w' (λ_ _=>0)
theorem uQ.ext {o:Oper} {w w':World} (h:uQ o w w') (hr:reads o.op=true):Ext w w' (λ_ _=>0):=h hr
def Tk (P:Program) (o:Oper) (a:Act) (w:World) (next:Act->World->Prop):Prop:=
 ∃ v,(∀ w',uQ o w w'->(execOp a.eval o).run P w'=.ok (.value v) w')/\next (a.put o.dst v) w
theorem ik {v:Value} {next:Act->World->Prop} (lm:∀ w',uQ o w w'->(execOp a.eval o).run P w'=.ok (.value v) w') (hn:next (a.put o.dst v) w):Tk P o a w next:=⟨v,lm,hn⟩
theorem Tk.wp {next:Act->World->Prop} (h:Tk P o a w next):o.wp P a w next Q:=by
 obtain ⟨v,h1,h2⟩:=h;exact pg (h1 w λ_=>Ext.refl _ _) h2
theorem yH {b i:Nat} {u:Value} (h:ce w b i=some u):b < w.heap.size:=by
 grind [ce,World.cell?]
theorem Has.ext {b o:Nat} {L:List Value} {w':World} (h:Has w b o L) (hw:Ext w w' (λ_ _=>0)):Has w' b o L:=λj u hu=>hw.cell b (o+j) (yH (h j u hu)) rfl u (h j u hu)
theorem qE (h:Rel P C A X σ a w F) {K:St->Option R} {d:Option Tmp} {s:Slot} {v:Value} {Fd:FP} (hk:K (σ.cb d s)=some x) (hs:db P A σ a w v s Fd) (ht:∀ b i,Fd b i<=X b i)
  (hwh:∀ t m H v',s=.box t m H v'->∃ b,v=.pointer (some ⟨b,0,none⟩)/\jj w b (t.sz,false)):Nx P C K x (a.put d v) w:=by
 obtain ⟨F',hF⟩:=h.cb d (X':=λ_ _=>0) hs (λb i=>by grind) hwh;exact ⟨_,hk,A,F',hF⟩
theorem cm (h:Rel P C A X σ a w F) {K:St->Option R} {d:Option Tmp} {s:Slot} {v:Value} (hk:K (σ.cb d s)=some x) (hs:db P A σ a w v s (λ_ _=>0))
  (hb:∀ t m H v',s≠.box t m H v'):Nx P C K x (a.put d v) w:=
 qE h hk hs (λ_ _=>aW _) (λt m H v' e=>absurd e (hb t m H v'))
theorem B8 (h:Rel P C A X σ a w F) {K:St->Option R} {d:Option Tmp} {t:Ty} {m:Md} {v:t.den} {cs:List Value} {Fd:FP} (hk:K (σ.cb d (laid t m v))=some x) (hr:an P w A t m [] v cs Fd) (ht:∀ b i,Fd b i<=X b i) :
  Nx P C K x (a.put d (c_ t cs)) w:=
 qE h hk (Ik (σ:=σ) (a:=a) hr).1 ht (Ik (σ:=σ) (a:=a) hr).2
theorem gr {t:Nat} {K:Ty->Option R} (h:q9 E t K=some x):∃ T,E.TI t=some T/\K T=some x:=by
 grind [q9]
theorem KE {s:Slot} {K:Bool->Option R} {tv:Value} {G:FP} (hs:db P A σ a w tv s G) (h:Kp s K=some x):∃ b,tv=.bool b/\K b=some x:=by
 unfold Kp at h;split at h
 ·rename_i b;obtain ⟨cs,h1,h2⟩:=hs;simp only[Ro] at h2;subst h2;exact ⟨b,by rw[h1];rfl,h⟩
 ·cases h
theorem ye {s:Slot} {K:Int->Option R} {tv:Value} {G:FP} (hs:db P A σ a w tv s G) (h:xN s K=some x):∃ k n,tv=.int k n/\K n=some x:=by
 unfold xN at h;split at h
 ·rename_i k n;obtain ⟨cs,h1,h2⟩:=hs;simp only[Ro] at h2;subst h2;exact ⟨k,_,by rw[h1];rfl,h⟩
 ·cases h
theorem EN (h:Rel P C A X σ a w F) {r:Nat} {p:Path} {pl:Pl} (hp:place σ a w r p=some pl):sw σ a w (c_ pl.t pl.cs) r p (wQ σ r p pl.t):=by
 have h5:=h.mH r;refine ⟨?_,λ_=>⟨_,hp,rfl,?_⟩⟩
 ·unfold wQ;split
  ·intro j y hj;grind
  ·intro j y hj;grind
  ·exact Below.refl _
 ·unfold wQ;split
  ·rename_i e he;left;exact ⟨by rw[he];rfl,by grind⟩
  ·rename_i k v he;left;exact ⟨by rw[he];rfl,by grind⟩
  grind
theorem Na (σ:St) (y:Operand) (t:Ty) (m:Md) (H:List Path) (v:t.den):d7 σ y≠.box t m H v:=by
 intro e
 cases y with
 | tmp i=>grind [d7]
 | const v=>simp only[d7] at e;unfold Al at e;grind
 | func f=>cases e
 | global g=>cases e
theorem WY (h:ee P C A σ a w F) {y:Operand} (ho:o.op=.move y) (bd:dy P y=true) {K:St->Option R} (hk:Uv σ y o.dst K=some x):Tk P o a w (Nx P C K x):=by
 refine ik (v:=a.eval y) (by simp[execOp,ho]) ?_;unfold Uv at hk;have hs:=f5 h bd;split at hk
 ·rename_i xs i hx
  have hi:i < σ.n:=by
   grind [d7,mQ]
  have hg:σ.get i=.sR xs:=by
   grind [d7]
  have nx:=h.i9 i hi;rw[hg] at nx;have h2:=h.put hi (s:=.dead) (v:=tmp a i) (Fd:=λ_ _=>0) (X':=λb k=>F i b k) trivial (λb k=>by omega) (λt m H v e=>by cases e);rw[sx] at h2;refine qE h2 hk (Fd:=F i) ?_ (λb i=>aH _) (λt m H v e=>by cases e);obtain ⟨vs,Fi,h3,h4,h5⟩:=nx;exact ⟨vs,Fi,h3,h4,h5⟩
 all_goals grind [cm,Na]
theorem WZ (h:ee P C A σ a w F) {c y z:Operand} (ho:o.op=.pick c y z) (bd:dy P c=true/\dy P y=true/\dy P z=true) {K:St->Option R}
  (hk:(Kp (d7 σ c) λc=>match d7 σ (bif c then y else z) with
   | .val .bool b=>K (σ.cb o.dst (.val .bool b))
   | _=>none)=some x):Tk P o a w (Nx P C K x):=by
 have hc:=f5 h bd.1
 rcases hc with hc | ⟨xs,e⟩
 ·obtain ⟨b,hb,hk⟩:=KE hc hk
  have ae3:∀ y':Operand,dy P y'=true->(match d7 σ y' with
   | .val .bool b=>K (σ.cb o.dst (.val .bool b))
   | _=>none)=some x->Nx P C K x (a.put o.dst (a.eval y')) w:=λy' hy hk=>by
   grind [f5,cm]
  cases b <;> simp_all [ik,execOp,asBool]
 ·rw[e] at hk;cases hk
theorem W0 (h:ee P C A σ a w F) (lY:∀ i T,E.TI i=some T->bj P T (.inl i)=true) {t:Nat} {y:Operand} (ho:o.op=.load t y) (bd:dy P y=true) {K:St->Option R}
  {mv:Bool} (hk:Ey E σ t (d7 σ y) mv o.dst K=some x):Tk P o a w (Nx P C K x):=by
 unfold Ey at hk;obtain ⟨T,hT,hk⟩:=gr hk;have jx:=lY _ _ hT
 have run:∀ b off L,a.eval y=.pointer (some ⟨b,off,none⟩)->Has w b off L->L.length=T.sz->(∀ u ∈ L,u.oneCell'=true)->∀ w',uQ o w w'->(execOp a.eval o).run P w'=.ok (.value (c_ T L)) w':=λb off L hy hL hl pH w' t6=>by
  have t6:=t6 (by rw[ho];rfl);simp[execOp,ho,hy,Instr.loadAt,Instr.sureAddr,zW jx (hL.ext t6) hl pH]
 rcases f5 h bd with hs | ⟨xs,e⟩
 rotate_left
 ·grind
 split at hk
 ·rename_i t' v hv;rw[hv] at hs;split at hk
  ·rename_i e;subst e;obtain ⟨⟨b,off,sp⟩,h1,h2,L,h3,h4,h5⟩:=hs;simp only[dN,eP] at h1;simp only at h2;subst h2;exact ik (run b off L h1 (λj u hu=>(h4 j u hu).1) h3 (Ro.one _ h5)) (cm h hk ⟨L,rfl,h5⟩ (λ_ _ _ _ e=>by cases e))
  ·cases hk
 ·rename_i r p snap hv;rw[hv] at hs;split at hk
  ·rename_i pJ;obtain ⟨hr,t',m',H',v',ca,de,F',h1,h2,h3,h4,h5,h6⟩:=l6 h hk;obtain ⟨pl,b,off,g1,g2,g3,g4⟩:=hs.2 pJ;rw[h3] at g1;injection g1 with g1;subst g1;simp only at g2;subst g2;split at h1
   ·rename_i e;subst e;refine ik (run b off ca g3 (h6 b off rfl) (an.length _ h4) (an.one _ h4)) ?_;split at h1
    ·rename_i hf;split at h1
     ·exact cm h h1 ⟨ca,rfl,an.flat _ hf h4⟩ (λ_ _ _ _ e=>by cases e)
     ·cases h1
    ·split at h1
     ·rename_i hm;split at h1
      ·rename_i hH;have hH:=bH.1 hH;subst hH;subst hm
       cases mv with
       | false=>exact cm h h1 ⟨ca,rfl,an.ro _ (it _) h4⟩ (λ_ _ _ _ e=>by cases e)
       | true=>exact cm h h1 (EN h h3) (λ_ _ _ _ e=>by cases e)
      ·cases h1
     ·cases mv with
      | false=>exact cm h h1 (EN h h3) (λ_ _ _ _ e=>by cases e)
      | true=>
       simp only at h1;split at h1
       ·rename_i hH;have hH:=bH.1 hH;subst hH;obtain ⟨A2,mX,F2,du,Ea,Fv,k1,k2,k3,k4,k5,k6,k7⟩:=Mj h h1 ⟨h2⟩;rw[h3] at k6;simp only[aP,Pl.mk.injEq,eL] at k6;obtain ⟨rfl,rfl⟩:=k6;have hl:=Ik (σ:=mX) (a:=a) (an.mono k2 (λ_ _ _ _ h=>h) (λ_ _ h=>h) _ k7 (λ_ _=>aH _) (λ_ _ _ _ h=>h));exact qE k3 k1 hl.1 (λb i=>by omega) hl.2
       ·cases h1
   ·cases h1
  ·cases hk
 ·cases hk
theorem UJ (h:ee P C A σ a w F) (lY:∀ i T,E.TI i=some T->bj P T (.inl i)=true) {t:Nat} {y:Operand} (ho:o.op=.load t y) (bd:dy P y=true) {K:St->Option R}
  {mv fr:Bool} (hk:Kq E σ t y mv fr o.dst K=some x):Tk P o a w (Nx P C K x):=by
 unfold Kq at hk;grind [W0,Ao]
theorem UK {b o b' i:Nat} {v u:Value} (je:¬ (b=b'/\o=i)) (h:ce w b' i=some u):ce (w.setCell ⟨b,o,none⟩ v) b' i=some u:=by
 by_cases hb:b=b'
 ·subst hb
  cases hh:w.heap[b]? with
  | none=>grind [ce,World.cell?]
  | some ob=>
   cases ob <;> simp_all [World.setCell,gF,ce,World.cell?]
 grind [World.setCell,BQ]
theorem pK {b o:Nat}:∀ (L:List Value) (w:World) (o:Nat),Ext w (w.setCells b o L) (dt b o L.length)
 | [],w,o=>Ext.refl _ _
 | v::L,w,o=>by
  have ih:=pK (b:=b) (o:=o+1) L (w.setCell ⟨b,o,none⟩ v) (o+1)
  have h1:Ext w (w.setCell ⟨b,o,none⟩ v) (dt b o (L.length+1)):=by
   refine ⟨by simp,λb' i hb hz u hu=>?_,λb' n hn=>?_,λb' i hb=>by simp,rfl,rfl,rfl,λb' hb hz=>?_,aH _⟩
   ·grind [UK,dt]
   ·obtain ⟨c,e,fr,h1,h2,h3⟩:=hn;by_cases Nb:b=b'
    ·subst Nb;exact ⟨c.setIfInBounds o v,e,fr,by grind [World.setCell],by simp[h2],h3⟩
    ·exact ⟨c,e,fr,by grind [World.setCell],h2,h3⟩
   ·have je:b≠b':=λe=>by
     subst e;have:=hz o;grind [dt]
    grind [World.setCell]
  exact h1.trans ih λb' i hb hz=>by
   grind [dt]
theorem yI {w:World} {b o:Nat} {L:List Value} (h:∀ j,j < L.length->(w.cell? ⟨b,o+j,none⟩).isSome=true) (pH:∀ u ∈ L,u.oneCell'=true):Has (w.setCells b o L) b o L:=by
 intro j u hu;grind [Ig,World.cell?_setCells_in]
theorem UL (h:ee P C A σ a w F) (lY:∀ i T,E.TI i=some T->bj P T (.inl i)=true) {t:Nat} {y z:Operand} (ho:o.op=.store t y z) (hd:o.dst=none) (bd:dy P y=true/\dy P z=true) {mv:Bool} {K:St->Option R}
  (hk:OX E σ t (d7 σ y) (d7 σ z) mv K=some x):o.wp P a w (Nx P C K x) Q:=by
 unfold OX at hk;obtain ⟨T,hT,hk⟩:=gr hk;have jx:=lY _ _ hT
 rcases f5 h bd.1 with hs | ⟨xs,e⟩
 rotate_left
 ·grind
 split at hk
 ·rename_i r p snap hv;rw[hv] at hs;split at hk
  ·rename_i pJ;split at hk
   ·obtain ⟨pl,b,off,g1,g2,g3,g4⟩:=hs.2 pJ
    rcases f5 h bd.2 with hz | ⟨xs,e⟩
    rotate_left
    ·grind [nJ]
    obtain ⟨A',σ',F',m,v,cs,Fv,k1,k2,k3,k4,kr,k5,k6⟩:=vD h hz hk;obtain ⟨hr,m2,H2,v2,du,Ea,F2,q1,q2,q3,q4,q5,q6⟩:=D_ k3 k1
    have gy:Ea=some (b,off):=by
     unfold place at g1 q2
     cases hR:d8 w (tmp a r) (σ'.get r) with
     | none=>grind
     | some R1=>
      rw[hR] at q2;obtain ⟨H0,Bb⟩:=kr w (tmp a r) r R1 hR;rw[Bb] at g1;have:=(adh p R1.t g1 q2).2.2;grind
    subst gy;obtain ⟨xn,oq⟩:=q5 b off rfl;have hl:=an.length _ k6;have An:=an.length _ q3;have pH:=an.one _ k6;have ado:=an.one _ q3
    have Pn:∀ j,j < cs.length->(w.cell? ⟨b,off+j,none⟩).isSome=true:=λj hj=>by
     rw[vN (xn j _ (aB Bys)) (ado _ (aJ _))];rfl
    have da:=run_storeCells_cells (P:=P) b off cs 0 w (by simpa using Pn) (λj hj=>by grind) pH;have hcv:(c_ T cs).cells.toList=cs:=lX hl pH;have ot:(c_ T cs).cells.size=T.sz:=by grind
    have lm:(execOp a.eval o).run P w=.ok .skip (w.setCells b off cs):=by
     simp[execOp,ho,g3,k5,Instr.storeAt,Instr.sureAddr,storeVar,run_sizeOf jx,ot,hcv,da]
    refine Pm lm hd ?_
    have jb:an P (w.setCells b off cs) A' T m [] v cs Fv:=by
     refine an.mono (λ_ _ h=>h) (λb' i ha u hu=>?_) (pK (b:=b) (o:=off) cs w off).x_ _ k6 (λ_ _=>aH _) (λb' i hp u hu=>?_)
     ·refine (pK (b:=b) (o:=off) cs w off).cell b' i (k3.ll b' i (.inr ha)) ?_ u hu;have h1:=q4 b' i;have h2:=dj F' hr b' i
      rcases bM (lF (some (b,off)) T.sz b' i) with h0 | h0
      ·rw[hl];exact h0
      ·exact absurd ha (k3.rf b' i Bys)
     ·have h1:=q4 b' i;have h2:=dj F' hr b' i;have h3:=k3.qg b' i
      refine (pK (b:=b) (o:=off) cs w off).cell b' i (k3.ll b' i (.inl Bys)) ?_ u hu;grind [lF]
    have fh:Ext w (w.setCells b off cs) (λb' i=>(0+Fv b' i)+(F2 b' i+lF (some (b,off)) T.sz b' i)):=(pK (b:=b) (o:=off) cs w off).mono λb' i hz=>by
     grind [lF]
    obtain ⟨A3,C8,Fr,n1,n2,n3,_⟩:=q6 (w.setCells b off cs) A' cs Fv (λ_ _=>0) fh (λ_ _ h=>h) (λ_ _ h=>.inl h) (λb i=>by omega) (λb' o' e=>by
      grind [yI]) (λe=>by cases e) jb
    exact ⟨C8,n1,A3,_,n3⟩
   ·cases hk
  ·cases hk
 ·cases hk
end
end OT
namespace OT
open Go
section
variable {P:Program} {w:World} {A:Cells}
theorem UM:∀ (p q:Path) (t:Ty) {H:List Path} {cs:List Value} {ad:Option (Nat×Nat)},bv w (p++q) t H cs ad=(bv w p t H cs ad).bind λpl=>bv w q pl.t pl.H pl.cs pl.ad:=by
 intro p
 induction p with
 | nil=>intro q t H cs ad;rfl
 | cons s p ih=>
  intro q t H cs ad
  cases t with
  | pair a b=>
   cases s <;> grind [bv]
  | aa e=>
   cases s with
   | idx i=>
    simp only[dA,bv];split
    ·rfl
    ·split
     all_goals grind
   | _=>simp[bv]
  | arr n e=>
   cases s <;> grind [bv]
  | _=>grind [bv]
theorem Jw:∀ (p:Path) (t:Ty) {H:List Path} {cs:List Value} {ad:Option (Nat×Nat)} {pl:Pl},bv w p t H cs ad=some pl->DF p t=some pl.t:=by
 intro p
 induction p with
 | nil=>intro t H cs ad pl h;simp only[bv,aP] at h;subst h;rfl
 | cons s p ih=>
  intro t H cs ad pl h
  cases t with
  | pair a b=>
   cases s with
   | fst=>simp only[bv] at h;split at h;cases h;exact ih a h
   | snd=>simp only[bv] at h;split at h;cases h;exact ih b h
   | _=>simp[bv] at h
  | aa e=>
   cases s with
   | idx i=>
    simp only[bv] at h;split at h
    ·cases h
    ·split at h
     ·split at h
      ·exact ih e h
      ·cases h
     ·cases h
   | _=>simp[bv] at h
  | arr n e=>
   cases s with
   | rP i=>
    simp only[bv] at h;split at h
    ·split at h
     ·exact ih e h
     ·cases h
    ·cases h
   | _=>simp[bv] at h
  | _=>grind [bv]
theorem abd:∀ (q:Path) (t:Ty) {m:Md} {H:List Path} {v:t.den} {cs:List Value} {F:FP} {ad:Option (Nat×Nat)} {pl:Pl},an P w A t m H v cs F->bv w q t H cs ad=some pl ->
  ∃ (m':Md) (v':pl.t.den) (F':FP),an P w A pl.t m' pl.H v' pl.cs F':=by
 intro q
 induction q with
 | nil=>grind [bv]
 | cons s q ih=>
  intro t m H v cs F ad pl hr h
  cases t with
  | pair a b=>
   obtain ⟨h0,F1,F2,hs,h1,h2⟩:=hr;cases s <;> grind [bv]
  | aa e=>
   cases s with
   | idx i=>
    simp only[an] at hr;simp only[bv] at h;split at h
    ·cases h
    ·rename_i hh;rw[aL hh] at hr;split at hr
     ·obtain ⟨a,cap,rfl,h2,h3,h4,h5⟩:=hr
      cases a with
      | none=>cases h
      | some ig=>
       obtain ⟨g1,g2,g3,Fi,g4,g5⟩:=h5 ig rfl;simp only at h;split at h
       ·rename_i hi;obtain ⟨L,hl,hL,jb⟩:=g5 i _ (aB hi);rw[g1,bZ,fe hL hl] at h;grind
       ·cases h
     ·obtain ⟨rfl,rQ,a,cap,rfl,h2,h3,h4⟩:=hr
      cases a with
      | none=>cases h
      | some ig=>
       simp only at h;split at h
       ·rename_i hi;obtain ⟨L,hl,hL,jb⟩:=(h4 ig rfl).2 i _ (aB hi);rw[fe (λj u hu=>(hL j u hu).1) hl] at h;exact ih e (Ro.rep e (λ_ _=>0) rQ jb) h
       ·cases h
   | _=>simp[bv] at h
  | arr n e=>
   cases s with
   | rP i=>
    obtain ⟨rfl,hf,hl,hlen,hr⟩:=hr;simp only[bv,cQ,aK] at h;split at h
    ·rename_i hi;exact ih e (Ro.flat e (m:=.leaf) (λ_ _=>0) hf (hr i _ (aB (by grind)))) h
    ·cases h
   | _=>simp[bv] at h
  | _=>grind [bv]
def kR:Nat->Ty->Nat
 | j+1,.pair a b=>a.sz+kR j b
 | _,_=>0
theorem RR (ad:Option (Nat×Nat)):iu ad 0=ad:=by simp_all [iu]
theorem UN (ad:Option (Nat×Nat)) (j k:Nat):iu (iu ad j) k=iu ad (j+k):=by cases ad <;> simp[iu,cU]
theorem Tf:∀ (j:Nat) (S:Ty) {t':Ty} {m:Md} {H:List Path} {v:S.den} {cs:List Value} {F:FP} {ad:Option (Nat×Nat)},an P w A S m H v cs F->v7 j S=some t' ->
  ∃ H',bv w (o4 j) S H cs ad=some ⟨t',H',(cs.drop (kR j S)).take t'.sz,iu ad (kR j S)⟩:=by
 intro j
 induction j with
 | zero=>
  intro S t' m H v cs F ad hr h
  cases S with
  | pair a b=>
   injection h with h;subst h;obtain ⟨h0,F1,F2,hs,h1,h2⟩:=hr;simp_all [o4,bv,kR,RR]
  | _=>cases h
 | succ j ih=>
  intro S t' m H v cs F ad hr h
  cases S with
  | pair a b=>
   obtain ⟨h0,F1,F2,hs,h1,h2⟩:=hr;obtain ⟨H',e⟩:=ih b (ad:=iu ad a.sz) h2 h;grind [o4,bv,kR,List.drop_drop,UN]
  | _=>cases h
theorem Zb:∀ (j:Nat) (T:Ty) {t:Ty},DF (o4 j) T=some t->∃ t2,v7 j T=some t2:=by
 intro j
 induction j with
 | zero=>intro T t h;cases T <;> first | exact ⟨_,rfl⟩ | grind [o4,DF]
 | succ j ih=>intro T t h;cases T <;> first | (simp[o4,DF] at h;done) | exact ih _ (by simpa [o4,DF] using h)
theorem Tg:∀ (j:Nat) (S:Ty) {t':Ty} {fs:List Field} {off:Nat},bj P S (.inr (fs,off))=true->v7 j S=some t' ->
  ∃ f,fs[j]?=some f/\f.offset=off+kR j S/\bj P t' (.inl f.type)=true/\1<=t'.sz:=by
 intro j
 induction j with
 | zero=>
  intro S t' fs off hl h
  cases S with
  | pair a b=>
   injection h with h;subst h;cases fs <;> simp_all [bj,kR]
  | _=>cases h
 | succ j ih=>
  intro S t' fs off hl h
  cases S with
  | pair a b=>
   cases fs with
   | nil=>simp[bj] at hl
   | cons f r=>
    simp only[bj,aD,eU,dR] at hl;obtain ⟨f',h1,h2,h3⟩:=ih b hl.2 h;grind [kR]
  | _=>cases h
theorem KF {j:Nat} {S t':Ty} {i:TypeId} (hl:bj P S (.inl i)=true) (h:v7 j S=some t') :
  ∃ fs f,P.underlying i=some (.struct fs)/\fs[j]?=some f/\f.offset=kR j S/\bj P t' (.inl f.type)=true/\1<=t'.sz:=by
 cases S with
 | pair a b=>
  simp only[bj,aD] at hl;have h2:=hl.2;split at h2
  ·rename_i fs hu;split at h2
   ·rename_i f r KG
    have h3:bj P (.pair a b) (.inr (f::r,0))=true:=by
     grind [bj]
    grind [Tg]
   ·cases h2
  ·cases h2
 | _=>cases j <;> cases h
theorem wt {t:Ty} {i:TypeId} (h:bj P t (.inl i)=true) {cs:Array Value} {off:Nat} (hl:((cs.toList.drop off).take t.sz).length=t.sz):(part i cs off).run P w=.ok (c_ t ((cs.toList.drop off).take t.sz)) w:=by
 unfold part;simp only[Sem.run_bind,GN h,Result.andThen_ok]
 cases ht:isAgg t with
 | true=>
  simp only[aK,Sem.run_bind,run_sizeOf h,Result.andThen_ok,Sem.run_pure,c_,ht];congr 2;grind
 | false=>
  simp_all [Pk,List.take_one,c_]
end
section
variable {P:Program} {C:Ctx} {A:Cells} {X:FP} {σ:St} {a:Act} {w:World} {F:Nat->FP} {R:Type} {x:R} {Q:Exit->Act->World->Prop} {o:Oper} {E:Env}
theorem Nc (h:Rel P C A X σ a w F) {r:Nat} {p:Path} {pl:Pl} (hp:place σ a w r p=some pl):∃ (m':Md) (v':pl.t.den) (F':FP),an P w A pl.t m' pl.H v' pl.cs F':=by
 have a7:=uP hp;unfold place at hp
 cases hR:d8 w (tmp a r) (σ.get r) with
 | none=>grind
 | some R0=>
  rw[hR] at hp;obtain ⟨m0,v0,F1,q1,q2,q3,_⟩:=yA (h.i9 r a7) hR;grind [abd]
theorem uq (r:Nat) (p q:Path):place σ a w r (p++q)=(place σ a w r p).bind λpl=>bv w q pl.t pl.H pl.cs pl.ad:=by
 unfold place;cases d8 w (tmp a r) (σ.get r) <;> grind [UM]
theorem KH {r:Nat} {p:Path} {pl:Pl} (hp:place σ a w r p=some pl):Jp σ r p=some pl.t:=by
 unfold place at hp;unfold Jp OW
 cases hg:σ.get r with
 | own t m H v=>grind [d8,Jw]
 | box t m H v=>
  rw[hg] at hp;simp only[d8] at hp;grind [Jw]
 | _=>grind [d8]
theorem Zc (p:Path) (j:Nat):d_ (p++o4 j)=d_ p:=by
 induction p with
 | nil=>induction j <;> grind [o4,d_]
 | cons s p ih=>cases s <;> simp only[dA,d_,ih]
theorem Nd {A':Cells}:∀ (j:Nat) (S:Ty) {v:S.den} {K:(t':Ty)->t'.den->Option R} {cs:List Value},Us j S v K=some x->Ro P w A' S v cs ->
  ∃ t' v',v7 j S=some t'/\K t' v'=some x/\Ro P w A' t' v' ((cs.drop (kR j S)).take t'.sz):=by
 intro j
 induction j with
 | zero=>
  intro S v K cs h hr
  cases S with
  | pair a b=>exact ⟨a,v.1,rfl,h,by simp only[kR,eK];exact hr.1⟩
  | _=>cases h
 | succ j ih=>
  intro S v K cs h hr
  cases S with
  | pair a b=>
   obtain ⟨t',v',h1,h2,h3⟩:=ih b (v:=v.2) h hr.2;exact ⟨t',v',h1,h2,by grind [kR,List.drop_drop]⟩
  | _=>cases h
theorem Od (h:ee P C A σ a w F) {y:Operand} (ho:o.op=.nilCheck y) (bd:dy P y=true) {K:St->Option R}
  (hk:(match d7 σ y with
  | .ptr r p snap=>if σ.ok r snap then K (σ.cb o.dst (.ptr r p snap)) else none
  | .cp t v=>K (σ.cb o.dst (.cp t v))
  | .val .fn f=>K (σ.cb o.dst (.val .fn f))
  | _=>none)=some x):Tk P o a w (Nx P C K x):=by
 rcases f5 h bd with hs | ⟨xs,e⟩
 rotate_left
 ·grind
 split at hk
 ·rename_i r p snap hv;rw[hv] at hs;split at hk
  ·rename_i pJ;obtain ⟨pl,b,off,g1,g2,g3,g4⟩:=hs.2 pJ;exact ik (v:=a.eval y) (by simp[execOp,ho,g3]) (cm h hk hs (λ_ _ _ _ e=>by cases e))
  ·cases hk
 ·rename_i t v hv;rw[hv] at hs;obtain ⟨ad,h1,_⟩:=id hs;simp only[dN,eP] at h1;exact ik (v:=a.eval y) (by simp[execOp,ho,h1]) (cm h hk hs (λ_ _ _ _ e=>by cases e))
 ·rename_i f hv;rw[hv] at hs;obtain ⟨cs,h1,AT,h2,_⟩:=id hs;subst h2;exact ik (v:=a.eval y) (by simp[execOp,ho,h1,c_,isAgg]) (cm h hk hs (λ_ _ _ _ e=>by cases e))
 ·cases hk
theorem Ml (h:ee P C A σ a w F) (lY:∀ i T,E.TI i=some T->bj P T (.inl i)=true) {S:Nat} {y:Operand} {j:Nat} (ho:o.op=.fieldAddr S y j) (bd:dy P y=true) {K:St->Option R}
  (hk:Ez E σ S (d7 σ y) j o.dst K=some x):Tk P o a w (Nx P C K x):=by
 unfold Ez at hk;obtain ⟨T,hT,hk⟩:=gr hk;have jx:=lY _ _ hT
 have run:∀ t' b off,v7 j T=some t'->a.eval y=.pointer (some ⟨b,off,none⟩)->∀ w',uQ o w w'->(execOp a.eval o).run P w'=.ok (.value (.pointer (some ⟨b,off+kR j T,none⟩))) w':=λt' b off ht hy w' _=>by
  obtain ⟨fs,f,h1,h2,h3,h4,h5⟩:=KF jx ht;have ot:=run_sizeOf (P:=P) (w:=w') h4;have je:¬ t'.sz=0:=by omega
  simp_all [execOp,Instr.fieldAt,Instr.sureAddr,run_underlying,fieldPlace,rF]
 rcases f5 h bd with hs | ⟨xs,e⟩
 rotate_left
 ·grind
 split at hk
 ·rename_i t' v hv;rw[hv] at hs;split at hk
  ·rename_i e;subst e;obtain ⟨⟨b,off,sp⟩,h1,h2,L,h3,h4,h5⟩:=hs;simp only[dN,eP] at h1;simp only at h2;subst h2;obtain ⟨t2,v2,q1,q2,q3⟩:=Nd j t' hk h5;refine ik (run t2 b off q1 h1) (cm h q2 ⟨_,rfl,rfl,_,Ro.length _ q3,λk u hu=>?_,q3⟩ (λ_ _ _ _ e=>by cases e));grind
  ·cases hk
 ·rename_i r p snap hv;rw[hv] at hs;split at hk
  ·rename_i pJ;split at hk
   ·rename_i B9;split at hk
    ·rename_i hf;obtain ⟨pl,b,off,g1,g2,g3,g4⟩:=hs.2 pJ;rw[KH g1] at B9;injection B9 with B9;obtain ⟨t',B_⟩:=eH.1 hf;refine ik (run t' b off B_ g3) (cm h hk ⟨hs.1,λ_=>?_⟩ (λ_ _ _ _ e=>by cases e));obtain ⟨m',v',F',jb⟩:=Nc h g1;obtain ⟨tp,Hp,csp,adp⟩:=pl;simp only at B9 g2 jb;subst B9;obtain ⟨H',e⟩:=Tf (ad:=adp) j tp jb B_;grind [iu,Zc,uq]
    ·cases hk
   ·cases hk
  ·cases hk
 ·cases hk
theorem UO (h:ee P C A σ a w F) (lY:∀ i T,E.TI i=some T->bj P T (.inl i)=true) {S:Nat} {y:Operand} {j:Nat} (ho:o.op=.field S y j) (bd:dy P y=true) {K:St->Option R}
  (hk:L8 E σ S (d7 σ y) j o.dst K=some x):Tk P o a w (Nx P C K x):=by
 unfold L8 at hk;obtain ⟨T,hT,hk⟩:=gr hk;have jx:=lY _ _ hT
 have run:∀ t' cs,v7 j T=some t'->a.eval y=c_ T cs->((cs.drop (kR j T)).take t'.sz).length=t'.sz->∀ w',uQ o w w'->(execOp a.eval o).run P w'=.ok (.value (c_ t' ((cs.drop (kR j T)).take t'.sz))) w':=λt' cs ht hy hl w' _=>by
  obtain ⟨fs,f,h1,h2,h3,h4,h5⟩:=KF jx ht
  have afe:c_ T cs=.agg cs.toArray:=by cases T <;> first | rfl | (cases j <;> cases ht)
  have:=wt (P:=P) (w:=w') h4 (cs:=cs.toArray) (off:=kR j T) (by simpa using hl);simp_all [execOp,Instr.field,run_underlying,asAgg]
 rcases f5 h bd with hs | ⟨xs,e⟩
 rotate_left
 ·grind
 split at hk
 ·rename_i t' v hv;rw[hv] at hs;split at hk
  ·rename_i e;subst e;obtain ⟨cs,h1,h2⟩:=hs;obtain ⟨t2,v2,q1,q2,q3⟩:=Nd j t' hk h2;exact ik (run t2 cs q1 h1 (Ro.length _ q3)) (cm h q2 ⟨_,rfl,q3⟩ (λ_ _ _ _ e=>by cases e))
  ·cases hk
 ·rename_i r p snap hv;rw[hv] at hs;split at hk
  ·rename_i pJ;split at hk
   ·rename_i B9;obtain ⟨hr,t',m',H',v',ca,de,F',h1,h2,h3,h4,h5,h6⟩:=l6 h hk;obtain ⟨pl,g1,g2,g3⟩:=hs.2 pJ;rw[KH g1] at B9;injection B9 with B9;obtain ⟨m0,v0,F0,jb⟩:=Nc h g1;obtain ⟨tp,Hp,csp,adp⟩:=pl;simp only at B9 g2 jb;subst B9
    have hf:∃ t2,v7 j tp=some t2:=by
     have h7:=h3;rw[uq,g1] at h7;exact Zb j tp (Jw _ _ h7)
    obtain ⟨t2,ht2⟩:=hf;obtain ⟨H2,e⟩:=Tf (ad:=adp) j tp jb ht2;have gy:place σ a w r (p++o4 j)=some ⟨t2,H2,(csp.drop (kR j tp)).take t2.sz,iu adp (kR j tp)⟩:=by grind [uq]
    rw[gy] at h3;injection h3 with h3;simp only[Pl.mk.injEq] at h3;obtain ⟨rfl,rfl,rfl,rfl⟩:=h3;refine ik (run t2 csp ht2 g2 (an.length _ h4)) ?_;split at h1
    ·rename_i hc;split at h1
     ·rename_i hH;have hH:=bH.1 hH;subst hH;refine cm h h1 ⟨_,rfl,?_⟩ (λ_ _ _ _ e=>by cases e);grind [an.flat,an.ro,it]
     ·cases h1
    ·exact cm h h1 (EN h gy) (λ_ _ _ _ e=>by cases e)
   ·cases hk
  ·cases hk
 ·cases hk
end
end OT
namespace OT
open Go
section
variable {P:Program} {C:Ctx} {A:Cells} {X:FP} {σ:St} {a:Act} {w:World} {F:Nat->FP} {R:Type} {x:R} {Q:Exit->Act->World->Prop} {o:Oper} {E:Env}
theorem Jx {n:Int} {len:Nat} {K:Nat->Option R} (h:WE n len K=some x):0<=n/\n < (len:Int)/\K n.toNat=some x:=by
 grind [WE]
theorem bind_some {α:Type} {o:Option α} {K:α->Option R} (h:o.bind K=some x):∃ y,o=some y/\K y=some x:=by
 cases o <;> grind
theorem vO {e:Ty} {i:TypeId} (h:bj P (.aa e) (.inl i)=true):∃ el,P.underlying i=some (.slice el)/\1<=e.sz/\bj P e (.inl el)=true:=by
 grind [bj,Nat.ble_eq]
theorem Th {n:Nat} {e:Ty} {i:TypeId} (h:bj P (.arr n e) (.inl i)=true):∃ el,P.underlying i=some (.array n el)/\1<=e.sz/\bj P e (.inl el)=true:=by
 grind [bj,Nat.ble_eq,Nat.beq_eq]
theorem nM {i:TypeId} (h:bj P .str (.inl i)=true):P.underlying i=some .string:=by
 grind [bj]
theorem ru {k:IntKind} {i:TypeId} (h:bj P (.int k) (.inl i)=true):P.underlying i=some (.int k):=by
 grind [bj]
theorem RS (p q:Path):d_ (p++q)=d_ p+d_ q:=by
 induction p with
 | nil=>simp[d_]
 | cons s p ih=>cases s <;> simp only[dA,d_,ih] <;> omega
theorem KI (h:Rel P C A X σ a w F) {r:Nat} {p:Path} {pl:Pl} {b off:Nat} (hp:place σ a w r p=some pl) (lP:pl.ad=some (b,off)):D9 σ a w (.pointer (some ⟨b,off,none⟩)) r p (xZ σ r p):=by
 have h5:=h.mH r;refine ⟨?_,λ_=>⟨pl,b,off,hp,lP,rfl,by grind [xZ]⟩⟩
 unfold xZ;intro j y hj;grind
theorem Mm (h:ee P C A σ a w F) (lY:∀ i T,E.TI i=some T->bj P T (.inl i)=true) {t:Nat} {y z:Operand} (ho:o.op=.indexAddr t y z) (bd:dy P y=true/\dy P z=true) {K:St->Option R}
  (hk:EA E σ t (d7 σ y) (d7 σ z) o.dst K=some x):Tk P o a w (Nx P C K x):=by
 unfold EA at hk;obtain ⟨T,hT,hk⟩:=gr hk;have jx:=lY _ _ hT
 rcases f5 h bd.2 with hz | ⟨xs,e⟩
 rotate_left
 ·rw[e] at hk;cases hk
 obtain ⟨kz,n,Ti,hk⟩:=ye hz hk
 have wu:∀ e ad len cap,T=.aa e->a.eval y=.slice (some ad) len cap->ad.spot=none->0<=n->n < (len:Int)->∀ w',uQ o w w'->(execOp a.eval o).run P w'=.ok (.value (.pointer (some ⟨ad.block,ad.off+n.toNat*e.sz,none⟩))) w':=λe ad len cap sV hy qB h0 h1 w' _=>by
  subst sV;obtain ⟨el,hu,_,hle⟩:=vO jx;obtain ⟨b,off,sp⟩:=ad;simp only at qB;subst qB;have ot:=run_sizeOf (P:=P) (w:=w') hle;simp[execOp,ho,hy,Ti,Instr.indexAt,asIntOf,run_underlying hu,h0,h1,ot,rF]
 have acr:∀ m e b off,T=.arr m e->a.eval y=.pointer (some ⟨b,off,none⟩)->0<=n->n < (m:Int)->∀ w',uQ o w w'->(execOp a.eval o).run P w'=.ok (.value (.pointer (some ⟨b,off+n.toNat*e.sz,none⟩))) w':=λm e b off sV hy h0 h1 w' _=>by
  subst sV;obtain ⟨el,hu,_,hle⟩:=Th jx;have ot:=run_sizeOf (P:=P) (w:=w') hle;simp[execOp,ho,hy,Ti,Instr.indexAt,asIntOf,run_underlying hu,h0,h1,ot,rF,Instr.sureAddr]
 have roS:∀ (e:Ty) (v:List e.den) (tv:Value) (yv:e.den),T=.aa e->a.eval y=tv->Ro P w A (.aa e) v [tv]->0<=n->v[n.toNat]?=some yv->K (σ.cb o.dst (.cp e yv))=some x->Tk P o a w (Nx P C K x):=λe v tv yv sV hy yG h0 GO hk=>by
  obtain ⟨xa,cap,h1,h2,h3,h4⟩:=yG;simp only[dN,eP] at h1;subst h1;have a7:=(aM.1 GO).1
  cases xa with
  | none=>grind
  | some ad=>
   obtain ⟨g1,g2⟩:=h4 ad rfl;obtain ⟨L,l1,l2,l3⟩:=g2 _ _ GO;exact ik (wu e ad _ cap sV hy (g1 Bys) h0 Bys) (cm h hk ⟨_,rfl,rfl,L,l1,l2,l3⟩ (λ_ _ _ _ e=>by cases e))
 rcases f5 h bd.1 with hs | ⟨xs,e⟩
 rotate_left
 ·grind
 split at hk
 ·rename_i e v hv;rw[hv] at hs;split at hk
  ·rename_i sV;split at hk
   ·rename_i h0;obtain ⟨yv,GO,hk⟩:=bind_some hk;obtain ⟨cs,h1,h2⟩:=hs;have hl:=Ro.length _ h2
    match cs,hl with
    | [tv],_=>exact roS e v tv yv sV (by rw[h1,ef _ _ rfl]) h2 h0 GO hk
   ·cases hk
  ·cases hk
 ·rename_i m e v hv;rw[hv] at hs;split at hk
  ·rename_i sV;split at hk
   ·rename_i h0;obtain ⟨yv,GO,hk⟩:=bind_some hk;obtain ⟨⟨b,off,sp⟩,h1,h2,L,h3,h4,h5⟩:=hs;simp only[dN,eP] at h1;simp only at h2;subst h2;obtain ⟨q1,q2,q3,q4⟩:=h5;have a7:n.toNat < m:=q2 ▸ (aM.1 GO).1;have yG:=q4 _ _ GO;refine ik (acr m e b off sV h1 h0 Bys) (cm h hk ⟨_,rfl,rfl,_,Ro.length _ yG,λk u hu=>?_,yG⟩ (λ_ _ _ _ e=>by cases e));grind
   ·cases hk
  ·cases hk
 ·rename_i r p snap hv;rw[hv] at hs;split at hk
  ·rename_i pJ;obtain ⟨hr,t',m',H',v',ca,de,F',h1,h2,h3,h4,h5,h6⟩:=l6 h hk;obtain ⟨pl,g1,g2,g3⟩:=hs.2 pJ;rw[h3] at g1;injection g1 with g1;subst g1;simp only at g2;split at h1
   ·cases h1
   ·rename_i hH;have hH:hole H'=false:=fM.2 hH;split at h1
    ·rename_i sV;split at h1
     ·rename_i e Tj;have hl:=an.length _ h4;split at h1
      ·rename_i jI;obtain ⟨i0,i1,h1⟩:=Jx h1;have jb:=h4;simp only[an,hH,aE,aR,jI,aK] at jb;obtain ⟨xa,cap,rfl,q2,q3,q4,q5⟩:=jb
       cases xa with
       | none=>grind
       | some ig=>
        obtain ⟨r1,r2,r3,Fi,r4,r5⟩:=q5 ig rfl;rw[ef _ _ rfl] at g2;have a7:n.toNat < List.length Tj:=by omega
        refine ik (wu e ig _ cap sV.symm g2 r2 i0 i1) (cm h h1 (KI (pl:=⟨e,H'.filterMap (lk n.toNat),rd w ig.block (ig.off+n.toNat*e.sz) e.sz,some (ig.block,ig.off+n.toNat*e.sz)⟩) h ?_ rfl) (λ_ _ _ _ e=>by cases e));grind [uq,bv]
      ·rename_i jI;split at h1
       ·rename_i h0;obtain ⟨yv,GO,h1⟩:=bind_some h1;have jb:=h4;simp only[an,hH,aE,aR,jI] at jb
        match ca,hl with
        | [tv],_=>
         rw[ef _ _ rfl] at g2;grind
       ·cases h1
     ·cases h1
    ·cases h1
  ·cases hk
 ·rename_i r p snap lo hi hv;rw[hv] at hs;split at hk
  ·rename_i pJ;obtain ⟨hr,t',m',H',v',ca,de,F',h1,h2,h3,h4,h5,h6⟩:=l6 h hk;obtain ⟨pl,e,xa,len,cap,xx,cap',g1,g2,g3,g4,g5,g6,g7,Tc,g8,g9,g10⟩:=hs.2 pJ;rw[h3] at g1;injection g1 with g1;subst g1;simp only at g2 g3;subst g2;subst g3;split at h1
   ·cases h1
   ·rename_i hH;have hH:hole H'=false:=fM.2 hH;split at h1
    ·rename_i sV;obtain ⟨i0,i1,h1⟩:=Jx h1
     have BY:∃ ig,xa=some ig/\ig.spot=none:=by
      simp only[an,hH,aE,aR] at h4
      cases xa with
      | none=>
       split at h4
       ·grind
       ·obtain ⟨_,_,xa2,Mn,q1,q2,q3,_⟩:=h4;grind
      | some ig=>
       refine ⟨ig,rfl,?_⟩
       split at h4
       ·grind
       ·obtain ⟨_,_,xa2,Mn,q1,q2,q3,q4⟩:=h4;grind
     obtain ⟨ig,rfl,qB⟩:=BY;obtain ⟨IG,e1,e2,e3,e4⟩:=g9 ig rfl;subst e1;have e4:=e4 Bys;refine ik (wu e IG _ cap' sV.symm g6 (e2.trans qB) i0 i1) ?_
     have Po:(⟨IG.block,IG.off+n.toNat*e.sz,none⟩:Addr)=⟨ig.block,ig.off+(lo+n.toNat)*e.sz,none⟩:=by
      grind
     rw[Po];have a7:lo+n.toNat < len:=by omega
     refine cm h h1 (KI (pl:=⟨e,H'.filterMap (lk (lo+n.toNat)),rd w ig.block (ig.off+(lo+n.toNat)*e.sz) e.sz,some (ig.block,ig.off+(lo+n.toNat)*e.sz)⟩) h ?_ rfl) (λ_ _ _ _ e=>by cases e);grind [uq,bv]
    ·cases h1
  ·cases hk
 ·rename_i r p snap hv;rw[hv] at hs;split at hk
  ·rename_i pJ;obtain ⟨hr,t',m',H',v',ca,de,F',h1,h2,h3,h4,h5,h6⟩:=l6 h hk;obtain ⟨pl,b,off,g1,g2,g3,g4⟩:=hs.2 pJ;rw[h3] at g1;injection g1 with g1;subst g1;simp only at g2;subst g2;split at h1
   ·rename_i sV;split at h1
    ·rename_i m e Tj;obtain ⟨i0,i1,h1⟩:=Jx h1;obtain ⟨hH,hf,hl,hlen,yG⟩:=h4;subst hH;have a7:n.toNat < m:=by omega
     refine ik (acr m e b off sV.symm g3 i0 Bys) (cm h h1 ⟨hs.1,λ_=>⟨⟨e,[],(ca.drop (n.toNat*e.sz)).take e.sz,some (b,off+n.toNat*e.sz)⟩,b,off+n.toNat*e.sz,?_,rfl,rfl,?_⟩⟩ (λ_ _ _ _ e=>by cases e))
     ·grind [uq,bv,iu]
     ·rw[RS];exact g4
    ·cases h1
   ·cases h1
  ·cases hk
 ·cases hk
end
end OT
namespace OT
open Go
section
variable {P:Program} {C:Ctx} {A:Cells} {X:FP} {σ:St} {a:Act} {w:World} {F:Nat->FP} {R:Type} {x:R} {Q:Exit->Act->World->Prop} {o:Oper} {E:Env}
theorem W3 (s:List UInt8) (n:Nat):(⟨s.toArray⟩:ByteArray)[n]?=s[n]?:=by
 by_cases h:n < s.length
 ·have h1:n < (⟨s.toArray⟩:ByteArray).size:=by simpa [ByteArray.size] using h
  rw[getElem?_pos _ n h1,aB h];rfl
 grind [ByteArray.size]
theorem UP (h:ee P C A σ a w F) (lY:∀ i T,E.TI i=some T->bj P T (.inl i)=true) {t:Nat} {y z:Operand} (ho:o.op=.index t y z) (bd:dy P y=true/\dy P z=true) {K:St->Option R}
  (hk:OY E σ t (d7 σ y) (d7 σ z) o.dst K=some x):Tk P o a w (Nx P C K x):=by
 unfold OY at hk;have Nf:=gr hk;clear hk;obtain ⟨T,hT,mY⟩:=Nf;have jx:=lY _ _ hT
 rcases f5 h bd.2 with hz | ⟨xs,e⟩
 rotate_left
 ·rw[e] at mY;cases mY
 have hk3:=ye hz mY;clear mY;obtain ⟨kz,n,Ti,hk⟩:=hk3
 rcases f5 h bd.1 with hs | ⟨xs,e⟩
 rotate_left
 ·grind
 split at hk
 ·rename_i s hv;rw[hv] at hs;split at hk
  ·rename_i sV;subst sV;split at hk
   ·rename_i h0;obtain ⟨c,hc,hk⟩:=bind_some hk;obtain ⟨cs,h1,h2⟩:=hs;simp only[Ro] at h2;subst h2;have hb:=W3 s n.toNat;rw[hc] at hb;refine ik (v:=.int .u8 c.toNat) ?_ (cm h hk ⟨[_],rfl,rfl⟩ (λ_ _ _ _ e=>by cases e));simp[execOp,ho,h1,c_,isAgg,Ti,Instr.index,asIntOf,run_underlying (nM jx),h0,hb]
   ·cases hk
  ·cases hk
 ·rename_i m e v hv;rw[hv] at hs;split at hk
  ·rename_i sV;subst sV;split at hk
   ·rename_i h0;obtain ⟨yv,GO,hk⟩:=bind_some hk;obtain ⟨cs,h1,h2⟩:=hs;obtain ⟨q1,q2,q3,q4⟩:=id h2;obtain ⟨el,hu,_,hle⟩:=Th jx;have a7:n.toNat < m:=q2 ▸ (aM.1 GO).1;have EI:n < (m:Int):=by omega
    have yG:=q4 _ _ GO;refine ik (v:=c_ e ((cs.drop (n.toNat*e.sz)).take e.sz)) (λw' _=>?_) (cm h hk ⟨_,rfl,yG⟩ (λ_ _ _ _ e=>by cases e));have hp:=wt (P:=P) (w:=w') hle (cs:=cs.toArray) (off:=n.toNat*e.sz) (by grind [Ro.length]);simp only[List.toList_toArray] at hp;have ot:=run_sizeOf (P:=P) (w:=w') hle;simp_all [execOp,c_,isAgg,Instr.index,asIntOf,run_underlying]
   ·cases hk
  ·cases hk
 ·cases hk
theorem Ca {t:Ty} {m:Md} {H:List Path} {e:Ty} {v:List e.den} {cs:List Value} {G:FP} (h:an P w A (.aa e) m H v cs G) (hH:hole H=false) :
  ∃ xa cap,cs=[.slice xa (List.length v) cap]/\List.length v<=cap/\(xa=none->List.length v=0):=by
 simp only[an,hH,aE,aR] at h;split at h
 ·grind
 ·obtain ⟨_,_,xa,cap,q1,q2,q3,q4⟩:=h;grind
theorem Cb {t:Nat} {y:Operand} (ho:o.op=.call { callee:=.builtin .len,args:=#[y],argTypes:=#[t] }) :
  (execOp a.eval o).run P w=((Builtin.len_ #[t] o.type #[a.eval y]).run P w).andThen λv w'=>.ok (.value v) w':=by
 simp_all [execOp,resolve,invoke,builtin]
theorem Zd (h:ee P C A σ a w F) (lY:∀ i T,E.TI i=some T->bj P T (.inl i)=true) {t:Nat} {y:Operand} (ho:o.op=.call { callee:=.builtin .len,args:=#[y],argTypes:=#[t] }) (bd:dy P y=true) {K:St->Option R}
  (hk:Y5 E σ t (d7 σ y) (λn=>K (σ.cb o.dst (.val (.int .i64) (n:Int))))=some x):Tk P o a w (Nx P C K x):=by
 unfold Y5 at hk;obtain ⟨T,hT,hk⟩:=gr hk;have jx:=lY _ _ hT
 rcases f5 h bd with hs | ⟨xs,e⟩
 rotate_left
 ·grind
 have fin:∀ n:Nat,K (σ.cb o.dst (.val (.int .i64) (n:Int)))=some x->Nx P C K x (a.put o.dst (.int .i64 (n:Int))) w:=λn hk=>cm h hk ⟨[_],rfl,rfl⟩ (λ_ _ _ _ e=>by cases e);split at hk
 ·split at hk
  ·rename_i s hv;rw[hv] at hs;obtain ⟨cs,h1,h2⟩:=hs;simp only[Ro] at h2;subst h2;refine ik (v:=.int .i64 (s.length:Int)) (λw' _=>?_) (fin _ hk);have e:a.eval y=.string ⟨List.toArray s⟩:=h1;have e2:(⟨List.toArray s⟩:ByteArray).size=s.length:=rfl;rw[Cb ho,e];unfold Builtin.len_;simp only[List.getElem?_toArray,dJ,Sem.run_bind,run_underlying (nM jx),Result.andThen_ok,Sem.run_pure,goInt,e2]
  ·cases hk
 ·rename_i e;obtain ⟨el,hu,_,hle⟩:=vO jx
  have run:∀ xa n cap,a.eval y=.slice xa n cap->∀ w',uQ o w w'->(execOp a.eval o).run P w'=.ok (.value (.int .i64 (n:Int))) w':=λxa n cap hy w' _=>by
   rw[Cb ho];simp[Builtin.len_,hy,run_underlying hu,goInt]
  split at hk
  ·rename_i e' v hv;rw[hv] at hs;obtain ⟨cs,h1,xa,cap,h2,_⟩:=hs;subst h2;exact ik (run xa _ cap h1) (fin _ hk)
  ·rename_i hv;rw[hv] at hs;exact ik (run none 0 0 hs) (fin _ hk)
  ·rename_i r p snap hv;rw[hv] at hs;split at hk
   ·rename_i pJ;obtain ⟨hr,t',m',H',v',ca,de,F',h1,h2,h3,h4,h5,h6⟩:=l6 h hk;obtain ⟨pl,g1,g2,g3⟩:=hs.2 pJ;rw[h3] at g1;injection g1 with g1;subst g1;simp only at g2;split at h1
    ·cases h1
    ·rename_i hH;have hH:hole H'=false:=fM.2 hH;split at h1
     ·rename_i e' Tj;obtain ⟨xa,cap,q1,q2,q3⟩:=Ca (t:=.unit) h4 hH;subst q1;exact ik (run xa _ cap g2) (fin _ h1)
     ·cases h1
   ·cases hk
  ·rename_i r p snap lo hi hv;rw[hv] at hs;split at hk
   ·rename_i pJ;obtain ⟨pl,e',xa,len,cap,xx,cap',g1,g2,g3,g4,g5,g6,g7,Tc,g8,g9,g10⟩:=hs.2 pJ;grind [ik]
   ·cases hk
  ·cases hk
 ·cases hk
theorem W4 {len cap:Nat} {lo hi:Option Operand} {K:Nat->Nat->Option R} (pL:len<=cap) (yd:∀ y,lo=some y->db P A σ a w (a.eval y) (d7 σ y) (λ_ _=>0)) (IM:∀ y,hi=some y->db P A σ a w (a.eval y) (d7 σ y) (λ_ _=>0))
  (hk:vM len (lo.map (d7 σ)) (hi.map (d7 σ)) K=some x):∃ l h,l<=h/\h<=len/\K l h=some x/\(∀ w',(Instr.sliceBounds true len cap (lo.map a.eval) (hi.map a.eval) none).run P w'=.ok (l,h,cap) w') /\
   (len=cap->∀ w',(Instr.sliceBounds false len cap (lo.map a.eval) (hi.map a.eval) none).run P w'=.ok (l,h,cap) w'):=by
 have ll:∀ (k:IntKind) (i:Int) (y:Nat) code,0<=i->i<=(y:Int)->∀ w',(Instr.sliceBound (.int k i) y code).run P w'=.ok i.toNat w':=λk i y code h0 h1 w'=>run_sliceBound w' k i y code h0 h1
 have two:∀ (W5 sS:Option Value) (l h:Nat),(W5=none/\l=0\/∃ k n,W5=some (.int k n)/\0<=n/\n<=(h:Int)/\l=n.toNat)->(sS=none/\h=len\/∃ k n,sS=some (.int k n)/\0<=n/\n<=(len:Int)/\h=n.toNat) ->
   (∀ w',(Instr.sliceBounds true len cap W5 sS none).run P w'=.ok (l,h,cap) w')/\(len=cap->∀ w',(Instr.sliceBounds false len cap W5 sS none).run P w'=.ok (l,h,cap) w'):=λW5 sS l h h1 h2=>by
  rcases h2 with ⟨rfl,rfl⟩ | ⟨k2,n2,rfl,b1,b2,rfl⟩
  ·rcases h1 with ⟨rfl,rfl⟩ | ⟨k1,n1,rfl,a1,a2,rfl⟩
   ·simp_all [Instr.sliceBounds]
   ·exact ⟨by simp_all [Instr.sliceBounds],λ_=>by simp_all [Instr.sliceBounds]⟩
  ·have c1:=ll k2 n2 cap .sliceAcap b1 Bys;have c2:=ll k2 n2 cap .sliceAlen b1 Bys
   rcases h1 with ⟨rfl,rfl⟩ | ⟨k1,n1,rfl,a1,a2,rfl⟩
   all_goals simp_all [Instr.sliceBounds]
 unfold vM at hk
 cases lo with
 | none=>
  cases hi <;> grind [ye]
 | some yl=>
  cases hi <;> grind [ye]
theorem Oe (s:List UInt8) (l h:Nat) (hl:l<=h) (hh:h<=s.length):(⟨s.toArray⟩:ByteArray).extract l h=⟨((s.take h).drop l).toArray⟩:=by
 apply ByteArray.ext;grind [ByteArray.data_extract]
theorem UQ (h:ee P C A σ a w F) (lY:∀ i T,E.TI i=some T->bj P T (.inl i)=true) {t:Nat} {y:Operand} {lo hi:Option Operand} (ho:o.op=.slice t y lo hi none)
  (bd:dy P y=true/\(∀ z,lo=some z->dy P z=true)/\(∀ z,hi=some z->dy P z=true)) {K:St->Option R}
  (hk:OZ E σ t (d7 σ y) (lo.map (d7 σ)) (hi.map (d7 σ)) o.dst K=some x):Tk P o a w (Nx P C K x):=by
 unfold OZ at hk;have Nf:=gr hk;clear hk;obtain ⟨T,hT,hk⟩:=Nf;have jx:=lY _ _ hT
 have hnt:∀ z,dy P z=true->(∀ xs,d7 σ z≠.sR xs)->db P A σ a w (a.eval z) (d7 σ z) (λ_ _=>0):=λz hz hn=>by
  grind [f5]
 have bound:∀ (len cap:Nat) (K':Nat->Nat->Option R),len<=cap->vM len (lo.map (d7 σ)) (hi.map (d7 σ)) K'=some x->∃ l h,l<=h/\h<=len/\K' l h=some x/\(∀ w',(Instr.sliceBounds true len cap (lo.map a.eval) (hi.map a.eval) none).run P w'=.ok (l,h,cap) w') /\
   (len=cap->∀ w',(Instr.sliceBounds false len cap (lo.map a.eval) (hi.map a.eval) none).run P w'=.ok (l,h,cap) w'):=λlen cap K' hc hb=>by
  refine W4 hc (λz hz=>hnt z (bd.2.1 z hz) λxs e=>?_) (λz hz=>hnt z (bd.2.2 z hz) λxs e=>?_) hb
  ·subst hz;unfold vM at hb;grind [xN]
  ·subst hz;unfold vM at hb
   cases lo with
   | none=>grind [xN]
   | some yl=>
    simp only[bV,e] at hb;unfold xN at hb;grind
 have wu:∀ e xa len cap l h,T=.aa e->a.eval y=.slice xa len cap->l<=cap->(∀ ad,xa=some ad->0 < cap->ad.spot=none)->(∀ w',(Instr.sliceBounds true len cap (lo.map a.eval) (hi.map a.eval) none).run P w'=.ok (l,h,cap) w') ->
   ∀ w',uQ o w w'->(execOp a.eval o).run P w'=.ok (.value (.slice (if cap=l then xa else xa.map λad=>⟨ad.block,ad.off+l*e.sz,none⟩) (h - l) (cap - l))) w':=λe xa len cap l h sV hy hlc qB hb w' _=>by
  have hb:=hb w';subst sV;obtain ⟨el,hu,_,hle⟩:=vO jx;have ot:=run_sizeOf (P:=P) (w:=w') hle;unfold execOp;simp only[ho,iT,Instr.sliceAt,Instr.slice,Sem.run_bind,run_underlying hu,Result.andThen_ok,hy,hb,ot,Sem.run_pure];by_cases xy:cap=l
  ·simp[xy]
  ·congr 4
   cases xa with
   | none=>rfl
   | some ad=>
    obtain ⟨b,off,sp⟩:=ad;grind [rF]
 have addr:∀ (xa:Option Addr) (cap l h n:Nat) (e:Ty),l<=h->h<=n->n<=cap->(∀ ad,xa=some ad->0 < cap->ad.spot=none) ->
   (xa=none->(if cap=l then xa else xa.map λad=>⟨ad.block,ad.off+l*e.sz,none⟩)=none) /\
   (∀ ad,xa=some ad->∃ de,(if cap=l then xa else xa.map λad=>⟨ad.block,ad.off+l*e.sz,none⟩)=some de/\de.spot=ad.spot/\de.block=ad.block/\(l < h->de.off=ad.off+l*e.sz)) /\
   (l=0->(if cap=l then xa else xa.map λad=>(⟨ad.block,ad.off+l*e.sz,none⟩:Addr))=xa):=λxa cap l h n e h1 h2 h3 qB=>by
  refine ⟨λe=>by grind,λad e=>?_,λe0=>?_⟩
  ·grind
  ·subst e0;split
   ·rfl
   ·cases xa with
    | none=>rfl
    | some ad=>
     obtain ⟨b,off,sp⟩:=ad;grind
 have aaI:∀ {e:Ty} {v:List e.den} {m:Md} {H:List Path} {xa n cap} {G:FP},an P w A (.aa e) m H v [.slice xa n cap] G->hole H=false->∀ ad,xa=some ad->0 < cap->ad.spot=none:=λ{e v m H xa n cap G} jb hH ad WW Jy=>by
  simp only[an,hH,aE,aR] at jb;split at jb
  ·grind
  ·obtain ⟨_,_,xa2,Mn,q1,q2,q3,q4⟩:=jb;grind
 rcases f5 h bd.1 with hs | ⟨xs,e⟩
 rotate_left
 ·grind
 split at hk
 ·rename_i s hv;rw[hv] at hs;split at hk
  ·rename_i sV;have aaJ:=jx;rw[sV] at aaJ;obtain ⟨l,h',b1,b2,hk,b3,b4⟩:=bound s.length s.length _ (aH _) hk;obtain ⟨cs,h1,h2⟩:=hs;simp only[Ro] at h2;subst h2;have e1:a.eval y=.string ⟨List.toArray s⟩:=h1;have e2:(⟨List.toArray s⟩:ByteArray).size=s.length:=rfl;refine ik (v:=.string ⟨((s.take h').drop l).toArray⟩) (λw' _=>?_) (cm h hk ⟨[_],rfl,rfl⟩ (λ_ _ _ _ e=>by cases e));unfold execOp;simp only[ho,iT,Instr.sliceAt,Instr.slice,Sem.run_bind,run_underlying (nM aaJ),Result.andThen_ok,e1,Option.isSome_none,aE,aR,e2,b4 rfl w',Sem.run_pure,Oe s l h' b1 b2]
  ·cases hk
 ·rename_i e v hv;rw[hv] at hs;split at hk
  ·rename_i sV;obtain ⟨cs,h1,h2⟩:=hs;obtain ⟨xa,cap,q1,q2,q3,q4⟩:=id h2;subst q1;rw[ef _ _ rfl] at h1;obtain ⟨l,h',b1,b2,hk,b3,_⟩:=bound (List.length v) cap _ q2 hk;obtain ⟨r1,r2,r3⟩:=addr xa cap l h' _ e b1 b2 q2 (λad e=>(q4 ad e).1);exact ik (wu e xa _ cap l h' sV h1 Bys (λad e=>(q4 ad e).1) b3) (cm h hk ⟨_,(ef (.aa e) _ rfl).symm,Ro.piece h2 b1 b2 Bys r1 r2⟩ (λ_ _ _ _ e=>by cases e))
  ·cases hk
 ·rename_i r p snap hv;rw[hv] at hs;split at hk
  ·rename_i pJ;obtain ⟨hr,t',m',H',v',ca,de,F',h1,h2,h3,h4,h5,h6⟩:=l6 h hk;obtain ⟨pl,g1,g2,g3⟩:=hs.2 pJ;rw[h3] at g1;injection g1 with g1;subst g1;simp only at g2 g3;split at h1
   ·cases h1
   ·rename_i hH;have hH:hole H'=false:=fM.2 hH;split at h1
    ·rename_i sV;split at h1
     ·rename_i e Tj;obtain ⟨xa,cap,q1,q2,q3⟩:=Ca (t:=.unit) h4 hH;subst q1;rw[ef _ _ rfl] at g2;have qB:=aaI h4 hH;split at h1
      ·obtain ⟨l,h',b1,b2,h1,b3,_⟩:=bound (List.length Tj) cap _ q2 h1;obtain ⟨r1,r2,r3⟩:=addr xa cap l h' _ e b1 b2 q2 qB;refine ik (wu e xa _ cap l h' sV.symm g2 Bys qB b3) (cm h h1 ⟨hs.1,λ_=>⟨_,e,xa,_,cap,_,cap - l,h3,rfl,rfl,b1,b2,rfl,by omega,r3,r1,r2,?_⟩⟩ (λ_ _ _ _ e=>by cases e));grind
      ·rename_i jI;obtain ⟨l,h',b1,b2,h1,b3,_⟩:=bound (List.length Tj) cap _ q2 h1;obtain ⟨r1,r2,r3⟩:=addr xa cap l h' _ e b1 b2 q2 qB;simp only[an,hH,aE,aR,jI] at h4;exact ik (wu e xa _ cap l h' sV.symm g2 Bys qB b3) (cm h h1 ⟨_,(ef (.aa e) _ rfl).symm,Ro.piece h4.2.2 b1 b2 Bys r1 r2⟩ (λ_ _ _ _ e=>by cases e))
     ·cases h1
    ·cases h1
  ·cases hk
 ·rename_i r p snap l0 h0 hv;rw[hv] at hs;split at hk
  ·rename_i pJ;obtain ⟨hr,t',m',H',v',ca,de,F',h1,h2,h3,h4,h5,h6⟩:=l6 h hk;obtain ⟨pl,e,xa,n,cap,xx,cap',g1,g2,g3,g4,g5,g6,g7,Tc,g8,g9,g10⟩:=hs.2 pJ;have g1':=g1;rw[h3] at g1;injection g1 with g1;subst g1;simp only at g2 g3;subst g2;subst g3;split at h1
   ·cases h1
   ·rename_i hH;have hH:hole H'=false:=fM.2 hH;split at h1
    ·rename_i sV;obtain ⟨xa2,Mn,q1,q2,q3⟩:=Ca (t:=.unit) h4 hH;simp only[dN,Value.slice.injEq,eP] at q1;obtain ⟨rfl,rfl,rfl⟩:=q1;have qB:=aaI h4 hH
     have acs:∀ ad,xx=some ad->0 < cap'->ad.spot=none:=λad e' Jy=>by
      cases WW:xa <;> grind
     obtain ⟨l,h',b1,b2,h1,b3,_⟩:=bound (h0 - l0) cap' _ Bys h1;obtain ⟨r1,r2,r3⟩:=addr xx cap' l h' _ e b1 b2 Bys acs;refine ik (wu e xx _ cap' l h' sV.symm g6 Bys acs b3) (cm h h1 ⟨hs.1,λ_=>⟨⟨.aa e,H',[.slice xa (List.length v') cap],de⟩,e,xa,List.length v',cap,(if cap'=l then xx else xx.map λad=>⟨ad.block,ad.off+l*e.sz,none⟩),cap' - l,h3,rfl,rfl,by omega,by omega,?_,by omega,λe0=>?_,λe'=>?_,λad e'=>?_,g10⟩⟩ (λ_ _ _ _ e=>by cases e))
     ·grind
     ·grind
     ·grind
     grind
    ·cases h1
  ·cases hk
 ·cases hk
end
end OT
namespace OT
open Go
theorem s9 (k:IntKind) (n:Int):qM k (F_ k n)=k.wrap n:=by
 cases k <;> first | rfl | skip
 show ((UInt8.ofNat (n % 2 ^ 8).toNat).toNat:Int)=_;grind [UInt8.toNat_ofNat',IntKind.wrap,IntKind.bits,IntKind.signed]
theorem Mo (k:IntKind) (n:Int) (h:k=.u8->0<=n/\n < 256):qM k (inI k n)=n:=by
 cases k <;> first | rfl | skip
 obtain ⟨h1,h2⟩:=h rfl;show ((UInt8.ofNat (n % 2 ^ 8).toNat).toNat:Int)=_;rw[UInt8.toNat_ofNat'];omega
theorem W6 (v:D3 .u8):0<=qM .u8 v/\qM .u8 v < 256:=by
 have:UInt8.toNat v < 256:=iY v;show 0<=((UInt8.toNat v:Nat):Int)/\((UInt8.toNat v:Nat):Int) < 256;omega
section
variable {P:Program} {C:Ctx} {A:Cells} {X:FP} {σ:St} {a:Act} {w:World} {F:Nat->FP} {R:Type} {x:R} {Q:Exit->Act->World->Prop} {o:Oper} {E:Env}
theorem abe {op:BinOp} {k k':IntKind} {na nb:Int} {K:(t:Ty)->t.den->Option R} (hk:O1 op k na nb K=some x) (Pg:k=k'\/op=.shl\/op=.shr) (hu:k=.u8->0<=na/\na < 256) (hu':k'=.u8->0<=nb/\nb < 256) (T:TypeId) :
  ∃ t v tv,K t v=some x/\Ro P w A t v [tv]/\isAgg t=false/\∀ w:World,(binOp op T (.int k na) (.int k' nb)).run P w=.ok tv w:=by
 have same:op≠.shl->op≠.shr->k=k':=λh1 h2=>by grind
 unfold O1 at hk;split at hk
 ·have:=same (by simp) (by simp);subst this;exact ⟨_,_,.int k (k.wrap (na+nb)),hk,by simp only[Ro,s9],rfl,λw=>by simp[Go.binOp,Op.intArith]⟩
 ·have:=same (by simp) (by simp);subst this;exact ⟨_,_,.int k (k.wrap (na - nb)),hk,by simp only[Ro,s9],rfl,λw=>by simp[Go.binOp,Op.intArith]⟩
 ·have:=same (by simp) (by simp);subst this;exact ⟨_,_,.int k (k.wrap (na*nb)),hk,by simp only[Ro,s9],rfl,λw=>by simp[Go.binOp,Op.intArith]⟩
 ·have:=same (by simp) (by simp);subst this;split at hk
  ·cases hk
  ·rename_i hnz;exact ⟨_,_,.int k (k.wrap (na.tdiv nb)),hk,by simp only[Ro,s9],rfl,λw=>by simp[Go.binOp,Op.intDiv,hnz]⟩
 ·have:=same (by simp) (by simp);subst this;split at hk
  ·cases hk
  ·rename_i hnz;refine ⟨_,_,.int k (na.tmod nb),hk,?_,rfl,λw=>by simp[Go.binOp,Op.intDiv,hnz]⟩
   simp only[Ro];rw[Mo k _ (λe=>?_)];have h1:=hu e;have h2:=hu' e
   have:=Int.tmod_nonneg nb h1.1;have h3:na.tmod nb < nb:=Int.tmod_lt_of_pos na Bys;omega
 ·have:=same (by simp) (by simp);subst this;exact ⟨_,_,.int k (k.wrap ((BitVec.ofInt k.bits na &&& BitVec.ofInt k.bits nb).toNat:Int)),hk,by simp only[Ro,s9],rfl,λw=>by grind [Go.binOp,Op.intBits,Sem.run_pure]⟩
 ·have:=same (by simp) (by simp);subst this;exact ⟨_,_,.int k (k.wrap ((BitVec.ofInt k.bits na ||| BitVec.ofInt k.bits nb).toNat:Int)),hk,by simp only[Ro,s9],rfl,λw=>by grind [Go.binOp,Op.intBits,Sem.run_pure]⟩
 ·have:=same (by simp) (by simp);subst this;exact ⟨_,_,.int k (k.wrap ((BitVec.ofInt k.bits na ^^^ BitVec.ofInt k.bits nb).toNat:Int)),hk,by simp only[Ro,s9],rfl,λw=>by grind [Go.binOp,Op.intBits,Sem.run_pure]⟩
 ·split at hk
  ·cases hk
  ·rename_i hn;exact ⟨_,_,.int k (k.wrap (na*2 ^ (min nb.toNat k.bits))),hk,by simp only[Ro,s9],rfl,λw=>by simp[Go.binOp,Op.shift,hn]⟩
 ·split at hk
  ·cases hk
  ·rename_i hn;refine ⟨_,_,.int k (na.fdiv (2 ^ (min nb.toNat k.bits))),hk,?_,rfl,λw=>by simp[Go.binOp,Op.shift,hn]⟩
   simp only[Ro];rw[Mo k _ (λe=>?_)];have h1:=hu e;have hp:(0:Int) < 2 ^ (min nb.toNat k.bits):=Int.pow_pos Bys;rw[Int.fdiv_eq_ediv_of_nonneg _ Bys];have h2:=Int.ediv_nonneg h1.1 (Int.le_of_lt hp);have h3:=Int.ediv_le_self (2 ^ (min nb.toNat k.bits)) h1.1;omega
 ·have:=same (by simp) (by simp);subst this;exact ⟨.bool,decide (na=nb),_,hk,rfl,rfl,λw=>by simp[Go.binOp,Op.intCmp];rfl⟩
 ·have:=same (by simp) (by simp);subst this;exact ⟨.bool,!decide (na=nb),_,hk,rfl,rfl,λw=>by simp[Go.binOp,Op.intCmp,bne];rfl⟩
 ·have:=same (by simp) (by simp);subst this;exact ⟨.bool,decide (na < nb),_,hk,rfl,rfl,λw=>by simp[Go.binOp,Op.intCmp]⟩
 ·have:=same (by simp) (by simp);subst this;exact ⟨.bool,decide (na<=nb),_,hk,rfl,rfl,λw=>by simp[Go.binOp,Op.intCmp]⟩
 ·have:=same (by simp) (by simp);subst this;exact ⟨.bool,decide (nb < na),_,hk,rfl,rfl,λw=>by simp[Go.binOp,Op.intCmp]⟩
 ·have:=same (by simp) (by simp);subst this;exact ⟨.bool,decide (nb<=na),_,hk,rfl,rfl,λw=>by simp[Go.binOp,Op.intCmp]⟩
 ·cases hk
theorem abf {op:BinOp} {s t:List UInt8} {K:(t:Ty)->t.den->Option R} (hk:Y6 op s t K=some x) (T:TypeId) :
  ∃ ty v tv,K ty v=some x/\Ro P w A ty v [tv]/\isAgg ty=false/\∀ w:World,(binOp op T (.string ⟨s.toArray⟩) (.string ⟨t.toArray⟩)).run P w=.ok tv w:=by
 have h0:∀ w:World,(binOp op T (.string ⟨s.toArray⟩) (.string ⟨t.toArray⟩)).run P w=(Op.stringOp op ⟨s.toArray⟩ ⟨t.toArray⟩).run P w:=λw=>by cases op <;> rfl
 simp only[h0];unfold Y6 at hk;split at hk
 ·split at hk
  ·rename_i hc;refine ⟨.str,s++t,.string ⟨(s++t).toArray⟩,hk,rfl,rfl,λw=>?_⟩
   grind [run_string_add_sum,ByteArray.size,cg,ByteArray.mk_append_mk]
  ·cases hk
 ·exact ⟨.bool,decide (s=t),_,hk,rfl,rfl,λw=>by simp[Op.stringOp];grind⟩
 ·exact ⟨.bool,!decide (s=t),_,hk,rfl,rfl,λw=>by simp[Op.stringOp];grind⟩
 ·cases hk
theorem BE {tv:Value} {s:List UInt8} {G:FP} (h:db P A σ a w tv (.val .str s) G):tv=.string ⟨s.toArray⟩:=by
 obtain ⟨cs,h1,h2⟩:=h;simp only[Ro] at h2;subst h2;exact h1
theorem BF {tv:Value} {k:IntKind} {n:D3 k} {G:FP} (h:db P A σ a w tv (.val (.int k) n) G):tv=.int k (qM k n):=by
 obtain ⟨cs,h1,h2⟩:=h;simp only[Ro] at h2;subst h2;exact h1
theorem Pp {tv:Value} {b:Bool} {G:FP} (h:db P A σ a w tv (.val .bool b) G):tv=.bool b:=by
 obtain ⟨cs,h1,h2⟩:=h;simp only[Ro] at h2;subst h2;exact h1
theorem W7 (h:ee P C A σ a w F) {op:UnOp} {t:Nat} {y:Operand} (ho:o.op=.unOp op t y) (bd:dy P y=true) {K:St->Option R}
  (hk:(match op,d7 σ y with
  | .not,.val .bool b=>K (σ.cb o.dst (.val .bool (!b)))
  | .neg,.val (.int k) n=>K (σ.cb o.dst (.val (.int k) (F_ k (0 - qM k n))))
  | _,_=>none)=some x):Tk P o a w (Nx P C K x):=by
 rcases f5 h bd with hs | ⟨xs,e⟩
 rotate_left
 ·grind
 split at hk
 ·rename_i b ho hv;rw[hv] at hs;have e:=Pp hs;exact ik (v:=.bool (!b)) (by simp[execOp,ho,e,Op.unary]) (cm h hk ⟨[_],rfl,rfl⟩ (λ_ _ _ _ e=>by cases e))
 ·rename_i k n ho hv;rw[hv] at hs;have e:=BF hs;exact ik (v:=.int k (k.wrap (0 - qM k n))) (by simp[execOp,ho,e,Op.unary,Op.intArith]) (cm h hk ⟨[_],rfl,by simp only[Ro,s9]⟩ (λ_ _ _ _ e=>by cases e))
 ·cases hk
end
end OT
namespace OT
open Go
section
variable {P:Program} {w:World} {A:Cells}
theorem aaK:∀ (t:Ty),(∀ (i:TypeId) (d:Nat) (v1 v2:t.den) (rx du:List Value),bj P t (.inl i)=true->sU P t (.inl i)=true->dep t<=d->Ro P w A t v1 rx->Ro P w A t v2 du->(Op.equalIn d i (c_ t rx) (c_ t du)).run P w=.ok (t.eq v1 v2) w) /\
  (∀ (fs:List Field) (off d:Nat) (v1 v2:t.den) (xs ys:Array Value),bj P t (.inr (fs,off))=true->sU P t (.inr fs)=true->dep t<=d+1->Ro P w A t v1 (xs.toList.drop off)->Ro P w A t v2 (ys.toList.drop off)->(Op.eqFields d xs ys fs).run P w=.ok (t.eq v1 v2) w):=by
 intro t
 induction t with
 | int k=>
  refine ⟨λi d v1 v2 rx du hl he hd h1 h2=>?_,λfs off d v1 v2 xs ys hl=>by simp[bj] at hl⟩
  simp only[Ro] at h1 h2;subst h1;subst h2
  cases d with
  | zero=>simp[dep] at hd
  | succ d=>
   rw[ef _ _ rfl,ef _ _ rfl,run_equalIn_int w d i k k _ _ (ru hl)];congr 1
   cases k with
   | u8=>exact fS.2 (by simp only[qM,Ty.eq,jC];constructor;(intro h;exact fT.1 Bys);grind)
   | _=>grind [qM,Ty.eq]
 | bool=>
  refine ⟨λi d v1 v2 rx du hl he hd h1 h2=>?_,λfs off d v1 v2 xs ys hl=>by simp[bj] at hl⟩
  simp only[Ro] at h1 h2;subst h1;subst h2
  have hu:P.underlying i=some .bool:=by
   grind [bj]
  cases d with
  | zero=>simp[dep] at hd
  | succ d=>rw[ef _ _ rfl,ef _ _ rfl,run_equalIn_bool' w d i _ _ hu];rfl
 | str=>
  refine ⟨λi d v1 v2 rx du hl he hd h1 h2=>?_,λfs off d v1 v2 xs ys hl=>by simp[bj] at hl⟩
  simp only[Ro] at h1 h2;subst h1;subst h2
  cases d with
  | zero=>simp[dep] at hd
  | succ d=>
   rw[ef _ _ rfl,ef _ _ rfl,run_equalIn_string w d i _ _ (nM hl),ByteArray.toList_mk,ByteArray.toList_mk];grind [Ty.eq]
 | unit=>
  refine ⟨λi d v1 v2 rx du hl he hd h1 h2=>?_,λfs off d v1 v2 xs ys hl he hd h1 h2=>?_⟩
  ·simp only[Ro] at h1 h2;subst h1;subst h2;simp only[bj,aD] at hl;have h3:=hl.2;split at h3
   ·rename_i fs hu;have hf:P.fieldsOf i=fs:=by simp[Program.fieldsOf,hu]
    cases d with
    | zero=>simp[dep] at hd
    | succ d=>
     have DH:fs.toList=[]:=bH.1 h3;simp only[sU,cD] at he;show (Op.equalIn (d+1) i (.agg #[]) (.agg #[])).run P w=_;rw[run_equalIn_struct w d i _ _ (by grind) he,hf,DH];rfl
   ·cases h3
  ·simp only[bj,bH] at hl;subst hl;rfl
 | pair a b nL nw=>
  have second:∀ (fs:List Field) (off d:Nat) (v1 v2:(Ty.pair a b).den) (xs ys:Array Value),bj P (.pair a b) (.inr (fs,off))=true->sU P (.pair a b) (.inr fs)=true->dep (.pair a b)<=d+1->Ro P w A (.pair a b) v1 (xs.toList.drop off)->Ro P w A (.pair a b) v2 (ys.toList.drop off)->(Op.eqFields d xs ys fs).run P w=.ok ((Ty.pair a b).eq v1 v2) w:=by
   intro fs off d v1 v2 xs ys hl he hd h1 h2
   cases fs with
   | nil=>simp[bj] at hl
   | cons f r=>
    simp only[bj,aD,eU,dR] at hl;simp only[sU,aD,bne_iff_ne,ne_eq] at he;simp only[dep] at hd;obtain ⟨W8,W9⟩:=h1;obtain ⟨h2a,h2b⟩:=h2;have p1:=wt (P:=P) (w:=w) hl.1.2 (cs:=xs) (off:=off) (Ro.length _ W8);have p2:=wt (P:=P) (w:=w) hl.1.2 (cs:=ys) (off:=off) (Ro.length _ h2a);have e1:=nL.1 f.type d v1.1 v2.1 _ _ hl.1.2 he.1.2 Bys W8 h2a;rw[dD] at W9 h2b;have e2:=nw.2 r (off+a.sz) d v1.2 v2.2 xs ys hl.2 he.2 Bys W9 h2b;simp only[Op.eqFields,ne_eq,he.1.1,eN,aK,Sem.run_bind,hl.1.1.1,p1,p2,e1,Result.andThen_ok];cases hq:a.eq v1.1 v2.1 <;> simp_all [Ty.eq]
  refine ⟨λi d v1 v2 rx du hl he hd h1 h2=>?_,second⟩
  simp only[bj,aD] at hl;simp only[sU,aD,cD] at he;have h3:=hl.2;have h4:=he.2;split at h3
  ·rename_i fs hu;rw[hu] at h4;simp only at h4;have hf:P.fieldsOf i=fs:=by simp[Program.fieldsOf,hu]
   split at h3
   ·rename_i f r KG;rw[KG] at h4;simp only at h4
    cases d with
    | zero=>grind [dep]
    | succ d=>
     show (Op.equalIn (d+1) i (.agg rx.toArray) (.agg du.toArray)).run P w=_;rw[run_equalIn_struct w d i _ _ (by grind) he.1,hf,KG];refine second (f::r) 0 d v1 v2 _ _ ?_ ?_ hd (by simpa using h1) (by simpa using h2)
     all_goals grind [bj,sU]
   ·cases h3
  ·cases h3
 | arr n e ih=>
  refine ⟨λi d v1 v2 rx du hl he hd h1 h2=>?_,λfs off d v1 v2 xs ys hl=>by simp[bj] at hl⟩
  simp only[bj,aD] at hl;have h3:=hl.2;simp only[sU] at he;split at h3
  ·rename_i n' el hu;simp only[aD,eU,dR] at h3;obtain ⟨⟨rfl,_⟩,hle⟩:=h3;rw[hu] at he;simp only at he;obtain ⟨inf,i1,i2,_⟩:=lG (mJ hle);have ot:P.cellsOf el=e.sz:=by grind [Program.cellsOf]
   obtain ⟨_,l1,_,r1⟩:=h1;obtain ⟨_,l2,_,r2⟩:=h2
   cases d with
   | zero=>simp[dep] at hd
   | succ d=>
    simp only[dep] at hd
    have key:∀ (m j:Nat),j+m=n->(Op.eqItems d el e.sz rx.toArray du.toArray (List.range' j m)).run P w=.ok (((List.drop j v1).zip (List.drop j v2)).all λp=>e.eq p.1 p.2) w:=by
     intro m
     induction m with
     | zero=>
      intro j hj;rw[fE Bys];rfl
     | succ m ihm=>
      intro j hj;have g1:=aB (l:=v1) (i:=j) Bys;have g2:=aB (l:=v2) (i:=j) Bys;have a1:=r1 j _ g1;have a2:=r2 j _ g2;have p1:=wt (P:=P) (w:=w) hle (cs:=rx.toArray) (off:=j*e.sz) (Ro.length _ a1);have p2:=wt (P:=P) (w:=w) hle (cs:=du.toArray) (off:=j*e.sz) (Ro.length _ a2);have e1:=ih.1 el d _ _ _ _ hle he Bys a1 a2;rw[iJ,cJ (l:=v1) (i:=j) Bys,cJ (l:=v2) (i:=j) Bys];simp only[Op.eqItems,Sem.run_bind,p1,p2,e1,Result.andThen_ok,List.zip_cons_cons,eI]
      cases hq:e.eq v1[j] v2[j] with
      | true=>grind
      | false=>simp
    show (Op.equalIn (d+1) i (.agg rx.toArray) (.agg du.toArray)).run P w=_;rw[run_equalIn_array w d _ _ hu i1,ot,fP];exact key n 0 Bys
  ·cases h3
 | _=>grind [sU]
end
section
variable {P:Program} {C:Ctx} {A:Cells} {X:FP} {σ:St} {a:Act} {w:World} {F:Nat->FP} {R:Type} {x:R} {Q:Exit->Act->World->Prop} {o:Oper} {E:Env}
def aaL (P:Program) (E:Env):Prop:=∀ i T,E.TI i=some T->T.oZ=true->isAgg T=true->sU P T (.inl i)=true/\P.eqGuardType P.depth i=false/\dep T<=10000
theorem EO {op:BinOp} {t:TypeId} {y z:Operand} {u v:Value} (h:¬ (∃ p q,u=.agg p/\v=.agg q)) (h2:u≠.nilIface):(eqGuard op t y z u v).run P w=.ok () w:=by
 simp_all [eqGuard]
theorem Ro.oZ {w':World} {A':Cells}:∀ (t:Ty) {v:t.den} {cs:List Value},t.oZ=true->Ro P w A t v cs->Ro P w' A' t v cs:=by
 intro t
 induction t with
 | pair a b nL nw=>
  intro v cs hq h;simp only[Ty.oZ,aD] at hq;exact ⟨nL hq.1 h.1,nw hq.2 h.2⟩
 | arr n e ih=>intro v cs hq h;exact ⟨h.1,h.2.1,h.2.2.1,λi x hx=>ih hq (h.2.2.2 i x hx)⟩
 | aa e ih=>grind [Ty.oZ]
 | ptr e ih=>grind [Ty.oZ]
 | fn=>grind [Ty.oZ]
 | map k v=>grind [Ty.oZ]
 | _=>intro v cs hq h;exact h
theorem UR (h:ee P C A σ a w F) (lY:∀ i T,E.TI i=some T->bj P T (.inl i)=true) (heq:aaL P E) {op:BinOp} {t t2:Nat} {y z:Operand} (ho:o.op=.binOp op t y z t2) (bd:dy P y=true/\dy P z=true) {K:St->Option R}
  (hk:O2 E t op (d7 σ y) (d7 σ z) (λt v=>K (σ.cb o.dst (.val t v)))=some x):Tk P o a w (Nx P C K x):=by
 rcases f5 h bd.1 with hy | ⟨xs,e⟩
 rotate_left
 ·grind [O2]
 rcases f5 h bd.2 with hz | ⟨xs,e⟩
 rotate_left
 ·grind [O2]
 have fin:∀ (ty:Ty) (v:ty.den) (tv:Value),K (σ.cb o.dst (.val ty v))=some x->Ro P w A ty v [tv]->isAgg ty=false->(∀ w',uQ o w w'->(eqGuard op t y z (a.eval y) (a.eval z)).run P w'=.ok () w')->(∀ w',uQ o w w'->(binOp op t (a.eval y) (a.eval z)).run P w'=.ok tv w')->Tk P o a w (Nx P C K x):=λty v tv hk hr ha hg hb=>by
  refine ik (v:=tv) (λw' t6=>?_) (cm h hk ⟨[tv],(ef ty tv ha).symm,hr⟩ (λ_ _ _ _ e=>by cases e));grind [execOp,Sem.run_bind,Result.andThen_ok,Sem.run_pure]
 unfold O2 at hk;split at hk
 ·rename_i k n1 k' n2 KJ Pq;rw[KJ] at hy;rw[Pq] at hz;have e1:=BF hy;have e2:=BF hz;have hg:∀ w',uQ o w w'->(eqGuard op t y z (a.eval y) (a.eval z)).run P w'=.ok () w':=λw' _=>by grind [EO]
  have Pg:(k=k'\/op=.shl\/op=.shr)/\O1 op k (qM k n1) (qM k' n2) (λt v=>K (σ.cb o.dst (.val t v)))=some x:=by
   grind
  obtain ⟨ty,v,tv,q1,q2,q3,q4⟩:=abe (P:=P) (A:=A) (w:=w) Pg.2 Pg.1 (λe=>by subst e;exact W6 n1) (λe=>by subst e;exact W6 n2) t;grind
 ·rename_i s1 s2 KJ Pq;rw[KJ] at hy;rw[Pq] at hz;have e1:=BE hy;have e2:=BE hz;have hg:∀ w',uQ o w w'->(eqGuard op t y z (a.eval y) (a.eval z)).run P w'=.ok () w':=λw' _=>by grind [EO]
  obtain ⟨ty,v,tv,q1,q2,q3,q4⟩:=abf (P:=P) (A:=A) (w:=w) hk t;grind
 ·rename_i ty v1 ty' v2 hni hns KJ Pq;rw[KJ] at hy;rw[Pq] at hz
  have main:∀ (e:ty=ty') (hq:ty.oZ=true) (hT:E.TI t=some ty) (w':World),uQ o w w'->(eqGuard op t y z (a.eval y) (a.eval z)).run P w'=.ok () w'/\(∀ b,b=ty.eq v1 (e ▸ v2)->(op=.eql->(binOp op t (a.eval y) (a.eval z)).run P w'=.ok (.bool b) w')/\(op=.neq->(binOp op t (a.eval y) (a.eval z)).run P w'=.ok (.bool (!b)) w')):=λe hq hT w' t6=>by
   subst e;obtain ⟨rx,e1,r1⟩:=hy;obtain ⟨du,e2,r2⟩:=hz;have r1:=Ro.oZ (w':=w') (A':=A) _ hq r1;have r2:=Ro.oZ (w':=w') (A':=A) _ hq r2;have jx:=lY _ _ hT
   cases hag:isAgg ty with
   | true=>
    obtain ⟨q1,q2,q3⟩:=heq _ _ hT hq hag;have aff:=(aaK (P:=P) (w:=w') (A:=A) ty).1 t 10000 v1 v2 rx du jx q1 q3 r1 r2;simp_all [c_,run_eqGuard_agg,run_eql_struct,run_neq_struct]
   | false=>
    cases ty with
    | int k=>grind
    | str=>grind
    | bool=>
     simp only[Ro] at r1 r2;subst r1;subst r2;rw[ef _ _ rfl] at e1 e2
     have hu:P.underlying t=some .bool:=by
      grind [bj]
     rw[e1,e2];refine ⟨EO (by grind) (by grind),λb hb=>⟨λh=>?_,λh=>?_⟩⟩
     ·subst h;subst hb;have:=run_equalIn_bool' (P:=P) w' 9999 t v1 v2 hu;simp only[Go.binOp,Op.equal,Op.maxDepth,Sem.run_bind,this,Result.andThen_ok,Sem.run_pure];rfl
     ·subst h;subst hb;have:=run_equalIn_bool' (P:=P) w' 9999 t v1 v2 hu;simp only[Go.binOp,Op.equal,Op.maxDepth,Sem.run_bind,this,Result.andThen_ok,Sem.run_pure];rfl
    | _=>grind [Ty.oZ,isAgg]
  split at hk
  ·split at hk
   ·rename_i hq;obtain ⟨T,hT,hk⟩:=gr hk;split at hk
    ·rename_i e;subst e;obtain ⟨e,hk⟩:=c7 hk;have m:=main e.symm hq hT;subst e;exact fin .bool _ _ hk rfl rfl (λw' t6=>(m w' t6).1) (λw' t6=>((m w' t6).2 _ rfl).1 rfl)
    ·cases hk
   ·cases hk
  ·split at hk
   ·rename_i hq;obtain ⟨T,hT,hk⟩:=gr hk;split at hk
    ·rename_i e;subst e;obtain ⟨e,hk⟩:=c7 hk;have m:=main e.symm hq hT;subst e;exact fin .bool _ _ hk rfl rfl (λw' t6=>(m w' t6).1) (λw' t6=>((m w' t6).2 _ rfl).2 rfl)
    ·cases hk
   ·cases hk
  ·cases hk
 ·rename_i e v KJ Pq;rw[KJ] at hy;rw[Pq] at hz;obtain ⟨T,hT,hk⟩:=gr hk;split at hk
  ·rename_i eT;subst eT
   obtain ⟨te,hu⟩:∃ te,P.underlying t=some (.slice te):=by
    grind [bj]
   obtain ⟨cs,h1,a0,cap,h2,h3,h4,h5⟩:=hy;subst h2;rw[ef _ _ rfl] at h1;have hz':a.eval z=.slice none 0 0:=hz;have hg:∀ w',uQ o w w'->(eqGuard op t y z (a.eval y) (a.eval z)).run P w'=.ok () w':=λw' _=>by grind [EO]
   have key:∀ (b:Bool),BL v (K (σ.cb o.dst (.val .bool b))) (K (σ.cb o.dst (.val .bool !b)))=some x->K (σ.cb o.dst (.val .bool (if a0.isNone then b else !b)))=some x:=λb hb=>by
    cases v with
    | nil=>
     grind [BL,both]
    | cons y v=>
     have:a0.isNone=false:=by
      cases a0 <;> grind
     rw[this];exact hb
   unfold ab9 at hk;split at hk
   ·refine fin .bool _ (.bool a0.isNone) (key true hk) ?_ rfl hg λw' _=>?_
    ·cases a0 <;> rfl
    grind [run_equal_slice_nil,Go.binOp,Sem.run_bind,Result.andThen_ok,Sem.run_pure]
   ·refine fin .bool _ (.bool !a0.isNone) (key false hk) ?_ rfl hg λw' _=>?_
    ·cases a0 <;> rfl
    grind [run_neq_slice_nil]
   ·cases hk
  ·cases hk
 ·cases hk
end
end OT
namespace OT
open Go
section
variable {P:Program} {C:Ctx} {A:Cells} {X:FP} {σ:St} {a:Act} {w:World} {F:Nat->FP} {R:Type} {x:R} {Q:Exit->Act->World->Prop} {o:Oper} {E:Env}
theorem qi (w:World) (ob:Obj):Ext w (w.alloc ob) (λ_ _=>0):=by
 refine ⟨by simp,λb i hb _ u hu=>?_,λb n hn=>?_,λb i hb=>World.frozen?_alloc_old w ob _ (by simp;omega),rfl,rfl,rfl,λb hb _=>?_,aH _⟩
 ·grind [BQ,World.alloc]
 ·obtain ⟨c,e,fr,h1,h2,h3⟩:=hn;refine ⟨c,e,fr,?_,h2,h3⟩
  grind [World.alloc]
 grind [World.alloc]
theorem Jz (w:World):Ext w w.drew (λ_ _=>0):=⟨aH _,λ_ _ _ _ _ h=>h,λ_ _ h=>h,λ_ _ _=>rfl,rfl,rfl,rfl,λ_ _ _=>rfl,Nat.le_succ _⟩
theorem C9 (w:World) (c:Array Value) (e:TypeId) (fr:Nat×Nat) (u:Bool) (oq:(u=true/\c.size<=fr.1)\/fr.2<=fr.1):jj (w.alloc (.cells c e fr)) w.heap.size (c.size,u):=
 ⟨c,e,fr,heap_alloc_new w _,rfl,λi hi=>by grind,λhu=>by grind⟩
theorem C_ (w:World) (c:Array Value) (e:TypeId) (fr:Nat×Nat) {k:Nat} {L:List Value} (hL:∀ j u,L[j]?=some u->c[k+j]?=some u) (pH:∀ u ∈ L,u.oneCell'=true):Has (w.alloc (.cells c e fr)) w.heap.size k L:=by
 intro j u hu;grind [Ig,World.cell?,heap_alloc_new]
theorem Rel.alloc (h:Rel P C A X σ a w F) (c:Array Value) (e:TypeId) (fr:Nat×Nat):Rel P C A (λb i=>X b i+dt w.heap.size 0 c.size b i) σ a (w.alloc (.cells c e fr)) F:=by
 refine h.grow (qi w _) (λ_ _ h=>h) (λ_ _ h=>.inl h) (λb i=>?_);by_cases hb:b=w.heap.size
 ·subst hb;right
  have hx:X w.heap.size i=0:=by
   rcases bM (X w.heap.size i) with h0 | h0
   ·exact h0
   ·have:=h.ll w.heap.size i (.inl Bys);omega
  exact ⟨aH _,by simp,by grind [dt]⟩
 grind [dt]
theorem Rel.drew (h:Rel P C A X σ a w F):Rel P C A X σ a w.drew F:=h.grow (Jz w) (λ_ _ h=>h) (λ_ _ h=>.inl h) (λ_ _=>.inl (aH _))
theorem an.alloc (h:Rel P C A X σ a w F) {t:Ty} {m:Md} {H:List Path} {v:t.den} {cs:List Value} {G:FP} (hr:an P w A t m H v cs G) (hG:∀ b i,1<=G b i->b < w.heap.size) {w':World} (hw:Ext w w' (λ_ _=>0)):an P w' A t m H v cs G:=
 an.mono (λ_ _ h=>h) (λb i ha u hu=>hw.cell b i (h.ll b i (.inr ha)) rfl u hu) hw.x_ t hr (λ_ _=>aH _) (λb i hp u hu=>hw.cell b i (hG b i hp) rfl u hu)
theorem Tl (h:Rel P C A X σ a w F) {K:St->Option R} {d:Option Tmp} {t:Ty} {m:Md} {v:t.den} {cs:List Value} {Fv:FP} (e:TypeId) (hk:K (σ.cb d (.box t m [] v))=some x)
  (hr:an P w A t m [] v cs Fv) (hX:∀ b i,Fv b i<=X b i):∃ A' F',Rel P C A' (λ_ _=>0) (σ.cb d (.box t m [] v)) (a.put d (.pointer (some ⟨w.heap.size,0,none⟩))) (w.alloc (.cells cs.toArray e)) F':=by
 have hl:=an.length t hr;have h1:=h.alloc cs.toArray e (0,0);have jI:=C9 w cs.toArray e (0,0) false (.inr (aH _));simp only[iE,hl] at jI h1;have xv:=an.alloc h hr (λb i hp=>h.ll b i (.inl (by grind))) (qi w (.cells cs.toArray e))
 obtain ⟨F',hF⟩:=h1.cb d (s:=.box t m [] v) (v:=.pointer (some ⟨w.heap.size,0,none⟩)) (Fd:=λb i=>dt w.heap.size 0 t.sz b i+Fv b i) (X':=λ_ _=>0)
  ⟨w.heap.size,0,cs,Fv,rfl,hl,C_ w cs.toArray e (0,0) (λj u hu=>by simpa using hu) (an.one _ hr),λj hj=>by simp_all,λ_ _=>aH _,xv⟩
  (λb i=>by grind) (λt' m' H' v' e'=>by grind)
 grind
theorem wv:∀ (t:Ty),t.xj=true->∃ L,zc t=some L:=by
 intro t
 induction t <;> grind [Ty.xj,zc]
theorem W_ (h:ee P C A σ a w F) (lY:∀ i T,E.TI i=some T->bj P T (.inl i)=true) {t:Nat} (ho:o.op=.alloc t) {K:St->Option R}
  (hk:(q9 E t λT=>if T.xj then K (σ.cb o.dst (.box T (ah T) [] T.zero)) else none)=some x):o.wp P a w (λa' w'=>Nx P C K x a' w'/\Ext w w' (λ_ _=>0)) Q:=by
 obtain ⟨T,hT,hk⟩:=gr hk;split at hk
 ·rename_i IN;have jx:=lY _ _ hT;obtain ⟨L,hL⟩:=wv T IN;obtain ⟨z,GP,Gc⟩:=AW (P:=P) (w:=w) jx hL;obtain ⟨r1,r2,r3⟩:=C7 (P:=P) (w:=w) (A:=A) T hL jx;refine pg (v:=.pointer (some ⟨w.heap.size,0,none⟩)) (w':=w.alloc (.cells L.toArray t)) ?_ ?_
  ·have:z.cells=L.toArray:=by grind
   simp_all [execOp,Instr.alloc,newVar,newRow]
  ·obtain ⟨A',F',hF⟩:=Tl h t hk r1 (λ_ _=>aH _);exact ⟨⟨_,hk,A',F',hF⟩,qi w _⟩
 ·cases hk
end
end OT
namespace OT
open Go
section
variable {P:Program} {C:Ctx} {A:Cells} {X:FP} {σ:St} {a:Act} {w:World} {F:Nat->FP} {R:Type} {x:R} {Q:Exit->Act->World->Prop} {o:Oper} {E:Env}
theorem Il (h:Rel P C A X σ a w F) {K:St->Option R} {d:Option Tmp} {e:Ty} {m:Md} {v:List e.den} {c:Array Value} {cap:Nat} {el:TypeId} {fr:Nat×Nat} {Fi:Nat->FP} (oq:(Jr e=true/\c.size<=fr.1)\/fr.2<=fr.1)
  (hk:K (σ.cb d (.own (.aa e) (.aa true m) [] v))=some x) (hc:c.size=cap*e.sz) (pL:cap<=maxLen) (hv:List.length v<=cap) (hX:∀ b i,bf (List.length v) Fi b i<=X b i)
  (sW:∀ (i:Nat) (y:e.den),v[i]?=some y->∃ L:List Value,L.length=e.sz/\(∀ j u,L[j]?=some u->c[i*e.sz+j]?=some u)/\an P w A e m [] y L (Fi i)) :
  Nx P C K x (a.put d (.slice (some ⟨w.heap.size,0,none⟩) (List.length v) cap)) (w.alloc (.cells c el fr)):=by
 have h1:=h.alloc c el fr;have jI:=C9 w c el fr (Jr e) oq;rw[hc] at jI h1;refine qE h1 hk (Fd:=λb i=>dt w.heap.size 0 (cap*e.sz) b i+bf (List.length v) Fi b i) ⟨_,(ef (.aa e) _ rfl).symm,?_⟩ (λb i=>by grind) (λ_ _ _ _ e=>by cases e);simp only[an,hole,bX,aE,aR,Md.own,aK,Md.e];refine ⟨_,cap,rfl,hv,pL,(λe=>by cases e),λad lP=>?_⟩
 injection lP with lP;subst lP;refine ⟨rfl,rfl,jI,Fi,λ_ _=>aH _,λi y hy=>?_⟩
 obtain ⟨L,l1,l2,l3⟩:=sW i y hy;have hi:=(aM.1 hy).1;refine ⟨L,l1,C_ w c el fr l2 (an.one _ l3),?_⟩
 simp only[eF];exact an.alloc h l3 (λb k hp=>h.ll b k (.inl (by grind [dj]))) (qi w _)
theorem Of (h:ee P C A σ a w F) (lY:∀ i T,E.TI i=some T->bj P T (.inl i)=true) {t:Nat} {y z:Operand} (ho:o.op=.makeSlice t y z) (bd:dy P y=true/\dy P z=true) {K:St->Option R}
  (hk:(q9 E t λt=>match t with
  | .aa e=>xN (d7 σ y) λn=>xN (d7 σ z) λc=>
   if e.xj then (if 0<=n/\n<=c/\c<=(cg:Int) then K (σ.cb o.dst (.own (.aa e) (ah (.aa e)) [] (List.replicate n.toNat e.zero))) else none) else none
  | _=>none)=some x):o.wp P a w (λa' w'=>Nx P C K x a' w'/\Ext w w' (λ_ _=>0)) Q:=by
 obtain ⟨T,hT,hk⟩:=gr hk;have jx:=lY _ _ hT;split at hk
 ·rename_i e
  rcases f5 h bd.1 with hy | ⟨xs,e'⟩
  rotate_left
  ·rw[e'] at hk;cases hk
  obtain ⟨k1,n,hn,hk⟩:=ye hy hk
  rcases f5 h bd.2 with hz | ⟨xs,e'⟩
  rotate_left
  ·rw[e'] at hk;cases hk
  obtain ⟨k2,c,hc,hk⟩:=ye hz hk;split at hk
  ·rename_i IN;split at hk
   ·rename_i hb;obtain ⟨el,hu,ot,hle⟩:=vO jx;obtain ⟨inf,i1,i2,i3,i4⟩:=lG (mJ hle);obtain ⟨L,hL⟩:=wv e IN;obtain ⟨zv,z1,z2⟩:=i4 L hL;obtain ⟨r1,r2,r3⟩:=C7 (P:=P) (w:=w) (A:=A) e hL hle
    have act:(inf.bytes:Int)*c<=281474976710656:=by
     have h1:(inf.bytes:Int)<=512:=by omega
     have h2:(inf.bytes:Int)*c<=512*c:=Int.mul_le_mul_of_nonneg_right h1 Bys;grind [cg]
    have lm:=run_make (P:=P) w t el inf zv hu i1 z1 k1 k2 n c hb.1 hb.2.1 act (by grind [cg]);have hzs:zv.cells.size=e.sz:=by grind
    have hlen:List.length (List.replicate n.toNat e.zero)=n.toNat:=by simp
    refine pg (v:=.slice (some ⟨w.heap.size,0,none⟩) n.toNat c.toNat) (w':=w.alloc (.cells (madeCells zv.cells (c.toNat*inf.size)) el)) ?_ ?_
    ·grind [execOp,Sem.run_bind,Result.andThen_ok,Sem.run_pure]
    ·refine ⟨?_,qi w _⟩
     have Cc:=Il h (K:=K) (d:=o.dst) (v:=List.replicate n.toNat e.zero) (c:=madeCells zv.cells (c.toNat*inf.size)) (cap:=c.toNat) (el:=el) (fr:=(0,0)) (m:=ah e) (Fi:=λ_ _ _=>0) (.inr (aH _)) hk
      (by rw[size_madeCells,i2]) (by grind [cg,maxLen]) (by grind) (λb i=>by grind [nQ])
      (λi y hy=>by
       have hi:i < n.toNat:=by grind
       have hy:y=e.zero:=by grind
       subst hy;refine ⟨L,r3,λj u hu=>?_,r1⟩
       have hj:j < e.sz:=r3 ▸ (aM.1 hu).1
       have a7:i*e.sz+j < c.toNat*e.sz:=by
        have:(i+1)*e.sz<=c.toNat*e.sz:=bC _ Bys;grind
       grind [Nat.mul_comm,Nat.mul_add_mod,Nat.mod_eq_of_lt,madeCells])
     grind
   ·cases hk
  ·cases hk
 ·cases hk
theorem Pr (h:ee P C A σ a w F) (lY:∀ i T,E.TI i=some T->bj P T (.inl i)=true) {s t:Nat} {y:Operand} (ho:o.op=.convert s t y) (bd:dy P y=true) (GQ:∀ T,E.TI t=some T->T.flat=true) {K:St->Option R}
  (hk:EB E σ s t (d7 σ y) o.dst K=some x):Tk P o a w (Nx P C K x):=by
 unfold EB at hk;obtain ⟨S,hS,hk⟩:=gr hk;obtain ⟨T,hT,hk⟩:=gr hk;have BX:=lY _ _ hS;have Cd:=lY _ _ hT
 rcases f5 h bd with hs | ⟨xs,e⟩
 rotate_left
 ·grind [ua]
 split at hk
 ·rename_i k;split at hk
  ·rename_i k' n hv;rw[hv] at hs;have e:=BF hs;split at hk
   ·rename_i hSe;obtain ⟨dS,hd,_⟩:=Bk BX;refine ik (v:=.int k (k.wrap (qM k' n))) (λw' _=>?_) (cm h hk ⟨[_],rfl,by simp only[Ro,s9]⟩ (λ_ _ _ _ e=>by cases e));unfold execOp;simp only[ho,e,Sem.run_bind]
    have:(convert s t (.int k' (qM k' n))).run P w'=.ok (.int k (k.wrap (qM k' n))) w':=by
     unfold convert;simp only[Sem.run_bind,run_underlying hd,run_underlying (ru Cd),Result.andThen_ok];cases dS <;> rfl
    simp_all
   ·cases hk
  ·cases hk
 ·split at hk
  ·split at hk
   ·rename_i b hv;rw[hv] at hs;have e:=BE hs;refine ik (v:=.string ⟨List.toArray b⟩) (λw' _=>?_) (cm h hk ⟨[_],rfl,rfl⟩ (λ_ _ _ _ e=>by cases e));unfold execOp
    have:(convert s t (.string ⟨List.toArray b⟩)).run P w'=.ok (.string ⟨List.toArray b⟩) w':=by
     unfold convert;simp only[Sem.run_bind,run_underlying (nM BX),run_underlying (nM Cd),Result.andThen_ok];rfl
    simp_all
   ·cases hk
  ·obtain ⟨v,cs,hk,h1,h2⟩:=Td h hs hk;obtain ⟨el,hu,_,hle⟩:=vO BX;obtain ⟨xa,cap,q1,q2,q3,q4⟩:=h2;subst q1;rw[ef _ _ rfl] at h1;have v8:List UInt8:=v
   have lm:∀ w',uQ o w w'->(convert s t (a.eval y)).run P w'=.ok (.string ⟨List.toArray v⟩) w':=λw' t6=>by
    have t6:=t6 (by rw[ho];rfl);rw[h1]
    cases xa with
    | none=>
     have:v=[]:=cA (q3 rfl);subst this;exact run_convert_bytes_nil w' s el hu (ru hle) _ _ t (nM Cd)
    | some ad=>
     obtain ⟨g1,g2⟩:=q4 _ rfl;refine run_convert_bytes_back w' s t el _ cap v hu (ru hle) (nM Cd) λj hj=>?_;obtain ⟨L,l1,l2,l3⟩:=g2 j _ (aB hj);simp only[Ro] at l3;subst l3;have:=(l2 0 _ rfl).1;obtain ⟨b,off,sp⟩:=ad;have qB:=g1 Bys;simp only at qB;subst qB;rw[rF];simp only[Ty.sz,iZ,dY] at this;exact vN (t6.cell _ _ (yH this) rfl _ this) rfl
   refine ik (v:=.string ⟨List.toArray v⟩) (λw' t6=>?_) (cm h hk ⟨[_],rfl,rfl⟩ (λ_ _ _ _ e=>by cases e));grind [execOp,Sem.run_bind,Result.andThen_ok,Sem.run_pure]
  ·cases hk
 all_goals grind [Ty.flat]
theorem KK (h:ee P C A σ a w F) (lY:∀ i T,E.TI i=some T->bj P T (.inl i)=true) {s t:Nat} {y:Operand} (ho:o.op=.convert s t y) (bd:dy P y=true) (GQ:∀ T,E.TI t=some T->T.flat=true) (KL:(match d7 σ y with | .val (.int _) _=>true | .val .str _=>true | .val (.aa (.int .u8)) _=>true | _=>false)=true) {K:St->Option R}
  (hk:EB E σ s t (d7 σ y) o.dst K=some x) :
  ∃ v,(∀ w',(∀ b i,A b i->∀ u,ce w b i=some u->ce w' b i=some u)->(execOp a.eval o).run P w'=.ok (.value v) w')/\Nx P C K x (a.put o.dst v) w:=by
 unfold EB at hk;obtain ⟨S,hS,hk⟩:=gr hk;obtain ⟨T,hT,hk⟩:=gr hk;have BX:=lY _ _ hS;have Cd:=lY _ _ hT
 rcases f5 h bd with hs | ⟨xs,e⟩
 rotate_left
 ·grind
 split at hk
 ·rename_i k;split at hk
  ·rename_i k' n hv;rw[hv] at hs;have e:=BF hs;split at hk
   ·rename_i hSe;obtain ⟨dS,hd,_⟩:=Bk BX;refine ⟨.int k (k.wrap (qM k' n)),(λw' _=>?_),cm h hk ⟨[_],rfl,by simp only[Ro,s9]⟩ (λ_ _ _ _ e=>by cases e)⟩
    unfold execOp;simp only[ho,e,Sem.run_bind]
    have:(convert s t (.int k' (qM k' n))).run P w'=.ok (.int k (k.wrap (qM k' n))) w':=by
     unfold convert;simp only[Sem.run_bind,run_underlying hd,run_underlying (ru Cd),Result.andThen_ok];cases dS <;> rfl
    simp_all
   ·cases hk
  ·cases hk
 ·split at hk
  ·split at hk
   ·rename_i b hv;rw[hv] at hs;have e:=BE hs;refine ⟨.string ⟨List.toArray b⟩,(λw' _=>?_),cm h hk ⟨[_],rfl,rfl⟩ (λ_ _ _ _ e=>by cases e)⟩
    unfold execOp
    have:(convert s t (.string ⟨List.toArray b⟩)).run P w'=.ok (.string ⟨List.toArray b⟩) w':=by
     unfold convert;simp only[Sem.run_bind,run_underlying (nM BX),run_underlying (nM Cd),Result.andThen_ok];rfl
    simp_all
   ·cases hk
  ·have hop:∃ v',d7 σ y=.val (.aa (.int .u8)) v':=by
    grind [ua,kh]
   obtain ⟨v,hv⟩:=hop;rw[hv] at hs hk;simp only[ua] at hk;obtain ⟨_,hk⟩:=c7 hk;obtain ⟨cs,h1,h2⟩:=hs;obtain ⟨el,hu,_,hle⟩:=vO BX;obtain ⟨xa,cap,q1,q2,q3,q4⟩:=h2;subst q1;rw[ef _ _ rfl] at h1;have v8:List UInt8:=v
   have lm:∀ w',(∀ b i,A b i->∀ u,ce w b i=some u->ce w' b i=some u)->(convert s t (a.eval y)).run P w'=.ok (.string ⟨List.toArray v⟩) w':=λw' t6=>by
    rw[h1]
    cases xa with
    | none=>
     have:v=[]:=cA (q3 rfl);subst this;exact run_convert_bytes_nil w' s el hu (ru hle) _ _ t (nM Cd)
    | some ad=>
     obtain ⟨g1,g2⟩:=q4 _ rfl;refine run_convert_bytes_back w' s t el _ cap v hu (ru hle) (nM Cd) λj hj=>?_;obtain ⟨L,l1,l2,l3⟩:=g2 j _ (aB hj);simp only[Ro] at l3;subst l3;have An:=l2 0 _ rfl;obtain ⟨b,off,sp⟩:=ad;have qB:=g1 Bys;simp only at qB;subst qB;rw[rF];simp only[Ty.sz,iZ,dY] at An;exact vN (t6 _ _ An.2 _ An.1) rfl
   refine ⟨.string ⟨List.toArray v⟩,(λw' t6=>?_),cm h hk ⟨[_],rfl,rfl⟩ (λ_ _ _ _ e=>by cases e)⟩
   grind [execOp,Sem.run_bind,Result.andThen_ok,Sem.run_pure]
  ·cases hk
 all_goals grind [Ty.flat]
theorem RU (h:ee P C A σ a w F) (lY:∀ i T,E.TI i=some T->bj P T (.inl i)=true) {s t:Nat} {y:Operand} (ho:o.op=.convert s t y) (bd:dy P y=true) {K:St->Option R}
  (hk:EB E σ s t (d7 σ y) o.dst K=some x):o.wp P a w (λa' w'=>Nx P C K x a' w'/\Ext w w' (λ_ _=>0)) Q:=by
 unfold EB at hk;obtain ⟨S,hS,hk⟩:=gr hk;obtain ⟨T,hT,hk⟩:=gr hk;have BX:=lY _ _ hS;have Cd:=lY _ _ hT
 rcases f5 h bd with hs | ⟨xs,e⟩
 rotate_left
 ·grind [ua]
 split at hk
 ·rename_i k;split at hk
  ·rename_i k' n hv;rw[hv] at hs;have e:=BF hs;split at hk
   ·rename_i hSe;obtain ⟨dS,hd,_⟩:=Bk BX;refine pg (v:=.int k (k.wrap (qM k' n))) (w':=w) ?_ ⟨cm h hk ⟨[_],rfl,by simp only[Ro,s9]⟩ (λ_ _ _ _ e=>by cases e),Ext.refl _ _⟩;unfold execOp;simp only[ho,e,Sem.run_bind]
    have:(convert s t (.int k' (qM k' n))).run P w=.ok (.int k (k.wrap (qM k' n))) w:=by
     unfold convert;simp only[Sem.run_bind,run_underlying hd,run_underlying (ru Cd),Result.andThen_ok];cases dS <;> rfl
    simp_all
   ·cases hk
  ·cases hk
 ·split at hk
  ·split at hk
   ·rename_i b hv;rw[hv] at hs;have e:=BE hs;refine pg (v:=.string ⟨List.toArray b⟩) (w':=w) ?_ ⟨cm h hk ⟨[_],rfl,rfl⟩ (λ_ _ _ _ e=>by cases e),Ext.refl _ _⟩;unfold execOp
    have:(convert s t (.string ⟨List.toArray b⟩)).run P w=.ok (.string ⟨List.toArray b⟩) w:=by
     unfold convert;simp only[Sem.run_bind,run_underlying (nM BX),run_underlying (nM Cd),Result.andThen_ok];rfl
    simp_all
   ·cases hk
  ·obtain ⟨v,cs,hk,h1,h2⟩:=Td h hs hk;obtain ⟨el,hu,_,hle⟩:=vO BX;obtain ⟨xa,cap,q1,q2,q3,q4⟩:=h2;subst q1;rw[ef _ _ rfl] at h1;have v8:List UInt8:=v
   have lm:(convert s t (a.eval y)).run P w=.ok (.string ⟨List.toArray v⟩) w:=by
    rw[h1]
    cases xa with
    | none=>
     have:v=[]:=cA (q3 rfl);subst this;exact run_convert_bytes_nil w s el hu (ru hle) _ _ t (nM Cd)
    | some ad=>
     obtain ⟨g1,g2⟩:=q4 _ rfl;refine run_convert_bytes_back w s t el _ cap v hu (ru hle) (nM Cd) λj hj=>?_;obtain ⟨L,l1,l2,l3⟩:=g2 j _ (aB hj);simp only[Ro] at l3;subst l3;have:=(l2 0 _ rfl).1;obtain ⟨b,off,sp⟩:=ad;have qB:=g1 Bys;simp only at qB;subst qB;rw[rF];simp only[Ty.sz,iZ,dY] at this;exact vN (this) rfl
   refine pg (v:=.string ⟨List.toArray v⟩) (w':=w) ?_ ⟨cm h hk ⟨[_],rfl,rfl⟩ (λ_ _ _ _ e=>by cases e),Ext.refl _ _⟩;grind [execOp,Sem.run_bind,Result.andThen_ok,Sem.run_pure]
  ·cases hk
 ·split at hk
  ·rename_i b hv;rw[hv] at hs;have e:=BE hs;split at hk
   ·rename_i hSe;rw[hSe] at BX;split at hk;rotate_left
    ·cases hk
    rename_i pL;obtain ⟨el,hu,_,hle⟩:=vO Cd;have lm:=run_bytes_of_string (P:=P) w s t el ⟨List.toArray b⟩ (nM BX) hu (ru hle);have hlen:(⟨List.toArray b⟩:ByteArray).size=List.length b:=rfl;have hge:=grownCap_ge w (List.length b) 0 el;have Pb:=grownCap_le_maxLen w (List.length b) 0 el (by grind [cg,maxLen]);rw[hlen] at lm
    have ot:(bytesRow ⟨List.toArray b⟩ (grownCap w (List.length b) 0 el)).size=grownCap w (List.length b) 0 el:=by
     grind [bytesRow]
    refine pg ?_ ⟨Il (h.drew) (K:=K) (d:=o.dst) (e:=.int .u8) (v:=b) (m:=.leaf) (Fi:=λ_ _ _=>0) (cap:=grownCap w (List.length b) 0 el) (el:=el) (fr:=((bytesRow ⟨List.toArray b⟩ (grownCap w (List.length b) 0 el)).size,(bytesRow ⟨List.toArray b⟩ (grownCap w (List.length b) 0 el)).size+1)) (c:=bytesRow ⟨List.toArray b⟩ (grownCap w (List.length b) 0 el)) (.inl ⟨rfl,aH _⟩) hk
     (by grind [Ty.sz]) Pb hge (λb i=>by grind [nQ]) (λi y hy=>?_),(Jz w).trans (qi w.drew _) (λ_ _ _ _=>rfl)⟩
    ·simp_all [execOp]
    ·have hi:=(aM.1 hy).1;have hb:=bytesRow_at ⟨List.toArray b⟩ (grownCap w (List.length b) 0 el) i (by simpa using hi);refine ⟨[.int .u8 (UInt8.toNat y)],rfl,λj u hu=>?_,rfl⟩
     grind [Ty.sz]
   ·cases hk
  ·cases hk
 ·cases hk
end
end OT
namespace OT
open Go
section
variable {P:Program} {C:Ctx} {A:Cells} {X:FP} {σ:St} {a:Act} {w:World} {F:Nat->FP} {R:Type} {x:R} {Q:Exit->Act->World->Prop} {o:Oper} {E:Env}
theorem Ps (h:ee P C A σ a w F) {i j:Nat} (ho:o.op=.extract (.tmp i) j) {K:St->Option R}
  (hk:(match σ.get i with
   | .sR xs=>match xs[j]? with
    | some x=>if x.t=.unit then none else K ((σ.put i (.sR (xs.set j ⟨.unit,.leaf,()⟩))).cb o.dst (laid x.t x.m x.v))
    | none=>none
   | _=>none)=some x):Tk P o a w (Nx P C K x):=by
 split at hk
 ·rename_i xs hg;split at hk
  ·rename_i y hy;split at hk
   ·cases hk
   ·rename_i hnu
    have hi:i < σ.n:=by
     grind [mQ]
    have hs:=h.i9 i hi;rw[hg] at hs;obtain ⟨vs,Fi,h1,h2,h3⟩:=hs;obtain ⟨v,h4,h5⟩:=h3 j y hy
    rcases h5 with h5 | ⟨cs,h6,h7⟩
    ·grind
    have hj:=(aM.1 hy).1
    have B7:=h.put hi (s:=.sR (xs.set j ⟨.unit,.leaf,()⟩)) (v:=tmp a i) (Fd:=bf xs.length (gf Fi j λ_ _=>0)) (X':=Fi j)
     ⟨vs,gf Fi j λ_ _=>0,h1,λb k=>by grind,λk y' IH=>by
      rw[eZ] at IH;split at IH
      ·rename_i e;subst e;injection IH with IH;subst IH;exact ⟨v,h4,.inl rfl⟩
      grind [gf]⟩
     (λb k=>by grind [uO]) (λt m H v e=>by cases e)
    rw[sx] at B7;refine ik (v:=v) ?_ ?_
    ·unfold execOp;have e:a.eval (.tmp i)=.tuple vs:=h1;simp_all [Instr.extract]
    grind [B8]
  ·cases hk
 ·cases hk
theorem Rel.aee (h:Rel P C A X σ a w F) {d n:Nat} (hd:∀ R,d8 w (tmp a d) (σ.get d)=some R->c_ R.t R.cs=C.args.getD n undef):Rel P C A X { σ with ay:=(d,n,true)::σ.ay } a w F:=by
 have oH:zx σ a w { σ with ay:=(d,n,true)::σ.ay } a w:=λr p snap hb=>⟨hb,λbd=>⟨bd,λhl pl gy=>⟨pl.H,pl.cs,gy,λ_=>rfl⟩⟩⟩
 refine ⟨h.size,h.defers,λi hi=>db.nK oH (λ_ _ h=>h) (λ_ _ _ _ h=>h) (λ_ _ h=>h) (λ_ _ _=>⟨λ_ h=>h,rfl⟩) (h.i9 i hi),λd r p snap hm=>sw.nK oH (h.gh d r p snap hm),h.qg,h.rf,h.ll,h.mH,h.ext,h.own,h.a0,h.a1,λj k hm=>?_,λr t m H v hg hl=>h.whole r t m H v hg λk hm=>hl k (aX _ hm),λj k hm R hR=>?_,h.yz⟩
 ·rcases bB.1 hm with e | hm
  ·grind
  ·exact h.pv j k hm
 ·rcases bB.1 hm with e | hm
  ·injection e with e1 e2;injection e2 with e2 e3;subst e1;subst e2;exact hd R hR
  ·exact h.ou j k hm R hR
theorem US {l:List (Nat×Nat×Bool)} {i n:Nat} (h:Ko l i=some n):(i,n,true) ∈ l:=by
 induction l <;> grind [Ko,Nat.beq_eq]
theorem abg (h:ee P C A σ a w F) {t:Nat} {y:Operand} (ho:o.op=.box t y) (bd:dy P y=true) {mv:Bool} {K:St->Option R}
  (hk:(q9 E t λt=>nJ σ (d7 σ y) mv t λm v σ'=>K (O4 σ y o.dst (σ'.cb o.dst (.box t m [] v))))=some x):o.wp P a w (λa' w'=>Nx P C K x a' w'/\Ext w w' (λ_ _=>0)) Q:=by
 obtain ⟨T,hT,hk⟩:=gr hk
 rcases f5 h bd with hs | ⟨xs,e⟩
 rotate_left
 ·grind [nJ]
 have hk0:=hk;obtain ⟨A',σ',F',m,v,cs,Fv,k1,k2,k3,k4,kr,k5,k6⟩:=vD h hs hk;have hl:=an.length _ k6;have pH:=an.one _ k6;have hcv:(c_ T cs).cells=cs.toArray:=by grind [lX]
 obtain ⟨A2,F2,hF⟩:=Tl k3 (K:=λs=>some s) (x:=σ'.cb o.dst (.box T m [] v)) (d:=o.dst) t rfl k6 (λb i=>by omega);refine pg (v:=.pointer (some ⟨w.heap.size,0,none⟩)) (w':=w.alloc (.cells cs.toArray t)) ?_ ?_
 ·simp_all [execOp,Instr.box,newVar,newRow]
 ·refine ⟨⟨_,k1,A2,F2,?_⟩,qi w _⟩
  clear hk;unfold O4;split
  ·rename_i i d hd;split
   ·rename_i t0 m0 H0 v0 hg;split
    ·rename_i n hn;rw[hd] at hF ⊢;refine Rel.aee hF λR hR=>?_;have mz:=h.ou i n (US hn) ⟨t0,H0,(tmp a i).cells.toList,none⟩ (by rw[hg];rfl);have lY:tmp a i=c_ T cs:=k5
     have IP:t0=T:=by
      simp only[d7,hg] at hk0;grind [nJ,qA,yq,o3,c7]
     subst IP;simp only[lY,lX hl pH] at mz;simp only[St.cb,zy] at hR;split at hR
     ·rename_i hc
      have htd:tmp (a.put (some d) (.pointer (some ⟨w.heap.size,0,none⟩))) d=.pointer (some ⟨w.heap.size,0,none⟩):=by
       rw[pe,aG ⟨rfl,by rw[h.size,<- k4];exact hc.2⟩]
      rw[htd] at hR;simp only[d8,aP] at hR;subst hR;have hh:=C_ w cs.toArray t (0,0) (k:=0) (L:=cs) (λj u hu=>by simpa using hu) pH;grind [fe]
     ·rename_i hc
      have hge:σ'.n<=d:=by
       grind
      rw[mQ (fU.2 hge)] at hR;cases hR
    ·exact hF
   ·exact hF
  ·exact hF
end
end OT
namespace OT
open Go
section
variable {P:Program} {C:Ctx} {A:Cells} {X:FP} {σ:St} {a:Act} {w:World} {F:Nat->FP} {R:Type} {x:R} {Q:Exit->Act->World->Prop} {o:Oper} {E:Env}
theorem Rel.giveUp (h:Rel P C A X σ a w F) {A1:Cells} {X1:FP} (hA:∀ b i,A b i->A1 b i) (IL:∀ b i,A1 b i->A b i\/(1<=X b i/\X1 b i=0)) (hX:∀ b i,X1 b i<=X b i):Rel P C A1 X1 σ a w F:=by
 have oH:zx σ a w σ a w:=λr p snap hb=>⟨hb,λbd=>⟨bd,λhl pl gy=>⟨pl.H,pl.cs,gy,λ_=>rfl⟩⟩⟩
 refine ⟨h.size,h.defers,λi hi=>db.nK oH hA (λ_ _ _ _ h=>h) (λ_ _ h=>h) (λ_ _ _=>⟨λ_ h=>h,rfl⟩) (h.i9 i hi),h.gh,λb i=>by have:=h.qg b i;grind,
  λb i hp ha=>?_,λb i hp=>?_,h.mH,h.ext,λb i hp=>h.own b i (by grind),λb i ha=>hA b i (h.a0 b i ha),λb i ha=>?_,h.pv,h.whole,h.ou,h.yz⟩
 ·rcases IL b i ha with ha | ha
  ·exact h.rf b i (by grind) ha
  ·have:=h.qg b i;omega
 ·rcases hp with hp | ha
  ·exact h.ll b i (.inl (by grind))
  ·rcases IL b i ha with ha | ha
   ·exact h.ll b i (.inr ha)
   ·exact h.ll b i (.inl Bys)
 ·rcases IL b i ha with ha | ha
  ·exact h.a1 b i ha
  ·exact .inr (h.own b i Bys)
theorem Xa {off:Nat} {l cs:List Value} (h:off+l.length<=cs.length) :
  ((l.toArray.zipIdx).foldl (λcs (x:Value×Nat)=>cs.setIfInBounds (off+x.2) x.1) cs.toArray)=(cs.take off++l++cs.drop (off+l.length)).toArray:=by
 obtain ⟨h1,h2⟩:=Great.foldl_set off l 0 cs.toArray;have e:(l.toArray.zipIdx).foldl (λcs (x:Value×Nat)=>cs.setIfInBounds (off+x.2) x.1) cs.toArray=(l.zipIdx 0).foldl (λcs (x:Value×Nat)=>cs.setIfInBounds (off+x.2) x.1) cs.toArray:=by simp
 rw[e];apply Array.ext_getElem?;grind
theorem GS {pl:Nat->Option (Nat×Nat)} {j off sz:Nat} (hp:pl j=some (off,sz)) {t:Ty} {l cs:List Value} (hl:l.length=sz) (h1:(c_ t l).cells.toList=l) (h:off+sz<=cs.length) (rest:List (Nat×Value)) :
  Instr.fill pl cs.toArray ((j,c_ t l)::rest)=Instr.fill pl (cs.take off++l++cs.drop (off+sz)).toArray rest:=by
 have hc:(c_ t l).cells=l.toArray:=Array.ext' (by simpa using h1);grind [Instr.fill,Xa]
theorem Xb:∀ (n:Nat) (t:Ty) {t':Ty} {m m':Md} {v:t.den} {y:t'.den} {cs ys:List Value} {G H:FP} {K:Md->t.den->Option R},an P w A t m [] v cs G->an P w A t' m' [] y ys H ->
  Gu n t m v t' m' y K=some x->∃ m2 v2,K m2 v2=some x/\an P w A t m2 [] v2 (cs.take (kR n t)++ys++cs.drop (kR n t+t'.sz)) (λb i=>G b i+H b i)/\kR n t+t'.sz<=cs.length:=by
 intro n
 induction n with
 | zero=>
  intro t t' m m' v y cs ys G H K hr hy hk
  cases t with
  | pair a b=>
   simp only[Gu] at hk;obtain ⟨e,hk⟩:=c7 hk;subst e;have hl:=an.length _ hr;have hly:=an.length _ hy;obtain ⟨h0,F1,F2,hs,h1,h2⟩:=hr;refine ⟨_,_,hk,⟨rfl,H,F2,λb i=>by grind,?_,?_⟩,?_⟩
   all_goals simp_all [kR,Md.l,Md.r,Ty.sz]
  | _=>cases hk
 | succ n ih=>
  intro t t' m m' v y cs ys G H K hr hy hk
  cases t with
  | pair a b=>
   simp only[Gu] at hk;have hl:=an.length _ hr;obtain ⟨h0,F1,F2,hs,h1,h2⟩:=hr;obtain ⟨m2,v2,k1,k2,k3⟩:=ih b h2 hy hk;simp only[bU] at k3;simp only[Ty.sz] at hl;refine ⟨_,_,k1,⟨rfl,F1,λb i=>F2 b i+H b i,λb i=>by grind,?_,?_⟩,?_⟩
   ·simp only[kR,eF,Md.l]
    have:(cs.take (a.sz+kR n b)++ys++cs.drop (a.sz+kR n b+t'.sz)).take a.sz=cs.take a.sz:=by
     simp_all [gM,fB]
    rw[this];exact h1
   ·simp only[kR,eF,Md.r]
    have:(cs.take (a.sz+kR n b)++ys++cs.drop (a.sz+kR n b+t'.sz)).drop a.sz=(cs.drop a.sz).take (kR n b)++ys++(cs.drop a.sz).drop (kR n b+t'.sz):=by
     rw[bT,gN (by simp;omega),fA,dD,bT];rw[show a.sz+kR n b - a.sz=kR n b by omega,show a.sz+(kR n b+t'.sz)=a.sz+kR n b+t'.sz by omega]
    grind
   ·simp only[kR];omega
  | _=>cases hk
theorem Pt {α β:Type} (g:α->Option β):∀ (l:List α) (ps:List β),l.mapM g=some ps->∀ (j:Nat) (f:α),l[j]?=some f->ps[j]?=g f
 | [],ps,h,j,f,hf=>by cases hf
 | y::l,ps,h,j,f,hf=>by
  simp only[List.mapM_cons,Option.bind_eq_bind,Option.pure_def] at h
  cases hy:g y with
  | none=>simp[hy] at h
  | some z=>
   cases hr:l.mapM g with
   | none=>grind
   | some r=>
    simp only[hy,hr,aA,aP] at h;subst h
    cases j with
    | zero=>grind
    | succ j=>exact Pt g l r hr j f hf
theorem UT:∀ (t:Ty) {fs:List Field} {off:Nat},bj P t (.inr (fs,off))=true->∃ ps,fs.mapM (λf=>(P.info? f.type).map λi=>(f.offset,i.size))=some ps:=by
 intro t
 induction t with
 | unit=>
  simp_all [bj]
 | pair a b nL nw=>
  intro fs off h
  cases fs with
  | nil=>simp_all
  | cons f r=>
   simp only[bj,aD] at h;obtain ⟨ps,yJ⟩:=nw h.2;obtain ⟨inf,hi,_⟩:=lG (mJ h.1.2);grind
 | _=>grind [bj]
theorem Og {T:Ty} {i:TypeId} (hl:bj P T (.inl i)=true) {j:Nat} {t':Ty} (hj:v7 j T=some t') :
  ∃ fs ps,P.underlying i=some (.struct fs)/\fs.toList.mapM (λf=>(P.info? f.type).map λi=>(f.offset,i.size))=some ps/\∀ j t',v7 j T=some t'->ps.toArray[j]?=some (kR j T,t'.sz):=by
 cases T with
 | pair a b=>
  have hl0:=hl;simp only[bj,aD] at hl;have h2:=hl.2;split at h2
  ·rename_i fs hu;split at h2
   ·rename_i f r KG
    have h3:bj P (.pair a b) (.inr (f::r,0))=true:=by
     grind [bj]
    obtain ⟨ps,yJ⟩:=UT _ h3;refine ⟨fs,ps,hu,by grind,λj t' hj=>?_⟩
    obtain ⟨f',q1,q2,q3,q4⟩:=Tg j (.pair a b) h3 hj;have:=Pt _ _ _ yJ j f' q1;obtain ⟨inf,hi,hs,_⟩:=lG (mJ q3);grind
   ·cases h2
  ·cases h2
 | _=>cases j <;> cases hj
theorem Xc {T:Ty} {fz:Nat->Bool} {pl:Nat->Option (Nat×Nat)} (gy:∀ j t',v7 j T=some t'->pl j=some (kR j T,t'.sz)) {K:Md->T.den->St->Option R} :
  ∀ (ps:List (Nat×Operand)) {n:Nat} {σ:St} {A:Cells} {X:FP} {F:Nat->FP} {m:Md} {v:T.den} {cs:List Value},ps.all (λp=>dy P p.2)=true->Rel P C A X σ a w F->an P w A T m [] v cs X ->
   Gv E σ T fz ps n m v K=some x->∃ A' σ' F' m' v' ca X',K m' v' σ'=some x/\Rel P C A' X' σ' a w F'/\an P w A' T m' [] v' ca X'/\Instr.fill pl cs.toArray (ps.map λp=>(p.1,a.eval p.2))=some ca.toArray:=by
 intro ps
 induction ps with
 | nil=>intro n σ A X F m v cs bd h hr hk;exact ⟨A,σ,F,m,v,cs,X,hk,h,hr,rfl⟩
 | cons p ps ih=>
  intro n σ A X F m v cs bd h hr hk;obtain ⟨j,y⟩:=p;simp only[eI,aD] at bd;simp only[Gv] at hk;split at hk
  ·rename_i t' B_
   rcases f5 h bd.1 with hs | ⟨xs,e⟩
   rotate_left
   ·grind [nJ]
   obtain ⟨A1,qC,F1,m1,v1,rx,Fv,k1,k2,k3,k4,kr,k5,k6⟩:=vD h hs hk;have xv:=an.mono (P:=P) (A':=A1) k2 (λ_ _ _ _ h=>h) (λ_ _ h=>h) T hr (λ_ _=>aH _) (λ_ _ _ _ h=>h);obtain ⟨m2,v2,q1,q2,q3⟩:=Xb j T xv k6 k1;obtain ⟨A',σ',F',m',v',ca,X',g1,g2,g3,g4⟩:=ih bd.2 k3 q2 q1;refine ⟨A',σ',F',m',v',ca,X',g1,g2,g3,?_⟩
   rw[dX,k5,GS (gy j t' B_) (an.length _ k6) (lX (an.length _ k6) (an.one _ k6)) q3];exact g4
  ·cases hk
theorem abh {n j:Nat} {e:Ty} {v:List e.den} {y:e.den} {cs ys:List Value} (h:Ro P w A (.arr n e) v cs) (hy:Ro P w A e y ys) (hj:j < v.length) :
  Ro P w A (.arr n e) (v.set j y) (cs.take (j*e.sz)++ys++cs.drop (j*e.sz+e.sz))/\j*e.sz+e.sz<=cs.length:=by
 obtain ⟨h1,h2,h3,h4⟩:=h;have hly:=Ro.length _ hy
 have hle:j*e.sz+e.sz<=cs.length:=by
  rw[h3,<- eR];exact bC _ Bys
 refine ⟨⟨h1,by simpa using h2,by grind,λi z hz=>?_⟩,hle⟩
 rw[eZ] at hz;split at hz
 ·grind
 ·rename_i je;have h5:=h4 i z hz
  have:((cs.take (j*e.sz)++ys++cs.drop (j*e.sz+e.sz)).drop (i*e.sz)).take e.sz=(cs.drop (i*e.sz)).take e.sz:=by
   rcases cR i j with qN | qN
   ·have h6:i*e.sz+e.sz<=j*e.sz:=by rw[<-eR];exact bC _ Bys
    grind [List.drop_take]
   ·have h6:j*e.sz+e.sz<=i*e.sz:=by rw[<-eR];exact bC _ Bys
    have h7:(cs.take (j*e.sz)++ys).length=j*e.sz+e.sz:=by grind
    rw[List.drop_append,h7,fE Bys,cK,dD];congr 2;omega
  grind
theorem abi {n0:Nat} {e:Ty} {fz:Nat->Bool} (hf:e.flat=true) {K:List e.den->St->Option R} :
  ∀ (ps:List (Nat×Operand)) {n:Nat} {σ:St} {A:Cells} {F:Nat->FP} {v:List e.den} {cs:List Value},ps.all (λp=>dy P p.2)=true->ee P C A σ a w F->Ro P w A (.arr n0 e) v cs ->
   O0 σ e fz ps n v K=some x->∃ A' σ' F' v' ca,K v' σ'=some x/\ee P C A' σ' a w F'/\Ro P w A' (.arr n0 e) v' ca/\Instr.fill (λi=>some (i*e.sz,e.sz)) cs.toArray (ps.map λp=>(p.1,a.eval p.2))=some ca.toArray:=by
 intro ps
 induction ps with
 | nil=>intro n σ A F v cs bd h hr hk;exact ⟨A,σ,F,v,cs,hk,h,hr,rfl⟩
 | cons p ps ih=>
  intro n σ A F v cs bd h hr hk;obtain ⟨j,y⟩:=p;simp only[eI,aD] at bd;simp only[O0] at hk
  rcases f5 h bd.1 with hs | ⟨xs,e⟩
  rotate_left
  ·grind [nJ]
  obtain ⟨A1,qC,F1,m1,v1,rx,Fv,k1,k2,k3,k4,kr,k5,k6⟩:=vD h hs hk;split at k1
  ·rename_i hj;have xv:Ro P w A1 (.arr n0 e) v cs:=Ro.mono (λ_ _ _ _ h=>h) k2 _ hr;obtain ⟨q1,q2⟩:=abh xv (an.flat _ hf k6) hj;obtain ⟨A',σ',F',v',ca,g1,g2,g3,g4⟩:=ih bd.2 (k3.less (X':=λ_ _=>0) λ_ _=>aW _) q1 k1;refine ⟨A',σ',F',v',ca,g1,g2,g3,?_⟩
   rw[dX,k5,GS (pl:=λi=>some (i*e.sz,e.sz)) rfl (an.length _ k6) (lX (an.length _ k6) (an.one _ k6)) q2];exact g4
  ·cases k1
theorem UU (h:ee P C A σ a w F) (lY:∀ i T,E.TI i=some T->bj P T (.inl i)=true) {t:Nat} {ps:Array (Nat×Operand)} {fz:Nat->Bool} (ho:o.op=.build t ps) (bd:ps.toList.all (λp=>dy P p.2)=true) {K:St->Option R}
  (hk:(q9 E t λt=>match t with
  | .arr n e=>if e.xj then O0 σ e fz ps.toList 0 (Ty.arr n e).zero λv σ=>K (σ.cb o.dst (laid (.arr n e) (ah (.arr n e)) v)) else none
  | .pair t1 t2=>if (Ty.pair t1 t2).xj then Gv E σ (.pair t1 t2) fz ps.toList 0 (ah (.pair t1 t2)) (Ty.pair t1 t2).zero λm v σ=>K (σ.cb o.dst (laid (.pair t1 t2) m v)) else none
  | _=>none)=some x):Tk P o a w (Nx P C K x):=by
 obtain ⟨T,hT,hk⟩:=gr hk;have jx:=lY _ _ hT
 have run:∀ (cells:Array Value),P.built t (ps.map λ(i,x)=>(i,a.eval x)).toList=some cells->∀ w',uQ o w w'->(execOp a.eval o).run P w'=.ok (.value (.agg cells)) w':=λcells hc w' _=>by
  simp_all [execOp,run_build]
 have yJ:(ps.map λ(i,x)=>(i,a.eval x)).toList=ps.toList.map λp=>(p.1,a.eval p.2):=by simp
 rw[yJ] at run;split at hk
 ·rename_i n e;split at hk
  ·rename_i hz
   have EP:e.flat=true:=by
    grind [bj]
   obtain ⟨L,hL⟩:=wv (.arr n e) (by simpa [Ty.xj] using hz);obtain ⟨r1,r2,r3⟩:=C7 (P:=P) (w:=w) (A:=A) _ hL jx;obtain ⟨inf,i1,i2,i3,i4⟩:=lG (mJ jx);obtain ⟨z,z1,z2⟩:=i4 L hL;obtain ⟨A',σ',F',v',ca,g1,g2,g3,g4⟩:=abi EP ps.toList bd h r2 hk
   have hu:∃ el ie,P.underlying t=some (.array n el)/\P.info? el=some ie/\ie.size=e.sz:=by
    have hl:=jx;simp only[bj,aD] at hl;have h2:=hl.2;split at h2
    ·rename_i n' el hu;simp only[aD,eU] at h2;obtain ⟨ie,j1,j2,_⟩:=lG (mJ h2.2);grind
    ·cases h2
   obtain ⟨el,ie,u1,u2,u3⟩:=hu;have hz':z.cells=L.toArray:=Array.ext' (by simpa using z2);have e1:c_ (.arr n e) ca=.agg ca.toArray:=rfl;refine ik (v:=c_ (.arr n e) ca) (run _ ?_) ?_
   ·grind [Program.built]
   ·exact B8 g2 g1 (Ro.flat _ (λ_ _=>0) (by grind [Ty.flat]) g3) (λ_ _=>aH _)
  ·cases hk
 ·rename_i t1 t2;split at hk
  ·rename_i hz;obtain ⟨L,hL⟩:=wv (.pair t1 t2) hz;obtain ⟨r1,r2,r3⟩:=C7 (P:=P) (w:=w) (A:=A) _ hL jx;obtain ⟨inf,i1,i2,i3,i4⟩:=lG (mJ jx);obtain ⟨z,z1,z2⟩:=i4 L hL;have hz':z.cells=L.toArray:=Array.ext' (by simpa using z2);obtain ⟨fs,pls,u1,u2,u3⟩:=Og jx (j:=0) rfl;obtain ⟨A',σ',F',m',v',ca,X',g1,g2,g3,g4⟩:=Xc (pl:=λj=>pls.toArray[j]?) u3 ps.toList bd h r1 hk;refine ik (v:=c_ (.pair t1 t2) ca) (run _ ?_) (B8 g2 g1 g3 (λ_ _=>aH _));grind [Program.built]
  ·cases hk
 ·cases hk
theorem abj {e:Ty} {fz:Nat->Bool} (ot:1<=e.sz) {K:Md->List e.den->St->Option R} :
  ∀ (ps:List (Nat×Operand)) {n:Nat} {σ:St} {A:Cells} {X:FP} {F:Nat->FP} {m:Md} {v:List e.den} {L Z:List Value} {Fi:Nat->FP},ps.all (λp=>dy P p.2)=true->Rel P C A X σ a w F ->
   List.length v=n->L.length=n*e.sz->Z.length=ps.length*e.sz->(∀ b i,bf n Fi b i<=X b i)->(∀ (i:Nat) (y:e.den),v[i]?=some y->an P w A e m [] y ((L.drop (i*e.sz)).take e.sz) (Fi i)) ->
   Jq σ e fz ps n m v K=some x->∃ (A':Cells) (σ':St) (F':Nat->FP) (m':Md) (v':List e.den) (L':List Value) (X':FP) (KM:Nat->FP),K m' v' σ'=some x/\Rel P C A' X' σ' a w F'/\List.length v'=n+ps.length/\L'.length=(n+ps.length)*e.sz/\(∀ b i,bf (n+ps.length) KM b i<=X' b i) /\
    (∀ (i:Nat) (y:e.den),v'[i]?=some y->an P w A' e m' [] y ((L'.drop (i*e.sz)).take e.sz) (KM i))/\Instr.fill (λi=>some (i*e.sz,e.sz)) (L++Z).toArray (ps.map λp=>(p.1,a.eval p.2))=some L'.toArray:=by
 intro ps
 induction ps with
 | nil=>
  intro n σ A X F m v L Z Fi bd h hv hL hZ hX hr hk;have:Z=[]:=by simpa using hZ
  subst this;exact ⟨A,σ,F,m,v,L,X,Fi,hk,h,hv,hL,hX,hr,by simp[Instr.fill]⟩
 | cons p ps ih=>
  intro n σ A X F m v L Z Fi bd h hv hL hZ hX hr hk;obtain ⟨j,y⟩:=p;simp only[eI,aD] at bd;simp only[Jq] at hk;split at hk
  ·rename_i hj;have hj:j=n:=by simpa using hj
   subst hj
   rcases f5 h bd.1 with hs | ⟨xs,e⟩
   rotate_left
   ·grind [nJ]
   obtain ⟨A1,qC,F1,m1,v1,rx,Fv,k1,k2,k3,k4,kr,k5,k6⟩:=vD h hs hk;have Bc:=an.length _ k6;have hZ1:Z.length=e.sz+ps.length*e.sz:=by grind
   have hgo:∀ {A2:Cells} {X2:FP} {m2:Md} {Pu:Nat->FP},Rel P C A2 X2 qC a w F1->(∀ b i,bf (j+1) Pu b i<=X2 b i)->(∀ (i:Nat) (y:e.den),v[i]?=some y->an P w A2 e m2 [] y ((L.drop (i*e.sz)).take e.sz) (Pu i)) ->
     an P w A2 e m2 [] v1 rx (Pu j)->Jq qC e fz ps (j+1) m2 (v++[v1]) K=some x ->
     ∃ (A':Cells) (σ':St) (F':Nat->FP) (m':Md) (v':List e.den) (L':List Value) (X':FP) (KM:Nat->FP),K m' v' σ'=some x/\Rel P C A' X' σ' a w F'/\List.length v'=j+(ps.length+1)/\L'.length=(j+(ps.length+1))*e.sz/\(∀ b i,bf (j+(ps.length+1)) KM b i<=X' b i) /\
      (∀ (i:Nat) (y:e.den),v'[i]?=some y->an P w A' e m' [] y ((L'.drop (i*e.sz)).take e.sz) (KM i))/\Instr.fill (λi=>some (i*e.sz,e.sz)) (L++Z).toArray ((j,a.eval y)::ps.map λp=>(p.1,a.eval p.2))=some L'.toArray:=by
    intro A2 X2 m2 Pu h2 hX2 wm Tm mY
    obtain ⟨A',σ',F',m',v',L',X',KM,g1,g2,g3,g4,g5,g6,g7⟩:=ih (L:=L++rx) (Z:=Z.drop e.sz) (Fi:=Pu) bd.2 h2 (by simp[hv]) (by grind) (by simp[hZ1]) hX2 (λi z hz=>by
     by_cases hi:i=j
     ·grind
     ·have a7:i < j:=by
       grind
      rw[cZ Bys] at hz;have h6:i*e.sz+e.sz<=j*e.sz:=by rw[<-eR];exact bC _ Bys
      grind) mY
    refine ⟨A',σ',F',m',v',L',X',KM,g1,g2,by omega,by grind,λb i=>by grind,g6,?_⟩
    rw[k5,GS (pl:=λi=>some (i*e.sz,e.sz)) rfl Bc (lX Bc (an.one _ k6)) (by simp[hL,hZ1])];grind [List.drop_append,List.drop_of_length_le,Nat.add_sub_cancel_left]
   have xv:∀ (i:Nat) (y:e.den),v[i]?=some y->an P w A1 e m [] y ((L.drop (i*e.sz)).take e.sz) (Fi i):=λi y hy=>an.mono (P:=P) (A':=A1) k2 (λ_ _ _ _ h=>h) (λ_ _ h=>h) e (hr i y hy) (λ_ _=>aH _) (λ_ _ _ _ h=>h);split at k1
   ·rename_i hm;subst hm;refine hgo (Pu:=gf Fi j Fv) k3 (λb i=>?_) (λi y hy=>?_) (by grind [gf]) k1
    ·have h1:=wj j 1 (gf Fi j Fv) b i;have h2:bf j (gf Fi j Fv) b i=bf j Fi b i:=by rw[O9 Fi (aH j)]
     have h3:bf 1 (λk=>gf Fi j Fv (j+k)) b i=Fv b i:=by simp[bf,gf]
     grind
    grind [gf]
   ·
    have yG:∃ A2:Cells,(∀ b i,A1 b i->A2 b i)/\Rel P C A2 (λ_ _=>0) qC a w F1/\Ro P w A2 e v1 rx/\∀ (i:Nat) (y:e.den),v[i]?=some y->Ro P w A2 e y ((L.drop (i*e.sz)).take e.sz):=by
     refine ⟨λb i=>A1 b i\/1<=X b i+Fv b i,λ_ _ h=>.inl h,k3.giveUp (λ_ _ h=>.inl h) (λb i ha=>ha.imp id λhp=>⟨hp,rfl⟩) (λ_ _=>aW _),an.yw (λ_ _ h=>.inl h) e k6 (λb i hp=>.inr Bys),λi y hy=>?_⟩
     grind [an.yw,dj]
    obtain ⟨A2,a1,a2,a3,a4⟩:=yG;exact hgo (Pu:=λ_ _ _=>0) a2 (λb i=>by grind [nQ]) (λi y hy=>Ro.rep _ _ (it _) (a4 i y hy)) (Ro.rep _ _ (it _) a3) k1
  ·cases hk
theorem Mp (h:ee P C A σ a w F) (lY:∀ i T,E.TI i=some T->bj P T (.inl i)=true) {t n:Nat} {ps:Array (Nat×Operand)} {fz:Nat->Bool} (ho:o.op=.buildSlice t n ps) (bd:ps.toList.all (λp=>dy P p.2)=true) {K:St->Option R}
  (hk:(q9 E t λt=>match t with
  | .aa e=>if Nat.beq n ps.size&&e.xj&&Nat.ble (n*e.sz) 16777216 then Jq σ e fz ps.toList 0 (ah e) [] λm v σ=>K (σ.cb o.dst (.own (.aa e) (.aa true m) [] v)) else none
  | _=>none)=some x):o.wp P a w (λa' w'=>Nx P C K x a' w'/\Ext w w' (λ_ _=>0)) Q:=by
 obtain ⟨T,hT,hk⟩:=gr hk;have jx:=lY _ _ hT;split at hk
 ·rename_i e;split at hk
  ·rename_i hc;simp only[aD,eU,dR] at hc;obtain ⟨⟨hn,hz⟩,pL⟩:=hc;have hl:=jx;simp only[bj,aD] at hl;have h2:=hl.2;split at h2
   ·rename_i el hu;simp only[aD,dR] at h2;obtain ⟨ot,sW⟩:=h2;obtain ⟨Lz,hLz⟩:=wv e hz;obtain ⟨r1,r2,r3⟩:=C7 (P:=P) (w:=w) (A:=A) _ hLz sW;obtain ⟨inf,i1,i2,i3,i4⟩:=lG (mJ sW);obtain ⟨z,z1,z2⟩:=i4 Lz hLz;have hzl:z.cells.size=e.sz:=by grind
    obtain ⟨A',σ',F',m',v',L',X',KM,g1,g2,g3,g4,g5,g6,g7⟩:=abj (P:=P) ot ps.toList (n:=0) (L:=[]) (Z:=((Array.range (n*e.sz)).map (z.cells[· % z.cells.size]!)).toList) (Fi:=λ_ _ _=>0) (m:=ah e) bd h rfl (by simp) (by simp[hn]) (λb i=>by grind [nQ]) (λi y hy=>by cases hy) hk;simp only[cK,Array.toArray_toList] at g7;simp only[bZ] at g3 g4 g5;have yf:ps.toList.length=n:=by simpa using hn.symm
    rw[yf] at g3 g4 g5
    have lm:(execOp a.eval o).run P w=.ok (.value (.slice (some ⟨w.heap.size,0,none⟩) n n)) (w.alloc (.cells L'.toArray el)):=by
     by_cases IQ:n*e.sz=0
     ·have:n=0:=by rcases Nat.mul_eq_zero.1 IQ with h | h <;> omega
      subst this;have yJ:ps=#[]:=by grind
      subst yJ;have hL':L'=[]:=by simpa using g4
      subst hL';simp[execOp,ho,Instr.buildSlice,run_underlying hu,Go.sizeOf,typeInfo,i1,Instr.fill,newRow,show Array.range 0=#[] from rfl]
     simp_all [run_buildSlice,execOp]
    refine pg (w':=w.alloc (.cells L'.toArray el)) lm ?_
    have pJ:=Il g2 (K:=K) (x:=x) (d:=o.dst) (e:=e) (m:=m') (v:=v') (c:=L'.toArray) (cap:=n) (el:=el) (fr:=(0,0)) (Fi:=KM) (.inr (aH _)) g1 (by simp[g4]) (by simp only[maxLen];have:=Nat.le_mul_of_pos_right n ot;omega) Bys
     (λb i=>by grind) (λi y hy=>⟨(L'.drop (i*e.sz)).take e.sz,an.length _ (g6 i y hy),(λj u hu=>by
      grind),g6 i y hy⟩)
    grind [qi]
   ·cases h2
  ·cases hk
 ·cases hk
end
end OT
namespace OT
open Go
section
variable {P:Program} {C:Ctx} {A:Cells} {X:FP} {σ:St} {a:Act} {w:World} {F:Nat->FP} {R:Type} {x:R} {Q:Exit->Act->World->Prop} {o:Oper} {E:Env}
theorem Rel.world (h:Rel P C A X σ a w F) {w1:World} {G:FP} (hw:Ext w w1 G) (hG:∀ b i,1<=G b i->1<=X b i):Rel P C A X σ a w1 F:=by
 have um:∀ b i,A b i->∀ u,ce w b i=some u->ce w1 b i=some u:=λb i ha u hu=>by
  refine hw.cell b i (h.ll b i (.inr ha)) ?_ u hu;rcases bM (G b i) with h0 | h0
  ·exact h0
  ·exact absurd ha (h.rf b i (by grind))
 have GI:∀ j,j < σ.n->∀ b i,1<=F j b i->(∀ u,ce w b i=some u->ce w1 b i=some u)/\w1.frozen? ⟨b,i,none⟩=w.frozen? ⟨b,i,none⟩:=λj hj b i hp=>by
  have hs:=dj F hj b i;have hb:=h.ll b i (.inl Bys);refine ⟨λu hu=>hw.cell b i hb ?_ u hu,hw.AU b i hb⟩
  rcases bM (G b i) with h0 | h0
  ·exact h0
  ·have:=hG b i h0;have:=h.qg b i;omega
 have oH:zx σ a w σ a w1:=λr p snap hb=>⟨hb,λbd=>⟨bd,λhl pl gy=>⟨pl.H,pl.cs,by
  have a7:=uP gy
  exact xw (h.i9 r a7) rfl rfl um (λb i hp=>(GI r a7 b i hp).1) gy,λ_=>rfl⟩⟩⟩
 refine ⟨h.size,h.defers,λi hi=>db.nK oH (λ_ _ h=>h) um hw.x_ (GI i hi) (h.i9 i hi),λd r p snap hm=>sw.nK oH (h.gh d r p snap hm),h.qg,h.rf,λb i hp=>cW (h.ll b i hp) hw.size,
  h.mH,h.ext.trans hw (λb i hb hz=>?_),h.own,h.a0,h.a1,h.pv,λr t m H v hg hl=>?_,λj k hm R' qh=>?_,h.yz⟩
 ·rcases bM (G b i) with h0 | h0
  ·exact h0
  ·rcases h.own b i (by grind) with h1 | h1 <;> omega
 ·obtain ⟨b,h1,h2⟩:=h.whole r t m H v hg hl;exact ⟨b,h1,hw.x_ _ _ h2⟩
 ·rcases cR j σ.n with hj | hj
  ·have nx:=h.i9 j hj
   cases Bb:d8 w (tmp a j) (σ.get j) with
   | none=>exfalso;cases hg:σ.get j <;> rw[hg] at Bb qh <;> simp only[d8] at Bb qh <;> first | grind | grind | grind
   | some R0=>
    rw[yB nx (λb i hp=>(GI j hj b i hp).1) Bb] at qh;injection qh with qh;subst qh;exact h.ou j k hm _ Bb
  ·rw[mQ (fU.2 hj)] at qh;cases qh
theorem KN {b o sz:Nat} {n:Nat} (h:∀ i,i < n->∃ L:List Value,L.length=sz/\Has w b (o+i*sz) L):Has w b o (rd w b o (n*sz))/\∀ i L,i < n->L.length=sz->Has w b (o+i*sz) L->((rd w b o (n*sz)).drop (i*sz)).take sz=L:=by
 have Im:∀ j,j < n*sz->(ce w b (o+j)).isSome=true:=λj hj=>by
  have ot:0 < sz:=by grind
  have hi:j / sz < n:=Nat.div_lt_of_lt_mul (by grind);obtain ⟨L,h1,h2⟩:=h _ hi;have hm:j % sz < L.length:=by simp_all [Nat.mod_lt]
  have:=h2 (j % sz) _ (aB hm);grind [Nat.div_add_mod]
 refine ⟨λj u hu=>?_,λi L hi hl hL=>?_⟩
 ·have hj:=(aM.1 hu).1;rw[Am] at hj;unfold rd at hu;rw[eM,gR hj] at hu;simp only[bV,aP] at hu;obtain ⟨u',hu'⟩:=eH.1 (Im j hj);grind
 ·have h6:i*sz+sz<=n*sz:=by rw[<-eR];exact bC _ Bys
  apply dT;intro j;rw[bS,bP];by_cases hj:j < sz
  ·rw[aG hj];unfold rd;rw[eM,gR Bys];have:=hL j L[j] (aB Bys);grind
  grind
theorem KO {e:Ty} {m:Md} {H:List Path} (hH:hole H=false) {v:List e.den} {cs:List Value} {Fv:FP} (hr:an P w A (.aa e) m H v cs Fv) :
  ∃ xa cap news Fi,cs=[.slice xa (List.length v) cap]/\(List.length v<=cap/\(xa=none->List.length v=0))/\(∀ ad,xa=some ad->(0 < cap->ad.spot=none)/\Has w ad.block ad.off news)/\news.length=List.length v*e.sz/\(∀ u ∈ news,u.oneCell'=true) /\
   (∀ (i:Nat) (y:e.den),v[i]?=some y->an P w A e m.e (H.filterMap (lk i)) y ((news.drop (i*e.sz)).take e.sz) (Fi i))/\(∀ b i,bf (List.length v) Fi b i<=Fv b i) /\
   (m.own=true->List.length v<=cap/\cap<=maxLen/\(xa=none->cap=0)/\∀ ad,xa=some ad->ad.off=0/\ad.spot=none/\jj w ad.block (cap*e.sz,Jr e)/\∀ b i,dt ad.block 0 (cap*e.sz) b i+bf (List.length v) Fi b i<=Fv b i):=by
 have pH:∀ (news:List Value) (Fi:Nat->FP),news.length=List.length v*e.sz->(∀ (i:Nat) (y:e.den),v[i]?=some y->an P w A e m.e (H.filterMap (lk i)) y ((news.drop (i*e.sz)).take e.sz) (Fi i))->∀ u ∈ news,u.oneCell'=true:=by
  intro news Fi hl sW u hu;obtain ⟨j,hj,rfl⟩:=dE.1 hu;have ot:0 < e.sz:=by grind
  have hi:j / e.sz < List.length v:=Nat.div_lt_of_lt_mul (by grind);have h1:=an.one _ (sW _ _ (aB hi));refine h1 _ (bW (i:=j % e.sz) ?_);grind [Nat.mod_lt,Nat.div_add_mod]
 simp only[an,hH,aE,aR] at hr;split at hr
 ·rename_i jI;obtain ⟨xa,cap,rfl,h1,h2,h3,h4⟩:=hr
  cases xa with
  | none=>
   have pL:=h3 rfl;have hv0:List.length v=0:=by omega
   have hv:v=[]:=cA hv0;subst hv;exact ⟨none,cap,[],λ_ _ _=>0,rfl,⟨aW _,λ_=>rfl⟩,(λad e=>by cases e),by simp,(λu hu=>by cases hu),(λi y hy=>by cases hy),λb i=>by grind [nQ],λ_=>⟨h1,h2,h3,λad e=>by cases e⟩⟩
  | some ad=>
   obtain ⟨g1,g2,g3,Fi,g4,g5⟩:=h4 ad rfl
   have hp:∀ i,i < List.length v->∃ L:List Value,L.length=e.sz/\Has w ad.block (0+i*e.sz) L:=λi hi=>by
    obtain ⟨L,l1,l2,_⟩:=g5 i _ (aB hi);grind
   obtain ⟨p1,p2⟩:=KN hp
   have sW:∀ (i:Nat) (y:e.den),v[i]?=some y->an P w A e m.e (H.filterMap (lk i)) y (((rd w ad.block 0 (List.length v*e.sz)).drop (i*e.sz)).take e.sz) (Fi i):=λi y hy=>by
    grind
   refine ⟨some ad,cap,rd w ad.block 0 (List.length v*e.sz),Fi,rfl,⟨h1,(λe=>by cases e)⟩,λde e=>?_,Am _ _ _ _,pH _ _ (Am _ _ _ _) sW,sW,λb i=>by grind,λ_=>⟨h1,h2,h3,λde e=>?_⟩⟩
   all_goals grind
 ·rename_i jI;obtain ⟨rfl,rQ,xa,cap,rfl,h1,h2,h3⟩:=hr
  cases xa with
  | none=>
   have hv:v=[]:=cA (h2 rfl);subst hv;exact ⟨none,cap,[],λ_ _ _=>0,rfl,⟨aW _,λ_=>rfl⟩,(λad e=>by cases e),by simp,(λu hu=>by cases hu),(λi y hy=>by cases hy),(λb i=>by grind [nQ]),λh=>absurd h jI⟩
  | some ad=>
   obtain ⟨g1,g2⟩:=h3 ad rfl
   have hp:∀ i,i < List.length v->∃ L:List Value,L.length=e.sz/\Has w ad.block (ad.off+i*e.sz) L:=λi hi=>by
    obtain ⟨L,l1,l2,_⟩:=g2 i _ (aB hi);exact ⟨L,l1,λj u hu=>(l2 j u hu).1⟩
   obtain ⟨p1,p2⟩:=KN hp
   have sW:∀ (i:Nat) (y:e.den),v[i]?=some y->an P w A e m.e (([]:List Path).filterMap (lk i)) y (((rd w ad.block ad.off (List.length v*e.sz)).drop (i*e.sz)).take e.sz) (λ_ _=>0):=λi y hy=>by
    obtain ⟨L,l1,l2,l3⟩:=g2 i y hy;rw[p2 i L (aM.1 hy).1 l1 (λj u hu=>(l2 j u hu).1)];grind [Ro.rep]
   refine ⟨some ad,cap,rd w ad.block ad.off (List.length v*e.sz),λ_ _ _=>0,rfl,⟨h1,(λe=>by cases e)⟩,λde e=>?_,Am _ _ _ _,pH _ _ (Am _ _ _ _) sW,sW,(λb i=>by grind [nQ]),λh=>absurd h jI⟩
   grind
theorem GT {e:Ty} {m:Md} {v:List e.den} {cs:List Value} {Fv:FP} (hr:an P w A (.aa e) m [] v cs Fv) :
  ∃ xa cap news Fi,cs=[.slice xa (List.length v) cap]/\(List.length v<=cap/\(xa=none->List.length v=0))/\(∀ ad,xa=some ad->(0 < cap->ad.spot=none)/\Has w ad.block ad.off news)/\news.length=List.length v*e.sz/\(∀ u ∈ news,u.oneCell'=true) /\
   (∀ (i:Nat) (y:e.den),v[i]?=some y->an P w A e m.e [] y ((news.drop (i*e.sz)).take e.sz) (Fi i))/\(∀ b i,bf (List.length v) Fi b i<=Fv b i) /\
   (m.own=true->List.length v<=cap/\cap<=maxLen/\(xa=none->cap=0)/\∀ ad,xa=some ad->ad.off=0/\ad.spot=none/\jj w ad.block (cap*e.sz,Jr e)/\∀ b i,dt ad.block 0 (cap*e.sz) b i+bf (List.length v) Fi b i<=Fv b i):=
 KO rfl hr
theorem Mq (h:Rel P C A X σ a w F) {s:Slot} {tv:Value} {G:FP} (hs:db P A σ a w tv s G) {mv:Bool} {e:Ty} {tx:TypeId} (Da:(∃ e',P.underlying tx=some (.slice e'))\/P.underlying tx=some .string)
  {K:Md->List e.den->St->Option R} (hk:C0 σ s e mv K=some x) :
  ∃ (A':Cells) (σ':St) (F':Nat->FP) (me:Md) (y:List e.den) (news:List Value) (Fv:FP) (Fi:Nat->FP),K me y σ'=some x/\(∀ b i,A b i->A' b i)/\Rel P C A' (λb i=>X b i+Fv b i) σ' a w F'/\rT σ σ' /\
   Src P e.sz tx tv (List.length y) news w/\(∀ k,k<=List.length y->(Builtin.firstCells e.sz k tv).run P w=.ok (news.take (k*e.sz)).toArray w)/\(∀ (i:Nat) (z:e.den),y[i]?=some z->an P w A' e me [] z ((news.drop (i*e.sz)).take e.sz) (Fi i))/\∀ b i,bf (List.length y) Fi b i<=Fv b i:=by
 unfold C0 at hk;split at hk
 ·rename_i s';obtain ⟨e1,hk⟩:=c7 hk;injection e1 with e1;subst e1;obtain ⟨cs,h1,h2⟩:=hs;simp only[Ro] at h2;subst h2;have B6:tv=.string ⟨List.toArray s'⟩:=h1;subst B6;have hlen:(byteCells ⟨List.toArray s'⟩)=List.map (λ(b:UInt8)=>Value.int .u8 b.toNat) s':=by simp[byteCells]
  have ot:(⟨List.toArray s'⟩:ByteArray).size=List.length s':=rfl;refine ⟨A,σ,F,.leaf,s',byteCells ⟨List.toArray s'⟩,λ_ _=>0,λ_ _ _=>0,hk,λ_ _ h=>h,h,rT.refl σ,⟨Da,λ_=>rfl,firstCells_string _ w,firstCells_string _ w.drew,by grind [Ty.sz],λu hu=>?_⟩,λk hk=>?_,λi z hz=>?_,λb i=>by grind [nQ]⟩
  ·obtain ⟨_,_,rfl⟩:=dQ.1 hu;rfl
  ·rw[hlen];have afg:((⟨List.toArray s'⟩:ByteArray).extract 0 k).data.toList=s'.take k:=by simp[ByteArray.data_extract]
   simp only[Builtin.firstCells,Sem.run_pure,Ty.sz,iZ];simp_all
  ·have:((byteCells ⟨List.toArray s'⟩).drop (i*Ty.sz (.int .u8))).take (Ty.sz (.int .u8))=[Value.int .u8 z.toNat]:=by
    show ((byteCells ⟨List.toArray s'⟩).drop (i*1)).take 1=_;grind [List.take_one,List.head?_drop]
   exact this
 ·rename_i s' hns;obtain ⟨A',σ',F',m,v,cs,Fv,k1,k2,k3,k4,kr,k5,k6⟩:=vD h hs hk;obtain ⟨xa,cap,news,Fi,r1,r2,r3,r4,r5,r6,r7,r8⟩:=GT k6;rw[r1,ef _ _ rfl] at k5;subst k5
  have Pn:∀ ad,xa=some ad->∀ j u,news[j]?=some u->w.cell? (ad.add j)=some u:=λad e1 j u hu=>by
   obtain ⟨g1,g2⟩:=r3 ad e1;have hj:=(aM.1 hu).1
   have Jy:0 < cap:=by
    grind
   obtain ⟨b,off,sp⟩:=ad;have:=g1 Jy;simp only at this;subst this;rw[rF];exact vN (g2 j u hu) (r5 u (bW hu))
  refine ⟨A',σ',F',m.e,v,news,Fv,Fi,k1,k2,k3,kr,?_,?_,r6,r7⟩
  rotate_left
  ·intro k hk
   cases xa with
   | none=>
    simp_all [run_firstCells_none]
   | some ad=>
    grind [Nat.mul_le_mul_right,run_firstCells_some]
  cases xa with
  | none=>
   have h0:=r2.2 rfl;have hn:news=[]:=cA (by grind);subst hn;rw[h0];exact ⟨Da,λ_=>rfl,run_firstCells_none w e.sz 0 0 cap,run_firstCells_none w.drew e.sz 0 0 cap,by simp,λu hu=>by cases hu⟩
  | some ad=>
   have hc:=Pn ad rfl;exact ⟨Da,λ_=>rfl,run_firstCells_some w e.sz (List.length v) ad (List.length v) cap news r4 hc,run_firstCells_some w.drew e.sz (List.length v) ad (List.length v) cap news r4 (by simpa using hc),r4,r5⟩
theorem JA {e:Ty} {me:Md} {v y:List e.den} {rG news:List Value} {Fi Gi:Nat->FP} (hl:rG.length=List.length v*e.sz)
  (h1:∀ (i:Nat) (z:e.den),v[i]?=some z->an P w A e me [] z ((rG.drop (i*e.sz)).take e.sz) (Fi i)) (h2:∀ (i:Nat) (z:e.den),y[i]?=some z->an P w A e me [] z ((news.drop (i*e.sz)).take e.sz) (Gi i)) :
  ∀ (i:Nat) (z:e.den),(v++y)[i]?=some z->an P w A e me [] z (((rG++news).drop (i*e.sz)).take e.sz) (if i < List.length v then Fi i else Gi (i - List.length v)):=by
 intro i z hz;by_cases hi:i < List.length v
 ·rw[aG hi];rw[cZ hi] at hz;have h6:i*e.sz+e.sz<=List.length v*e.sz:=by rw[<-eR];exact bC _ Bys
  grind
 grind [Nat.mul_le_mul_right,List.drop_append,List.drop_of_length_le,Nat.sub_mul]
theorem Pv (n m:Nat) (Fi Gi:Nat->FP) (b i:Nat):bf (n+m) (λi=>if i < n then Fi i else Gi (i - n)) b i=bf n Fi b i+bf m Gi b i:=by
 rw[wj];congr 1
 all_goals simp_all [yu,aL]
theorem Ro.indep {A':Cells}:∀ (t:Ty) {v:t.den} {cs:List Value},t.flat=true->t.sY=true->Ro P w A t v cs->Ro P w A' t v cs:=by
 intro t
 induction t with
 | pair a b nL nw=>
  intro v cs hf hn h;simp only[Ty.flat,Ty.sY,aD] at hf hn;exact ⟨nL hf.1 hn.1 h.1,nw hf.2 hn.2 h.2⟩
 | arr n e ih=>
  intro v cs hf hn h;exact ⟨h.1,h.2.1,h.2.2.1,λi x hx=>ih hf hn (h.2.2.2 i x hx)⟩
 | aa e ih=>grind [Ty.flat]
 | ptr e ih=>grind [Ty.flat]
 | fn=>grind [Ty.sY]
 | map k v=>grind [Ty.flat]
 | _=>intro v cs hf hn h;exact h
theorem KP {A1 A2:Cells} {mX:St} {F2:Nat->FP} {t tx:Nat} {y z:Operand} (ho:o.op=.call { callee:=.builtin .append,args:=#[y,z],argTypes:=#[t,tx] }) {e:Ty} {el:Nat} (hu:P.underlying t=some (.slice el)) (sW:bj P e (.inl el)=true)
  {m me:Md} {v yv:List e.den} {cs news:List Value} {Fv Fw:FP} {Gi:Nat->FP} {K:St->Option R} (jI:m.own=true) (k5:a.eval y=c_ (.aa e) cs) (k6:an P w A1 (.aa e) m [] v cs Fv) (pL:v.length+yv.length<=cg)
  (q1:K (mX.cb o.dst (.own (.aa e) (.aa true (if me=m.e then me else ai e)) [] (v++yv)))=some x) (q2:∀ b i,A1 b i->A2 b i) (q3:Rel P C A2 (λb i=>0+Fv b i+Fw b i) mX a w F2)
  (q4:Src P e.sz tx (a.eval z) (List.length yv) news w) (q5:∀ (i:Nat) (z:e.den),yv[i]?=some z->an P w A2 e me [] z ((news.drop (i*e.sz)).take e.sz) (Gi i)) (q6:∀ b i,bf (List.length yv) Gi b i<=Fw b i):o.wp P a w (Nx P C K x) Q:=by
 obtain ⟨inf,zv,i1,i2,i3,i4,i5,_⟩:=zV (mJ sW);obtain ⟨xa,cap,rG,Fi,r1,r2,r3,r4,r5,r6,r7,r8⟩:=GT k6;obtain ⟨c1,c2,c3,c4⟩:=r8 jI;rw[r1,ef _ _ rfl] at k5;have r6':∀ (i:Nat) (z:e.den),v[i]?=some z->an P w A2 e m.e [] z ((rG.drop (i*e.sz)).take e.sz) (Fi i):=λi z hz=>an.mono (P:=P) (A':=A2) q2 (λ_ _ _ _ h=>h) (λ_ _ h=>h) e (r6 i z hz) (λ_ _=>aH _) (λ_ _ _ _ h=>h)
 have zB:∃ (A3:Cells) (X3:FP) (Hi:Nat->FP),Rel P C A3 X3 mX a w F2/\(∀ (i:Nat) (z:e.den),(v++yv)[i]?=some z->an P w A3 e (if me=m.e then me else ai e) [] z (((rG++news).drop (i*e.sz)).take e.sz) (Hi i)) /\
   (∀ b i,bf (List.length v+List.length yv) Hi b i<=X3 b i)/\∀ ad,xa=some ad->∀ b i,dt ad.block 0 (cap*e.sz) b i+bf (List.length v+List.length yv) Hi b i<=X3 b i:=by
  by_cases C6:me=m.e
  ·subst C6;refine ⟨A2,_,_,q3,by simp only[aK];exact JA r4 r6' q5,λb i=>?_,λad lP b i=>?_⟩
   all_goals grind [Pv]
  ·simp only[aL C6]
   obtain ⟨B,hB1,hB2,hB3⟩:∃ B:FP,(∀ b i,B b i+bf (List.length v) Fi b i<=Fv b i)/\(∀ ad,xa=some ad->∀ b i,dt ad.block 0 (cap*e.sz) b i=B b i)/\∀ b i,B b i<=1:=by
    cases xa with
    | none=>exact ⟨λ_ _=>0,λb i=>by grind,(λad e=>by cases e),λ_ _=>aW _⟩
    | some ad=>exact ⟨dt ad.block 0 (cap*e.sz),(c4 ad rfl).2.2.2,(λde e=>by grind),λb i=>by grind [dt]⟩
   obtain ⟨A3,sv⟩:∃ A3:Cells,∀ b i,A3 b i↔(A2 b i\/(1<=0+Fv b i+Fw b i/\B b i=0)):=⟨λb i=>A2 b i\/(1<=0+Fv b i+Fw b i/\B b i=0),λ_ _=>iG⟩
   refine ⟨A3,B,λ_ _ _=>0,q3.giveUp (λb i h=>(sv b i).2 (.inl h)) (λb i ha=>(sv b i).1 ha) (λb i=>by grind),?_,λb i=>by grind [nQ],λad lP b i=>by grind [nQ]⟩
   have yC:∀ b i,(0+Fv b i+Fw b i)+bf mX.n F2 b i<=1:=λb i=>q3.qg b i
   have hv3:∀ (i:Nat) (z:e.den),v[i]?=some z->an P w A3 e (ai e) [] z ((rG.drop (i*e.sz)).take e.sz) (λ_ _=>0):=λi z hz=>Ro.rep _ _ (it _) (an.yw (λb i h=>(sv b i).2 (.inl h)) e (r6' i z hz) λb k hp=>(sv b k).2 (.inr (by
    grind [dj])))
   have hy3:∀ (i:Nat) (z:e.den),yv[i]?=some z->an P w A3 e (ai e) [] z ((news.drop (i*e.sz)).take e.sz) (λ_ _=>0):=λi z hz=>Ro.rep _ _ (it _) (an.yw (λb i h=>(sv b i).2 (.inl h)) e (q5 i z hz) λb k hp=>(sv b k).2 (.inr (by
    grind [dj])))
   exact λi z hz=>by simpa using JA (Fi:=λ_ _ _=>0) (Gi:=λ_ _ _=>0) r4 hv3 hy3 i z hz
 obtain ⟨A3,X3,Hi,n1,n2,n3,n4⟩:=zB;have S_:List.length (v++yv)=List.length v+List.length yv:=by simp
 by_cases xH:List.length v+List.length yv<=cap
 ·cases xa with
  | none=>
   have yK:=c3 rfl;have hv0:v=[]:=cA Bys;have hy0:yv=[]:=cA Bys;subst hv0;subst hy0;have xy:(Builtin.firstCells e.sz 0 (a.eval z)).run P w=.ok news.toArray w:=by have:=q4.cells;simpa using this
   have lm:(execOp a.eval o).run P w=.ok (.value (.slice none 0 cap)) w:=by
    rcases q4.kind with ⟨e',Tn⟩ | Tn <;>
     simp[execOp,ho,resolve,invoke,builtin,Builtin.append_,k5,run_underlying hu,run_underlying Tn,Go.sizeOf,typeInfo,i1,q4.len,i2,xy]
   refine pg lm (qE n1 q1 (Fd:=λ_ _=>0) ⟨[.slice none 0 cap],(ef _ _ rfl).symm,?_⟩ (λ_ _=>aW _) (λ_ _ _ _ e=>by cases e));grind [an,Md.own]
  | some ad=>
   obtain ⟨d1,d4,d2,d3⟩:=c4 ad rfl;obtain ⟨_,d5⟩:=r3 ad rfl;obtain ⟨b,off,sp⟩:=ad;simp only at d1 d2 d3 d4 d5;subst d1;subst d4;have n4':∀ b' i,dt b 0 (cap*e.sz) b' i+bf (List.length v+List.length yv) Hi b' i<=X3 b' i:=n4 _ rfl;have yf:=q4.newsLen;have Ce:List.length v*e.sz+news.length<=cap*e.sz:=by rw[yf,<- dC];exact bC _ xH
   have tk:∀ j,j < cap*e.sz->(w.cell? ⟨b,j,none⟩).isSome=true:=λj hj=>by
    obtain ⟨c,e',fr,w1,w2,w3⟩:=d2;grind [World.cell?]
   have lm:=run_append_room_src (P:=P) w t tx o.type el inf hu i1 b 0 (List.length v) cap (a.eval z) (List.length yv) news (by grind) xH (λj hj=>by grind) (λj hj=>by rw[i2,bZ];exact d2.frozen Bys);rw[i2,bZ] at lm
   have UV:(execOp a.eval o).run P w=.ok (.value (.slice (some ⟨b,0,none⟩) (List.length v+List.length yv) cap)) (w.setCells b (List.length v*e.sz) news):=by
    simp_all [execOp,resolve,invoke,builtin]
   have fh:=pK (b:=b) (o:=List.length v*e.sz) news w (List.length v*e.sz)
   have hX1:∀ b' i,1<=dt b (List.length v*e.sz) news.length b' i->1<=dt b 0 (cap*e.sz) b' i:=λb' i hp=>by
    grind [dt]
   have Pw:=n1.world fh (λb' i hp=>by grind);refine pg UV (qE Pw q1 (Fd:=X3) ⟨[.slice (some ⟨b,0,none⟩) (List.length v+List.length yv) cap],(ef _ _ rfl).symm,?_⟩ (λ_ _=>aH _) (λ_ _ _ _ e=>by cases e));simp only[an,hole,bX,aE,aR,Md.own,aK,Md.e];refine ⟨some ⟨b,0,none⟩,cap,by rw[S_],by omega,c2,(λe=>by cases e),λde e'=>?_⟩
   injection e' with e';subst e';refine ⟨rfl,rfl,fh.x_ _ _ d2,Hi,λb' i=>by grind,λi zz hz=>?_⟩
   have jb:=n2 i zz hz;have Px:i < List.length v+List.length yv:=by grind
   refine ⟨_,an.length _ jb,?_,?_⟩
   ·
    have sy:Has (w.setCells b (List.length v*e.sz) news) b 0 (rG++news):=λj u hu=>by
     rw[bZ];by_cases hj:j < rG.length
     ·rw[cZ hj] at hu;have hold:=d5 j u hu;rw[bZ] at hold;refine fh.cell b j (by obtain ⟨c,e',fr,w1,_⟩:=d2;grind) ?_ u hold;grind [dt]
     ·rw[eV Bys] at hu;have:=yI (w:=w) (b:=b) (o:=List.length v*e.sz) (L:=news) (λk hk=>tk _ Bys) q4.one _ u hu;grind
    intro j u hu;rw[bS] at hu;split at hu
    ·rw[bP] at hu;have:=sy _ u hu;grind
    ·cases hu
   ·simp only[eF];refine an.mono (P:=P) (λ_ _ h=>h) (λb' k ha u hu=>fh.cell b' k (n1.ll b' k (.inr ha)) ?_ u hu) fh.x_ e jb (λ_ _=>aH _) (λb' k hp u hu=>fh.cell b' k ?_ ?_ u hu)
    ·rcases bM (dt b (List.length v*e.sz) news.length b' k) with h0 | h0
     ·exact h0
     ·exact absurd ha (n1.rf b' k (by grind))
    ·exact n1.ll b' k (.inl (by grind [dj]))
    ·rcases bM (dt b (List.length v*e.sz) news.length b' k) with h0 | h0
     ·exact h0
     ·have h1:=hX1 b' k h0;have h2:=n4' b' k;have h3:=dj Hi Px b' k;have h4:=n1.qg b' k;omega
 ·
  have KQ:(Builtin.firstCells inf.size (List.length v) (.slice xa (List.length v) cap)).run P w.drew=.ok rG.toArray w.drew:=by
   cases xa with
   | none=>
    simp_all [run_firstCells_none]
   | some ad=>
    obtain ⟨_,d4,_,_⟩:=c4 ad rfl;obtain ⟨_,d5⟩:=r3 ad rfl;obtain ⟨b,off,sp⟩:=ad;simp only at d4 d5;subst d4;exact run_firstCells_some w.drew inf.size (List.length v) ⟨b,off,none⟩ (List.length v) cap rG (by grind) (λj u hu=>by rw[rF];exact vN (d5 j u hu) (r5 u (bW hu)))
  simp only[cg] at pL
  have lm:=run_append_grow_src (P:=P) w t tx o.type el inf zv hu i1 i4 xa (List.length v) cap rG KQ (a.eval z) (List.length yv) news (by grind) Bys Bys
   (growslice_fits Bys (bI (Nat.mul_le_mul pL i3) (by decide)))
  have UV:(execOp a.eval o).run P w=.ok (.value (.slice (some ⟨w.heap.size,0,none⟩) (List.length v+List.length yv) (grownCap w (List.length v+List.length yv) cap el)))
    (w.drew.alloc (.cells ((rG++news).toArray++Builtin.zeroCells zv.cells (grownCap w (List.length v+List.length yv) cap el - (List.length v+List.length yv))) el)):=by
   simp_all [execOp,resolve,invoke,builtin]
  have hge:=grownCap_ge w (List.length v+List.length yv) cap el;have hgm:=grownCap_le_maxLen w (List.length v+List.length yv) cap el (by grind [maxLen]);have yf:=q4.newsLen
  have pJ:=Il n1.drew (K:=K) (x:=x) (d:=o.dst) (e:=e) (m:=if me=m.e then me else ai e) (v:=v++yv) (c:=(rG++news).toArray++Builtin.zeroCells zv.cells (grownCap w (List.length v+List.length yv) cap el - (List.length v+List.length yv)))
   (cap:=grownCap w (List.length v+List.length yv) cap el) (el:=el) (fr:=(0,0)) (Fi:=Hi) (.inr (aH _)) q1
   (by
    rw[Array.size_append,size_zeroCells,i5,iE,bK,r4,yf,<- dC,<- dC]
    congr 1;omega) hgm (by grind)
   (λb i=>by grind) (λi zz hz=>by
    have jb:=n2 i zz hz;refine ⟨_,an.length _ jb,λj u hu=>?_,an.mono (P:=P) (w:=w) (w':=w.drew) (A:=A3) (A':=A3) (λ_ _ h=>h) (λ_ _ _ _ h=>h) (λb n hn=>hn) e jb (λ_ _=>aH _) (λ_ _ _ _ h=>h)⟩
    grind)
  rw[S_] at pJ;exact pg UV pJ
theorem step_append (h:ee P C A σ a w F) (lY:∀ i T,E.TI i=some T->bj P T (.inl i)=true) {t tx:Nat} {y z:Operand} (ho:o.op=.call { callee:=.builtin .append,args:=#[y,z],argTypes:=#[t,tx] }) (bd:dy P y=true/\dy P z=true)
  (Da:(∃ e',P.underlying tx=some (.slice e'))\/P.underlying tx=some .string) {mv tf:Bool} {K:St->Option R} (hk:L9 E σ t (d7 σ y) z mv tf o.dst K=some x):o.wp P a w (Nx P C K x) Q:=by
 unfold L9 at hk;obtain ⟨T,hT,hk⟩:=gr hk;have jx:=lY _ _ hT;split at hk
 ·rename_i e;have hl:=jx;simp only[bj,aD] at hl;have h2:=hl.2;split at h2;rotate_left
  ·cases h2
  rename_i el hu;simp only[aD,dR] at h2;obtain ⟨ot,sW⟩:=h2;split at hk
  ·rename_i Bd;simp only[aD] at Bd;obtain ⟨_,Bd,GQ⟩:=Bd
   rcases f5 h bd.2 with Db | ⟨xs,e'⟩
   rotate_left
   ·grind [C0,nJ]
   obtain ⟨A0,σ0,F0,me,yv,news,Fw,Gi,q1,_,_,_,q4,_,q5,_⟩:=Mq h Db Da hk
   rcases f5 h bd.1 with hs | ⟨xs,e'⟩
   rotate_left
   ·grind [nJ]
   obtain ⟨A1,qC,F1,m,v,cs,Fv,k1,k2,k3,k4,kr,k5,k6⟩:=vD h hs q1;split at k1;rotate_left
   ·cases k1
   rename_i jI;split at k1;rotate_left
   ·cases k1
   rename_i pL
   exact KP (me:=ai e) (Fw:=λ_ _=>0) (Gi:=λ_ _ _=>0) ho hu sW jI k5 k6 pL (by grind) (λ_ _ h=>h) k3 q4
    (λi zz hz=>Ro.rep _ _ (it _) (Ro.indep e Bd GQ (an.flat e Bd (q5 i zz hz)))) (λb i=>by grind [nQ])
  rcases f5 h bd.1 with hs | ⟨xs,e'⟩
  rotate_left
  ·grind [nJ]
  obtain ⟨A1,qC,F1,m,v,cs,Fv,k1,k2,k3,k4,kr,k5,k6⟩:=vD h hs hk;split at k1;rotate_left
  ·cases k1
  rename_i jI
  rcases f5 k3 bd.2 with Db | ⟨xs,e'⟩
  rotate_left
  ·grind [C0,nJ]
  obtain ⟨A2,mX,F2,me,yv,news,Fw,Gi,q1,q2,q3,qr,q4,_,q5,q6⟩:=Mq k3 Db Da k1;split at q1;rotate_left
  ·cases q1
  rename_i pL;exact KP ho hu sW jI k5 k6 pL q1 q2 q3 q4 q5 q6
 ·cases hk
end
end OT
namespace OT
open Go
section
variable {P:Program} {C:Ctx} {A:Cells} {X:FP} {σ:St} {a:Act} {w:World} {F:Nat->FP} {R:Type} {x:R} {Q:Exit->Act->World->Prop} {o:Oper} {E:Env}
theorem Oh (h:ee P C A σ a w F) {f:Nat} {first cs:Array Operand} (ho:o.op=.makeFunc (.func f) first cs) (da:(P.funcs[f]?).any (λfn=>fn.nfree == cs.size)=true) {K:St->Option R}
  (hk:(if first.size=0 then
   match cs.toList with
   | []=>K (σ.cb o.dst (.val .fn (f,0)))
   | [.tmp i]=>match σ.get i with
    | .box (.int .i64) _ _ n=>K (((σ.put i .dead).put i (.cp (.int .i64) n)).cb o.dst (.val .fn (f,n)))
    | _=>none
   | _=>none
  else none)=some x):Tk P o a w (Nx P C K x):=by
 simp only[Option.any_eq_true,jC] at da;obtain ⟨fn,hf,hn⟩:=da;split at hk
 ·rename_i h0;have Py:first=#[]:=gI h0
  subst Py;split at hk
  ·rename_i pA;have pA:cs=#[]:=by grind
   subst pA;refine ik (v:=.func (.func f) #[] #[]) (by simp[execOp,ho,Instr.makeFunc]) (cm h hk ⟨[.func (.func f) #[] #[]],rfl,#[],rfl,fn,hf,.inl ⟨by simpa using hn,rfl⟩⟩ (λ_ _ _ _ e=>by cases e))
  ·rename_i i pA;have pA:cs=#[.tmp i]:=by grind
   subst pA;split at hk
   ·rename_i m H n hg
    have hi:i < σ.n:=by
     grind [mQ]
    have hs:=h.i9 i hi;rw[hg] at hs;obtain ⟨b,off,L,F1,s1,s2,s3,s4,s5,s6⟩:=hs;simp only[an,Ro] at s6;subst s6;have h1:=h.put hi (s:=.dead) (v:=tmp a i) (Fd:=λ_ _=>0) (X':=F i) trivial (λb k=>by omega) (λ_ _ _ _ e=>by cases e);rw[sx] at h1;have hle:∀ b' i',dt b off 1 b' i'<=F i b' i':=λb' i'=>by grind
    have h2:=h1.giveUp (A1:=λb' i'=>A b' i'\/1<=dt b off 1 b' i') (X1:=λ_ _=>0) (λ_ _ h=>.inl h) (λb' i' ha=>ha.imp id λhp=>⟨by grind,rfl⟩) (λ_ _=>aW _);have tk:ce w b off=some (.int .i64 n):=s3 0 _ rfl;have hA:1<=dt b off 1 b off:=by simp[dt]
    have h3:=h2.put (d:=i) hi (s:=.cp (.int .i64) n) (v:=tmp a i) (Fd:=λ_ _=>0) (X':=λ_ _=>0)
     ⟨⟨b,off,none⟩,by rw[s1],rfl,[.int .i64 n],rfl,(λj u hu=>by
      grind),rfl⟩ (λb k=>by omega) (λ_ _ _ _ e=>by cases e)
    rw[sx] at h3;have ev:a.eval (.tmp i)=.pointer (some ⟨b,off,none⟩):=s1
    refine ik (v:=.func (.func f) #[] #[.pointer (some ⟨b,off,none⟩)]) (by simp[execOp,ho,Instr.makeFunc,ev])
     (cm h3 hk ⟨[.func (.func f) #[] #[.pointer (some ⟨b,off,none⟩)]],rfl,_,rfl,fn,hf,.inr ⟨by simpa using hn,_,rfl,rfl,tk,.inr hA⟩⟩ (λ_ _ _ _ e=>by cases e))
   ·cases hk
  ·cases hk
 ·cases hk
theorem RV (h:ee P C A σ a w F) {y:Operand} (ho:o.op=.assign y) (bd:dy P y=true) {T:Nat} {mv:Bool} {K:St->Option R} (hk:L_ E σ T y mv o.dst K=some x):Tk P o a w (Nx P C K x):=by
 refine ik (v:=a.eval y) (by simp[execOp,ho]) ?_;unfold L_ at hk;by_cases aef:∃ i xs,y=.tmp i/\σ.get i=.sR xs
 ·obtain ⟨i,xs,rfl,hg⟩:=aef;have e:d7 σ (.tmp i)=.sR xs:=by grind [d7]
  rw[e] at hk
  cases xs with
  | nil=>
   have hi:i < σ.n:=by
    grind [mQ]
   have hs:=h.i9 i hi;rw[hg] at hs;obtain ⟨vs,Fi,h1,h2,h3⟩:=hs;exact cm h hk ⟨vs,λ_ _ _=>0,h1,λb i=>by simp[bf],λj y hy=>by cases hy⟩ (λ_ _ _ _ e=>by cases e)
  | cons _ _=>cases hk
 rcases f5 h bd with hs | ⟨xs,e⟩
 rotate_left
 ·exfalso
  cases y with
  | tmp i=>
   grind [d7]
  | const v=>simp only[d7] at e;unfold Al at e;grind
  | func f=>cases e
  | global g=>cases e
 split at hk
 ·grind [cm]
 ·rename_i hv;rw[hv] at hs;obtain ⟨t,hT,hk⟩:=gr hk;split at hk
  ·have hs:a.eval y=.slice none 0 0:=hs;rw[hs];refine cm h hk ⟨[.slice none 0 0],(ef _ _ rfl).symm,?_⟩ (λ_ _ _ _ e=>by cases e);grind [an,hole,vT,Md.own]
  ·cases hk
 ·grind [cm]
 ·cases hk
 ·grind [vD,B8]
 ·grind [vD,B8]
 ·rename_i r p snap hv;rw[hv] at hs;split at hk
  ·rename_i t m H v hg;split at hk
   ·rename_i hc;simp only[aD,cD] at hc;split at hk
    ·rename_i i hd
     have hr:r < σ.n:=by
      grind [mQ]
     have nx:=h.i9 r hr;rw[hg] at nx;obtain ⟨b,off,L,F1,s1,s2,s3,s4,s5,s6⟩:=nx;obtain ⟨pl,b',o',g1,g2,g3,g4⟩:=hs.2 hc.1.1
     have gy:place σ a w r []=some ⟨t,H,rd w b off t.sz,some (b,off)⟩:=by
      unfold place;rw[hg,s1];rfl
     rw[gy] at g1;injection g1 with g1;subst g1;simp only[aP,bO] at g2;obtain ⟨rfl,rfl⟩:=g2;have h1:=h.put hr (s:=.dead) (v:=tmp a r) (Fd:=λ_ _=>0) (X':=F r) trivial (λb k=>by omega) (λ_ _ _ _ e=>by cases e);rw[sx] at h1;obtain ⟨bw,w1,w2⟩:=h.whole r t m H v hg (KD hc.2);rw[s1] at w1;injection w1 with w1;injection w1 with w1;injection w1 with w1 w3;subst w1;have:=qE (K:=K) (x:=x) (d:=some i) h1 hk (v:=a.eval y) (s:=.box t m H v) (Fd:=F r) ⟨b,off,L,F1,g3,s2,s3,s4,s5,s6⟩ (λb i=>aH _) (λt' m' H' v' e=>by grind);grind
    ·cases hk
   grind [cm]
  grind [cm]
 grind [cm,Na]
theorem sb {α:Type} (v y:List α) {lo n:Nat} (h:lo+n<=v.length) (hy:n<=y.length):(oM v lo n y).length=v.length:=by
 grind [oM]
theorem Pz {α:Type} (v y:List α) {lo n:Nat} (h:lo+n<=v.length) (hy:n<=y.length) (i:Nat):(oM v lo n y)[i]?=if lo<=i/\i < lo+n then y[i - lo]? else v[i]?:=by
 unfold oM;by_cases h1:i < lo
 all_goals grind
theorem Ng (h:ee P C A σ a w F) {r:Nat} {p:Path} {e:Ty} {m:Md} {v y:List e.den} {news:List Value} {Gi:Nat->FP} {me:Md} {lo n:Nat} {K:St->Option R} (ii:At σ r p (.aa e) m [] v) (jI:m.own=true) (hf:e.flat=true) (hn:lo+n<=List.length v) (hy:n<=List.length y)
  (hl:news.length=List.length y*e.sz) (pH:∀ u ∈ news,u.oneCell'=true) (sW:∀ (i:Nat) (z:e.den),y[i]?=some z->an P w A e me [] z ((news.drop (i*e.sz)).take e.sz) (Gi i))
  (hk:xl σ r p (.aa e) m (oM v lo n y) (λσ'=>K { σ' with vr:=(σ.nv r yp).vr,ay:=σ.ay })=some x) :
  ∃ (xa:Option Addr) (cap:Nat) (ad:Option (Nat×Nat)) (w2:World) (A3:Cells) (σ':St) (F3:Nat->FP),place σ a w r p=some ⟨.aa e,[],[.slice xa (List.length v) cap],ad⟩/\K σ'=some x/\ee P C A3 σ' a w2 F3 /\
   (xa=none->w2=w/\List.length v=0)/\∀ ad,xa=some ad->ad.off=0/\ad.spot=none/\(n=0->w2=w)/\(storeCells ⟨ad.block,lo*e.sz,none⟩ (news.take (n*e.sz))).run P w=.ok () w2:=by
 obtain ⟨hr,m2,H2,v2,du,Ea,F2,q1,q2,q3,q4,q5,q6⟩:=D_ h hk;obtain ⟨_,e2,e3,e4⟩:=ii.inj q1;subst e2;subst e3;have e4:=gH e4;subst e4;have jb:=q3;simp only[an,hole,bX,aE,aR,jI,aK] at q3;obtain ⟨xa,cap,rfl,c1,c2,c3,c4⟩:=q3;have S_:=sb v y hn hy;have IK:∀ b i,F r b i<=1:=λb i=>by have:=h.qg b i;grind [dj]
 have fin:∀ (w2:World),Ext w w2 (λb i=>0+(F2 b i+lF Ea (Ty.aa e).sz b i))->(∀ b o,Ea=some (b,o)->Has w2 b o [.slice xa (List.length v) cap])->an P w2 A (.aa e) m [] (oM v lo n y) [.slice xa (List.length v) cap] F2 ->
   (∀ (i:Nat) (z:e.den),(oM v lo n y)[i]?=some z->∀ ad,xa=some ad->∃ L,L.length=e.sz/\Has w2 ad.block (ad.off+i*e.sz) L/\an P w2 A e .leaf [] z L (λ_ _=>0)) ->
   ∃ (A3:Cells) (σ':St) (F3:Nat->FP),K σ'=some x/\ee P C A3 σ' a w2 F3:=by
  intro w2 g1 g2 g3 g4;obtain ⟨A3,C8,Fr,n1,n2,n3,n4,n5⟩:=q6 w2 A _ F2 (λ_ _=>0) g1 (λ_ _ h=>h) (λ_ _ h=>.inl h) (λb i=>by omega) g2 (λ_=>rfl) g3;refine ⟨A3,_,_,n1,n5 yp (zT (h.mH r)) (GG (h.mH r)) rfl λp' snap hb bd hlen=>?_⟩
  have h5:=Jv (h.mH r) hb bd;refine ⟨d_ p'+1,False,by omega,λ_=>.inl Bys,λ_=>by omega,?_⟩
  intro q pl hq hp
  cases q with
  | nil=>
   simp only[bv,aP] at hp;subst hp;exact ⟨_,_,rfl,λ_=>rfl⟩
  | cons s q=>
   cases s with
   | idx i=>
    cases xa with
    | none=>grind [bv]
    | some ad=>
     simp only[bv,hole,bX,aE,aR,eF] at hp ⊢;split at hp
     ·rename_i hi;rw[aG hi];have sS:i < (oM v lo n y).length:=by grind
      obtain ⟨L,l1,l2,l3⟩:=g4 i _ (aB sS) ad rfl;rw[fe l2 l1];obtain ⟨H',ca,h1,h2⟩:=C5 (A:=A) (m:=.leaf) (v:=(oM v lo n y)[i]) (F:=λ_ _=>0) q e l3 (.inr hf) hp;grind
     ·cases hp
   | _=>simp[bv] at hp
 cases xa with
 | none=>
  have h0:=c3 rfl;have hv0:List.length v=0:=by omega
  grind [Ext.refl]
 | some ad=>
  obtain ⟨d1,d2,d3,Fi,d4,d5⟩:=c4 ad rfl;obtain ⟨b,off,sp⟩:=ad;simp only at d1 d2 d3 d4 d5;subst d1;subst d2;have hle:lo*e.sz+n*e.sz<=cap*e.sz:=by rw[<-dC];exact bC _ Bys
  have yf:(news.take (n*e.sz)).length=n*e.sz:=by
   grind [Nat.mul_le_mul_right]
  have tk:∀ j,j < cap*e.sz->(w.cell? ⟨b,j,none⟩).isSome=true:=λj hj=>by
   obtain ⟨c,e',fr,w1,w2,w3⟩:=d3;grind [World.cell?]
  have da:=run_storeCells_cells (P:=P) b (lo*e.sz) (news.take (n*e.sz)) 0 w (λj hj=>by grind) (λj hj=>by rw[dY];exact d3.frozen Bys) (λu hu=>pH u (dI hu));rw[dY] at da;have fh:=pK (b:=b) (o:=lo*e.sz) (news.take (n*e.sz)) w (lo*e.sz);rw[yf] at fh
  have EH:∀ b' i,dt b (lo*e.sz) (n*e.sz) b' i<=dt b 0 (cap*e.sz) b' i:=λb' i=>by
   grind [dt]
  have hA:∀ b' i,A b' i->∀ u,ce w b' i=some u->ce (w.setCells b (lo*e.sz) (news.take (n*e.sz))) b' i=some u:=λb' i ha u hu=>by
   refine fh.cell b' i (h.ll b' i (.inr ha)) ?_ u hu;rcases bM (dt b (lo*e.sz) (n*e.sz) b' i) with h0 | h0
   ·exact h0
   ·exact absurd ha (h.rf b' i (by grind [dj]))
  have aeg:∀ (i:Nat) (z:e.den),(oM v lo n y)[i]?=some z->∃ L,L.length=e.sz/\Has (w.setCells b (lo*e.sz) (news.take (n*e.sz))) b (i*e.sz) L/\Ro P (w.setCells b (lo*e.sz) (news.take (n*e.sz))) A e z L:=by
   intro i z hz;rw[Pz v y hn hy] at hz;split at hz
   ·rename_i hi;have xv:=an.flat _ hf (sW _ z hz);refine ⟨_,Ro.length _ xv,λj u hu=>?_,Ro.mono hA (λ_ _ h=>h) e xv⟩
    rw[bS] at hu;split at hu
    ·rename_i hj;rw[bP] at hu;have h6:(i - lo)*e.sz+e.sz<=n*e.sz:=by rw[<-eR];exact bC _ Bys
     have:=yI (w:=w) (b:=b) (o:=lo*e.sz) (L:=news.take (n*e.sz)) (λk hk=>tk _ Bys) (λu hu=>pH u (dI hu)) ((i - lo)*e.sz+j) u (by grind);rw[<-this];have h7:i*e.sz=lo*e.sz+(i - lo)*e.sz:=by rw[<-dC];congr 1;omega
     congr 1;omega
    ·cases hu
   ·rename_i hi;obtain ⟨L,l1,l2,l3⟩:=d5 i z hz;have xv:=an.flat _ hf l3;refine ⟨L,l1,λj u hu=>?_,Ro.mono hA (λ_ _ h=>h) e xv⟩
    refine fh.cell b _ (by obtain ⟨c,e',fr,w1,_⟩:=d3;grind) ?_ u (l2 j u hu);have hj:=(aM.1 hu).1;simp only[dt];rw[aL];rintro ⟨_,h8,h9⟩;rcases cR i lo with Xd | Xd
    ·have h6:i*e.sz+e.sz<=lo*e.sz:=by rw[<-eR];exact bC _ Bys
     omega
    ·have h6:lo*e.sz+n*e.sz<=i*e.sz:=by rw[<-dC];exact bC _ Bys
     omega
  have Ij:an P (w.setCells b (lo*e.sz) (news.take (n*e.sz))) A (.aa e) m [] (oM v lo n y) [.slice (some ⟨b,0,none⟩) (List.length v) cap] F2:=by
   simp only[an,hole,bX,aE,aR,jI,aK];refine ⟨some ⟨b,0,none⟩,cap,by rw[S_],by omega,c2,(λe=>by cases e),λde e'=>?_⟩
   injection e' with e';subst e';refine ⟨rfl,rfl,fh.x_ _ _ d3,λ_ _ _=>0,λb' i=>by grind [nQ],λi z hz=>?_⟩
   obtain ⟨L,l1,l2,l3⟩:=aeg i z hz;grind [Ro.flat]
  have xn:∀ b' o',Ea=some (b',o')->Has (w.setCells b (lo*e.sz) (news.take (n*e.sz))) b' o' [.slice (some ⟨b,0,none⟩) (List.length v) cap]:=λb' o' ea j u hu=>by
   have h1:=(q5 b' o' ea).1 j u hu;have hj:=(aM.1 hu).1;have h2:=q4 b' (o'+j);have h3:=d4 b' (o'+j);have h4:=EH b' (o'+j);have h5:=IK b' (o'+j);have h7:=dj F hr b' (o'+j)
   have h6:lF Ea (Ty.aa e).sz b' (o'+j)=1:=by
    grind [lF,dt,Ty.sz]
   exact fh.cell _ _ (h.ll b' (o'+j) (.inl (by grind))) Bys u h1
  obtain ⟨A3,C8,F3,n1,n2⟩:=fin _ (fh.mono λb' i hz=>by
    grind) xn Ij (λi z hz ad e=>by
    grind [Ro.flat])
  refine ⟨_,cap,Ea,_,A3,C8,F3,q2,n1,n2,(λe=>by cases e),λde e'=>?_⟩
  injection e' with e';subst e';refine ⟨rfl,rfl,λIQ=>?_,da⟩
  subst IQ;simp[World.setCells]
theorem Xe (h:ee P C A σ a w F) (lY:∀ i T,E.TI i=some T->bj P T (.inl i)=true) {t tx:Nat} {y z:Operand} (ho:o.op=.call { callee:=.builtin .copy,args:=#[y,z],argTypes:=#[t,tx] }) (bd:dy P y=true/\dy P z=true)
  (Da:(∃ e',P.underlying tx=some (.slice e'))\/P.underlying tx=some .string) {K:St->Option R} (hk:Ut E σ t y (d7 σ z) o.dst K=some x):o.wp P a w (Nx P C K x) Q:=by
 unfold Ut at hk;obtain ⟨T,hT,hk⟩:=gr hk;have jx:=lY _ _ hT;split at hk
 ·rename_i e;have hl:=jx;simp only[bj,aD] at hl;have h2:=hl.2;split at h2;rotate_left
  ·cases h2
  rename_i el hu;simp only[aD,dR] at h2;obtain ⟨ot,sW⟩:=h2;have acu:=run_sizeOf (P:=P) (w:=w) sW;split at hk;rotate_left
  ·cases hk
  rename_i hf
  rcases f5 h bd.2 with Db | ⟨xs,e'⟩
  rotate_left
  ·grind [C0,nJ]
  obtain ⟨A2,mX,F2,me,yv,news,Fw,Gi,q1,q2,q3,qr,q4,q4',q5,q6⟩:=Mq h Db Da hk;have h2:ee P C A2 mX a w F2:=q3.less λ_ _=>aW _
  have run:∀ (xa:Option Addr) (n cap:Nat) (w2:World),a.eval y=.slice xa n cap->(match (generalizing:=false) xa with | none=>w2=w | some ad=>(storeCells ad (news.take (min (List.length yv) n*e.sz))).run P w=.ok () w2) ->
    (execOp a.eval o).run P w=.ok (.value (.int .i64 ((min (List.length yv) n:Nat):Int))) w2:=by
   intro xa n cap w2 hy da;have hfc:=q4' (min (List.length yv) n) (iU _ _)
   cases xa with
   | none=>
    simp only at da;subst da;simp[execOp,ho,resolve,invoke,builtin,Builtin.copy_,hy,run_underlying hu,q4.len,acu,Nat.min_def] at hfc ⊢;simp[hfc,goInt]
   | some ad=>
    simp only at da;simp[execOp,ho,resolve,invoke,builtin,Builtin.copy_,hy,run_underlying hu,q4.len,acu,Nat.min_def] at hfc da ⊢;simp[hfc,da,goInt]
  rcases f5 h2 bd.1 with hs | ⟨xs,e'⟩
  rotate_left
  ·grind
  split at q1
  ·rename_i r p snap lo hi hv;rw[hv] at hs;split at q1
   ·rename_i pJ;obtain ⟨hr,t',m',H',v',ca,de,F',h1,ii,h3,h4,h5,h6⟩:=l6 h2 q1;split at h1
    ·rename_i hc;simp only[aD,bH] at hc;obtain ⟨jI,hH⟩:=hc;subst hH;obtain ⟨e1,h1⟩:=c7 h1;subst e1;obtain ⟨pl,e2,xa,n,cap,xx,cap',g1,g2,g3,g4,g5,g6,g7,g8,g9,g10,g11⟩:=hs.2 pJ
     have hvn:n=List.length v':=by
      grind [an,hole]
     obtain ⟨xb,Mn,Ea,w2,A3,C8,F3,c1,c2,c3,c4,c5⟩:=Ng h2 (K:=λσ'=>K (σ'.cb o.dst (.val (.int .i64) ((min (List.length yv) (hi - lo):Nat):Int)))) ⟨ii⟩ jI hf (lo:=lo) (n:=min (List.length yv) (hi - lo)) Bys (iU _ _) q4.newsLen q4.one q5 h1;rw[c1] at g1;injection g1 with g1;subst g1;simp only[dN,Value.slice.injEq,eP] at g3;obtain ⟨rfl,g3,rfl⟩:=g3;injection g2 with g2;subst g2;refine pg (run xx (hi - lo) cap' w2 g6 ?_) (cm c3 c2 ⟨[.int .i64 _],rfl,rfl⟩ (λ_ _ _ _ e=>by cases e))
     cases xb with
     | none=>grind
     | some ad=>
      obtain ⟨acv,k1,k2,k3,k4⟩:=g10 ad rfl;rw[k1];obtain ⟨j1,j2,j3,j4⟩:=c5 ad rfl;simp only;by_cases a7:lo < hi
      ·have:acv=⟨ad.block,lo*e.sz,none⟩:=by
        have h1:=k4 a7;obtain ⟨x1,x2,x3⟩:=acv;grind
       grind
      ·have IQ:min (List.length yv) (hi - lo)=0:=by omega
       rw[IQ,Nat.zero_mul,jA];rw[j3 IQ];rfl
    ·cases h1
   ·cases q1
  ·rename_i r p snap hv;rw[hv] at hs;split at q1
   ·rename_i pJ;obtain ⟨hr,t',m',H',v',ca,de,F',h1,ii,h3,h4,h5,h6⟩:=l6 h2 q1;split at h1
    ·rename_i hc;simp only[aD,bH] at hc;obtain ⟨jI,hH⟩:=hc;subst hH;obtain ⟨e1,h1⟩:=c7 h1;subst e1;obtain ⟨pl,g1,g2,g3⟩:=hs.2 pJ;obtain ⟨xb,Mn,Ea,w2,A3,C8,F3,c1,c2,c3,c4,c5⟩:=Ng h2 (K:=λσ'=>K (σ'.cb o.dst (.val (.int .i64) ((min (List.length yv) (List.length v'):Nat):Int)))) ⟨ii⟩ jI hf (lo:=0) (n:=min (List.length yv) (List.length v')) Bys (iU _ _) q4.newsLen q4.one q5 h1;rw[c1] at g1;injection g1 with g1;subst g1;simp only[ef (.aa e) _ rfl] at g2;refine pg (run xb (List.length v') Mn w2 g2 ?_) (cm c3 c2 ⟨[.int .i64 _],rfl,rfl⟩ (λ_ _ _ _ e=>by cases e))
     cases xb with
     | none=>grind
     | some ad=>
      obtain ⟨j1,j2,j3,j4⟩:=c5 ad rfl;obtain ⟨b,off,sp⟩:=ad;grind
    ·cases h1
   ·cases q1
  ·cases q1
 ·cases hk
end
end OT
namespace OT
open Go
def ln (w:World):(t:Ty)->Md->List Path->List Value->FP
 | .pair a b,m,H,cs=>λx i=>ln w a m.l (H.filterMap xt) (cs.take a.sz) x i+ln w b m.r (H.filterMap xu) (cs.drop a.sz) x i
 | .aa e,m,H,cs=>
  if hole H then λ_ _=>0 else if m.own then
   match cs with
   | [.slice (some ad) n cap]=>λx i=>dt ad.block 0 (cap*e.sz) x i+bf n (λj=>ln w e m.e (H.filterMap (lk j)) (rd w ad.block (j*e.sz) e.sz)) x i
   | _=>λ_ _=>0
  else λ_ _=>0
 | .ptr e,m,H,cs=>
  if hole H then λ_ _=>0 else if m.own then
   match cs with
   | [.pointer (some ad)]=>λx i=>dt ad.block 0 e.sz x i+ln w e m.e [] (rd w ad.block 0 e.sz) x i
   | _=>λ_ _=>0
  else λ_ _=>0
 | .map _ _,m,H,cs=>
  if hole H then λ_ _=>0 else if m.own then
   match cs with
   | [.map (some r)]=>dt r 0 1
   | _=>λ_ _=>0
  else λ_ _=>0
 | _,_,_,_=>λ_ _=>0
section
variable {P:Program} {w w1:World} {A:Cells}
theorem an.fp:∀ (t:Ty) {m:Md} {H:List Path} {v:t.den} {cs:List Value} {F:FP},an P w A t m H v cs F->an P w A t m H v cs (ln w t m H cs)/\∀ b i,ln w t m H cs b i<=F b i:=by
 intro t
 induction t with
 | pair a b nL nw=>
  intro m H v cs F h;obtain ⟨h0,F1,F2,hs,h1,h2⟩:=h;obtain ⟨a1,a2⟩:=nL h1;obtain ⟨b1,b2⟩:=nw h2;exact ⟨⟨h0,_,_,λ_ _=>aH _,a1,b1⟩,λb i=>by grind [ln]⟩
 | aa e ih=>
  intro m H v cs F h;have h':=h;simp only[an] at h;split at h
  ·simp_all [an,ln]
  ·rename_i hh;split at h
   ·rename_i hm;obtain ⟨xa,cap,rfl,h1,h2,h3,h4⟩:=h
    cases xa with
    | none=>
     grind [ln,an]
    | some ad=>
     obtain ⟨g1,g2,g3,Fi,g4,g5⟩:=h4 ad rfl
     have each:∀ (i:Nat) (x:e.den),v[i]?=some x->∃ L:List Value,L.length=e.sz/\Has w ad.block (i*e.sz) L/\an P w A e m.e (H.filterMap (lk i)) x L (ln w e m.e (H.filterMap (lk i)) (rd w ad.block (i*e.sz) e.sz)) /\
       ∀ b k,ln w e m.e (H.filterMap (lk i)) (rd w ad.block (i*e.sz) e.sz) b k<=Fi i b k:=λi x hx=>by
      grind [fe]
     have hle:∀ b i,bf (List.length v) (λj=>ln w e m.e (H.filterMap (lk j)) (rd w ad.block (j*e.sz) e.sz)) b i<=bf (List.length v) Fi b i:=λb i=>Mg b i λj hj=>by
      obtain ⟨_,_,_,_,q⟩:=each j _ (aB hj);exact q b i
     refine ⟨?_,λb i=>by grind [ln]⟩
     simp only[an,hh,hm,aK,aE,aR];refine ⟨some ad,cap,rfl,h1,h2,h3,λde e'=>?_⟩
     injection e' with e';subst e';refine ⟨g1,g2,g3,λj=>ln w e m.e (H.filterMap (lk j)) (rd w ad.block (j*e.sz) e.sz),λb i=>by grind [ln],λi x hx=>?_⟩
     grind
   simp_all [an,ln]
 | ptr e ih=>
  intro m H v cs F h;simp only[an] at h;split at h
  ·simp_all [an,ln]
  ·rename_i hh;split at h
   ·grind [ln,fe,an]
   simp_all [an,ln]
 | arr n e ih=>intro m H v cs F h;exact ⟨h,λ_ _=>aW _⟩
 | map k v=>
  intro m H x cs F h;simp only[an] at h;split at h
  ·simp_all [an,ln]
  ·rename_i hh;split at h
   ·rename_i hm;obtain ⟨h1,h2,r,vz,rfl,h4,h5,h6,h7⟩:=h;refine ⟨?_,λb i=>?_⟩
    ·simp only[an,hh,hm,aK,aE,aR];exact ⟨h1,h2,r,vz,rfl,h4,by simp[ln,hh,hm,dt],h6,h7⟩
    ·simp only[ln,hh,hm,aK,aE,aR,dt];grind
   simp_all [an,ln]
 | _=>intro m H v cs F h;exact ⟨h,λ_ _=>aW _⟩
theorem UW:∀ (t:Ty) {m:Md} {H:List Path} {v:t.den} {cs:List Value} {F:FP},an P w A t m H v cs F->(∀ b i,1<=F b i->∀ u,ce w b i=some u->ce w1 b i=some u)->ln w1 t m H cs=ln w t m H cs:=by
 intro t
 induction t with
 | pair a b nL nw=>
  intro m H v cs F h hF;obtain ⟨h0,F1,F2,hs,h1,h2⟩:=h;have e1:=nL h1 (λb i hp=>hF b i (by grind));have e2:=nw h2 (λb i hp=>hF b i (by grind));simp_all [ln]
 | aa e ih=>
  intro m H v cs F h hF;simp only[an] at h;split at h
  ·simp_all [ln]
  ·rename_i hh;split at h
   ·rename_i hm;obtain ⟨xa,cap,rfl,h1,h2,h3,h4⟩:=h
    cases xa with
    | none=>simp only[ln]
    | some ad=>
     obtain ⟨g1,g2,g3,Fi,g4,g5⟩:=h4 ad rfl;simp only[ln,hh,hm,aK,aE,aR];funext b i;congr 1;refine congrFun (congrFun (yu λj hj=>?_) b) i;obtain ⟨L,l1,l2,l3⟩:=g5 j _ (aB hj);have hle:j*e.sz+e.sz<=cap*e.sz:=by rw[<-eR];exact bC _ Bys
     have l2':Has w1 ad.block (j*e.sz) L:=λk u hu=>hF _ _ (by
      grind [dt]) u (l2 k u hu)
     grind [fe,dj]
   simp_all [ln]
 | ptr e ih=>
  intro m H v cs F h hF;simp only[an] at h;split at h
  ·simp_all [ln]
  ·rename_i hh;split at h
   ·rename_i hm;obtain ⟨b0,rfl,h1,L,F1,h2,h3,h4,h5⟩:=h
    have h3':Has w1 b0 0 L:=λk u hu=>hF _ _ (by
     grind [dt]) u (h3 k u hu)
    simp only[ln,hh,hm,aK,aE,aR,fe h3 h2,fe h3' h2];rw[ih h5 (λb i hp=>hF b i (by grind))]
   simp_all [ln]
 | _=>intro m H v cs F h hF;rfl
theorem an.indep {A':Cells}:∀ (t:Ty) {v:t.den} {cs:List Value} {F:FP},t.sY=true->an P w A t (ah t) [] v cs F->an P w A' t (ah t) [] v cs F:=by
 intro t
 induction t with
 | pair a b nL nw=>
  intro v cs F hn h;simp only[Ty.sY,aD] at hn;obtain ⟨h0,F1,F2,hs,h1,h2⟩:=h;exact ⟨h0,F1,F2,hs,nL hn.1 h1,nw hn.2 h2⟩
 | aa e ih=>
  intro v cs F hn h;simp only[an,hole,bX,aE,aR,ah,vT,Md.own,aK] at h ⊢;obtain ⟨xa,cap,h1,h2,h3,h4,h5⟩:=h;refine ⟨xa,cap,h1,h2,h3,h4,λad e'=>?_⟩
  obtain ⟨g1,g2,g3,Fi,g4,g5⟩:=h5 ad e';refine ⟨g1,g2,g3,Fi,g4,λi x hx=>?_⟩
  obtain ⟨L,l1,l2,l3⟩:=g5 i x hx;exact ⟨L,l1,l2,ih hn l3⟩
 | ptr e ih=>
  intro v cs F hn h;simp only[an,hole,bX,aE,aR,ah,vT,Md.own,aK] at h ⊢;obtain ⟨b,h1,h2,L,F1,h3,h4,h5,h6⟩:=h;exact ⟨b,h1,h2,L,F1,h3,h4,h5,ih hn h6⟩
 | arr n e ih=>
  intro v cs F hn h;exact ⟨h.1,Ro.indep _ (by have:=h.2.1;grind [Ty.flat]) hn h.2⟩
 | fn=>grind [Ty.sY]
 | map k v=>
  grind [Ty.sY,an,vT,Md.own,Ro.indep]
 | _=>intro v cs F hn h;exact h
theorem an.free {A':Cells} {t:Ty} {m:Md} {v:t.den} {cs:List Value} {F:FP} (ho:(t.flat||decide (m=ah t))=true) (hn:t.sY=true) (h:an P w A t m [] v cs F):an P w A' t m [] v cs F:=by
 grind [Ro.flat,Ro.indep,an.flat,an.indep]
def World.news (w w2:World):World:={ w2 with heap:=(w.heap.toList++w2.heap.toList.drop w.heap.size).toArray }
theorem Nh {w2:World} (h:w.heap.size<=w2.heap.size) (k:Nat):(World.news w w2).heap[k]?=if k < w.heap.size then w.heap[k]? else w2.heap[k]?:=by
 grind [World.news]
theorem Ap {w2:World} (h:w.heap.size<=w2.heap.size):(World.news w w2).heap.size=w2.heap.size:=by grind [World.news]
theorem ww {w2:World} (h:w.heap.size<=w2.heap.size) {b:Nat} (hb:b < w.heap.size):(World.news w w2).heap[b]?=w.heap[b]?:=by grind [Nh]
theorem EQ {w2:World} (h:w.heap.size<=w2.heap.size) {b:Nat} (hb:w.heap.size<=b):(World.news w w2).heap[b]?=w2.heap[b]?:=by grind [Nh]
theorem DI {w2:World} {b:Nat} (h:w2.heap[b]?=w.heap[b]?) (i:Nat):ce w2 b i=ce w b i:=BQ h i
theorem zX {w2:World} {b:Nat} (h:w2.heap[b]?=w.heap[b]?) (i:Nat):w2.frozen? ⟨b,i,none⟩=w.frozen? ⟨b,i,none⟩:=by simp[World.frozen?,h]
theorem yL {w2:World} {b:Nat} (h:w2.heap[b]?=w.heap[b]?) (n:Nat×Bool):jj w b n↔jj w2 b n:=by grind [jj]
theorem jj.lt {b:Nat} {n:Nat×Bool} (h:jj w b n):b < w.heap.size:=by
 obtain ⟨c,e,fr,h1,_⟩:=h;grind
theorem JB {w2:World} {F:FP} (h:Ext w w2 F):Ext w (World.news w w2) (λ_ _=>0)/\Ext (World.news w w2) w2 F:=by
 have hs:=h.size
 refine ⟨⟨by grind [Ap],λb i hb _ u hu=>by grind [DI,ww],λb n hn=>(yL (ww hs hn.lt) n).1 hn,λb i hb=>zX (ww hs hb) i,h.os,h.tape,h.output,λb hb _=>ww hs hb,h.drawn⟩,
  ⟨by grind [Ap],λb i hb hz u hu=>?_,λb n hn=>?_,λb i hb=>?_,rfl,rfl,rfl,λb hb hz=>?_,aH _⟩⟩
 ·by_cases Cf:b < w.heap.size
  ·rw[DI (ww hs Cf)] at hu;exact h.cell b i Cf hz u hu
  grind [DI,EQ]
 ·by_cases Cf:b < w.heap.size
  ·exact h.x_ b n ((yL (ww hs Cf) n).2 hn)
  grind [yL,EQ]
 ·by_cases Cf:b < w.heap.size
  ·rw[zX (ww hs Cf)];exact h.AU b i Cf
  grind [zX,EQ]
 ·by_cases Cf:b < w.heap.size
  ·rw[ww hs Cf];exact h.obj b Cf hz
  grind [EQ]
end
def ArgRel (P:Program) (w:World) (A:Cells) (ho:List Path->Bool) (pm:PM) (t:Ty) (v:t.den) (x:Value) (F:FP):Prop:=
 match pm with
 | .ro=>∃ cs,x=c_ t cs/\Ro P w A t v cs
 | .fix f=>(∃ cs,x=c_ t cs/\Ro P w A t v cs)/\∀ e:t=.fn,(e ▸ v:Ty.fn.den).1=f
 | .jp m _=>∃ b o L F1,x=.pointer (some ⟨b,o,none⟩)/\L.length=t.sz/\Has w b o L/\(∀ j,j < t.sz->w.frozen? ⟨b,o+j,none⟩=false)/\(∀ b' i,dt b o t.sz b' i+F1 b' i<=F b' i)/\an P w A t m [] v L F1
 | .lD m=>∃ cs,x=c_ t cs/\an P w A t m [] v cs F
 | .pG m=>∃ H cs,ho H=true/\x=c_ t cs/\an P w A t m H v cs F
 | .tc m=>∃ b o L F1,x=.pointer (some ⟨b,o,none⟩)/\L.length=t.sz/\Has w b o L/\(∀ j,j < t.sz->w.frozen? ⟨b,o+j,none⟩=false)/\(∀ b' i,dt b o t.sz b' i+F1 b' i<=F b' i)/\an P w A t m [] v L F1
def qf (P:Program) (w:World) (A:Cells) (ho:List Path->Bool):(ps:List (PM×Ty))->(bu (ps.map (·.2))).den->List Value->FP->Prop
 | [],_,xs,_=>xs=[]
 | (pm,t)::ps,v,xs,F=>∃ (x:Value) (To:List Value) (F1 F2:FP),xs=x::To/\(∀ b i,F1 b i+F2 b i<=F b i)/\ArgRel P w A ho pm t v.1 x F1/\qf P w A ho ps v.2 To F2
abbrev PA:List Path->Bool:=λH=>H.isEmpty
theorem qf.none {P:Program} {w:World} {A:Cells} {ho:List Path->Bool} (hh:∀ H,ho H=true->H=[]):∀ (ps:List (PM×Ty)) {v:(bu (ps.map (·.2))).den} {xs:List Value} {F:FP},qf P w A ho ps v xs F->qf P w A PA ps v xs F
 | [],_,_,_,h=>h
 | (pm,t)::ps,_,_,_,⟨x,To,F1,F2,h1,h2,h3,h4⟩=>⟨x,To,F1,F2,h1,h2,by
  cases pm with
  | pG m=>obtain ⟨H,cs,g1,g2⟩:=h3;rw[hh H g1] at g2;exact ⟨[],cs,rfl,g2⟩
  | _=>exact h3,qf.none hh ps h4⟩
def ph (P:Program) (w:World) (A:Cells):(ps:List (PM×Ty))->(bu (lN ps)).den->List Value->FP->Prop
 | [],_,_,_=>True
 | (.ro,_)::ps,v,xs,F=>ph P w A ps v xs.tail F
 | (.fix _,_)::ps,v,xs,F=>ph P w A ps v xs.tail F
 | (.tc _,_)::ps,v,xs,F=>ph P w A ps v xs.tail F
 | (.pG _,_)::ps,v,xs,F=>ph P w A ps v xs.tail F
 | (.jp _ m,t)::ps,v,xs,F=>∃ (F1 F2:FP),(∀ b i,F1 b i+F2 b i<=F b i)/\(∃ b o L F3,xs.head?=some (.pointer (some ⟨b,o,none⟩))/\L.length=t.sz/\Has w b o L/\(∀ b' i,dt b o t.sz b' i+F3 b' i<=F1 b' i)/\an P w A t m [] v.1 L F3)/\ph P w A ps v.2 xs.tail F2
 | (.lD m,t)::ps,v,xs,F=>∃ (F1 F2:FP),(∀ b i,F1 b i+F2 b i<=F b i)/\(∃ cs,xs.head?=some (c_ t cs)/\an P w A t m [] v.1 cs F1)/\ph P w A ps v.2 xs.tail F2
def oN (P:Program) (w:World) (A:Cells) (rs:List Kn) (rv:Value) (F:FP):Prop:=
 match rs with
 | []=>True
 | [x]=>∃ cs,rv=c_ x.t cs/\an P w A x.t x.m [] x.v cs F
 | xs=>∃ (vs:Array Value) (Fi:Nat->FP),rv=.tuple vs/\(∀ b i,bf xs.length Fi b i<=F b i)/\∀ j x,xs[j]?=some x->∃ v cs,vs[j]?=some v/\v=c_ x.t cs/\an P w A x.t x.m [] x.v cs (Fi j)
def Sound (P:Program) (f:FuncId) (g:v6):Prop:=
 ∀ (w:World) (A:Cells) (F0:FP) (v:(bu (g.ps.map (·.2))).den) (xs:List Value),qf P w A (g.Ga v) g.ps v xs F0->(∀ b i,F0 b i<=1)->(∀ b i,1<=F0 b i->¬ A b i)->(∀ b i,1<=F0 b i\/A b i->b < w.heap.size)->xG P w F0 ->
  ∀ out,g.F v=some out->Calls P f xs.toArray w λe w'=>∃ rv,e=.returned rv/\Ext w w' F0/\∃ (A':Cells) (G GR GM:FP),(∀ b i,A b i->A' b i)/\(∀ b i,A' b i->A b i\/1<=F0 b i\/w.heap.size<=b) /\
   (∀ b i,1<=G b i->1<=F0 b i\/w.heap.size<=b)/\(∀ b i,G b i<=1)/\(∀ b i,1<=G b i->¬ A' b i)/\(∀ b i,1<=G b i\/A' b i->b < w'.heap.size)/\(∀ b i,GR b i+GM b i<=G b i) /\
   oN P w' A' (lO g.rs out).1 rv GR/\ph P w' A' g.ps (lO g.rs out).2 xs GM
def wT (P:Program) (f:FuncId) (cap:Bool):Prop:=∃ fn,P.funcs[f]?=some fn/\(fn.name == "runtime.NumGoroutine")=false/\fn.body.isNone=false/\fn.nfree=(match cap with | true=>1 | false=>0)
end OT
namespace OT
open Go
section
variable {P:Program} {C:Ctx} {A:Cells} {X:FP} {σ:St} {a:Act} {w:World} {F:Nat->FP} {R:Type} {x:R}
theorem abk {K:St->Option R}:∀ (ps:List (PM×Ty)) (xs:List Operand) {σ:St} {A:Cells} {F:Nat->FP},ee P C A σ a w F->td σ ps xs K=some x ->
  ∃ (A':Cells) (σ':St) (F':Nat->FP),K σ'=some x/\(∀ b i,A b i->A' b i)/\ee P C A' σ' a w F'/\σ'.n=σ.n:=by
 intro ps
 induction ps with
 | nil=>intro xs σ A F h hk;exact ⟨A,σ,F,by cases xs <;> exact hk,λ_ _ h=>h,h,rfl⟩
 | cons p ps ih=>
  intro xs σ A F h hk
  cases xs with
  | nil=>obtain ⟨pm,t⟩:=p;exact ⟨A,σ,F,by cases pm <;> exact hk,λ_ _ h=>h,h,rfl⟩
  | cons y xs=>
   obtain ⟨pm,t⟩:=p
   have fin:∀ {m' m:Md} {r:Nat} {p:Path},(if m'=m then td σ ps xs K else xY σ r p m λσ=>td σ ps xs K)=some x ->
     ∃ (A':Cells) (σ':St) (F':Nat->FP),K σ'=some x/\(∀ b i,A b i->A' b i)/\ee P C A' σ' a w F'/\σ'.n=σ.n:=λhk=>by
    grind [RP]
   cases pm with
   | ro=>exact ih xs h hk
   | fix f=>exact ih xs h hk
   | jp m m'=>
    simp only[td] at hk;split at hk
    ·split at hk
     ·obtain ⟨hr,t',m',H',v',ca,de,F',h1,_⟩:=l6 h hk;exact fin h1
     ·cases hk
    ·cases hk
   | tc m=>
    simp only[td] at hk;split at hk
    ·split at hk
     ·obtain ⟨hr,t',m',H',v',ca,de,F',h1,_⟩:=l6 h hk;exact fin h1
     ·cases hk
    ·cases hk
   | lD m=>
    simp only[td] at hk;split at hk
    ·split at hk
     ·obtain ⟨hr,t',m',H',v',ca,de,F',h1,_⟩:=l6 h hk;exact fin h1
     ·cases hk
    ·cases hk
   | pG m=>
    simp only[td] at hk;split at hk
    ·split at hk
     ·obtain ⟨hr,t',m',H',v',ca,de,F',h1,_⟩:=l6 h hk;exact fin h1
     ·cases hk
    ·cases hk
theorem Xf (h:ee P C A σ a w F) {r:Nat} {t:Ty} {m:Md} {v:t.den} (hg:σ.get r=.box t m [] v):∃ (A':Cells) (F':Nat->FP),(∀ b i,A b i->A' b i)/\ee P C A' ((σ.put r .dead).put r (.cp t v)) a w F'/\Ro P w A' (.ptr t) v [tmp a r]/\r < σ.n:=by
 have hi:r < σ.n:=by
  grind [mQ]
 have hs:=h.i9 r hi;rw[hg] at hs;obtain ⟨b,off,L,F1,s1,s2,s3,s4,s5,s6⟩:=hs;have h1:=h.put hi (s:=.dead) (v:=tmp a r) (Fd:=λ_ _=>0) (X':=F r) trivial (λb k=>by omega) (λ_ _ _ _ e=>by cases e);rw[sx] at h1;have h2:=h1.giveUp (A1:=λb' i'=>A b' i'\/1<=F r b' i') (X1:=λ_ _=>0) (λ_ _ h=>.inl h) (λb' i' ha=>ha.imp id λhp=>⟨hp,rfl⟩) (λ_ _=>aW _)
 have yG:Ro P w (λb' i'=>A b' i'\/1<=F r b' i') (.ptr t) v [tmp a r]:=
  ⟨⟨b,off,none⟩,by rw[s1],rfl,L,s2,(λj u hu=>⟨s3 j u hu,.inr (by
   grind [dt])⟩),an.yw (λ_ _ h=>.inl h) t s6 (λb' i' hp=>.inr (by grind))⟩
 have h3:=h2.put (d:=r) hi (s:=.cp t v) (v:=tmp a r) (Fd:=λ_ _=>0) (X':=λ_ _=>0) yG (λb k=>by omega) (λ_ _ _ _ e=>by cases e);grind [sx]
theorem abl (h:ee P C A σ a w F) {i:Nat} (hi:i < σ.n) {t:Ty} {v:t.den} (yG:Ro P w A (.ptr t) v [tmp a i]):∃ F':Nat->FP,ee P C A ((σ.put i .dead).put i (.cp t v)) a w F':=by
 have h1:=h.put hi (s:=.dead) (v:=tmp a i) (Fd:=λ_ _=>0) (X':=F i) trivial (λb k=>by omega) (λ_ _ _ _ e=>by cases e);rw[sx] at h1;have h2:=h1.giveUp (A1:=A) (X1:=λ_ _=>0) (λ_ _ h=>h) (λb' i' ha=>.inl ha) (λ_ _=>aW _);have h3:=h2.put (d:=i) hi (s:=.cp t v) (v:=tmp a i) (Fd:=λ_ _=>0) (X':=λ_ _=>0) yG (λb k=>by omega) (λ_ _ _ _ e=>by cases e);grind [sx]
theorem Ze (h:ee P C A σ a w F) {i r:Nat} {snap:List Nat} {t:Ty} {m:Md} {H:List Path} {v:t.den} (hi:i < σ.n) (hs:σ.get i=.ptr r [] snap) (bd:σ.ok r snap=true) (hg:σ.get r=.box t m H v):tmp a i=tmp a r:=by
 have h1:=h.i9 i hi;rw[hs] at h1;obtain ⟨pl,b,o,p1,p2,p3,p4⟩:=h1.2 bd
 have hr:r < σ.n:=by
  grind [mQ]
 have h2:=h.i9 r hr;rw[hg] at h2;obtain ⟨b2,off,L,F1,s1,_⟩:=h2;grind [place,d8,bv]
theorem acw {K:St->Option R}:∀ (ps:List (PM×Ty)) (xs:List Operand) {σ:St} {A:Cells} {F:Nat->FP},ee P C A σ a w F->BN σ ps xs K=some x ->
  ∃ (A':Cells) (σ':St) (F':Nat->FP),K σ'=some x/\(∀ b i,A b i->A' b i)/\ee P C A' σ' a w F'/\σ'.n=σ.n:=by
 intro ps
 induction ps with
 | nil=>intro xs σ A F h hk;exact ⟨A,σ,F,by cases xs <;> exact hk,λ_ _ h=>h,h,rfl⟩
 | cons p ps ih=>
  intro xs σ A F h hk
  cases xs with
  | nil=>obtain ⟨pm,t⟩:=p;exact ⟨A,σ,F,by cases pm <;> exact hk,λ_ _ h=>h,h,rfl⟩
  | cons y xs=>
   obtain ⟨pm,t⟩:=p
   have fin:∀ {r:Nat} {p:Path},(zu σ r p λσ=>BN σ ps xs K)=some x ->
     ∃ (A':Cells) (σ':St) (F':Nat->FP),K σ'=some x/\(∀ b i,A b i->A' b i)/\ee P C A' σ' a w F'/\σ'.n=σ.n:=λhk=>by
    grind [Ao]
   cases pm with
   | fix f=>exact ih xs h hk
   | jp m m'=>exact ih xs h hk
   | tc m=>exact ih xs h hk
   | lD m=>exact ih xs h hk
   | pG m=>exact ih xs h hk
   | ro=>
    simp only[BN] at hk;split at hk
    ·grind
    ·split at hk
     ·grind
     ·grind
     ·rename_i r p snap hop;split at hk
      ·rename_i bd;split at hk
       ·rename_i t m H v hg;split at hk
        ·rename_i hc;simp only[aD,bH] at hc;obtain ⟨hH,Ce⟩:=hc;subst hH;obtain ⟨A1,F1,IL,h3,h4,h5⟩:=Xf h hg
         have go:∀ {mX:St} {F2:Nat->FP},ee P C A1 mX a w F2->BN mX ps xs K=some x->mX.n=σ.n->∃ (A':Cells) (σ':St) (F':Nat->FP),K σ'=some x/\(∀ b i,A b i->A' b i)/\ee P C A' σ' a w F'/\σ'.n=σ.n:=λh3 hk hn=>by
          grind
         cases y with
         | tmp i=>
          simp only[ab_] at hk;split at hk
          ·exact go h3 hk rfl
          ·rename_i Dc;simp only[Bool.or_eq_false_iff,Bool.not_eq_false',Nat.blt_eq] at Dc;obtain ⟨g1,g2⟩:=Dc;have hi:i < σ.n:=g2;have Ta:i≠r:=λe=>by simp_all
           have hs:σ.get i=.ptr r [] snap:=by
            grind [d7]
           have he:=Ze h hi hs bd hg;rw[<-he] at h4;obtain ⟨F3,h6⟩:=abl h3 (i:=i) g2 h4;exact go h6 hk rfl
         | const c=>exact go h3 hk rfl
         | func f=>exact go h3 hk rfl
         | global g=>exact go h3 hk rfl
        ·cases hk
       ·cases hk
      ·cases hk
     grind
def AX (A:Cells) (F:Nat->FP) (n r0:Nat) (ow:Bool):Cells:=λb i=>A b i\/(ow=true/\∃ j,j < n/\j≠r0/\1<=F j b i)
def aaM (P:Program) (A:Cells) (σ:St) (a:Act) (w:World) (F:Nat->FP) (ow:Bool) (pm:PM) (t:Ty) (v:t.den) (s:Slot) (tv:Value) (wp:Option (Nat×Path)):Prop:=
 match pm with
 | .ro=>wp=none/\∃ cs,tv=c_ t cs/\Ro P w (λb i=>A b i\/(ow=true/\∃ r ∈ nO s,r < σ.n/\1<=F r b i)) t v cs
 | .fix f=>wp=none/\(∃ cs,tv=c_ t cs/\Ro P w A t v cs)/\∀ e:t=.fn,(e ▸ v:Ty.fn.den).1=f
 | .jp m _=>∃ r p snap b o cs,s=.ptr r p snap/\wp=some (r,p)/\At σ r p t m [] v/\tv=.pointer (some ⟨b,o,none⟩)/\place σ a w r p=some ⟨t,[],cs,some (b,o)⟩
 | .lD m=>∃ r p snap cs ad,s=.ref r p snap/\wp=some (r,p)/\At σ r p t m [] v/\tv=c_ t cs/\place σ a w r p=some ⟨t,[],cs,ad⟩
 | .pG m=>∃ H r p snap cs ad,s=.ref r p snap/\wp=some (r,p)/\At σ r p t m H v/\tv=c_ t cs/\place σ a w r p=some ⟨t,H,cs,ad⟩
 | .tc m=>∃ r p snap b o cs,s=.ptr r p snap/\wp=some (r,p)/\At σ r p t m [] v/\tv=.pointer (some ⟨b,o,none⟩)/\place σ a w r p=some ⟨t,[],cs,some (b,o)⟩
def GU (P:Program) (A:Cells) (σ:St) (a:Act) (w:World) (F:Nat->FP) (ow:Bool):(ps:List (PM×Ty))->(bu (ps.map (·.2))).den->List Slot->List Value->List (Nat×Path)->Prop
 | [],_,ss,qO,ws=>ss=[]/\qO=[]/\ws=[]
 | (pm,t)::ps,v,ss,qO,ws=>∃ s Xg tv zC wp Cg,ss=s::Xg/\qO=tv::zC/\ws=(match (generalizing:=false) wp with | some x=>x::Cg | none=>Cg)/\aaM P A σ a w F ow pm t v.1 s tv wp/\GU P A σ a w F ow ps v.2 Xg zC Cg
def xP (P:Program) (A:Cells) (σ:St) (a:Act) (w:World):List Slot->List Value->Prop
 | [],[]=>True
 | s::ss,tv::qO=>(db P A σ a w tv s (λ_ _=>0)\/∃ xs,s=.sR xs)/\xP P A σ a w ss qO
 | _,_=>False
theorem KR (h:ee P C A σ a w F):∀ (xs:List Operand) {ss:List Slot} {qO:List Value},xs.all (dy P)=true->xP P A σ a w ss qO->xP P A σ a w (xs.map (d7 σ)++ss) (xs.map a.eval++qO)
 | [],_,_,_,h2=>h2
 | y::xs,_,_,bd,h2=>by
  simp only[eI,aD] at bd;exact ⟨f5 h bd.1,KR h xs bd.2 h2⟩
theorem adq (h:ee P C A σ a w F) {s:Slot} {tv:Value} {G:FP} (hs:db P A σ a w tv s G) {t:Ty} {K:t.den->Option R} (hk:O3 σ s t K=some x) :
  ∃ (v:t.den) (cs:List Value),K v=some x/\tv=c_ t cs/\Ro P w A t v cs:=by
 cases s with
 | val t' v=>
  obtain ⟨e,hk⟩:=c7 hk;subst e;obtain ⟨cs,h1,h2⟩:=hs;grind
 | cp t' v=>
  obtain ⟨e,hk⟩:=c7 hk;subst e;exact ⟨v,[tv],hk,(ef _ _ rfl).symm,hs⟩
 | yo=>
  simp only[O3] at hk;split at hk
  ·rename_i t e;have hs:tv=.slice none 0 0:=hs;subst hs;exact ⟨[],_,hk,(ef _ _ rfl).symm,none,0,rfl,aH _,λ_=>rfl,λad lP=>by cases lP⟩
  ·cases hk
 | ref r p snap=>
  simp only[O3] at hk;split at hk
  ·rename_i bd;obtain ⟨hr,t',m',H',v',ca,de,F',h1,h2,h3,h4,h5,h6⟩:=l6 h hk;obtain ⟨pl,g1,g2,g3⟩:=hs.2 bd;grind [c7,an.flat,an.ro,it]
  ·cases hk
 | sub r p snap lo hi=>
  simp only[O3] at hk;split at hk
  ·rename_i bd;obtain ⟨hr,t',m',H',v',ca,de,F',h1,h2,h3,h4,h5,h6⟩:=l6 h hk;obtain ⟨pl,e,xa,n,cap,xx,cap',g1,g2,g3,g4,g5,g6,g7,Tc,g8,g9,g10⟩:=hs.2 bd;rw[h3] at g1;injection g1 with g1;subst g1;simp only at g2 g3;subst g2;subst g3;split at h1
   ·rename_i hc;simp only[aD,bH,bA] at hc;obtain ⟨hH,hm⟩:=hc;subst hH;subst hm;obtain ⟨e',h1⟩:=c7 h1;subst e';exact ⟨_,_,h1,by rw[ef _ _ rfl];exact g6,Ro.piece (an.ro _ (it _) h4) g4 g5 g7 g8 g9⟩
   ·cases h1
  ·cases hk
 | _=>simp[O3] at hk
theorem acx (h:ee P C A σ a w F) {ow:Bool} {pm:PM} {t:Ty} {s:Slot} {tv:Value} (hs:db P A σ a w tv s (λ_ _=>0)\/∃ xs,s=.sR xs) {K:t.den->Option (Nat×Path)->Option R} (hk:BM σ ow pm t s K=some x) :
  ∃ v wp,K v wp=some x/\aaM P A σ a w F ow pm t v s tv wp:=by
 rcases hs with hs | ⟨xs,rfl⟩
 rotate_left
 ·cases pm with
  | ro=>cases ow <;> simp[BM,ua,O3] at hk
  | _=>simp[BM] at hk
 cases pm with
 | ro=>
  cases ow with
  | true=>
   simp only[BM] at hk;have a7:=GJ h hk;obtain ⟨v,cs,h1,h2,h3⟩:=M_ h hs hk;exact ⟨v,none,h1,rfl,cs,h2,Ro.mono (λ_ _ _ _ h=>h) (λb i ha=>ha.imp id λ⟨r,hr,hp⟩=>⟨rfl,r,hr,a7 r hr,hp⟩) t h3⟩
  | false=>
   simp only[BM] at hk;obtain ⟨v,cs,h1,h2,h3⟩:=adq h hs hk;exact ⟨v,none,h1,rfl,cs,h2,Ro.mono (λ_ _ _ _ h=>h) (λb i ha=>.inl ha) t h3⟩
 | fix f=>
  simp only[BM] at hk;split at hk
  ·rename_i v;split at hk
   ·rename_i hf;obtain ⟨e,hk⟩:=c7 hk;subst e;obtain ⟨cs,h1,h2⟩:=hs;exact ⟨v,none,hk,rfl,⟨cs,h1,h2⟩,λe=>by simpa using hf⟩
   ·cases hk
  ·cases hk
 | jp m m'=>
  simp only[BM] at hk;split at hk
  ·rename_i r p snap;split at hk
   ·rename_i bd;obtain ⟨hr,t',m',H',v',ca,de,F',h1,h2,h3,h4,h5,h6⟩:=l6 h hk;obtain ⟨pl,b,o,g1,g2,g3,g4⟩:=hs.2 bd;rw[h3] at g1;injection g1 with g1;subst g1;simp only at g2;subst g2;split at h1
    ·rename_i hc;simp only[aD,bH,bA] at hc;obtain ⟨hH,hm⟩:=hc;subst hH;subst hm;obtain ⟨e,h1⟩:=c7 h1;subst e;exact ⟨v',_,h1,r,p,snap,b,o,ca,rfl,rfl,⟨h2⟩,g3,h3⟩
    ·cases h1
   ·cases hk
  ·cases hk
 | tc m=>
  simp only[BM] at hk;split at hk
  ·rename_i r p snap;split at hk
   ·rename_i bd;obtain ⟨hr,t',m',H',v',ca,de,F',h1,h2,h3,h4,h5,h6⟩:=l6 h hk;obtain ⟨pl,b,o,g1,g2,g3,g4⟩:=hs.2 bd;rw[h3] at g1;injection g1 with g1;subst g1;simp only at g2;subst g2;split at h1
    ·rename_i hc;simp only[aD,bH,bA] at hc;obtain ⟨hH,hm⟩:=hc;subst hH;subst hm;obtain ⟨e,h1⟩:=c7 h1;subst e;exact ⟨v',_,h1,r,p,snap,b,o,ca,rfl,rfl,⟨h2⟩,g3,h3⟩
    ·cases h1
   ·cases hk
  ·cases hk
 | lD m=>
  simp only[BM] at hk;split at hk
  ·rename_i r p snap;split at hk
   ·rename_i bd;obtain ⟨hr,t',m',H',v',ca,de,F',h1,h2,h3,h4,h5,h6⟩:=l6 h hk;obtain ⟨pl,g1,g2,g3⟩:=hs.2 bd;rw[h3] at g1;injection g1 with g1;subst g1;split at h1
    ·rename_i hc;simp only[aD,bH,bA] at hc;obtain ⟨hH,hm⟩:=hc;subst hH;subst hm;obtain ⟨e,h1⟩:=c7 h1;subst e;exact ⟨v',_,h1,r,p,snap,ca,de,rfl,rfl,⟨h2⟩,g2,h3⟩
    ·cases h1
   ·cases hk
  ·cases hk
 | pG m=>
  simp only[BM] at hk;split at hk
  ·rename_i r p snap;split at hk
   ·rename_i bd;obtain ⟨hr,t',m',H',v',ca,de,F',h1,h2,h3,h4,h5,h6⟩:=l6 h hk;obtain ⟨pl,g1,g2,g3⟩:=hs.2 bd;rw[h3] at g1;injection g1 with g1;subst g1;split at h1
    ·rename_i hm;subst hm;obtain ⟨e,h1⟩:=c7 h1;subst e;exact ⟨v',_,h1,H',r,p,snap,ca,de,rfl,rfl,⟨h2⟩,g2,h3⟩
    ·cases h1
   ·cases hk
  ·cases hk
theorem abm (h:ee P C A σ a w F) {ow:Bool}:∀ (ps:List (PM×Ty)) {ss:List Slot} {qO:List Value} {K:(bu (ps.map (·.2))).den->List (Nat×Path)->Option R},xP P A σ a w ss qO->Ow σ ow ps ss K=some x ->
  ∃ v ws,K v ws=some x/\GU P A σ a w F ow ps v ss qO ws:=by
 intro ps
 induction ps with
 | nil=>
  intro ss qO K hs hk
  cases ss with
  | nil=>
   cases qO with
   | nil=>exact ⟨(),[],hk,rfl,rfl,rfl⟩
   | cons _ _=>exact hs.elim
  | cons _ _=>cases hk
 | cons p ps ih=>
  intro ss qO K hs hk;obtain ⟨pm,t⟩:=p
  cases ss with
  | nil=>cases hk
  | cons s ss=>
   cases qO with
   | nil=>exact hs.elim
   | cons tv qO=>
    simp only[Ow] at hk;obtain ⟨v,wp,h1,h2⟩:=acx h hs.1 hk;obtain ⟨vs,ws,h3,h4⟩:=ih hs.2 h1;exact ⟨(v,vs),_,h3,s,ss,tv,qO,wp,ws,rfl,rfl,rfl,h2,h4⟩
theorem qQ {ow:Bool} {A0:Cells} (hA:∀ b i,A b i->A0 b i) {r0:Nat} (hX:ow=true->∀ b i j,j < σ.n->j≠r0->1<=F j b i->A0 b i):∀ (ps:List (PM×Ty)) {v:(bu (ps.map (·.2))).den} {ss:List Slot} {qO:List Value},
  GU P A σ a w F ow ps v ss qO []->(∀ r ∈ ss.flatMap nO,r < σ.n->r≠r0)->(∀ ho,qf P w A0 ho ps v qO (λ_ _=>0))/\(∀ (σ':St) (K:St->Option R) (out:(bu (lN ps)).den),th σ' ps [] out K=K σ'):=by
 intro ps
 induction ps with
 | nil=>intro v ss qO h hr;exact ⟨λ_=>h.2.1,λσ' K out=>rfl⟩
 | cons p ps ih=>
  intro v ss qO h hr;obtain ⟨pm,t⟩:=p;obtain ⟨s,Xg,tv,zC,wp,Cg,rfl,rfl,hw,mW,ry⟩:=h;have pA:∀ b i,A b i->∀ u,ce w b i=some u->ce w b i=some u:=λ_ _ _ _ h=>h
  cases wp with
  | some y=>cases hw
  | none=>
   have hw:[]=Cg:=hw;subst hw;obtain ⟨i1,i2⟩:=ih ry (λr hm=>hr r (by grind))
   cases pm with
   | ro=>
    obtain ⟨_,cs,h1,h2⟩:=mW;refine ⟨λho=>⟨tv,zC,λ_ _=>0,λ_ _=>0,rfl,λ_ _=>aH _,⟨cs,h1,Ro.mono (λ_ _ _ _ h=>h) (λb i ha=>?_) t h2⟩,i1 ho⟩,λσ' K out=>i2 σ' K out⟩
    grind
   | fix f=>
    obtain ⟨_,⟨cs,h1,h2⟩,h3⟩:=mW;exact ⟨λho=>⟨tv,zC,λ_ _=>0,λ_ _=>0,rfl,λ_ _=>aH _,⟨⟨cs,h1,Ro.mono (λ_ _ _ _ h=>h) hA t h2⟩,h3⟩,i1 ho⟩,λσ' K out=>i2 σ' K out⟩
   | jp m m'=>obtain ⟨r,p,snap,b,o,cs,_,e,_⟩:=mW;cases e
   | tc m=>obtain ⟨r,p,snap,b,o,cs,_,e,_⟩:=mW;cases e
   | lD m=>obtain ⟨r,p,snap,cs,ad,_,e,_⟩:=mW;cases e
   | pG m=>obtain ⟨H,r,p,snap,cs,ad,_,e,_⟩:=mW;cases e
theorem abn {t:Ty} {cs ca:List Value} (h1:cs.length=t.sz) (h2:∀ x ∈ cs,x.oneCell'=true) (h3:ca.length=t.sz) (h4:∀ x ∈ ca,x.oneCell'=true) (h:c_ t cs=c_ t ca):cs=ca:=by
 grind [lX]
theorem UX {ow:Bool} {r:Nat} {p:Path}:∀ (ps:List (PM×Ty)) {v:(bu (ps.map (·.2))).den} {ss:List Slot} {qO:List Value},
  GU P A σ a w F ow ps v ss qO [(r,p)]->(ss.flatMap nO).count r<=1 ->
  1<=(ss.flatMap nO).count r/\∃ (vE sc Gd:Bool) (t:Ty) (m:Md) (H:List Path) (v1:t.den) (cs:List Value) (ad:Option (Nat×Nat)),((Gd=false->H=[])/\(Gd=true->Uu ps=true))/\At σ r p t m H v1/\place σ a w r p=some ⟨t,H,cs,ad⟩/\(sc=true->∃ b o,ad=some (b,o)) /\
   (o_ ps=true->(t.flat||decide (m=ah t))=true/\t.sY=true) /\
   (∀ (A0:Cells) (F0 Fp:FP),(∀ b i,A b i->A0 b i)->(ow=true->∀ b i j,j < σ.n->j≠r->1<=F j b i->A0 b i)->an P w A0 t m H v1 cs Fp ->
    (sc=true->∀ b o,ad=some (b,o)->Has w b o cs/\(∀ j,j < t.sz->w.frozen? ⟨b,o+j,none⟩=false)/\∀ b' i,dt b o t.sz b' i+Fp b' i<=F0 b' i)->(sc=false->∀ b i,Fp b i<=F0 b i)->∀ ho,(Gd=true->ho H=true)->qf P w A0 ho ps v qO F0) /\
   (Gd=true->vE=true/\sc=false/\∀ (σ':St) (K:St->Option R) (out:(bu (lN ps)).den),th σ' ps [(r,p)] out K=Bg σ' r p K) /\
   (vE=true->Gd=false->∀ (σ':St) (K:St->Option R) (out:(bu (lN ps)).den),th σ' ps [(r,p)] out K=match xl σ' r p t m t.zero (λ_=>some ()) with | some _=>K (σ'.put r .dead) | none=>none) /\
   (vE=false->∀ out:(bu (lN ps)).den,∃ (m2:Md) (o1:t.den),(o_ ps=true->(t.flat||decide (m2=ah t))=true) /\
    (∀ (σ':St) (K:St->Option R),th σ' ps [(r,p)] out K=xl σ' r p t m2 o1 λzA=>K (match sc with | true=>zA | false=>{ zA with vr:=(σ'.nv r (vy (d_ p+1))).vr,ay:=σ'.ay })) /\
    ∀ (w':World) (A':Cells) (GM:FP),ph P w' A' ps out qO GM->∃ ca F3,an P w' A' t m2 [] o1 ca F3/\(∀ b i,F3 b i<=GM b i)/\(sc=true->∀ b o,ad=some (b,o)->Has w' b o ca/\∀ b' i,dt b o t.sz b' i+F3 b' i<=GM b' i) /\
     (sc=false->c_ t ca=c_ t cs)):=by
 intro ps
 induction ps with
 | nil=>intro v ss qO h hc;cases h.2.2
 | cons p0 ps ih=>
  intro v ss qO h hc;obtain ⟨pm,t⟩:=p0;obtain ⟨s,Xg,tv,zC,wp,Cg,rfl,rfl,hw,mW,ry⟩:=h;simp only[dU,List.count_append] at hc ⊢
  cases pm with
  | ro=>
   obtain ⟨Ch,cs,h1,h2⟩:=mW;subst Ch;have hw:[(r,p)]=Cg:=hw;subst hw;obtain ⟨c1,vE,sc,Gd,t1,m1,H1,v1,rx,IG,q0,q1,q2,q3,q4,q5,q8,q7,q6⟩:=ih ry Bys;refine ⟨by omega,vE,sc,Gd,t1,m1,H1,v1,rx,IG,q0,q1,q2,q3,q4,λA0 F0 Fp a1 a2 a3 a4 a5 ho a6=>⟨tv,zC,λ_ _=>0,F0,rfl,λb i=>by simp,⟨cs,h1,Ro.mono (λ_ _ _ _ h=>h) (λb i ha=>?_) t h2⟩,q5 A0 F0 Fp a1 a2 a3 a4 a5 ho a6⟩,λhV=>⟨(q8 hV).1,(q8 hV).2.1,λσ' K out=>(q8 hV).2.2 σ' K out⟩,λhE hV σ' K out=>q7 hE hV σ' K out,λhE out=>q6 hE out⟩
   rcases ha with ha | ⟨zr,r',hm,a7,hp⟩
   ·exact a1 b i ha
   ·refine a2 zr b i r' a7 (λe=>?_) hp;subst e;have:=dK.2 hm;omega
  | fix f=>
   obtain ⟨Ch,⟨cs,h1,h2⟩,h3⟩:=mW;subst Ch;have hw:[(r,p)]=Cg:=hw;subst hw;obtain ⟨c1,vE,sc,Gd,t1,m1,H1,v1,rx,IG,q0,q1,q2,q3,q4,q5,q8,q7,q6⟩:=ih ry Bys;exact ⟨by omega,vE,sc,Gd,t1,m1,H1,v1,rx,IG,q0,q1,q2,q3,q4,λA0 F0 Fp a1 a2 a3 a4 a5 ho a6=>⟨tv,zC,λ_ _=>0,F0,rfl,λb i=>by simp,⟨⟨cs,h1,Ro.mono (λ_ _ _ _ h=>h) a1 t h2⟩,h3⟩,q5 A0 F0 Fp a1 a2 a3 a4 a5 ho a6⟩,λhV=>⟨(q8 hV).1,(q8 hV).2.1,λσ' K out=>(q8 hV).2.2 σ' K out⟩,λhE hV σ' K out=>q7 hE hV σ' K out,λhE out=>q6 hE out⟩
  | tc m=>
   obtain ⟨r1,p1,snap,b,o,cs,rfl,Ch,ii,B6,gy⟩:=mW;subst Ch;have hw:[(r,p)]=(r1,p1)::Cg:=hw;injection hw with xz Ci;injection xz with xz PB;subst xz;subst Ci;subst PB;have KS:(nO (.ptr r p snap)).count r=1:=by simp[nO]
   obtain ⟨n1,n2⟩:=qQ (R:=R) (P:=P) (A0:=λb i=>True) (λ_ _ _=>trivial) (r0:=r) (λ_ _ _ _ _ _ _=>trivial) ps ry (λr' hm _ e=>by subst e;have:=dK.2 hm;omega);refine ⟨by omega,true,true,false,t,m,[],v.1,cs,some (b,o),⟨λ_=>rfl,λe=>by cases e⟩,ii,gy,λ_=>⟨b,o,rfl⟩,λho=>?_,λA0 F0 Fp a1 a2 a3 a4 a5 ho _=>?_,(λe=>by cases e),λ_ _ σ' K out=>?_,λe=>by cases e⟩
   ·simp only[o_,aD] at ho;exact ho.1
   ·obtain ⟨b1,b2,b3⟩:=a4 rfl b o rfl;obtain ⟨k1,_⟩:=qQ (R:=R) (P:=P) a1 (r0:=r) a2 ps ry (λr' hm _ e=>by subst e;have:=dK.2 hm;omega);exact ⟨tv,zC,F0,λ_ _=>0,rfl,λb i=>aH _,⟨b,o,cs,Fp,B6,an.length _ a3,b1,b2,b3,a3⟩,k1 ho⟩
   ·show (match xl σ' r p t m t.zero (λ_=>some ()) with | some _=>th (σ'.put r .dead) ps [] out K | none=>none)=_;split
    ·exact n2 _ K out
    ·rfl
  | jp m m'=>
   obtain ⟨r1,p1,snap,b,o,cs,rfl,Ch,ii,B6,gy⟩:=mW;subst Ch;have hw:[(r,p)]=(r1,p1)::Cg:=hw;injection hw with xz Ci;injection xz with xz PB;subst xz;subst Ci;subst PB;have KS:(nO (.ptr r p snap)).count r=1:=by simp[nO]
   obtain ⟨n1,n2⟩:=qQ (R:=R) (P:=P) (A0:=λb i=>True) (λ_ _ _=>trivial) (r0:=r) (λ_ _ _ _ _ _ _=>trivial) ps ry (λr' hm _ e=>by subst e;have:=dK.2 hm;omega);refine ⟨by omega,false,true,false,t,m,[],v.1,cs,some (b,o),⟨λ_=>rfl,λe=>by cases e⟩,ii,gy,λ_=>⟨b,o,rfl⟩,λho=>?_,λA0 F0 Fp a1 a2 a3 a4 a5 ho _=>?_,(λe=>by cases e),(λe=>by cases e),λ_ out=>⟨m',out.1,λho=>?_,λσ' K=>?_,λw' A' GM hm=>?_⟩⟩
   ·simp only[o_,aD] at ho;exact ho.1
   ·obtain ⟨b1,b2,b3⟩:=a4 rfl b o rfl;obtain ⟨k1,_⟩:=qQ (R:=R) (P:=P) a1 (r0:=r) a2 ps ry (λr' hm _ e=>by subst e;have:=dK.2 hm;omega);exact ⟨tv,zC,F0,λ_ _=>0,rfl,λb i=>aH _,⟨b,o,cs,Fp,B6,an.length _ a3,b1,b2,b3,a3⟩,k1 ho⟩
   ·simp only[o_,aD] at ho;exact ho.2.1
   ·show xl σ' r p t m' out.1 (λσ=>th σ ps [] out.2 K)=_;congr 1;funext zA;exact n2 zA K out.2
   ·obtain ⟨F1,F2,h1,⟨b',o',L,F3,h2,h3,h4,h5,h6⟩,h7⟩:=hm;simp only[List.head?_cons,aP,B6,Value.pointer.injEq,Addr.mk.injEq,eP] at h2;obtain ⟨rfl,rfl⟩:=h2;refine ⟨L,F3,h6,λb' i=>by have:=h5 b' i;have:=h1 b' i;omega,λ_ b2 o2 e=>?_,λe=>by cases e⟩
    simp only[aP,bO] at e;obtain ⟨rfl,rfl⟩:=e;exact ⟨h4,λb' i=>by have:=h5 b' i;have:=h1 b' i;omega⟩
  | lD m=>
   obtain ⟨r1,p1,snap,cs,ad,rfl,Ch,ii,B6,gy⟩:=mW;subst Ch;have hw:[(r,p)]=(r1,p1)::Cg:=hw;injection hw with xz Ci;injection xz with xz PB;subst xz;subst Ci;subst PB;have KS:(nO (.ref r p snap)).count r=1:=by simp[nO]
   obtain ⟨n1,n2⟩:=qQ (R:=R) (P:=P) (A0:=λb i=>True) (λ_ _ _=>trivial) (r0:=r) (λ_ _ _ _ _ _ _=>trivial) ps ry (λr' hm _ e=>by subst e;have:=dK.2 hm;omega);refine ⟨by omega,false,false,false,t,m,[],v.1,cs,ad,⟨λ_=>rfl,λe=>by cases e⟩,ii,gy,(λe=>by cases e),λho=>?_,λA0 F0 Fp a1 a2 a3 a4 a5 ho _=>?_,(λe=>by cases e),(λe=>by cases e),λ_ out=>⟨m,out.1,λho=>?_,λσ' K=>?_,λw' A' GM hm=>?_⟩⟩
   ·simp only[o_,aD] at ho;exact ho.1
   ·obtain ⟨k1,_⟩:=qQ (R:=R) (P:=P) a1 (r0:=r) a2 ps ry (λr' hm _ e=>by subst e;have:=dK.2 hm;omega);exact ⟨tv,zC,F0,λ_ _=>0,rfl,λb i=>aH _,⟨cs,B6,a3.le (a5 rfl)⟩,k1 ho⟩
   ·simp only[o_,aD] at ho;exact ho.1.1
   ·show xl σ' r p t m out.1 (λzA=>th { zA with vr:=(σ'.nv r (vy (d_ p+1))).vr,ay:=σ'.ay } ps [] out.2 K)=_;congr 1;funext zA;exact n2 _ K out.2
   ·obtain ⟨F1,F2,h1,⟨ca,h2,h3⟩,h7⟩:=hm;simp only[List.head?_cons,aP,B6] at h2;exact ⟨ca,F1,h3,λb' i=>by have:=h1 b' i;omega,(λe=>by cases e),λ_=>h2.symm⟩
  | pG m=>
   obtain ⟨H,r1,p1,snap,cs,ad,rfl,Ch,ii,B6,gy⟩:=mW;subst Ch;have hw:[(r,p)]=(r1,p1)::Cg:=hw;injection hw with xz Ci;injection xz with xz PB;subst xz;subst Ci;subst PB;have KS:(nO (.ref r p snap)).count r=1:=by simp[nO]
   obtain ⟨n1,n2⟩:=qQ (R:=R) (P:=P) (A0:=λb i=>True) (λ_ _ _=>trivial) (r0:=r) (λ_ _ _ _ _ _ _=>trivial) ps ry (λr' hm _ e=>by subst e;have:=dK.2 hm;omega);refine ⟨by omega,true,false,true,t,m,H,v.1,cs,ad,⟨λe=>(by cases e),λ_=>rfl⟩,ii,gy,(λe=>by cases e),λho=>?_,λA0 F0 Fp a1 a2 a3 a4 a5 ho a6=>?_,λ_=>⟨rfl,rfl,λσ' K out=>?_⟩,(λ_ e=>by cases e),λe=>by cases e⟩
   ·simp only[o_,aD] at ho;exact ho.1
   ·obtain ⟨k1,_⟩:=qQ (R:=R) (P:=P) a1 (r0:=r) a2 ps ry (λr' hm _ e=>by subst e;have:=dK.2 hm;omega);exact ⟨tv,zC,F0,λ_ _=>0,rfl,λb i=>aH _,⟨H,cs,a6 rfl,B6,a3.le (a5 rfl)⟩,k1 ho⟩
   ·show Bg σ' r p (λzA=>th zA ps [] out K)=_;congr 1;funext zA;exact n2 _ K out
theorem Eb {rs:List Kn} {rv:Value} {G:FP} (h:oN P w A rs rv G):db P A σ a w rv (wR rs) G/\∀ t m H v,wR rs=.box t m H v->∃ b,rv=.pointer (some ⟨b,0,none⟩)/\jj w b (t.sz,false):=by
 match rs,h with
 | [],_=>exact ⟨trivial,λ_ _ _ _ e=>by cases e⟩
 | [x],h=>
  obtain ⟨cs,rfl,h2⟩:=h;exact Ik h2
 | x::y::rs,h=>
  obtain ⟨vs,Fi,h1,h2,h3⟩:=h
  exact ⟨⟨vs,Fi,h1,h2,λj z hz=>by
   obtain ⟨v,cs,g1,g2,g3⟩:=h3 j z hz
   exact ⟨v,g1,.inr ⟨cs,g2,g3⟩⟩⟩,λ_ _ _ _ e=>by cases e⟩
theorem oN.free {A':Cells}:∀ {rs:List Kn} {rv:Value} {G:FP},(∀ x ∈ rs,(x.t.flat||decide (x.m=ah x.t))=true/\x.t.sY=true)->oN P w A rs rv G->oN P w A' rs rv G
 | [],_,_,_,_=>trivial
 | [x],_,_,ho,⟨cs,h1,h2⟩=>⟨cs,h1,an.free (ho x (by simp)).1 (ho x (by simp)).2 h2⟩
 | x::y::rs,_,_,ho,⟨vs,Fi,h1,h2,h3⟩=>⟨vs,Fi,h1,h2,λj z hz=>by
  grind [an.free]⟩
theorem Aq:∀ (rs:List (Ty×Md)) {ts:List Ty} (out:(bu (rs.map (·.1)++ts)).den),BO rs=true->∀ x ∈ (lO rs out).1,(x.t.flat||decide (x.m=ah x.t))=true/\x.t.sY=true
 | [],_,_,_=>λx hx=>by cases hx
 | (t,m)::rs,_,out,h=>λx hx=>by
  simp only[BO,aD] at h;simp only[lO,bB] at hx;rcases hx with rfl | hx
  ·exact h.1
  ·exact Aq rs out.2 h.2 x hx
theorem oN.mono {A':Cells} (hA:∀ b i,A b i->A' b i):∀ {rs:List Kn} {rv:Value} {G:FP},oN P w A rs rv G->oN P w A' rs rv G
 | [],_,_,_=>trivial
 | [x],_,_,⟨cs,h1,h2⟩=>⟨cs,h1,an.mono hA (λ_ _ _ _ h=>h) (λ_ _ h=>h) _ h2 (λ_ _=>aH _) (λ_ _ _ _ h=>h)⟩
 | x::y::rs,_,_,⟨vs,Fi,h1,h2,h3⟩=>⟨vs,Fi,h1,h2,λj z hz=>by
  obtain ⟨v,cs,g1,g2,g3⟩:=h3 j z hz
  exact ⟨v,cs,g1,g2,an.mono hA (λ_ _ _ _ h=>h) (λ_ _ h=>h) _ g3 (λ_ _=>aH _) (λ_ _ _ _ h=>h)⟩⟩
end
end OT
namespace OT
open Go
section
variable {P:Program} {C:Ctx} {A:Cells} {X:FP} {σ:St} {a:Act} {w:World} {F:Nat->FP} {R:Type} {x:R} {Q:Exit->Act->World->Prop} {o:Oper} {E:Env}
def Bl (b:Bool) (n:Nat):Nat:=match b with
 | true=>n
 | false=>0
theorem Zf {w2:World} {A2:Cells}:∀ (q:Path) (t:Ty) {m':Md} {v':t.den} {cs:List Value} {G':FP} {ad:Option (Nat×Nat)} {pl:Pl},an P w2 A2 t m' [] v' cs G'->d_ q<=1->bv w q t [] cs ad=some pl ->
  ∃ H' ca,bv w2 q t [] cs ad=some ⟨pl.t,H',ca,pl.ad⟩/\(d_ q < 1->yx pl.t=true->ca=pl.cs):=by
 intro q
 induction q with
 | nil=>
  intro t m' v' cs G' ad pl h2 hq hp;simp only[bv,aP] at hp;subst hp;exact ⟨_,_,rfl,λ_ _=>rfl⟩
 | cons s q ih=>
  intro t m' v' cs G' ad pl h2 hq hp
  cases t with
  | pair a b=>
   obtain ⟨h0,F1,F2,hs,r1,r2⟩:=h2
   cases s with
   | fst=>
    simp only[bv,h0,aR] at hp ⊢;exact ih a r1 (by simpa [d_] using hq) (by simpa using hp)
   | snd=>
    simp only[bv,h0,aR] at hp ⊢;exact ih b r2 (by simpa [d_] using hq) (by simpa using hp)
   | idx i=>simp[bv] at hp
   | rP i=>simp[bv] at hp
  | aa e=>
   cases s with
   | idx i=>
    obtain ⟨xa,cap,news,Fi,r1,r2,r3,r4,r5,r6,r7,r8⟩:=GT h2;subst r1
    cases xa with
    | none=>grind [bv]
    | some de=>
     simp only[bv,hole,bX,aE,aR,eF] at hp ⊢;split at hp
     ·rename_i hi;rw[aG hi];have jb:=r6 i _ (aB hi);obtain ⟨g1,g2⟩:=r3 de rfl;have hl:=an.length _ jb
      have hh:Has w2 de.block (de.off+i*e.sz) ((news.drop (i*e.sz)).take e.sz):=λj u hu=>by
       rw[bS] at hu;split at hu
       ·rw[bP] at hu;rw[cU];exact g2 _ u hu
       ·cases hu
      rw[fe hh hl];obtain ⟨H',ca,h1,h2⟩:=C5 (A:=λ_ _=>True) (m:=.leaf) (v:=v'[i]) (F:=λ_ _=>0) q e jb (.inl (by grind [d_])) hp;grind [d_]
     ·cases hp
   | _=>simp[bv] at hp
  | arr n e=>
   cases s with
   | fst=>simp[bv] at hp
   | snd=>simp[bv] at hp
   | idx i=>simp[bv] at hp
   | rP i=>
    obtain ⟨_,hf,hl,hlen,hr⟩:=h2;simp only[bv,cQ,aK] at hp ⊢;split at hp
    ·rename_i hi;rw[aG hi];exact ih e (Ro.flat e (m:=.leaf) (λ_ _=>0) hf (hr i _ (aB (by grind)))) (by simpa [d_] using hq) hp
    ·cases hp
  | _=>grind [bv]
theorem Xh {t:Ty} {m':Md} {v':t.den} {cs:List Value} {G':FP} {w2:World} {A2:Cells} (ad:Option (Nat×Nat)) (h2:an P w2 A2 t m' [] v' cs G'):sZ 1 False w t [] cs ad w2 [] cs:=by
 intro q pl hq hp;grind [Zf]
theorem PC (h:ee P C A σ a w F) {r:Nat} {ow:Bool} {b i:Nat} (ha:AX A F σ.n r ow b i):b < w.heap.size:=by
 rcases ha with ha | ⟨_,j,hj,_,hp⟩
 ·exact h.ll b i (.inr ha)
 ·exact h.ll b i (.inl (by grind [dj]))
def yM:List (PM×Ty)->Bool
 | []=>true
 | (.jp _ _,_)::_=>false
 | (.lD _,_)::_=>false
 | (.tc _,_)::_=>false
 | (.pG _,_)::_=>false
 | _::ps=>yM ps
theorem wU {ow:Bool} {y:Nat×Path} {ws:List (Nat×Path)}:∀ (ps:List (PM×Ty)) {v:(bu (ps.map (·.2))).den} {ss:List Slot} {qO:List Value},yM ps=true->GU P A σ a w F ow ps v ss qO (y::ws)->False
 | [],_,_,_,_,h=>by cases h.2.2
 | (pm,t)::ps,_,_,_,hm,h=>by
  obtain ⟨s,Xg,tv,zC,wp,Cg,_,_,hw,mW,ry⟩:=h
  cases pm with
  | ro=>obtain ⟨Ch,_⟩:=mW;subst Ch;have hw:_=Cg:=hw;subst hw;exact wU ps hm ry
  | fix f=>obtain ⟨Ch,_⟩:=mW;subst Ch;have hw:_=Cg:=hw;subst hw;exact wU ps hm ry
  | jp m m'=>cases hm
  | lD m=>cases hm
  | tc m=>cases hm
  | pG m=>cases hm
theorem UY (h:ee P C A σ a w F) {f:FuncId} {g:v6} (hs:Sound P f g) {ow:Bool} (zr:ow=true->(BO g.rs&&o_ g.ps)=true) {r:Nat} {p:Path} {t:Ty} {m:Md} {v1:t.den} {cs:List Value} {ad:Option (Nat×Nat)} {sc:Bool} {v:(bu (g.ps.map (·.2))).den} {qO:List Value} {out:(bu (g.rs.map (·.1)++lN g.ps)).den} (hF:g.F v=some out)
  (b1:At σ r p t m [] v1) (b2:place σ a w r p=some ⟨t,[],cs,ad⟩) (b3:sc=true->∃ b o,ad=some (b,o))
  (b5 : ∀ (A0:Cells) (F0 Fp:FP),(∀ b i,A b i->A0 b i)->(ow=true->∀ b i j,j < σ.n->j≠r->1<=F j b i->A0 b i)->an P w A0 t m [] v1 cs Fp ->
      (sc=true->∀ b o,ad=some (b,o)->Has w b o cs/\(∀ j,j < t.sz->w.frozen? ⟨b,o+j,none⟩=false)/\∀ b' i,dt b o t.sz b' i+Fp b' i<=F0 b' i)->(sc=false->∀ b i,Fp b i<=F0 b i)->qf P w A0 (g.Ga v) g.ps v qO F0)
  {d:Option Tmp} {K:St->Option R} (q1:(match xl σ r p t m t.zero (λ_=>some ()) with | some _=>K ((σ.put r .dead).cb d (wR (lO g.rs out).1)) | none=>none)=some x) (Zg:yM g.ps=true->False) :
  Calls P f qO.toArray w λe w'=>∃ rv,e=.returned rv/\Nx P C K x (a.put d rv) w'/\(yM g.ps=true->Ext w w' (λ_ _=>0)):=by
 cases BW:xl σ r p t m t.zero (λ_=>some ()) with
 | none=>grind
 | some u=>
 rw[BW] at q1;simp only at q1;obtain ⟨hr,m2,H2,v2,du,Ea,F2,s1,s2,s3,s4,s5,_⟩:=D_ h BW;obtain ⟨_,e3,e4,e5⟩:=b1.inj s1;subst e3;subst e4;have e5:=gH e5;subst e5;rw[b2] at s2;simp only[aP,Pl.mk.injEq,eL] at s2;obtain ⟨rfl,rfl⟩:=s2;obtain ⟨fp1,fp2⟩:=an.fp t s3
 obtain ⟨F0,II⟩:∃ F0:FP,∀ b i,F0 b i=Bl sc (lF ad t.sz b i)+ln w t m [] cs b i:=⟨λb i=>Bl sc (lF ad t.sz b i)+ln w t m [] cs b i,λ_ _=>rfl⟩
 have aeh:∀ b i,F0 b i<=lF ad t.sz b i+ln w t m [] cs b i:=λb i=>by
  rw[II];cases sc <;> simp[Bl]
 have Zh:∀ b i,F0 b i<=F r b i:=λb i=>by grind
 have q_:∀ b i,F r b i<=bf σ.n F b i:=λb i=>dj F hr b i;have yC:∀ b i,bf σ.n F b i<=1:=λb i=>by have:=h.qg b i;omega
 have Ni:∀ b i,A b i->AX A F σ.n r ow b i:=λb i h=>.inl h;have Xi:∀ b i,1<=F r b i->b < w.heap.size:=λb i hp=>h.ll b i (.inl (by grind))
 have mz:=b5 (AX A F σ.n r ow) F0 (ln w t m [] cs) Ni (λzr b i j hj je hp=>.inr ⟨zr,j,hj,je,hp⟩)
  (an.mono Ni (λ_ _ _ _ h=>h) (λ_ _ h=>h) t fp1 (λ_ _=>aH _) (λ_ _ _ _ h=>h))
  (λhP b o e=>⟨(s5 b o e).1,(s5 b o e).2,λb' i=>by rw[II,hP,e];exact aH _⟩) (λhP b i=>by grind)
 refine (hs w _ F0 v _ mz (λb i=>by grind) (λb i hp ha=>?_) (λb i hp=>?_) (h.EJ λb i hp=>by grind) out hF).mono λe w' ER=>?_
 ·have h1:=Zh b i;have h2:=q_ b i
  rcases ha with ha | ⟨_,j,hj,je,hpj⟩
  ·exact h.rf b i (by grind) ha
  grind [wi]
 ·rcases hp with hp | hp
  ·grind
  ·exact PC h hp
 ·obtain ⟨rv,rfl,fh,A',G,GR,GM,g1,g2,g3,g4,g5,g6,g7,g8,g9⟩:=ER;refine ⟨rv,rfl,?_⟩
  obtain ⟨x1,x2⟩:=JB fh
  obtain ⟨yg,A2,a1,a2,a3,a4,a6⟩:∃ yg A2:Cells,(∀ b i,A b i->yg b i)/\(∀ b i,yg b i->A b i\/(w.heap.size<=b/\b < w'.heap.size/\G b i=0))/\(∀ b i,yg b i->A2 b i)/\(∀ b i,A2 b i->yg b i\/(1<=F0 b i/\G b i=0)) /\
    oN P w' A2 (lO g.rs out).1 rv GR:=by
   cases ow with
   | true=>
    have ho:=zr rfl;simp only[aD] at ho;exact ⟨A,A,λ_ _ h=>h,λ_ _ h=>.inl h,λ_ _ h=>h,λ_ _ h=>.inl h,oN.free (Aq g.rs out ho.1) g8⟩
   | false=>
    have rQ:∀ b i,A' b i->G b i=0:=λb i ha=>by
     grind
    refine ⟨λb i=>A b i\/(w.heap.size<=b/\A' b i),A',λ_ _ h=>.inl h,λb i ha=>ha.imp id λ⟨h1,h2⟩=>⟨h1,g6 b i (.inr h2),rQ b i h2⟩,λb i ha=>?_,λb i ha=>?_,g8⟩
    ·grind
    ·rcases g2 b i ha with (ha' | ⟨e,_⟩) | h0 | hn
     ·grind
     all_goals grind
  have Zi:=Ap fh.size;have h1:=h.put hr (s:=.dead) (v:=tmp a r) (Fd:=λ_ _=>0) (X':=F r) trivial (λb k=>by omega) (λ_ _ _ _ e=>by cases e);rw[sx] at h1;have IR:=h1.grow x1 (A1:=yg) (X1:=λb i=>if w.heap.size<=b then G b i else F r b i) a1 (λb i ha=>?_) (λb i=>?_);rotate_left
  ·grind
  ·grind
  have h3:=IR.world x2 (λb i hp=>by
   grind)
  have h4:=h3.giveUp (A1:=A2) (X1:=GR) a3 (λb i ha=>by
   grind) (λb i=>by
   grind)
  have vU:=Eb (σ:=σ.put r .dead) (a:=a) a6;exact ⟨qE h4 q1 vU.1 (λ_ _=>aH _) vU.2,λhm=>(Zg hm).elim⟩
theorem RW (h:ee P C A σ a w F) {f:FuncId} {g:v6} (hs:Sound P f g) {ow:Bool} (zr:ow=true->(BO g.rs&&o_ g.ps)=true) {r:Nat} {p:Path} {t:Ty} {m:Md} {H:List Path} {v1:t.den} {cs:List Value} {ad:Option (Nat×Nat)} {sc:Bool} {v:(bu (g.ps.map (·.2))).den} {qO:List Value} {out:(bu (g.rs.map (·.1)++lN g.ps)).den} (hF:g.F v=some out)
  (b1:At σ r p t m H v1) (b2:place σ a w r p=some ⟨t,H,cs,ad⟩) (hP:sc=false)
  (b5 : ∀ (A0:Cells) (F0 Fp:FP),(∀ b i,A b i->A0 b i)->(ow=true->∀ b i j,j < σ.n->j≠r->1<=F j b i->A0 b i)->an P w A0 t m H v1 cs Fp ->
      (sc=true->∀ b o,ad=some (b,o)->Has w b o cs/\(∀ j,j < t.sz->w.frozen? ⟨b,o+j,none⟩=false)/\∀ b' i,dt b o t.sz b' i+Fp b' i<=F0 b' i)->(sc=false->∀ b i,Fp b i<=F0 b i)->qf P w A0 (g.Ga v) g.ps v qO F0)
  {d:Option Tmp} {K:St->Option R} (q1:Bg σ r p (λσ=>K (σ.cb d (wR (lO g.rs out).1)))=some x) (Zg:yM g.ps=true->False) :
  Calls P f qO.toArray w λe w'=>∃ rv,e=.returned rv/\Nx P C K x (a.put d rv) w'/\(yM g.ps=true->Ext w w' (λ_ _=>0)):=by
 have hr:r < σ.n:=uP b2;obtain ⟨A1,qC,F1,rx,IG,F0,k1,k2,k3,k4,_,k5,k6,k7⟩:=Pj h q1 b1;rw[b2] at k5;simp only[aP,Pl.mk.injEq,eL] at k5;obtain ⟨rfl,rfl⟩:=k5;have q_:∀ b i,F r b i<=bf σ.n F b i:=λb i=>dj F hr b i;have yC:∀ b i,bf σ.n F b i<=1:=λb i=>by have:=h.qg b i;omega
 have k3t:∀ b i,F0 b i+bf qC.n F1 b i<=1:=λb i=>by have h:=k3.qg b i;simpa using h
 have k3d:∀ b i,1<=F0 b i->¬ A1 b i:=λb i hp=>k3.rf b i (by grind);have k3b:∀ b i,1<=F0 b i\/A1 b i->b < w.heap.size:=λb i hp=>k3.ll b i (hp.imp (λhp=>by grind) id);have Ni:∀ b i,A1 b i->AX A1 F σ.n r ow b i:=λb i h=>.inl h
 have mz:=b5 (AX A1 F σ.n r ow) F0 F0 (λb i h=>.inl (k2 b i h)) (λzr b i j hj je hp=>.inr ⟨zr,j,hj,je,hp⟩)
  (an.mono (λb i h=>.inl (k2 b i h)) (λ_ _ _ _ h=>h) (λ_ _ h=>h) t k6 (λ_ _=>aH _) (λ_ _ _ _ h=>h))
  (λe=>by grind) (λ_ b i=>aH _)
 refine (hs w _ F0 v _ mz (λb i=>by grind) (λb i hp ha=>?_) (λb i hp=>?_) (k3.EJ λb i hp=>by grind) out hF).mono λe w' ER=>?_
 ·rcases ha with ha | ⟨_,j,hj,je,hpj⟩
  all_goals grind [wi]
 ·rcases hp with hp | hp | ⟨_,j,hj,je,hpj⟩
  ·grind
  ·grind
  ·exact h.ll b i (.inl (by grind [dj]))
 ·obtain ⟨rv,rfl,fh,A',G,GR,GM,g1,g2,g3,g4,g5,g6,g7,g8,g9⟩:=ER;refine ⟨rv,rfl,?_⟩
  obtain ⟨x1,x2⟩:=JB fh
  obtain ⟨yg,A2,a1,a2,a3,a4,a6⟩:∃ yg A2:Cells,(∀ b i,A1 b i->yg b i)/\(∀ b i,yg b i->A1 b i\/(w.heap.size<=b/\b < w'.heap.size/\G b i=0))/\(∀ b i,yg b i->A2 b i)/\(∀ b i,A2 b i->yg b i\/(1<=F0 b i/\G b i=0)) /\
    oN P w' A2 (lO g.rs out).1 rv GR:=by
   cases ow with
   | true=>
    have ho:=zr rfl;simp only[aD] at ho;exact ⟨A1,A1,λ_ _ h=>h,λ_ _ h=>.inl h,λ_ _ h=>h,λ_ _ h=>.inl h,oN.free (Aq g.rs out ho.1) g8⟩
   | false=>
    have rQ:∀ b i,A' b i->G b i=0:=λb i ha=>by
     grind
    refine ⟨λb i=>A1 b i\/(w.heap.size<=b/\A' b i),A',λ_ _ h=>.inl h,λb i ha=>ha.imp id λ⟨h1,h2⟩=>⟨h1,g6 b i (.inr h2),rQ b i h2⟩,λb i ha=>?_,λb i ha=>?_,g8⟩
    ·grind
    ·rcases g2 b i ha with (ha' | ⟨e,_⟩) | h0 | hn
     all_goals grind
  have Zi:=Ap fh.size;have IR:=k3.grow x1 (A1:=yg) (X1:=λb i=>if w.heap.size<=b then G b i else F0 b i) a1 (λb i ha=>?_) (λb i=>?_);rotate_left
  ·grind
  ·grind
  have h3:=IR.world x2 (λb i hp=>by
   grind)
  have h4:=h3.giveUp (A1:=A2) (X1:=GR) a3 (λb i ha=>by
   grind) (λb i=>by
   grind)
  have vU:=Eb (σ:=qC) (a:=a) a6;exact ⟨qE h4 k1 vU.1 (λ_ _=>aH _) vU.2,λhm=>(Zg hm).elim⟩
theorem Xj (h:ee P C A σ a w F) {f:FuncId} {g:v6} (hs:Sound P f g) {ow:Bool} (zr:ow=true->(BO g.rs&&o_ g.ps)=true) {xs:List Operand} {ex:List Slot} {IS:List Value} (bd:xs.all (dy P)=true)
  (hex:∀ (A':Cells) (σ':St),(∀ b i,A b i->A' b i)->xP P A' σ' a w ex IS) {d:Option Tmp} {K:St->Option R} (hk:Kr g ow σ xs ex d K=some x) :
  Calls P f (xs.map a.eval++IS).toArray w λe w'=>∃ rv,e=.returned rv/\Nx P C K x (a.put d rv) w'/\(yM g.ps=true->Ext w w' (λ_ _=>0)):=by
 unfold Kr at hk;obtain ⟨A1,qC,F1,k1,k2,k3,k4⟩:=abk g.ps xs h hk;have nx:=KR k3 xs bd (hex A1 qC k2);obtain ⟨v,ws,q1,q2⟩:=abm k3 g.ps nx k1;split at q1;rotate_left
 ·cases q1
 rename_i hc;simp only[aD,dR] at hc;obtain ⟨hlen,Be⟩:=hc
 match ws,hlen with
 | [],_=>
  have q1:((g.F v).bind λout=>th qC g.ps [] (lO g.rs out).2 λσ=>K (σ.cb d (wR (lO g.rs out).1)))=some x:=by
   grind [Y7]
  cases hF:g.F v with
  | none=>grind
  | some out=>
  rw[hF] at q1;simp only[aA] at q1;obtain ⟨n1,n2⟩:=qQ (R:=R) (A0:=AX A1 F1 qC.n qC.n ow) (λb i h=>.inl h) (r0:=qC.n) (λzr b i j hj je hp=>.inr ⟨zr,j,hj,je,hp⟩) g.ps q2 (λr _ a7=>by omega);rw[n2] at q1;refine (hs w _ (λ_ _=>0) v _ (n1 _) (λ_ _=>aW _) (λb i hp=>by omega) (λb i hp=>?_) (k3.EJ λb i hp=>by omega) out hF).mono λe w' ER=>?_
  ·rcases hp with hp | hp
   ·omega
   ·exact PC k3 hp
  ·obtain ⟨rv,rfl,fh,A',G,GR,GM,g1,g2,g3,g4,g5,g6,g7,g8,g9⟩:=ER
   have hX:∀ b i,GR b i<=0\/(w.heap.size<=b/\b < w'.heap.size/\GR b i<=1):=λb i=>by
    grind
   refine ⟨rv,rfl,?_⟩
   cases ow with
   | true=>
    have ho:=zr rfl;simp only[aD] at ho;have IR:=k3.grow fh (A1:=A1) (X1:=GR) (λ_ _ h=>h) (λ_ _ h=>.inl h) hX;have vU:=Eb (σ:=qC) (a:=a) (oN.free (A':=A1) (Aq g.rs out ho.1) g8);exact ⟨qE IR q1 vU.1 (λ_ _=>aH _) vU.2,λ_=>fh⟩
   | false=>
    have IR:=k3.grow fh (A1:=A') (X1:=GR) (λb i ha=>g1 b i (.inl ha)) (λb i ha=>by
     rcases g2 b i ha with (ha' | ⟨e,_⟩) | h0 | hn
     all_goals grind) hX
    have vU:=Eb (σ:=qC) (a:=a) g8;exact ⟨qE IR q1 vU.1 (λ_ _=>aH _) vU.2,λ_=>fh⟩
 | [(r,p)],_=>
  simp only[apart,aD,dR,eP] at Be;obtain ⟨_,vE,sc,Gd,t,m,H,v1,cs,ad,b0,b1,b2,b3,b4,b5,b8,b7,b6⟩:=UX g.ps q2 Be
  have q3:(Gd=true->g.Ga v H=true)/\((g.F v).bind λout=>th qC g.ps [(r,p)] (lO g.rs out).2 λσ=>K (σ.cb d (wR (lO g.rs out).1)))=some x:=by
   cases hv:Uu g.ps with
   | false=>
    rw[hv] at q1;exact ⟨λe=>(by grind),q1⟩
   | true=>
    rw[hv] at q1;simp only[Y7] at q1;rw[b1.eq] at q1;grind
  obtain ⟨q0,q1⟩:=q3;replace b5:=λA0 F0 Fp a1 a2 a3 a4 a5=>b5 A0 F0 Fp a1 a2 a3 a4 a5 (g.Ga v) q0
  cases hF:g.F v with
  | none=>grind
  | some out=>
  rw[hF] at q1;simp only[aA] at q1
  cases Gd with
  | true=>
   obtain ⟨hE,hP,_⟩:=b8 rfl;subst hE;exact RW k3 hs zr hF b1 b2 (b8 rfl).2.1 b5 (((b8 rfl).2.2 qC (λσ=>K (σ.cb d (wR (lO g.rs out).1))) (lO g.rs out).2).symm.trans q1) (λhm=>wU g.ps hm q2)
  | false=>
  obtain rfl:=b0.1 rfl
  cases vE with
  | true=>exact UY k3 hs zr hF b1 b2 b3 b5 ((b7 rfl rfl qC (λσ=>K (σ.cb d (wR (lO g.rs out).1))) (lO g.rs out).2).symm.trans q1) (λhm=>wU g.ps hm q2)
  | false=>
  obtain ⟨mo,o1,b6o,e1,e2⟩:=b6 rfl (lO g.rs out).2;rw[e1] at q1;have q1':=q1;obtain ⟨hr,m2,H2,v2,du,Ea,F2,s1,s2,s3,s4,s5,_⟩:=D_ k3 q1;obtain ⟨_,e3,e4,e5⟩:=b1.inj s1;subst e3;subst e4;have e5:=gH e5;subst e5;rw[b2] at s2;simp only[aP,Pl.mk.injEq,eL] at s2;obtain ⟨rfl,rfl⟩:=s2;obtain ⟨fp1,fp2⟩:=an.fp t s3
  obtain ⟨F0,II⟩:∃ F0:FP,∀ b i,F0 b i=Bl sc (lF ad t.sz b i)+ln w t m [] cs b i:=⟨λb i=>Bl sc (lF ad t.sz b i)+ln w t m [] cs b i,λ_ _=>rfl⟩
  have aeh:∀ b i,F0 b i<=lF ad t.sz b i+ln w t m [] cs b i:=λb i=>by
   rw[II];cases sc <;> simp[Bl]
  have Zh:∀ b i,F0 b i<=F1 r b i:=λb i=>by grind
  have q_:∀ b i,F1 r b i<=bf qC.n F1 b i:=λb i=>dj F1 hr b i;have yC:∀ b i,bf qC.n F1 b i<=1:=λb i=>by have:=k3.qg b i;omega
  have Ni:∀ b i,A1 b i->AX A1 F1 qC.n r ow b i:=λb i h=>.inl h
  have mz:=b5 (AX A1 F1 qC.n r ow) F0 (ln w t m [] cs) Ni (λzr b i j hj je hp=>.inr ⟨zr,j,hj,je,hp⟩)
   (an.mono Ni (λ_ _ _ _ h=>h) (λ_ _ h=>h) t fp1 (λ_ _=>aH _) (λ_ _ _ _ h=>h))
   (λhP b o e=>⟨(s5 b o e).1,(s5 b o e).2,λb' i=>by rw[II,hP,e];exact aH _⟩) (λhP b i=>by grind)
  refine (hs w _ F0 v _ mz (λb i=>by grind) (λb i hp ha=>?_) (λb i hp=>?_) (k3.EJ λb i hp=>by grind) out hF).mono λe w' ER=>?_
  ·have h1:=Zh b i;have h2:=q_ b i
   rcases ha with ha | ⟨_,j,hj,je,hpj⟩
   ·exact k3.rf b i (by grind) ha
   grind [wi]
  ·rcases hp with hp | hp
   ·exact k3.ll b i (.inl (by grind))
   ·exact PC k3 hp
  ·obtain ⟨rv,rfl,fh,A',G,GR,GM,g1,g2,g3,g4,g5,g6,g7,g8,g9⟩:=ER;refine ⟨rv,rfl,?_⟩
   obtain ⟨Xk,F3,t1,t2,t3,t4⟩:=e2 w' A' GM g9;obtain ⟨x1,x2⟩:=JB fh
   obtain ⟨yg,A2,a1,a2,a3,a4,a5,a6⟩:∃ yg A2:Cells,(∀ b i,A1 b i->yg b i)/\(∀ b i,yg b i->A1 b i\/(w.heap.size<=b/\b < w'.heap.size/\G b i=0))/\(∀ b i,yg b i->A2 b i)/\(∀ b i,A2 b i->yg b i\/(1<=F0 b i/\G b i=0)) /\
     an P w' A2 t mo [] o1 Xk F3/\oN P w' A2 (lO g.rs out).1 rv GR:=by
    cases ow with
    | true=>
     have ho:=zr rfl;simp only[aD] at ho;exact ⟨A1,A1,λ_ _ h=>h,λ_ _ h=>.inl h,λ_ _ h=>h,λ_ _ h=>.inl h,an.free (b6o ho.2) (b4 ho.2).2 t1,oN.free (Aq g.rs out ho.1) g8⟩
    | false=>
     have rQ:∀ b i,A' b i->G b i=0:=λb i ha=>by
      rcases bM (G b i) with h0 | h0
      ·exact h0
      grind
     refine ⟨λb i=>A1 b i\/(w.heap.size<=b/\A' b i),A',λ_ _ h=>.inl h,λb i ha=>ha.imp id λ⟨h1,h2⟩=>⟨h1,g6 b i (.inr h2),rQ b i h2⟩,λb i ha=>?_,λb i ha=>?_,t1,g8⟩
     ·grind
     ·rcases g2 b i ha with (ha' | ⟨e,_⟩) | h0 | hn
      ·grind
      ·cases e
      ·grind
      grind
   have Zi:=Ap fh.size;have IR:=k3.grow x1 (A1:=yg) (X1:=λb i=>if w.heap.size<=b then G b i else 0) a1 (λb i ha=>?_) (λb i=>?_);rotate_left
   ·rcases a2 b i ha with ha | ⟨h1,h2,h3⟩
    ·exact .inl ha
    grind
   ·by_cases hb:w.heap.size<=b
    ·rw[aG hb];rcases bM (G b i) with h0 | h0
     ·left;omega
     grind
    grind
   obtain ⟨_,m4,H4,v4,cs4,ad4,F4,u1,u2,u3,u4,u5,u6⟩:=D_ IR q1';obtain ⟨_,e3,e4,e5⟩:=b1.inj u1;subst e3;subst e4;have e5:=gH e5;subst e5;have Xi:∀ b i,1<=F1 r b i->b < w.heap.size:=λb i hp=>k3.ll b i (.inl (by grind));have gy:=xw (σ':=qC) (a':=a) (w2:=World.news w w') (k3.i9 r hr) rfl rfl (λb i ha u hu=>x1.cell b i (k3.ll b i (.inr ha)) rfl u hu) (λb i hp u hu=>x1.cell b i (Xi b i hp) rfl u hu) b2;rw[gy] at u2;simp only[aP,Pl.mk.injEq,eL] at u2;obtain ⟨rfl,rfl⟩:=u2;have oq:ln (World.news w w') t m [] cs=ln w t m [] cs:=UW t s3 (λb i hp u hu=>x1.cell b i (Xi b i (by grind)) rfl u hu);have hfp:∀ b i,ln w t m [] cs b i<=F4 b i:=λb i=>by have:=(an.fp t u3).2 b i;rw[oq] at this;exact this
   have WQ:=an.length _ t1;have hl:=an.length _ s3;have pA:sc=false->Xk=cs:=λhP=>abn WQ (an.one _ t1) hl (an.one _ s3) (t4 hP)
   have KS:∀ b i,1<=lF ad t.sz b i->F4 b i=0:=λb i hp=>by
    grind
   have PD:∀ b i,b < w.heap.size->1<=G b i->1<=lF ad t.sz b i\/1<=F4 b i:=λb i hb hp=>by
    grind
   have adr:∀ b i,GR b i+F3 b i<=(if w.heap.size<=b then G b i else 0)+F4 b i:=λb i=>by
    have h7:=g7 b i;have h2:=t2 b i
    by_cases hb:w.heap.size<=b
    ·grind
    ·rw[aL hb];rcases bM (GR b i+F3 b i) with h0 | h0
     ·omega
     ·have h4:=g4 b i;rcases g3 b i Bys with h1 | h1
      ·rw[II] at h1
       cases hP:sc with
       | true=>
        obtain ⟨b',o',lP⟩:=b3 hP;grind [lF]
       | false=>
        grind [Bl]
      ·omega
   obtain ⟨A3,C8,Fr,n1,n2,n3,n4,n5⟩:=u6 w' A2 Xk F3 GR (x2.mono λb i hz=>by
     grind) a3 (λb i ha=>by
     rcases a4 b i ha with ha | ⟨h1,h2⟩
     ·exact .inl ha
     ·refine .inr ⟨?_,by grind⟩;have hb:b < w.heap.size:=Xi b i (by grind);rw[aL Bys];rw[II] at h1
      cases hP:sc with
      | true=>
       obtain ⟨b',o',lP⟩:=b3 hP;grind [lF]
      | false=>
       grind [Bl]) adr (λb o e=>by
     cases hP:sc with
     | true=>grind
     | false=>
      rw[pA hP];intro j u hu;have hj:=(aM.1 hu).1;have h9:lF ad t.sz b (o+j)=1:=by grind [lF,dt]
      have h8:=KS b (o+j) Bys;refine x2.cell b (o+j) ?_ ?_ u ((u5 b o e).1 j u hu)
      ·rw[Zi];exact cW (Xi b (o+j) (by grind)) fh.size
      ·rw[II,hP];have:=hfp b (o+j)
       simp only[Bl,bZ];omega) (λe=>by
     cases hP:sc with
     | true=>obtain ⟨b',o',lP⟩:=b3 hP;rw[e] at lP;cases lP
     | false=>exact pA hP) a5
   have vU:=Eb (σ:=C8) (a:=a) (oN.mono n2 a6)
   cases hP:sc with
   | true=>
    subst hP;exact ⟨qE n3 n1 vU.1 (λ_ _=>aH _) vU.2,λhm=>(wU g.ps hm q2).elim⟩
   | false=>
    subst hP;have hc:=pA rfl;subst hc
    have h5:=n5 (vy (d_ p+1)) (wo _ (k3.mH r)) (EK _ (k3.mH r)) rfl (λp' snap hb bd hlen=>by
     have:=GH (d_ p+1) (k3.mH r) hb bd
     exact ⟨1,False,by omega,λ_=>.inl Bys,λ_=>by omega,Xh ad a5⟩)
    have aaN:=Eb (σ:={ C8 with vr:=(qC.nv r (vy (d_ p+1))).vr,ay:=qC.ay }) (a:=a) (oN.mono n2 a6);exact ⟨qE h5 n1 aaN.1 (λ_ _=>aH _) aaN.2,λhm=>(wU g.ps hm q2).elim⟩
 | _::_::_,hl=>simp at hl
theorem PE (h:ee P C A σ a w F) {f:FuncId} {g:v6} (hs:Sound P f g) {xs:List Operand} {ex:List Slot} {IS:List Value} (bd:xs.all (dy P)=true)
  (hex:∀ (A':Cells) (σ':St),(∀ b i,A b i->A' b i)->xP P A' σ' a w ex IS) {d:Option Tmp} {K:St->Option R} (hk:EC g σ xs ex d K=some x) :
  Calls P f (xs.map a.eval++IS).toArray w λe w'=>∃ rv,e=.returned rv/\Nx P C K x (a.put d rv) w'/\(yM g.ps=true->Ext w w' (λ_ _=>0)):=by
 unfold EC at hk;split at hk
 all_goals grind [Xj,acw]
theorem GV {f:FuncId} {cap:Bool} (he:wT P f cap) (args:Array Value):(callFunc f args).run P w=.ok (.enter f args) w:=by
 obtain ⟨fn,h1,h2,h3,_⟩:=he
 have h2':fn.name ≠ "runtime.NumGoroutine" := by simpa using h2
 have h3':fn.body≠none:=by grind
 simp_all [callFunc]
theorem RX (h:ee P C A σ a w F) {f:FuncId} {args:Array Operand} {ts:Array TypeId} (ho:o.op=.call { callee:=.value (.func f),args:=args,argTypes:=ts }) (bd:args.toList.all (dy P)=true) {g:v6} (hs:Sound P f g) (he:wT P f false)
  {K:St->Option R} (hk:EC g σ args.toList [] o.dst K=some x):o.wp P a w (λa' w'=>Nx P C K x a' w'/\(yM g.ps=true->Ext w w' (λ_ _=>0))) Q:=by
 have lm:(execOp a.eval o).run P w=.ok (.enter f (args.map a.eval)) w:=by
  have e:a.eval (.func f)=.func (.func f) #[] #[]:=rfl;grind [execOp,resolve,Deferred.ofValue,invoke,GV]
 unfold Oper.wp;rw[lm,Oper.upon_enter];have hc:=PE h hs (ex:=[]) (IS:=[]) bd (λ_ _ _=>trivial) hk;have:(args.toList.map a.eval++[]).toArray=args.map a.eval:=by grind
 rw[this] at hc;exact hc.mono λe w' ⟨rv,he,hn⟩=>by grind
theorem RY (h:ee P C A σ a w F) {i:Tmp} {args:Array Operand} {ts:Array TypeId} (ho:o.op=.call { callee:=.value (.tmp i),args:=args,argTypes:=ts }) (bd:args.toList.all (dy P)=true) {f:FuncId} {n:Int} (nx:O5 (σ.get i)=some (f,n)) {g:v6} (hs:Sound P f g) (he:wT P f g.cap)
  {K:St->Option R} (hk:EC g σ args.toList (match g.cap with | true=>[.cp (.int .i64) n] | false=>[]) o.dst K=some x):o.wp P a w (λa' w'=>Nx P C K x a' w'/\(yM g.ps=true->Ext w w' (λ_ _=>0))) Q:=by
 have hi:i < σ.n:=by
  rcases cR i σ.n with hi | hi
  ·exact hi
  ·rw[mQ (fU.2 hi)] at nx;cases nx
 have hsi:=h.i9 i hi;unfold O5 at nx;split at nx;rotate_left
 ·cases nx
 rename_i v hg;injection nx with hv;subst hv;rw[hg] at hsi;obtain ⟨cs,h1,AT,rfl,fn,h3,h4⟩:=hsi;have e:a.eval (.tmp i)=.func (.func f) #[] AT:=h1
 have lm:(execOp a.eval o).run P w=.ok (.enter f (args.map a.eval++AT)) w:=by
  grind [execOp,resolve,Deferred.ofValue,invoke,GV]
 unfold Oper.wp;rw[lm,Oper.upon_enter];obtain ⟨fn',f1,f2,f3,f4⟩:=he;rw[h3] at f1;injection f1 with f1;subst f1
 have hex:∃ IS:List Value,(args.toList.map a.eval++IS).toArray=args.map a.eval++AT/\∀ (A':Cells) (σ':St),(∀ b i,A b i->A' b i)->xP P A' σ' a w (match g.cap with | true=>[.cp (.int .i64) n] | false=>[]) IS:=by
  rcases h4 with ⟨h4,rfl⟩ | ⟨h4,ad,rfl,h5,h6,h7⟩
  ·have:g.cap=false:=by grind
   rw[this];exact ⟨[],by grind,λ_ _ _=>trivial⟩
  ·have:g.cap=true:=by grind
   rw[this];refine ⟨[.pointer (some ad)],by grind,λA' σ' hA=>⟨.inl ⟨ad,rfl,h5,[.int .i64 n],rfl,(λj u hu=>?_),rfl⟩,trivial⟩⟩
   grind
 obtain ⟨IS,aei,hex⟩:=hex;have hc:=PE h hs bd hex hk;rw[aei] at hc;exact hc.mono λe w' ⟨rv,he,hn⟩=>by grind
end
end OT
