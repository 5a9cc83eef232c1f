/- The proof's parts, merged: Operations, first part.. No conditions but those that each states. -/
import Derived.Test.YtgnicpenjinbiaaGreatUa
import Derived.Laws.Slices
import Derived.Laws.Concat
import Derived.Laws.StructEq
import Derived.Laws.Cover3
import Derived.ChangeKeysEq
import Derived.Laws.MakeOwn
import Derived.Laws.IdiomStrings
import Derived.Laws.BytesArg
import Derived.Laws.Tables
import Derived.Great.BuildSlice
import Derived.Deep.AppendSrc
set_option linter.unusedVariables false
set_option linter.unusedSimpArgs false
namespace OT
open Go
section
variable {P:Program} {C:Ctx} {A:Cells} {X:FP} {σ:St} {a:Act} {w:World} {F:Nat->FP} {R:Type} {x:R} {Q:Exit->Act->World->Prop} {o:Oper} {E:Env}
def Nx (P:Program) (C:Ctx) {R:Type} (K:St->Option R) (x:R) (a:Act) (w:World):Prop:=∃ σ',K σ'=some x/\Ic P C σ' a w
abbrev eo (P:Program) (C:Ctx) (A:Cells) (σ:St) (a:Act) (w:World) (F:Nat->FP):Prop:=Rel P C A (λ_ _=>0) σ a w F
theorem qm {v:Value} {w':World} {next:Act->World->Prop} (lW:(execOp a.eval o).run P w=.ok (.value v) w') (hn:next (a.put o.dst v) w'):o.wp P a w next Q:=by
 unfold Oper.wp;rw[lW];exact hn
theorem Rd {w':World} {next:Act->World->Prop} (lW:(execOp a.eval o).run P w=.ok .skip w') (hd:o.dst=none) (hn:next a w'):o.wp P a w next Q:=by
 unfold Oper.wp;rw[lW,Oper.upon,hd];exact hn
def reads:Op->Bool
 | .load .. | .convert ..=>true
 | _=>false
def vV (o:Oper) (w w':World):Prop:=reads o.op=true->Ext w w' (λ_ _=>0)
theorem vV.ext {o:Oper} {w w':World} (h:vV o w w') (hr:reads o.op=true):Ext w w' (λ_ _=>0):=h hr
def Tk (P:Program) (o:Oper) (a:Act) (w:World) (next:Act->World->Prop):Prop:=
 ∃ v,(∀ w',vV o w w'->(execOp a.eval o).run P w'=.ok (.value v) w')/\next (a.put o.dst v) w
theorem jk {v:Value} {next:Act->World->Prop} (lW:∀ w',vV o w w'->(execOp a.eval o).run P w'=.ok (.value v) w') (hn:next (a.put o.dst v) w):Tk P o a w next:=⟨v,lW,hn⟩
theorem Tk.wp {next:Act->World->Prop} (h:Tk P o a w next):o.wp P a w next Q:=by
 obtain ⟨v,h1,h2⟩:=h;exact qm (h1 w λ_=>Ext.refl _ _) h2
theorem yC {b i:Nat} {u:Value} (h:ce w b i=some u):b < w.heap.size:=by
 grind [ce,World.cell?]
theorem Has.ext {b o:Nat} {L:List Value} {w':World} (h:Has w b o L) (hw:Ext w w' (λ_ _=>0)):Has w' b o L:=λj u hu=>hw.cell b (o+j) (yC (h j u hu)) rfl u (h j u hu)
theorem rU (h:Rel P C A X σ a w F) {K:St->Option R} {d:Option Tmp} {s:Slot} {v:Value} {Fd:FP} (hk:K (σ.cq d s)=some x) (hs:dn P A σ a w v s Fd) (ht:∀ b i,Fd b i<=X b i)
  (hwh:∀ t m H v',s=.box t m H v'->∃ b,v=.pointer (some ⟨b,0,none⟩)/\jR w b (t.sz,false)):Nx P C K x (a.put d v) w:=by
 obtain ⟨F',hF⟩:=h.cq d (X':=λ_ _=>0) hs (λb i=>by grind) hwh;exact ⟨_,hk,A,F',hF⟩
theorem cx (h:Rel P C A X σ a w F) {K:St->Option R} {d:Option Tmp} {s:Slot} {v:Value} (hk:K (σ.cq d s)=some x) (hs:dn P A σ a w v s (λ_ _=>0))
  (hb:∀ t m H v',s≠.box t m H v'):Nx P C K x (a.put d v) w:=
 rU h hk hs (λ_ _=>aX _) (λt m H v' e=>absurd e (hb t m H v'))
theorem C8 (h:Rel P C A X σ a w F) {K:St->Option R} {d:Option Tmp} {t:Ty} {m:Md} {v:t.den} {cs:List Value} {Fd:FP} (hk:K (σ.cq d (laid t m v))=some x) (hr:am P w A t m [] v cs Fd) (ht:∀ b i,Fd b i<=X b i) :
  Nx P C K x (a.put d (dj t cs)) w:=
 rU h hk (JJ (σ:=σ) (a:=a) hr).1 ht (JJ (σ:=σ) (a:=a) hr).2
theorem iy {t:Nat} {K:Ty->Option R} (h:so E t K=some x):∃ T,E.TI t=some T/\K T=some x:=by
 grind [so]
theorem Mh {s:Slot} {K:Bool->Option R} {tv:Value} {G:FP} (hs:dn P A σ a w tv s G) (h:LX s K=some x):∃ b,tv=.bool b/\K b=some x:=by
 unfold LX at h;split at h
 ·rename_i b;obtain ⟨cs,h1,h2⟩:=hs;simp only[Ro] at h2;subst h2;exact ⟨b,by rw[h1];rfl,h⟩
 ·cases h
theorem zb {s:Slot} {K:Int->Option R} {tv:Value} {G:FP} (hs:dn P A σ a w tv s G) (h:yK s K=some x):∃ k n,tv=.int k n/\K n=some x:=by
 unfold yK at h;split at h
 ·rename_i k n;obtain ⟨cs,h1,h2⟩:=hs;simp only[Ro] at h2;subst h2;exact ⟨k,_,by rw[h1];rfl,h⟩
 ·cases h
theorem Gb (h:Rel P C A X σ a w F) {r:Nat} {p:Path} {pl:Pl} (hp:place σ a w r p=some pl):tL σ a w (dj pl.t pl.cs) r p (xL σ r p pl.t):=by
 have h5:=h.nF r;refine ⟨?_,λ_=>⟨_,hp,rfl,?_⟩⟩
 ·unfold xL;split
  ·intro j y hj;grind
  ·intro j y hj;grind
  ·exact Below.refl _
 ·unfold xL;split
  ·rename_i e he;left;exact ⟨by rw[he];rfl,by grind⟩
  ·rename_i k v he;left;exact ⟨by rw[he];rfl,by grind⟩
  grind
theorem OW (σ:St) (y:Operand) (t:Ty) (m:Md) (H:List Path) (v:t.den):eg σ y≠.box t m H v:=by
 intro e
 cases y with
 | tmp i=>grind [eg]
 | const v=>simp only[eg] at e;unfold vO at e;grind
 | func f=>cases e
 | global g=>cases e
theorem YI (h:eo P C A σ a w F) {y:Operand} (ho:o.op=.move y) (a_:d_ P y=true) {K:St->Option R} (hk:Wc σ y o.dst K=some x):Tk P o a w (Nx P C K x):=by
 refine jk (v:=a.eval y) (by simp[execOp,ho]) ?_;unfold Wc at hk;have hs:=gk h a_;split at hk
 ·rename_i xs i hx
  have hi:i < σ.n:=by
   grind [eg,nQ]
  have hg:σ.get i=.ug xs:=by
   grind [eg]
  have oH:=h.jz i hi;rw[hg] at oH;have h2:=h.put hi (s:=.dead) (v:=tmp a i) (Fd:=λ_ _=>0) (X':=λb k=>F i b k) trivial (λb k=>by omega) (λt m H v e=>by cases e);rw[tM] at h2;refine rU h2 hk (Fd:=F i) ?_ (λb i=>aG _) (λt m H v e=>by cases e);obtain ⟨vs,Fi,h3,h4,h5⟩:=oH;exact ⟨vs,Fi,h3,h4,h5⟩
 all_goals grind [cx,OW]
theorem YJ (h:eo P C A σ a w F) {c y z:Operand} (ho:o.op=.pick c y z) (a_:d_ P c=true/\d_ P y=true/\d_ P z=true) {K:St->Option R}
  (hk:(LX (eg σ c) λc=>match eg σ (bif c then y else z) with
   | .val .bool b=>K (σ.cq o.dst (.val .bool b))
   | _=>none)=some x):Tk P o a w (Nx P C K x):=by
 have hc:=gk h a_.1
 rcases hc with hc | ⟨xs,e⟩
 ·obtain ⟨b,hb,hk⟩:=Mh hc hk
  have aiw:∀ y':Operand,d_ P y'=true->(match eg σ y' with
   | .val .bool b=>K (σ.cq o.dst (.val .bool b))
   | _=>none)=some x->Nx P C K x (a.put o.dst (a.eval y')) w:=λy' hy hk=>by
   grind [gk,cx]
  cases b <;> simp_all [jk,execOp,asBool]
 ·rw[e] at hk;cases hk
theorem YK (h:eo P C A σ a w F) (mY:∀ i T,E.TI i=some T->bn P T (.inl i)=true) {t:Nat} {y:Operand} (ho:o.op=.load t y) (a_:d_ P y=true) {K:St->Option R}
  {mv:Bool} (hk:FO E σ t (eg σ y) mv o.dst K=some x):Tk P o a w (Nx P C K x):=by
 unfold FO at hk;obtain ⟨T,hT,hk⟩:=iy hk;have kt:=mY _ _ hT
 have run:∀ b off L,a.eval y=.pointer (some ⟨b,off,none⟩)->Has w b off L->L.length=T.sz->(∀ u ∈ L,u.oneCell'=true)->∀ w',vV o w w'->(execOp a.eval o).run P w'=.ok (.value (dj T L)) w':=λb off L hy hL hl qS w' ve=>by
  have ve:=ve (by rw[ho];rfl);simp[execOp,ho,hy,Instr.loadAt,Instr.sureAddr,A5 kt (hL.ext ve) hl qS]
 rcases gk h a_ with hs | ⟨xs,e⟩
 rotate_left
 ·grind
 split at hk
 ·rename_i t' v hv;rw[hv] at hs;split at hk
  ·rename_i e;subst e;obtain ⟨⟨b,off,sp⟩,h1,h2,L,h3,h4,h5⟩:=hs;simp only[dP,eU] at h1;simp only at h2;subst h2;exact jk (run b off L h1 (λj u hu=>(h4 j u hu).1) h3 (Ro.one _ h5)) (cx h hk ⟨L,rfl,h5⟩ (λ_ _ _ _ e=>by cases e))
  ·cases hk
 ·rename_i r p snap hv;rw[hv] at hs;split at hk
  ·rename_i qT;obtain ⟨hr,t',m',H',v',cn,dp,F',h1,h2,h3,h4,h5,h6⟩:=m_ h hk;obtain ⟨pl,b,off,g1,g2,g3,g4⟩:=hs.2 qT;rw[h3] at g1;injection g1 with g1;subst g1;simp only at g2;subst g2;split at h1
   ·rename_i e;subst e;refine jk (run b off cn g3 (h6 b off rfl) (am.length _ h4) (am.one _ h4)) ?_;split at h1
    ·rename_i hf;split at h1
     ·exact cx h h1 ⟨cn,rfl,am.flat _ hf h4⟩ (λ_ _ _ _ e=>by cases e)
     ·cases h1
    ·split at h1
     ·rename_i hm;split at h1
      ·rename_i hH;have hH:=bH.1 hH;subst hH;subst hm
       cases mv with
       | false=>exact cx h h1 ⟨cn,rfl,am.ro _ (jh _) h4⟩ (λ_ _ _ _ e=>by cases e)
       | true=>exact cx h h1 (Gb h h3) (λ_ _ _ _ e=>by cases e)
      ·cases h1
     ·cases mv with
      | false=>exact cx h h1 (Gb h h3) (λ_ _ _ _ e=>by cases e)
      | true=>
       simp only at h1;split at h1
       ·rename_i hH;have hH:=bH.1 hH;subst hH;obtain ⟨A2,n_,F2,dO,Fe,Fv,k1,k2,k3,k4,k5,k6,k7⟩:=NV h h1 ⟨h2⟩;rw[h3] at k6;simp only[aQ,Pl.mk.injEq,eQ] at k6;obtain ⟨rfl,rfl⟩:=k6;have hl:=JJ (σ:=n_) (a:=a) (am.mono k2 (λ_ _ _ _ h=>h) (λ_ _ h=>h) _ k7 (λ_ _=>aG _) (λ_ _ _ _ h=>h));exact rU k3 k1 hl.1 (λb i=>by omega) hl.2
       ·cases h1
   ·cases h1
  ·cases hk
 ·cases hk
theorem Wp (h:eo P C A σ a w F) (mY:∀ i T,E.TI i=some T->bn P T (.inl i)=true) {t:Nat} {y:Operand} (ho:o.op=.load t y) (a_:d_ P y=true) {K:St->Option R}
  {mv fr:Bool} (hk:LY E σ t y mv fr o.dst K=some x):Tk P o a w (Nx P C K x):=by
 unfold LY at hk;grind [YK,Bp]
theorem Wq {b o b' i:Nat} {v u:Value} (i7:¬ (b=b'/\o=i)) (h:ce w b' i=some u):ce (w.setCell ⟨b,o,none⟩ v) b' i=some u:=by
 by_cases hb:b=b'
 ·subst hb
  cases hh:w.heap[b]? with
  | none=>grind [ce,World.cell?]
  | some ob=>
   cases ob <;> simp_all [World.setCell,gF,ce,World.cell?]
 grind [World.setCell,CU]
theorem qU {b o:Nat}:∀ (L:List Value) (w:World) (o:Nat),Ext w (w.setCells b o L) (d8 b o L.length)
 | [],w,o=>Ext.refl _ _
 | v::L,w,o=>by
  have ih:=qU (b:=b) (o:=o+1) L (w.setCell ⟨b,o,none⟩ v) (o+1)
  have h1:Ext w (w.setCell ⟨b,o,none⟩ v) (d8 b o (L.length+1)):=by
   refine ⟨by simp,λb' i hb hz u hu=>?_,λb' n hn=>?_,λb' i hb=>by simp,rfl,rfl,rfl,λb' hb hz=>?_,aG _⟩
   ·grind [Wq,d8]
   ·obtain ⟨c,e,fr,h1,h2,h3⟩:=hn;by_cases Ie:b=b'
    ·subst Ie;exact ⟨c.setIfInBounds o v,e,fr,by grind [World.setCell],by simp[h2],h3⟩
    ·exact ⟨c,e,fr,by grind [World.setCell],h2,h3⟩
   ·have i7:b≠b':=λe=>by
     subst e;have:=hz o;grind [d8]
    grind [World.setCell]
  exact h1.trans ih λb' i hb hz=>by
   grind [d8]
theorem zG {w:World} {b o:Nat} {L:List Value} (h:∀ j,j < L.length->(w.cell? ⟨b,o+j,none⟩).isSome=true) (qS:∀ u ∈ L,u.oneCell'=true):Has (w.setCells b o L) b o L:=by
 intro j u hu;grind [JF,World.cell?_setCells_in]
theorem Wr (h:eo P C A σ a w F) (mY:∀ i T,E.TI i=some T->bn P T (.inl i)=true) {t:Nat} {y z:Operand} (ho:o.op=.store t y z) (hd:o.dst=none) (a_:d_ P y=true/\d_ P z=true) {mv:Bool} {K:St->Option R}
  (hk:QL E σ t (eg σ y) (eg σ z) mv K=some x):o.wp P a w (Nx P C K x) Q:=by
 unfold QL at hk;obtain ⟨T,hT,hk⟩:=iy hk;have kt:=mY _ _ hT
 rcases gk h a_.1 with hs | ⟨xs,e⟩
 rotate_left
 ·grind
 split at hk
 ·rename_i r p snap hv;rw[hv] at hs;split at hk
  ·rename_i qT;split at hk
   ·obtain ⟨pl,b,off,g1,g2,g3,g4⟩:=hs.2 qT
    rcases gk h a_.2 with hz | ⟨xs,e⟩
    rotate_left
    ·grind [nZ]
    obtain ⟨A',σ',F',m,v,cs,Fv,k1,k2,k3,k4,kr,k5,k6⟩:=wH h hz hk;obtain ⟨hr,m2,H2,v2,dO,Fe,F2,q1,q2,q3,q4,q5,q6⟩:=Fc k3 k1
    have i9:Fe=some (b,off):=by
     unfold place at g1 q2
     cases hR:ej w (tmp a r) (σ'.get r) with
     | none=>grind
     | some R1=>
      rw[hR] at q2;obtain ⟨H0,Ce⟩:=kr w (tmp a r) r R1 hR;rw[Ce] at g1;have:=(afO p R1.t g1 q2).2.2;grind
    subst i9;obtain ⟨yn,pk⟩:=q5 b off rfl;have hl:=am.length _ k6;have yg:=am.length _ q3;have qS:=am.one _ k6;have afV:=am.one _ q3
    have Re:∀ j,j < cs.length->(w.cell? ⟨b,off+j,none⟩).isSome=true:=λj hj=>by
     rw[wO (yn j _ (aB Bys)) (afV _ (aJ _))];rfl
    have dm:=run_storeCells_cells (P:=P) b off cs 0 w (by simpa using Re) (λj hj=>by grind) qS;have hcv:(dj T cs).cells.toList=cs:=mq hl qS;have oO:(dj T cs).cells.size=T.sz:=by grind
    have lW:(execOp a.eval o).run P w=.ok .skip (w.setCells b off cs):=by
     simp[execOp,ho,g3,k5,Instr.storeAt,Instr.sureAddr,storeVar,run_sizeOf kt,oO,hcv,dm]
    refine Rd lW hd ?_
    have jL:am P (w.setCells b off cs) A' T m [] v cs Fv:=by
     refine am.mono (λ_ _ h=>h) (λb' i ha u hu=>?_) (qU (b:=b) (o:=off) cs w off).y0 _ k6 (λ_ _=>aG _) (λb' i hp u hu=>?_)
     ·refine (qU (b:=b) (o:=off) cs w off).cell b' i (k3.mr b' i (.inr ha)) ?_ u hu;have h1:=q4 b' i;have h2:=dw F' hr b' i
      rcases bK (mH (some (b,off)) T.sz b' i) with h0 | h0
      ·rw[hl];exact h0
      ·exact absurd ha (k3.sr b' i Bys)
     ·have h1:=q4 b' i;have h2:=dw F' hr b' i;have h3:=k3.ry b' i
      refine (qU (b:=b) (o:=off) cs w off).cell b' i (k3.mr b' i (.inl Bys)) ?_ u hu;grind [mH]
    have fq:Ext w (w.setCells b off cs) (λb' i=>(0+Fv b' i)+(F2 b' i+mH (some (b,off)) T.sz b' i)):=(qU (b:=b) (o:=off) cs w off).mono λb' i hz=>by
     grind [mH]
    obtain ⟨A3,D2,Fr,n1,n2,n3,_⟩:=q6 (w.setCells b off cs) A' cs Fv (λ_ _=>0) fq (λ_ _ h=>h) (λ_ _ h=>.inl h) (λb i=>by omega) (λb' o' e=>by
      grind [zG]) (λe=>by cases e) jL
    exact ⟨D2,n1,A3,_,n3⟩
   ·cases hk
  ·cases hk
 ·cases hk
end
section
variable {P:Program} {w:World} {A:Cells}
theorem Ws:∀ (p q:Path) (t:Ty) {H:List Path} {cs:List Value} {ad:Option (Nat×Nat)},cd w (p++q) t H cs ad=(cd w p t H cs ad).bind λpl=>cd w q pl.t pl.H pl.cs pl.ad:=by
 intro p
 induction p with
 | nil=>intro q t H cs ad;rfl
 | cons s p ih=>
  intro q t H cs ad
  cases t with
  | pair a b=>
   cases s <;> grind [cd]
  | aa e=>
   cases s with
   | idx i=>
    simp only[cY,cd];split
    ·rfl
    ·split
     all_goals grind
   | _=>simp[cd]
  | arr n e=>
   cases s <;> grind [cd]
  | _=>grind [cd]
theorem KU:∀ (p:Path) (t:Ty) {H:List Path} {cs:List Value} {ad:Option (Nat×Nat)} {pl:Pl},cd w p t H cs ad=some pl->EG p t=some pl.t:=by
 intro p
 induction p with
 | nil=>intro t H cs ad pl h;simp only[cd,aQ] at h;subst h;rfl
 | cons s p ih=>
  intro t H cs ad pl h
  cases t with
  | pair a b=>
   cases s with
   | fst=>simp only[cd] at h;split at h;cases h;exact ih a h
   | snd=>simp only[cd] at h;split at h;cases h;exact ih b h
   | _=>simp[cd] at h
  | aa e=>
   cases s with
   | idx i=>
    simp only[cd] at h;split at h
    ·cases h
    ·split at h
     ·split at h
      ·exact ih e h
      ·cases h
     ·cases h
   | _=>simp[cd] at h
  | arr n e=>
   cases s with
   | sX i=>
    simp only[cd] at h;split at h
    ·split at h
     ·exact ih e h
     ·cases h
    ·cases h
   | _=>simp[cd] at h
  | _=>grind [cd]
theorem ac8:∀ (q:Path) (t:Ty) {m:Md} {H:List Path} {v:t.den} {cs:List Value} {F:FP} {ad:Option (Nat×Nat)} {pl:Pl},am P w A t m H v cs F->cd w q t H cs ad=some pl ->
  ∃ (m':Md) (v':pl.t.den) (F':FP),am P w A pl.t m' pl.H v' pl.cs F':=by
 intro q
 induction q with
 | nil=>grind [cd]
 | cons s q ih=>
  intro t m H v cs F ad pl hr h
  cases t with
  | pair a b=>
   obtain ⟨h0,F1,F2,hs,h1,h2⟩:=hr;cases s <;> grind [cd]
  | aa e=>
   cases s with
   | idx i=>
    simp only[am] at hr;simp only[cd] at h;split at h
    ·cases h
    ·rename_i hh;rw[aN hh] at hr;split at hr
     ·obtain ⟨a,cap,rfl,h2,h3,h4,h5⟩:=hr
      cases a with
      | none=>cases h
      | some ji=>
       obtain ⟨g1,g2,g3,Fi,g4,g5⟩:=h5 ji rfl;simp only at h;split at h
       ·rename_i hi;obtain ⟨L,hl,hL,jL⟩:=g5 i _ (aB hi);rw[g1,bS,f_ hL hl] at h;grind
       ·cases h
     ·obtain ⟨rfl,sa,a,cap,rfl,h2,h3,h4⟩:=hr
      cases a with
      | none=>cases h
      | some ji=>
       simp only at h;split at h
       ·rename_i hi;obtain ⟨L,hl,hL,jL⟩:=(h4 ji rfl).2 i _ (aB hi);rw[f_ (λj u hu=>(hL j u hu).1) hl] at h;exact ih e (Ro.rep e (λ_ _=>0) sa jL) h
       ·cases h
   | _=>simp[cd] at h
  | arr n e=>
   cases s with
   | sX i=>
    obtain ⟨rfl,hf,hl,hlen,hr⟩:=hr;simp only[cd,cQ,aL] at h;split at h
    ·rename_i hi;exact ih e (Ro.flat e (m:=.leaf) (λ_ _=>0) hf (hr i _ (aB (by grind)))) h
    ·cases h
   | _=>simp[cd] at h
  | _=>grind [cd]
def lQ:Nat->Ty->Nat
 | j+1,.pair a b=>a.sz+lQ j b
 | _,_=>0
theorem TK (ad:Option (Nat×Nat)):jo ad 0=ad:=by simp_all [jo]
theorem Wt (ad:Option (Nat×Nat)) (j k:Nat):jo (jo ad j) k=jo ad (j+k):=by cases ad <;> simp[jo,cW]
theorem U3:∀ (j:Nat) (S:Ty) {t':Ty} {m:Md} {H:List Path} {v:S.den} {cs:List Value} {F:FP} {ad:Option (Nat×Nat)},am P w A S m H v cs F->wZ j S=some t' ->
  ∃ H',cd w (qe j) S H cs ad=some ⟨t',H',(cs.drop (lQ j S)).take t'.sz,jo ad (lQ j S)⟩:=by
 intro j
 induction j with
 | zero=>
  intro S t' m H v cs F ad hr h
  cases S with
  | pair a b=>
   injection h with h;subst h;obtain ⟨h0,F1,F2,hs,h1,h2⟩:=hr;simp_all [qe,cd,lQ,TK]
  | _=>cases h
 | succ j ih=>
  intro S t' m H v cs F ad hr h
  cases S with
  | pair a b=>
   obtain ⟨h0,F1,F2,hs,h1,h2⟩:=hr;obtain ⟨H',e⟩:=ih b (ad:=jo ad a.sz) h2 h;grind [qe,cd,lQ,List.drop_drop,Wt]
  | _=>cases h
theorem aaL:∀ (j:Nat) (T:Ty) {t:Ty},EG (qe j) T=some t->∃ t2,wZ j T=some t2:=by
 intro j
 induction j with
 | zero=>intro T t h;cases T <;> first | exact ⟨_,rfl⟩ | grind [qe,EG]
 | succ j ih=>intro T t h;cases T <;> first | (simp[qe,EG] at h;done) | exact ih _ (by simpa [qe,EG] using h)
theorem U4:∀ (j:Nat) (S:Ty) {t':Ty} {fs:List Field} {off:Nat},bn P S (.inr (fs,off))=true->wZ j S=some t' ->
  ∃ f,fs[j]?=some f/\f.offset=off+lQ j S/\bn P t' (.inl f.type)=true/\1<=t'.sz:=by
 intro j
 induction j with
 | zero=>
  intro S t' fs off hl h
  cases S with
  | pair a b=>
   injection h with h;subst h;cases fs <;> simp_all [bn,lQ]
  | _=>cases h
 | succ j ih=>
  intro S t' fs off hl h
  cases S with
  | pair a b=>
   cases fs with
   | nil=>simp[bn] at hl
   | cons f r=>
    simp only[bn,aC,eW,dK] at hl;obtain ⟨f',h1,h2,h3⟩:=ih b hl.2 h;grind [lQ]
  | _=>cases h
theorem Mi {j:Nat} {S t':Ty} {i:TypeId} (hl:bn P S (.inl i)=true) (h:wZ j S=some t') :
  ∃ fs f,P.underlying i=some (.struct fs)/\fs[j]?=some f/\f.offset=lQ j S/\bn P t' (.inl f.type)=true/\1<=t'.sz:=by
 cases S with
 | pair a b=>
  simp only[bn,aC] at hl;have h2:=hl.2;split at h2
  ·rename_i fs hu;split at h2
   ·rename_i f r Mj
    have h3:bn P (.pair a b) (.inr (f::r,0))=true:=by
     grind [bn]
    grind [U4]
   ·cases h2
  ·cases h2
 | _=>cases j <;> cases h
theorem xo {t:Ty} {i:TypeId} (h:bn P t (.inl i)=true) {cs:Array Value} {off:Nat} (hl:((cs.toList.drop off).take t.sz).length=t.sz):(part i cs off).run P w=.ok (dj t ((cs.toList.drop off).take t.sz)) w:=by
 unfold part;simp only[Sem.run_bind,Id h,Result.andThen_ok]
 cases ht:isAgg t with
 | true=>
  simp only[aL,Sem.run_bind,run_sizeOf h,Result.andThen_ok,Sem.run_pure,dj,ht];congr 2;grind
 | false=>
  simp_all [Rc,List.take_one,dj]
end
section
variable {P:Program} {C:Ctx} {A:Cells} {X:FP} {σ:St} {a:Act} {w:World} {F:Nat->FP} {R:Type} {x:R} {Q:Exit->Act->World->Prop} {o:Oper} {E:Env}
theorem OX (h:Rel P C A X σ a w F) {r:Nat} {p:Path} {pl:Pl} (hp:place σ a w r p=some pl):∃ (m':Md) (v':pl.t.den) (F':FP),am P w A pl.t m' pl.H v' pl.cs F':=by
 have bc:=vU hp;unfold place at hp
 cases hR:ej w (tmp a r) (σ.get r) with
 | none=>grind
 | some R0=>
  rw[hR] at hp;obtain ⟨m0,v0,F1,q1,q2,q3,_⟩:=zA (h.jz r bc) hR;grind [ac8]
theorem vy (r:Nat) (p q:Path):place σ a w r (p++q)=(place σ a w r p).bind λpl=>cd w q pl.t pl.H pl.cs pl.ad:=by
 unfold place;cases ej w (tmp a r) (σ.get r) <;> grind [Ws]
theorem Mk {r:Nat} {p:Path} {pl:Pl} (hp:place σ a w r p=some pl):KN σ r p=some pl.t:=by
 unfold place at hp;unfold KN QJ
 cases hg:σ.get r with
 | own t m H v=>grind [ej,KU]
 | box t m H v=>
  rw[hg] at hp;simp only[ej] at hp;grind [KU]
 | _=>grind [ej]
theorem aaM (p:Path) (j:Nat):en (p++qe j)=en p:=by
 induction p with
 | nil=>induction j <;> grind [qe,en]
 | cons s p ih=>cases s <;> simp only[cY,en,ih]
theorem OY {A':Cells}:∀ (j:Nat) (S:Ty) {v:S.den} {K:(t':Ty)->t'.den->Option R} {cs:List Value},V_ j S v K=some x->Ro P w A' S v cs ->
  ∃ t' v',wZ j S=some t'/\K t' v'=some x/\Ro P w A' t' v' ((cs.drop (lQ j S)).take t'.sz):=by
 intro j
 induction j with
 | zero=>
  intro S v K cs h hr
  cases S with
  | pair a b=>exact ⟨a,v.1,rfl,h,by simp only[lQ,eD];exact hr.1⟩
  | _=>cases h
 | succ j ih=>
  intro S v K cs h hr
  cases S with
  | pair a b=>
   obtain ⟨t',v',h1,h2,h3⟩:=ih b (v:=v.2) h hr.2;exact ⟨t',v',h1,h2,by grind [lQ,List.drop_drop]⟩
  | _=>cases h
theorem P9 (h:eo P C A σ a w F) {y:Operand} (ho:o.op=.nilCheck y) (a_:d_ P y=true) {K:St->Option R}
  (hk:(match eg σ y with
  | .ptr r p snap=>if σ.ok r snap then K (σ.cq o.dst (.ptr r p snap)) else none
  | .cp t v=>K (σ.cq o.dst (.cp t v))
  | .val .fn f=>K (σ.cq o.dst (.val .fn f))
  | _=>none)=some x):Tk P o a w (Nx P C K x):=by
 rcases gk h a_ with hs | ⟨xs,e⟩
 rotate_left
 ·grind
 split at hk
 ·rename_i r p snap hv;rw[hv] at hs;split at hk
  ·rename_i qT;obtain ⟨pl,b,off,g1,g2,g3,g4⟩:=hs.2 qT;exact jk (v:=a.eval y) (by simp[execOp,ho,g3]) (cx h hk hs (λ_ _ _ _ e=>by cases e))
  ·cases hk
 ·rename_i t v hv;rw[hv] at hs;obtain ⟨ad,h1,_⟩:=id hs;simp only[dP,eU] at h1;exact jk (v:=a.eval y) (by simp[execOp,ho,h1]) (cx h hk hs (λ_ _ _ _ e=>by cases e))
 ·rename_i f hv;rw[hv] at hs;obtain ⟨cs,h1,BT,h2,_⟩:=id hs;subst h2;exact jk (v:=a.eval y) (by simp[execOp,ho,h1,dj,isAgg]) (cx h hk hs (λ_ _ _ _ e=>by cases e))
 ·cases hk
theorem NX (h:eo P C A σ a w F) (mY:∀ i T,E.TI i=some T->bn P T (.inl i)=true) {S:Nat} {y:Operand} {j:Nat} (ho:o.op=.fieldAddr S y j) (a_:d_ P y=true) {K:St->Option R}
  (hk:FQ E σ S (eg σ y) j o.dst K=some x):Tk P o a w (Nx P C K x):=by
 unfold FQ at hk;obtain ⟨T,hT,hk⟩:=iy hk;have kt:=mY _ _ hT
 have run:∀ t' b off,wZ j T=some t'->a.eval y=.pointer (some ⟨b,off,none⟩)->∀ w',vV o w w'->(execOp a.eval o).run P w'=.ok (.value (.pointer (some ⟨b,off+lQ j T,none⟩))) w':=λt' b off ht hy w' _=>by
  obtain ⟨fs,f,h1,h2,h3,h4,h5⟩:=Mi kt ht;have oO:=run_sizeOf (P:=P) (w:=w') h4;have i7:¬ t'.sz=0:=by omega
  simp_all [execOp,Instr.fieldAt,Instr.sureAddr,run_underlying,fieldPlace,sO]
 rcases gk h a_ with hs | ⟨xs,e⟩
 rotate_left
 ·grind
 split at hk
 ·rename_i t' v hv;rw[hv] at hs;split at hk
  ·rename_i e;subst e;obtain ⟨⟨b,off,sp⟩,h1,h2,L,h3,h4,h5⟩:=hs;simp only[dP,eU] at h1;simp only at h2;subst h2;obtain ⟨t2,v2,q1,q2,q3⟩:=OY j t' hk h5;refine jk (run t2 b off q1 h1) (cx h q2 ⟨_,rfl,rfl,_,Ro.length _ q3,λk u hu=>?_,q3⟩ (λ_ _ _ _ e=>by cases e));grind
  ·cases hk
 ·rename_i r p snap hv;rw[hv] at hs;split at hk
  ·rename_i qT;split at hk
   ·rename_i C9;split at hk
    ·rename_i hf;obtain ⟨pl,b,off,g1,g2,g3,g4⟩:=hs.2 qT;rw[Mk g1] at C9;injection C9 with C9;obtain ⟨t',D3⟩:=eN.1 hf;refine jk (run t' b off D3 g3) (cx h hk ⟨hs.1,λ_=>?_⟩ (λ_ _ _ _ e=>by cases e));obtain ⟨m',v',F',jL⟩:=OX h g1;obtain ⟨tp,Hp,csp,adp⟩:=pl;simp only at C9 g2 jL;subst C9;obtain ⟨H',e⟩:=U3 (ad:=adp) j tp jL D3;grind [jo,aaM,vy]
    ·cases hk
   ·cases hk
  ·cases hk
 ·cases hk
theorem Wu (h:eo P C A σ a w F) (mY:∀ i T,E.TI i=some T->bn P T (.inl i)=true) {S:Nat} {y:Operand} {j:Nat} (ho:o.op=.field S y j) (a_:d_ P y=true) {K:St->Option R}
  (hk:NK E σ S (eg σ y) j o.dst K=some x):Tk P o a w (Nx P C K x):=by
 unfold NK at hk;obtain ⟨T,hT,hk⟩:=iy hk;have kt:=mY _ _ hT
 have run:∀ t' cs,wZ j T=some t'->a.eval y=dj T cs->((cs.drop (lQ j T)).take t'.sz).length=t'.sz->∀ w',vV o w w'->(execOp a.eval o).run P w'=.ok (.value (dj t' ((cs.drop (lQ j T)).take t'.sz))) w':=λt' cs ht hy hl w' _=>by
  obtain ⟨fs,f,h1,h2,h3,h4,h5⟩:=Mi kt ht
  have aiK:dj T cs=.agg cs.toArray:=by cases T <;> first | rfl | (cases j <;> cases ht)
  have:=xo (P:=P) (w:=w') h4 (cs:=cs.toArray) (off:=lQ j T) (by simpa using hl);simp_all [execOp,Instr.field,run_underlying,asAgg]
 rcases gk h a_ with hs | ⟨xs,e⟩
 rotate_left
 ·grind
 split at hk
 ·rename_i t' v hv;rw[hv] at hs;split at hk
  ·rename_i e;subst e;obtain ⟨cs,h1,h2⟩:=hs;obtain ⟨t2,v2,q1,q2,q3⟩:=OY j t' hk h2;exact jk (run t2 cs q1 h1 (Ro.length _ q3)) (cx h q2 ⟨_,rfl,q3⟩ (λ_ _ _ _ e=>by cases e))
  ·cases hk
 ·rename_i r p snap hv;rw[hv] at hs;split at hk
  ·rename_i qT;split at hk
   ·rename_i C9;obtain ⟨hr,t',m',H',v',cn,dp,F',h1,h2,h3,h4,h5,h6⟩:=m_ h hk;obtain ⟨pl,g1,g2,g3⟩:=hs.2 qT;rw[Mk g1] at C9;injection C9 with C9;obtain ⟨m0,v0,F0,jL⟩:=OX h g1;obtain ⟨tp,Hp,csp,adp⟩:=pl;simp only at C9 g2 jL;subst C9
    have hf:∃ t2,wZ j tp=some t2:=by
     have h7:=h3;rw[vy,g1] at h7;exact aaL j tp (KU _ _ h7)
    obtain ⟨t2,ht2⟩:=hf;obtain ⟨H2,e⟩:=U3 (ad:=adp) j tp jL ht2;have i9:place σ a w r (p++qe j)=some ⟨t2,H2,(csp.drop (lQ j tp)).take t2.sz,jo adp (lQ j tp)⟩:=by grind [vy]
    rw[i9] at h3;injection h3 with h3;simp only[Pl.mk.injEq] at h3;obtain ⟨rfl,rfl,rfl,rfl⟩:=h3;refine jk (run t2 csp ht2 g2 (am.length _ h4)) ?_;split at h1
    ·rename_i hc;split at h1
     ·rename_i hH;have hH:=bH.1 hH;subst hH;refine cx h h1 ⟨_,rfl,?_⟩ (λ_ _ _ _ e=>by cases e);grind [am.flat,am.ro,jh]
     ·cases h1
    ·exact cx h h1 (Gb h i9) (λ_ _ _ _ e=>by cases e)
   ·cases hk
  ·cases hk
 ·cases hk
end
section
variable {P:Program} {C:Ctx} {A:Cells} {X:FP} {σ:St} {a:Act} {w:World} {F:Nat->FP} {R:Type} {x:R} {Q:Exit->Act->World->Prop} {o:Oper} {E:Env}
theorem KV {n:Int} {len:Nat} {K:Nat->Option R} (h:Yo n len K=some x):0<=n/\n < (len:Int)/\K n.toNat=some x:=by
 grind [Yo]
theorem bind_some {α:Type} {o:Option α} {K:α->Option R} (h:o.bind K=some x):∃ y,o=some y/\K y=some x:=by
 cases o <;> grind
theorem wP {e:Ty} {i:TypeId} (h:bn P (.aa e) (.inl i)=true):∃ el,P.underlying i=some (.slice el)/\1<=e.sz/\bn P e (.inl el)=true:=by
 grind [bn,Nat.ble_eq]
theorem U5 {n:Nat} {e:Ty} {i:TypeId} (h:bn P (.arr n e) (.inl i)=true):∃ el,P.underlying i=some (.array n el)/\1<=e.sz/\bn P e (.inl el)=true:=by
 grind [bn,Nat.ble_eq,Nat.beq_eq]
theorem oP {i:TypeId} (h:bn P .str (.inl i)=true):P.underlying i=some .string:=by
 grind [bn]
theorem sG {k:IntKind} {i:TypeId} (h:bn P (.int k) (.inl i)=true):P.underlying i=some (.int k):=by
 grind [bn]
theorem TM (p q:Path):en (p++q)=en p+en q:=by
 induction p with
 | nil=>simp[en]
 | cons s p ih=>cases s <;> simp only[cY,en,ih] <;> omega
theorem Ml (h:Rel P C A X σ a w F) {r:Nat} {p:Path} {pl:Pl} {b off:Nat} (hp:place σ a w r p=some pl) (lI:pl.ad=some (b,off)):E_ σ a w (.pointer (some ⟨b,off,none⟩)) r p (yZ σ r p):=by
 have h5:=h.nF r;refine ⟨?_,λ_=>⟨pl,b,off,hp,lI,rfl,by grind [yZ]⟩⟩
 unfold yZ;intro j y hj;grind
theorem NY (h:eo P C A σ a w F) (mY:∀ i T,E.TI i=some T->bn P T (.inl i)=true) {t:Nat} {y z:Operand} (ho:o.op=.indexAddr t y z) (a_:d_ P y=true/\d_ P z=true) {K:St->Option R}
  (hk:FR E σ t (eg σ y) (eg σ z) o.dst K=some x):Tk P o a w (Nx P C K x):=by
 unfold FR at hk;obtain ⟨T,hT,hk⟩:=iy hk;have kt:=mY _ _ hT
 rcases gk h a_.2 with hz | ⟨xs,e⟩
 rotate_left
 ·rw[e] at hk;cases hk
 obtain ⟨kz,n,U6,hk⟩:=zb hz hk
 have yO:∀ e ad len cap,T=.aa e->a.eval y=.slice (some ad) len cap->ad.spot=none->0<=n->n < (len:Int)->∀ w',vV o w w'->(execOp a.eval o).run P w'=.ok (.value (.pointer (some ⟨ad.block,ad.off+n.toNat*e.sz,none⟩))) w':=λe ad len cap ui hy rT h0 h1 w' _=>by
  subst ui;obtain ⟨el,hu,_,hle⟩:=wP kt;obtain ⟨b,off,sp⟩:=ad;simp only at rT;subst rT;have oO:=run_sizeOf (P:=P) (w:=w') hle;simp[execOp,ho,hy,U6,Instr.indexAt,asIntOf,run_underlying hu,h0,h1,oO,sO]
 have aet:∀ m e b off,T=.arr m e->a.eval y=.pointer (some ⟨b,off,none⟩)->0<=n->n < (m:Int)->∀ w',vV o w w'->(execOp a.eval o).run P w'=.ok (.value (.pointer (some ⟨b,off+n.toNat*e.sz,none⟩))) w':=λm e b off ui hy h0 h1 w' _=>by
  subst ui;obtain ⟨el,hu,_,hle⟩:=U5 kt;have oO:=run_sizeOf (P:=P) (w:=w') hle;simp[execOp,ho,hy,U6,Instr.indexAt,asIntOf,run_underlying hu,h0,h1,oO,sO,Instr.sureAddr]
 have roS:∀ (e:Ty) (v:List e.den) (tv:Value) (yv:e.den),T=.aa e->a.eval y=tv->Ro P w A (.aa e) v [tv]->0<=n->v[n.toNat]?=some yv->K (σ.cq o.dst (.cp e yv))=some x->Tk P o a w (Nx P C K x):=λe v tv yv ui hy yh h0 If hk=>by
  obtain ⟨xa,cap,h1,h2,h3,h4⟩:=yh;simp only[dP,eU] at h1;subst h1;have bc:=(aO.1 If).1
  cases xa with
  | none=>grind
  | some ad=>
   obtain ⟨g1,g2⟩:=h4 ad rfl;obtain ⟨L,l1,l2,l3⟩:=g2 _ _ If;exact jk (yO e ad _ cap ui hy (g1 Bys) h0 Bys) (cx h hk ⟨_,rfl,rfl,L,l1,l2,l3⟩ (λ_ _ _ _ e=>by cases e))
 rcases gk h a_.1 with hs | ⟨xs,e⟩
 rotate_left
 ·grind
 split at hk
 ·rename_i e v hv;rw[hv] at hs;split at hk
  ·rename_i ui;split at hk
   ·rename_i h0;obtain ⟨yv,If,hk⟩:=bind_some hk;obtain ⟨cs,h1,h2⟩:=hs;have hl:=Ro.length _ h2
    match cs,hl with
    | [tv],_=>exact roS e v tv yv ui (by rw[h1,ep _ _ rfl]) h2 h0 If hk
   ·cases hk
  ·cases hk
 ·rename_i m e v hv;rw[hv] at hs;split at hk
  ·rename_i ui;split at hk
   ·rename_i h0;obtain ⟨yv,If,hk⟩:=bind_some hk;obtain ⟨⟨b,off,sp⟩,h1,h2,L,h3,h4,h5⟩:=hs;simp only[dP,eU] at h1;simp only at h2;subst h2;obtain ⟨q1,q2,q3,q4⟩:=h5;have bc:n.toNat < m:=q2 ▸ (aO.1 If).1;have yh:=q4 _ _ If;refine jk (aet m e b off ui h1 h0 Bys) (cx h hk ⟨_,rfl,rfl,_,Ro.length _ yh,λk u hu=>?_,yh⟩ (λ_ _ _ _ e=>by cases e));grind
   ·cases hk
  ·cases hk
 ·rename_i r p snap hv;rw[hv] at hs;split at hk
  ·rename_i qT;obtain ⟨hr,t',m',H',v',cn,dp,F',h1,h2,h3,h4,h5,h6⟩:=m_ h hk;obtain ⟨pl,g1,g2,g3⟩:=hs.2 qT;rw[h3] at g1;injection g1 with g1;subst g1;simp only at g2;split at h1
   ·cases h1
   ·rename_i hH;have hH:hole H'=false:=fL.2 hH;split at h1
    ·rename_i ui;split at h1
     ·rename_i e U7;have hl:=am.length _ h4;split at h1
      ·rename_i jS;obtain ⟨i0,i1,h1⟩:=KV h1;have jL:=h4;simp only[am,hH,aF,aU,jS,aL] at jL;obtain ⟨xa,cap,rfl,q2,q3,q4,q5⟩:=jL
       cases xa with
       | none=>grind
       | some ji=>
        obtain ⟨r1,r2,r3,Fi,r4,r5⟩:=q5 ji rfl;rw[ep _ _ rfl] at g2;have bc:n.toNat < List.length U7:=by omega
        refine jk (yO e ji _ cap ui.symm g2 r2 i0 i1) (cx h h1 (Ml (pl:=⟨e,H'.filterMap (mp n.toNat),rd w ji.block (ji.off+n.toNat*e.sz) e.sz,some (ji.block,ji.off+n.toNat*e.sz)⟩) h ?_ rfl) (λ_ _ _ _ e=>by cases e));grind [vy,cd]
      ·rename_i jS;split at h1
       ·rename_i h0;obtain ⟨yv,If,h1⟩:=bind_some h1;have jL:=h4;simp only[am,hH,aF,aU,jS] at jL
        match cn,hl with
        | [tv],_=>
         rw[ep _ _ rfl] at g2;grind
       ·cases h1
     ·cases h1
    ·cases h1
  ·cases hk
 ·rename_i r p snap lo hi hv;rw[hv] at hs;split at hk
  ·rename_i qT;obtain ⟨hr,t',m',H',v',cn,dp,F',h1,h2,h3,h4,h5,h6⟩:=m_ h hk;obtain ⟨pl,e,xa,len,cap,yu,cap',g1,g2,g3,g4,g5,g6,g7,U0,g8,g9,g10⟩:=hs.2 qT;rw[h3] at g1;injection g1 with g1;subst g1;simp only at g2 g3;subst g2;subst g3;split at h1
   ·cases h1
   ·rename_i hH;have hH:hole H'=false:=fL.2 hH;split at h1
    ·rename_i ui;obtain ⟨i0,i1,h1⟩:=KV h1
     have C3:∃ ji,xa=some ji/\ji.spot=none:=by
      simp only[am,hH,aF,aU] at h4
      cases xa with
      | none=>
       split at h4
       ·grind
       ·obtain ⟨_,_,xa2,NZ,q1,q2,q3,_⟩:=h4;grind
      | some ji=>
       refine ⟨ji,rfl,?_⟩
       split at h4
       ·grind
       ·obtain ⟨_,_,xa2,NZ,q1,q2,q3,q4⟩:=h4;grind
     obtain ⟨ji,rfl,rT⟩:=C3;obtain ⟨J6,e1,e2,e3,e4⟩:=g9 ji rfl;subst e1;have e4:=e4 Bys;refine jk (yO e J6 _ cap' ui.symm g6 (e2.trans rT) i0 i1) ?_
     have Rf:(⟨J6.block,J6.off+n.toNat*e.sz,none⟩:Addr)=⟨ji.block,ji.off+(lo+n.toNat)*e.sz,none⟩:=by
      grind
     rw[Rf];have bc:lo+n.toNat < len:=by omega
     refine cx h h1 (Ml (pl:=⟨e,H'.filterMap (mp (lo+n.toNat)),rd w ji.block (ji.off+(lo+n.toNat)*e.sz) e.sz,some (ji.block,ji.off+(lo+n.toNat)*e.sz)⟩) h ?_ rfl) (λ_ _ _ _ e=>by cases e);grind [vy,cd]
    ·cases h1
  ·cases hk
 ·rename_i r p snap hv;rw[hv] at hs;split at hk
  ·rename_i qT;obtain ⟨hr,t',m',H',v',cn,dp,F',h1,h2,h3,h4,h5,h6⟩:=m_ h hk;obtain ⟨pl,b,off,g1,g2,g3,g4⟩:=hs.2 qT;rw[h3] at g1;injection g1 with g1;subst g1;simp only at g2;subst g2;split at h1
   ·rename_i ui;split at h1
    ·rename_i m e U7;obtain ⟨i0,i1,h1⟩:=KV h1;obtain ⟨hH,hf,hl,hlen,yh⟩:=h4;subst hH;have bc:n.toNat < m:=by omega
     refine jk (aet m e b off ui.symm g3 i0 Bys) (cx h h1 ⟨hs.1,λ_=>⟨⟨e,[],(cn.drop (n.toNat*e.sz)).take e.sz,some (b,off+n.toNat*e.sz)⟩,b,off+n.toNat*e.sz,?_,rfl,rfl,?_⟩⟩ (λ_ _ _ _ e=>by cases e))
     ·grind [vy,cd,jo]
     ·rw[TM];exact g4
    ·cases h1
   ·cases h1
  ·cases hk
 ·cases hk
end
section
variable {P:Program} {C:Ctx} {A:Cells} {X:FP} {σ:St} {a:Act} {w:World} {F:Nat->FP} {R:Type} {x:R} {Q:Exit->Act->World->Prop} {o:Oper} {E:Env}
theorem YL (s:List UInt8) (n:Nat):(⟨s.toArray⟩:ByteArray)[n]?=s[n]?:=by
 by_cases h:n < s.length
 ·have h1:n < (⟨s.toArray⟩:ByteArray).size:=by simpa [ByteArray.size] using h
  rw[getElem?_pos _ n h1,aB h];rfl
 grind [ByteArray.size]
theorem Wv (h:eo P C A σ a w F) (mY:∀ i T,E.TI i=some T->bn P T (.inl i)=true) {t:Nat} {y z:Operand} (ho:o.op=.index t y z) (a_:d_ P y=true/\d_ P z=true) {K:St->Option R}
  (hk:QM E σ t (eg σ y) (eg σ z) o.dst K=some x):Tk P o a w (Nx P C K x):=by
 unfold QM at hk;have OZ:=iy hk;clear hk;obtain ⟨T,hT,oC⟩:=OZ;have kt:=mY _ _ hT
 rcases gk h a_.2 with hz | ⟨xs,e⟩
 rotate_left
 ·rw[e] at oC;cases oC
 have hk3:=zb hz oC;clear oC;obtain ⟨kz,n,U6,hk⟩:=hk3
 rcases gk h a_.1 with hs | ⟨xs,e⟩
 rotate_left
 ·grind
 split at hk
 ·rename_i s hv;rw[hv] at hs;split at hk
  ·rename_i ui;subst ui;split at hk
   ·rename_i h0;obtain ⟨c,hc,hk⟩:=bind_some hk;obtain ⟨cs,h1,h2⟩:=hs;simp only[Ro] at h2;subst h2;have hb:=YL s n.toNat;rw[hc] at hb;refine jk (v:=.int .u8 c.toNat) ?_ (cx h hk ⟨[_],rfl,rfl⟩ (λ_ _ _ _ e=>by cases e));simp[execOp,ho,h1,dj,isAgg,U6,Instr.index,asIntOf,run_underlying (oP kt),h0,hb]
   ·cases hk
  ·cases hk
 ·rename_i m e v hv;rw[hv] at hs;split at hk
  ·rename_i ui;subst ui;split at hk
   ·rename_i h0;obtain ⟨yv,If,hk⟩:=bind_some hk;obtain ⟨cs,h1,h2⟩:=hs;obtain ⟨q1,q2,q3,q4⟩:=id h2;obtain ⟨el,hu,_,hle⟩:=U5 kt;have bc:n.toNat < m:=q2 ▸ (aO.1 If).1;have F7:n < (m:Int):=by omega
    have yh:=q4 _ _ If;refine jk (v:=dj e ((cs.drop (n.toNat*e.sz)).take e.sz)) (λw' _=>?_) (cx h hk ⟨_,rfl,yh⟩ (λ_ _ _ _ e=>by cases e));have hp:=xo (P:=P) (w:=w') hle (cs:=cs.toArray) (off:=n.toNat*e.sz) (by grind [Ro.length]);simp only[List.toList_toArray] at hp;have oO:=run_sizeOf (P:=P) (w:=w') hle;simp_all [execOp,dj,isAgg,Instr.index,asIntOf,run_underlying]
   ·cases hk
  ·cases hk
 ·cases hk
theorem C_ {t:Ty} {m:Md} {H:List Path} {e:Ty} {v:List e.den} {cs:List Value} {G:FP} (h:am P w A (.aa e) m H v cs G) (hH:hole H=false) :
  ∃ xa cap,cs=[.slice xa (List.length v) cap]/\List.length v<=cap/\(xa=none->List.length v=0):=by
 simp only[am,hH,aF,aU] at h;split at h
 ·grind
 ·obtain ⟨_,_,xa,cap,q1,q2,q3,q4⟩:=h;grind
theorem Da {t:Nat} {y:Operand} (ho:o.op=.call { callee:=.builtin .len,args:=#[y],argTypes:=#[t] }) :
  (execOp a.eval o).run P w=((Builtin.len_ #[t] o.type #[a.eval y]).run P w).andThen λv w'=>.ok (.value v) w':=by
 simp_all [execOp,resolve,invoke,builtin]
theorem aaN (h:eo P C A σ a w F) (mY:∀ i T,E.TI i=some T->bn P T (.inl i)=true) {t:Nat} {y:Operand} (ho:o.op=.call { callee:=.builtin .len,args:=#[y],argTypes:=#[t] }) (a_:d_ P y=true) {K:St->Option R}
  (hk:aaD E σ t (eg σ y) (λn=>K (σ.cq o.dst (.val (.int .i64) (n:Int))))=some x):Tk P o a w (Nx P C K x):=by
 unfold aaD at hk;obtain ⟨T,hT,hk⟩:=iy hk;have kt:=mY _ _ hT
 rcases gk h a_ with hs | ⟨xs,e⟩
 rotate_left
 ·grind
 have fin:∀ n:Nat,K (σ.cq o.dst (.val (.int .i64) (n:Int)))=some x->Nx P C K x (a.put o.dst (.int .i64 (n:Int))) w:=λn hk=>cx h hk ⟨[_],rfl,rfl⟩ (λ_ _ _ _ e=>by cases e);split at hk
 ·split at hk
  ·rename_i s hv;rw[hv] at hs;obtain ⟨cs,h1,h2⟩:=hs;simp only[Ro] at h2;subst h2;refine jk (v:=.int .i64 (s.length:Int)) (λw' _=>?_) (fin _ hk);have e:a.eval y=.string ⟨List.toArray s⟩:=h1;have e2:(⟨List.toArray s⟩:ByteArray).size=s.length:=rfl;rw[Da ho,e];unfold Builtin.len_;simp only[List.getElem?_toArray,dZ,Sem.run_bind,run_underlying (oP kt),Result.andThen_ok,Sem.run_pure,goInt,e2]
  ·cases hk
 ·rename_i e;obtain ⟨el,hu,_,hle⟩:=wP kt
  have run:∀ xa n cap,a.eval y=.slice xa n cap->∀ w',vV o w w'->(execOp a.eval o).run P w'=.ok (.value (.int .i64 (n:Int))) w':=λxa n cap hy w' _=>by
   rw[Da ho];simp[Builtin.len_,hy,run_underlying hu,goInt]
  split at hk
  ·rename_i e' v hv;rw[hv] at hs;obtain ⟨cs,h1,xa,cap,h2,_⟩:=hs;subst h2;exact jk (run xa _ cap h1) (fin _ hk)
  ·rename_i hv;rw[hv] at hs;exact jk (run none 0 0 hs) (fin _ hk)
  ·rename_i r p snap hv;rw[hv] at hs;split at hk
   ·rename_i qT;obtain ⟨hr,t',m',H',v',cn,dp,F',h1,h2,h3,h4,h5,h6⟩:=m_ h hk;obtain ⟨pl,g1,g2,g3⟩:=hs.2 qT;rw[h3] at g1;injection g1 with g1;subst g1;simp only at g2;split at h1
    ·cases h1
    ·rename_i hH;have hH:hole H'=false:=fL.2 hH;split at h1
     ·rename_i e' U7;obtain ⟨xa,cap,q1,q2,q3⟩:=C_ (t:=.unit) h4 hH;subst q1;exact jk (run xa _ cap g2) (fin _ h1)
     ·cases h1
   ·cases hk
  ·rename_i r p snap lo hi hv;rw[hv] at hs;split at hk
   ·rename_i qT;obtain ⟨pl,e',xa,len,cap,yu,cap',g1,g2,g3,g4,g5,g6,g7,U0,g8,g9,g10⟩:=hs.2 qT;grind [jk]
   ·cases hk
  ·cases hk
 ·cases hk
theorem YM {len cap:Nat} {lo hi:Option Operand} {K:Nat->Nat->Option R} (oc:len<=cap) (za:∀ y,lo=some y->dn P A σ a w (a.eval y) (eg σ y) (λ_ _=>0)) (Ka:∀ y,hi=some y->dn P A σ a w (a.eval y) (eg σ y) (λ_ _=>0))
  (hk:wN len (lo.map (eg σ)) (hi.map (eg σ)) K=some x):∃ l h,l<=h/\h<=len/\K l h=some x/\(∀ w',(Instr.sliceBounds true len cap (lo.map a.eval) (hi.map a.eval) none).run P w'=.ok (l,h,cap) w') /\
   (len=cap->∀ w',(Instr.sliceBounds false len cap (lo.map a.eval) (hi.map a.eval) none).run P w'=.ok (l,h,cap) w'):=by
 have mr:∀ (k:IntKind) (i:Int) (y:Nat) code,0<=i->i<=(y:Int)->∀ w',(Instr.sliceBound (.int k i) y code).run P w'=.ok i.toNat w':=λk i y code h0 h1 w'=>run_sliceBound w' k i y code h0 h1
 have two:∀ (YN vP:Option Value) (l h:Nat),(YN=none/\l=0\/∃ k n,YN=some (.int k n)/\0<=n/\n<=(h:Int)/\l=n.toNat)->(vP=none/\h=len\/∃ k n,vP=some (.int k n)/\0<=n/\n<=(len:Int)/\h=n.toNat) ->
   (∀ w',(Instr.sliceBounds true len cap YN vP none).run P w'=.ok (l,h,cap) w')/\(len=cap->∀ w',(Instr.sliceBounds false len cap YN vP none).run P w'=.ok (l,h,cap) w'):=λYN vP l h h1 h2=>by
  rcases h2 with ⟨rfl,rfl⟩ | ⟨k2,n2,rfl,b1,b2,rfl⟩
  ·rcases h1 with ⟨rfl,rfl⟩ | ⟨k1,n1,rfl,a1,a2,rfl⟩
   ·simp_all [Instr.sliceBounds]
   ·exact ⟨by simp_all [Instr.sliceBounds],λ_=>by simp_all [Instr.sliceBounds]⟩
  ·have c1:=mr k2 n2 cap .sliceAcap b1 Bys;have c2:=mr k2 n2 cap .sliceAlen b1 Bys
   rcases h1 with ⟨rfl,rfl⟩ | ⟨k1,n1,rfl,a1,a2,rfl⟩
   all_goals simp_all [Instr.sliceBounds]
 unfold wN at hk
 cases lo with
 | none=>
  cases hi <;> grind [zb]
 | some yl=>
  cases hi <;> grind [zb]
theorem P_ (s:List UInt8) (l h:Nat) (hl:l<=h) (hh:h<=s.length):(⟨s.toArray⟩:ByteArray).extract l h=⟨((s.take h).drop l).toArray⟩:=by
 apply ByteArray.ext;grind [ByteArray.data_extract]
theorem Ww (h:eo P C A σ a w F) (mY:∀ i T,E.TI i=some T->bn P T (.inl i)=true) {t:Nat} {y:Operand} {lo hi:Option Operand} (ho:o.op=.slice t y lo hi none)
  (a_:d_ P y=true/\(∀ z,lo=some z->d_ P z=true)/\(∀ z,hi=some z->d_ P z=true)) {K:St->Option R}
  (hk:QN E σ t (eg σ y) (lo.map (eg σ)) (hi.map (eg σ)) o.dst K=some x):Tk P o a w (Nx P C K x):=by
 unfold QN at hk;have OZ:=iy hk;clear hk;obtain ⟨T,hT,hk⟩:=OZ;have kt:=mY _ _ hT
 have hnt:∀ z,d_ P z=true->(∀ xs,eg σ z≠.ug xs)->dn P A σ a w (a.eval z) (eg σ z) (λ_ _=>0):=λz hz hn=>by
  grind [gk]
 have bound:∀ (len cap:Nat) (K':Nat->Nat->Option R),len<=cap->wN len (lo.map (eg σ)) (hi.map (eg σ)) K'=some x->∃ l h,l<=h/\h<=len/\K' l h=some x/\(∀ w',(Instr.sliceBounds true len cap (lo.map a.eval) (hi.map a.eval) none).run P w'=.ok (l,h,cap) w') /\
   (len=cap->∀ w',(Instr.sliceBounds false len cap (lo.map a.eval) (hi.map a.eval) none).run P w'=.ok (l,h,cap) w'):=λlen cap K' hc hb=>by
  refine YM hc (λz hz=>hnt z (a_.2.1 z hz) λxs e=>?_) (λz hz=>hnt z (a_.2.2 z hz) λxs e=>?_) hb
  ·subst hz;unfold wN at hb;grind [yK]
  ·subst hz;unfold wN at hb
   cases lo with
   | none=>grind [yK]
   | some yl=>
    simp only[bR,e] at hb;unfold yK at hb;grind
 have yO:∀ e xa len cap l h,T=.aa e->a.eval y=.slice xa len cap->l<=cap->(∀ ad,xa=some ad->0 < cap->ad.spot=none)->(∀ w',(Instr.sliceBounds true len cap (lo.map a.eval) (hi.map a.eval) none).run P w'=.ok (l,h,cap) w') ->
   ∀ w',vV o w w'->(execOp a.eval o).run P w'=.ok (.value (.slice (if cap=l then xa else xa.map λad=>⟨ad.block,ad.off+l*e.sz,none⟩) (h - l) (cap - l))) w':=λe xa len cap l h ui hy hlc rT hb w' _=>by
  have hb:=hb w';subst ui;obtain ⟨el,hu,_,hle⟩:=wP kt;have oO:=run_sizeOf (P:=P) (w:=w') hle;unfold execOp;simp only[ho,iX,Instr.sliceAt,Instr.slice,Sem.run_bind,run_underlying hu,Result.andThen_ok,hy,hb,oO,Sem.run_pure];by_cases vz:cap=l
  ·simp[vz]
  ·congr 4
   cases xa with
   | none=>rfl
   | some ad=>
    obtain ⟨b,off,sp⟩:=ad;grind [sO]
 have addr:∀ (xa:Option Addr) (cap l h n:Nat) (e:Ty),l<=h->h<=n->n<=cap->(∀ ad,xa=some ad->0 < cap->ad.spot=none) ->
   (xa=none->(if cap=l then xa else xa.map λad=>⟨ad.block,ad.off+l*e.sz,none⟩)=none) /\
   (∀ ad,xa=some ad->∃ dp,(if cap=l then xa else xa.map λad=>⟨ad.block,ad.off+l*e.sz,none⟩)=some dp/\dp.spot=ad.spot/\dp.block=ad.block/\(l < h->dp.off=ad.off+l*e.sz)) /\
   (l=0->(if cap=l then xa else xa.map λad=>(⟨ad.block,ad.off+l*e.sz,none⟩:Addr))=xa):=λxa cap l h n e h1 h2 h3 rT=>by
  refine ⟨λe=>by grind,λad e=>?_,λe0=>?_⟩
  ·grind
  ·subst e0;split
   ·rfl
   ·cases xa with
    | none=>rfl
    | some ad=>
     obtain ⟨b,off,sp⟩:=ad;grind
 have acz:∀ {e:Ty} {v:List e.den} {m:Md} {H:List Path} {xa n cap} {G:FP},am P w A (.aa e) m H v [.slice xa n cap] G->hole H=false->∀ ad,xa=some ad->0 < cap->ad.spot=none:=λ{e v m H xa n cap G} jL hH ad YG Gc=>by
  simp only[am,hH,aF,aU] at jL;split at jL
  ·grind
  ·obtain ⟨_,_,xa2,NZ,q1,q2,q3,q4⟩:=jL;grind
 rcases gk h a_.1 with hs | ⟨xs,e⟩
 rotate_left
 ·grind
 split at hk
 ·rename_i s hv;rw[hv] at hs;split at hk
  ·rename_i ui;have acA:=kt;rw[ui] at acA;obtain ⟨l,h',b1,b2,hk,b3,b4⟩:=bound s.length s.length _ (aG _) hk;obtain ⟨cs,h1,h2⟩:=hs;simp only[Ro] at h2;subst h2;have e1:a.eval y=.string ⟨List.toArray s⟩:=h1;have e2:(⟨List.toArray s⟩:ByteArray).size=s.length:=rfl;refine jk (v:=.string ⟨((s.take h').drop l).toArray⟩) (λw' _=>?_) (cx h hk ⟨[_],rfl,rfl⟩ (λ_ _ _ _ e=>by cases e));unfold execOp;simp only[ho,iX,Instr.sliceAt,Instr.slice,Sem.run_bind,run_underlying (oP acA),Result.andThen_ok,e1,Option.isSome_none,aF,aU,e2,b4 rfl w',Sem.run_pure,P_ s l h' b1 b2]
  ·cases hk
 ·rename_i e v hv;rw[hv] at hs;split at hk
  ·rename_i ui;obtain ⟨cs,h1,h2⟩:=hs;obtain ⟨xa,cap,q1,q2,q3,q4⟩:=id h2;subst q1;rw[ep _ _ rfl] at h1;obtain ⟨l,h',b1,b2,hk,b3,_⟩:=bound (List.length v) cap _ q2 hk;obtain ⟨r1,r2,r3⟩:=addr xa cap l h' _ e b1 b2 q2 (λad e=>(q4 ad e).1);exact jk (yO e xa _ cap l h' ui h1 Bys (λad e=>(q4 ad e).1) b3) (cx h hk ⟨_,(ep (.aa e) _ rfl).symm,Ro.piece h2 b1 b2 Bys r1 r2⟩ (λ_ _ _ _ e=>by cases e))
  ·cases hk
 ·rename_i r p snap hv;rw[hv] at hs;split at hk
  ·rename_i qT;obtain ⟨hr,t',m',H',v',cn,dp,F',h1,h2,h3,h4,h5,h6⟩:=m_ h hk;obtain ⟨pl,g1,g2,g3⟩:=hs.2 qT;rw[h3] at g1;injection g1 with g1;subst g1;simp only at g2 g3;split at h1
   ·cases h1
   ·rename_i hH;have hH:hole H'=false:=fL.2 hH;split at h1
    ·rename_i ui;split at h1
     ·rename_i e U7;obtain ⟨xa,cap,q1,q2,q3⟩:=C_ (t:=.unit) h4 hH;subst q1;rw[ep _ _ rfl] at g2;have rT:=acz h4 hH;split at h1
      ·obtain ⟨l,h',b1,b2,h1,b3,_⟩:=bound (List.length U7) cap _ q2 h1;obtain ⟨r1,r2,r3⟩:=addr xa cap l h' _ e b1 b2 q2 rT;refine jk (yO e xa _ cap l h' ui.symm g2 Bys rT b3) (cx h h1 ⟨hs.1,λ_=>⟨_,e,xa,_,cap,_,cap - l,h3,rfl,rfl,b1,b2,rfl,by omega,r3,r1,r2,?_⟩⟩ (λ_ _ _ _ e=>by cases e));grind
      ·rename_i jS;obtain ⟨l,h',b1,b2,h1,b3,_⟩:=bound (List.length U7) cap _ q2 h1;obtain ⟨r1,r2,r3⟩:=addr xa cap l h' _ e b1 b2 q2 rT;simp only[am,hH,aF,aU,jS] at h4;exact jk (yO e xa _ cap l h' ui.symm g2 Bys rT b3) (cx h h1 ⟨_,(ep (.aa e) _ rfl).symm,Ro.piece h4.2.2 b1 b2 Bys r1 r2⟩ (λ_ _ _ _ e=>by cases e))
     ·cases h1
    ·cases h1
  ·cases hk
 ·rename_i r p snap l0 h0 hv;rw[hv] at hs;split at hk
  ·rename_i qT;obtain ⟨hr,t',m',H',v',cn,dp,F',h1,h2,h3,h4,h5,h6⟩:=m_ h hk;obtain ⟨pl,e,xa,n,cap,yu,cap',g1,g2,g3,g4,g5,g6,g7,U0,g8,g9,g10⟩:=hs.2 qT;have g1':=g1;rw[h3] at g1;injection g1 with g1;subst g1;simp only at g2 g3;subst g2;subst g3;split at h1
   ·cases h1
   ·rename_i hH;have hH:hole H'=false:=fL.2 hH;split at h1
    ·rename_i ui;obtain ⟨xa2,NZ,q1,q2,q3⟩:=C_ (t:=.unit) h4 hH;simp only[dP,Value.slice.injEq,eU] at q1;obtain ⟨rfl,rfl,rfl⟩:=q1;have rT:=acz h4 hH
     have aeu:∀ ad,yu=some ad->0 < cap'->ad.spot=none:=λad e' Gc=>by
      cases YG:xa <;> grind
     obtain ⟨l,h',b1,b2,h1,b3,_⟩:=bound (h0 - l0) cap' _ Bys h1;obtain ⟨r1,r2,r3⟩:=addr yu cap' l h' _ e b1 b2 Bys aeu;refine jk (yO e yu _ cap' l h' ui.symm g6 Bys aeu b3) (cx h h1 ⟨hs.1,λ_=>⟨⟨.aa e,H',[.slice xa (List.length v') cap],dp⟩,e,xa,List.length v',cap,(if cap'=l then yu else yu.map λad=>⟨ad.block,ad.off+l*e.sz,none⟩),cap' - l,h3,rfl,rfl,by omega,by omega,?_,by omega,λe0=>?_,λe'=>?_,λad e'=>?_,g10⟩⟩ (λ_ _ _ _ e=>by cases e))
     ·grind
     ·grind
     ·grind
     grind
    ·cases h1
  ·cases hk
 ·cases hk
end
theorem um (k:IntKind) (n:Int):qR k (Hu k n)=k.wrap n:=by
 cases k <;> first | rfl | skip
 show ((UInt8.ofNat (n % 2 ^ 8).toNat).toNat:Int)=_;grind [UInt8.toNat_ofNat',IntKind.wrap,IntKind.bits,IntKind.signed]
theorem N0 (k:IntKind) (n:Int) (h:k=.u8->0<=n/\n < 256):qR k (inI k n)=n:=by
 cases k <;> first | rfl | skip
 obtain ⟨h1,h2⟩:=h rfl;show ((UInt8.ofNat (n % 2 ^ 8).toNat).toNat:Int)=_;rw[UInt8.toNat_ofNat'];omega
theorem YO (v:E5 .u8):0<=qR .u8 v/\qR .u8 v < 256:=by
 have:UInt8.toNat v < 256:=fN v;show 0<=((UInt8.toNat v:Nat):Int)/\((UInt8.toNat v:Nat):Int) < 256;omega
section
variable {P:Program} {C:Ctx} {A:Cells} {X:FP} {σ:St} {a:Act} {w:World} {F:Nat->FP} {R:Type} {x:R} {Q:Exit->Act->World->Prop} {o:Oper} {E:Env}
theorem ac9 {op:BinOp} {k k':IntKind} {na nb:Int} {K:(t:Ty)->t.den->Option R} (hk:QP op k na nb K=some x) (OS:k=k'\/op=.shl\/op=.shr) (hu:k=.u8->0<=na/\na < 256) (hu':k'=.u8->0<=nb/\nb < 256) (T:TypeId) :
  ∃ t v tv,K t v=some x/\Ro P w A t v [tv]/\isAgg t=false/\∀ w:World,(binOp op T (.int k na) (.int k' nb)).run P w=.ok tv w:=by
 have same:op≠.shl->op≠.shr->k=k':=λh1 h2=>by grind
 unfold QP at hk;split at hk
 ·have:=same (by simp) (by simp);subst this;exact ⟨_,_,.int k (k.wrap (na+nb)),hk,by simp only[Ro,um],rfl,λw=>by simp[Go.binOp,Op.intArith]⟩
 ·have:=same (by simp) (by simp);subst this;exact ⟨_,_,.int k (k.wrap (na - nb)),hk,by simp only[Ro,um],rfl,λw=>by simp[Go.binOp,Op.intArith]⟩
 ·have:=same (by simp) (by simp);subst this;exact ⟨_,_,.int k (k.wrap (na*nb)),hk,by simp only[Ro,um],rfl,λw=>by simp[Go.binOp,Op.intArith]⟩
 ·have:=same (by simp) (by simp);subst this;split at hk
  ·cases hk
  ·rename_i hnz;exact ⟨_,_,.int k (k.wrap (na.tdiv nb)),hk,by simp only[Ro,um],rfl,λw=>by simp[Go.binOp,Op.intDiv,hnz]⟩
 ·have:=same (by simp) (by simp);subst this;split at hk
  ·cases hk
  ·rename_i hnz;refine ⟨_,_,.int k (na.tmod nb),hk,?_,rfl,λw=>by simp[Go.binOp,Op.intDiv,hnz]⟩
   simp only[Ro];rw[N0 k _ (λe=>?_)];have h1:=hu e;have h2:=hu' e
   have:=Int.tmod_nonneg nb h1.1;have h3:na.tmod nb < nb:=Int.tmod_lt_of_pos na Bys;omega
 ·have:=same (by simp) (by simp);subst this;exact ⟨_,_,.int k (k.wrap ((BitVec.ofInt k.bits na &&& BitVec.ofInt k.bits nb).toNat:Int)),hk,by simp only[Ro,um],rfl,λw=>by grind [Go.binOp,Op.intBits,Sem.run_pure]⟩
 ·have:=same (by simp) (by simp);subst this;exact ⟨_,_,.int k (k.wrap ((BitVec.ofInt k.bits na ||| BitVec.ofInt k.bits nb).toNat:Int)),hk,by simp only[Ro,um],rfl,λw=>by grind [Go.binOp,Op.intBits,Sem.run_pure]⟩
 ·have:=same (by simp) (by simp);subst this;exact ⟨_,_,.int k (k.wrap ((BitVec.ofInt k.bits na ^^^ BitVec.ofInt k.bits nb).toNat:Int)),hk,by simp only[Ro,um],rfl,λw=>by grind [Go.binOp,Op.intBits,Sem.run_pure]⟩
 ·split at hk
  ·cases hk
  ·rename_i hn;exact ⟨_,_,.int k (k.wrap (na*2 ^ (min nb.toNat k.bits))),hk,by simp only[Ro,um],rfl,λw=>by simp[Go.binOp,Op.shift,hn]⟩
 ·split at hk
  ·cases hk
  ·rename_i hn;refine ⟨_,_,.int k (na.fdiv (2 ^ (min nb.toNat k.bits))),hk,?_,rfl,λw=>by simp[Go.binOp,Op.shift,hn]⟩
   simp only[Ro];rw[N0 k _ (λe=>?_)];have h1:=hu e;have hp:(0:Int) < 2 ^ (min nb.toNat k.bits):=Int.pow_pos Bys;rw[Int.fdiv_eq_ediv_of_nonneg _ Bys];have h2:=iY h1.1 (Int.le_of_lt hp);have h3:=iM (2 ^ (min nb.toNat k.bits)) h1.1;omega
 ·have:=same (by simp) (by simp);subst this;exact ⟨.bool,decide (na=nb),_,hk,rfl,rfl,λw=>by simp[Go.binOp,Op.intCmp];rfl⟩
 ·have:=same (by simp) (by simp);subst this;exact ⟨.bool,!decide (na=nb),_,hk,rfl,rfl,λw=>by simp[Go.binOp,Op.intCmp,bne];rfl⟩
 ·have:=same (by simp) (by simp);subst this;exact ⟨.bool,decide (na < nb),_,hk,rfl,rfl,λw=>by simp[Go.binOp,Op.intCmp]⟩
 ·have:=same (by simp) (by simp);subst this;exact ⟨.bool,decide (na<=nb),_,hk,rfl,rfl,λw=>by simp[Go.binOp,Op.intCmp]⟩
 ·have:=same (by simp) (by simp);subst this;exact ⟨.bool,decide (nb < na),_,hk,rfl,rfl,λw=>by simp[Go.binOp,Op.intCmp]⟩
 ·have:=same (by simp) (by simp);subst this;exact ⟨.bool,decide (nb<=na),_,hk,rfl,rfl,λw=>by simp[Go.binOp,Op.intCmp]⟩
 ·cases hk
theorem ac_ {op:BinOp} {s t:List UInt8} {K:(t:Ty)->t.den->Option R} (hk:aaE op s t K=some x) (T:TypeId) :
  ∃ ty v tv,K ty v=some x/\Ro P w A ty v [tv]/\isAgg ty=false/\∀ w:World,(binOp op T (.string ⟨s.toArray⟩) (.string ⟨t.toArray⟩)).run P w=.ok tv w:=by
 have h0:∀ w:World,(binOp op T (.string ⟨s.toArray⟩) (.string ⟨t.toArray⟩)).run P w=(Op.stringOp op ⟨s.toArray⟩ ⟨t.toArray⟩).run P w:=λw=>by cases op <;> rfl
 simp only[h0];unfold aaE at hk;split at hk
 ·split at hk
  ·rename_i hc;refine ⟨.str,s++t,.string ⟨(s++t).toArray⟩,hk,rfl,rfl,λw=>?_⟩
   grind [run_string_add_sum,ByteArray.size,be,ByteArray.mk_append_mk]
  ·cases hk
 ·exact ⟨.bool,decide (s=t),_,hk,rfl,rfl,λw=>by simp[Op.stringOp];grind⟩
 ·exact ⟨.bool,!decide (s=t),_,hk,rfl,rfl,λw=>by simp[Op.stringOp];grind⟩
 ·cases hk
theorem CI {tv:Value} {s:List UInt8} {G:FP} (h:dn P A σ a w tv (.val .str s) G):tv=.string ⟨s.toArray⟩:=by
 obtain ⟨cs,h1,h2⟩:=h;simp only[Ro] at h2;subst h2;exact h1
theorem CJ {tv:Value} {k:IntKind} {n:E5 k} {G:FP} (h:dn P A σ a w tv (.val (.int k) n) G):tv=.int k (qR k n):=by
 obtain ⟨cs,h1,h2⟩:=h;simp only[Ro] at h2;subst h2;exact h1
theorem Rg {tv:Value} {b:Bool} {G:FP} (h:dn P A σ a w tv (.val .bool b) G):tv=.bool b:=by
 obtain ⟨cs,h1,h2⟩:=h;simp only[Ro] at h2;subst h2;exact h1
theorem YP (h:eo P C A σ a w F) {op:UnOp} {t:Nat} {y:Operand} (ho:o.op=.unOp op t y) (a_:d_ P y=true) {K:St->Option R}
  (hk:(match op,eg σ y with
  | .not,.val .bool b=>K (σ.cq o.dst (.val .bool (!b)))
  | .neg,.val (.int k) n=>K (σ.cq o.dst (.val (.int k) (Hu k (0 - qR k n))))
  | _,_=>none)=some x):Tk P o a w (Nx P C K x):=by
 rcases gk h a_ with hs | ⟨xs,e⟩
 rotate_left
 ·grind
 split at hk
 ·rename_i b ho hv;rw[hv] at hs;have e:=Rg hs;exact jk (v:=.bool (!b)) (by simp[execOp,ho,e,Op.unary]) (cx h hk ⟨[_],rfl,rfl⟩ (λ_ _ _ _ e=>by cases e))
 ·rename_i k n ho hv;rw[hv] at hs;have e:=CJ hs;exact jk (v:=.int k (k.wrap (0 - qR k n))) (by simp[execOp,ho,e,Op.unary,Op.intArith]) (cx h hk ⟨[_],rfl,by simp only[Ro,um]⟩ (λ_ _ _ _ e=>by cases e))
 ·cases hk
end
section
variable {P:Program} {w:World} {A:Cells}
theorem acB:∀ (t:Ty),(∀ (i:TypeId) (d:Nat) (v1 v2:t.den) (sH dO:List Value),bn P t (.inl i)=true->uh P t (.inl i)=true->dep t<=d->Ro P w A t v1 sH->Ro P w A t v2 dO->(Op.equalIn d i (dj t sH) (dj t dO)).run P w=.ok (t.eq v1 v2) w) /\
  (∀ (fs:List Field) (off d:Nat) (v1 v2:t.den) (xs ys:Array Value),bn P t (.inr (fs,off))=true->uh P t (.inr fs)=true->dep t<=d+1->Ro P w A t v1 (xs.toList.drop off)->Ro P w A t v2 (ys.toList.drop off)->(Op.eqFields d xs ys fs).run P w=.ok (t.eq v1 v2) w):=by
 intro t
 induction t with
 | int k=>
  refine ⟨λi d v1 v2 sH dO hl he hd h1 h2=>?_,λfs off d v1 v2 xs ys hl=>by simp[bn] at hl⟩
  simp only[Ro] at h1 h2;subst h1;subst h2
  cases d with
  | zero=>simp[dep] at hd
  | succ d=>
   rw[ep _ _ rfl,ep _ _ rfl,run_equalIn_int w d i k k _ _ (sG hl)];congr 1
   cases k with
   | u8=>exact fR.2 (by simp only[qR,Ty.eq,jG];constructor;(intro h;exact fS.1 Bys);grind)
   | _=>grind [qR,Ty.eq]
 | bool=>
  refine ⟨λi d v1 v2 sH dO hl he hd h1 h2=>?_,λfs off d v1 v2 xs ys hl=>by simp[bn] at hl⟩
  simp only[Ro] at h1 h2;subst h1;subst h2
  have hu:P.underlying i=some .bool:=by
   grind [bn]
  cases d with
  | zero=>simp[dep] at hd
  | succ d=>rw[ep _ _ rfl,ep _ _ rfl,run_equalIn_bool' w d i _ _ hu];rfl
 | str=>
  refine ⟨λi d v1 v2 sH dO hl he hd h1 h2=>?_,λfs off d v1 v2 xs ys hl=>by simp[bn] at hl⟩
  simp only[Ro] at h1 h2;subst h1;subst h2
  cases d with
  | zero=>simp[dep] at hd
  | succ d=>
   rw[ep _ _ rfl,ep _ _ rfl,run_equalIn_string w d i _ _ (oP hl),ByteArray.toList_mk,ByteArray.toList_mk];grind [Ty.eq]
 | unit=>
  refine ⟨λi d v1 v2 sH dO hl he hd h1 h2=>?_,λfs off d v1 v2 xs ys hl he hd h1 h2=>?_⟩
  ·simp only[Ro] at h1 h2;subst h1;subst h2;simp only[bn,aC] at hl;have h3:=hl.2;split at h3
   ·rename_i fs hu;have hf:P.fieldsOf i=fs:=by simp[Program.fieldsOf,hu]
    cases d with
    | zero=>simp[dep] at hd
    | succ d=>
     have EI:fs.toList=[]:=bH.1 h3;simp only[uh,cB] at he;show (Op.equalIn (d+1) i (.agg #[]) (.agg #[])).run P w=_;rw[run_equalIn_struct w d i _ _ (by grind) he,hf,EI];rfl
   ·cases h3
  ·simp only[bn,bH] at hl;subst hl;rfl
 | pair a b nY nH=>
  have second:∀ (fs:List Field) (off d:Nat) (v1 v2:(Ty.pair a b).den) (xs ys:Array Value),bn P (.pair a b) (.inr (fs,off))=true->uh P (.pair a b) (.inr fs)=true->dep (.pair a b)<=d+1->Ro P w A (.pair a b) v1 (xs.toList.drop off)->Ro P w A (.pair a b) v2 (ys.toList.drop off)->(Op.eqFields d xs ys fs).run P w=.ok ((Ty.pair a b).eq v1 v2) w:=by
   intro fs off d v1 v2 xs ys hl he hd h1 h2
   cases fs with
   | nil=>simp[bn] at hl
   | cons f r=>
    simp only[bn,aC,eW,dK] at hl;simp only[uh,aC,bne_iff_ne,ne_eq] at he;simp only[dep] at hd;obtain ⟨YQ,YR⟩:=h1;obtain ⟨h2a,h2b⟩:=h2;have p1:=xo (P:=P) (w:=w) hl.1.2 (cs:=xs) (off:=off) (Ro.length _ YQ);have p2:=xo (P:=P) (w:=w) hl.1.2 (cs:=ys) (off:=off) (Ro.length _ h2a);have e1:=nY.1 f.type d v1.1 v2.1 _ _ hl.1.2 he.1.2 Bys YQ h2a;rw[dF] at YR h2b;have e2:=nH.2 r (off+a.sz) d v1.2 v2.2 xs ys hl.2 he.2 Bys YR h2b;simp only[Op.eqFields,ne_eq,he.1.1,eR,aL,Sem.run_bind,hl.1.1.1,p1,p2,e1,Result.andThen_ok];cases hq:a.eq v1.1 v2.1 <;> simp_all [Ty.eq]
  refine ⟨λi d v1 v2 sH dO hl he hd h1 h2=>?_,second⟩
  simp only[bn,aC] at hl;simp only[uh,aC,cB] at he;have h3:=hl.2;have h4:=he.2;split at h3
  ·rename_i fs hu;rw[hu] at h4;simp only at h4;have hf:P.fieldsOf i=fs:=by simp[Program.fieldsOf,hu]
   split at h3
   ·rename_i f r Mj;rw[Mj] at h4;simp only at h4
    cases d with
    | zero=>grind [dep]
    | succ d=>
     show (Op.equalIn (d+1) i (.agg sH.toArray) (.agg dO.toArray)).run P w=_;rw[run_equalIn_struct w d i _ _ (by grind) he.1,hf,Mj];refine second (f::r) 0 d v1 v2 _ _ ?_ ?_ hd (by simpa using h1) (by simpa using h2)
     all_goals grind [bn,uh]
   ·cases h3
  ·cases h3
 | arr n e ih=>
  refine ⟨λi d v1 v2 sH dO hl he hd h1 h2=>?_,λfs off d v1 v2 xs ys hl=>by simp[bn] at hl⟩
  simp only[bn,aC] at hl;have h3:=hl.2;simp only[uh] at he;split at h3
  ·rename_i n' el hu;simp only[aC,eW,dK] at h3;obtain ⟨⟨rfl,_⟩,hle⟩:=h3;rw[hu] at he;simp only at he;obtain ⟨inf,i1,i2,_⟩:=mI (nI hle);have oO:P.cellsOf el=e.sz:=by grind [Program.cellsOf]
   obtain ⟨_,l1,_,r1⟩:=h1;obtain ⟨_,l2,_,r2⟩:=h2
   cases d with
   | zero=>simp[dep] at hd
   | succ d=>
    simp only[dep] at hd
    have key:∀ (m j:Nat),j+m=n->(Op.eqItems d el e.sz sH.toArray dO.toArray (List.range' j m)).run P w=.ok (((List.drop j v1).zip (List.drop j v2)).all λp=>e.eq p.1 p.2) w:=by
     intro m
     induction m with
     | zero=>
      intro j hj;rw[fI Bys];rfl
     | succ m ihm=>
      intro j hj;have g1:=aB (l:=v1) (i:=j) Bys;have g2:=aB (l:=v2) (i:=j) Bys;have a1:=r1 j _ g1;have a2:=r2 j _ g2;have p1:=xo (P:=P) (w:=w) hle (cs:=sH.toArray) (off:=j*e.sz) (Ro.length _ a1);have p2:=xo (P:=P) (w:=w) hle (cs:=dO.toArray) (off:=j*e.sz) (Ro.length _ a2);have e1:=ih.1 el d _ _ _ _ hle he Bys a1 a2;rw[iP,cI (l:=v1) (i:=j) Bys,cI (l:=v2) (i:=j) Bys];simp only[Op.eqItems,Sem.run_bind,p1,p2,e1,Result.andThen_ok,List.zip_cons_cons,eO]
      cases hq:e.eq v1[j] v2[j] with
      | true=>grind
      | false=>simp
    show (Op.equalIn (d+1) i (.agg sH.toArray) (.agg dO.toArray)).run P w=_;rw[run_equalIn_array w d _ _ hu i1,oO,fO];exact key n 0 Bys
  ·cases h3
 | _=>grind [uh]
end
section
variable {P:Program} {C:Ctx} {A:Cells} {X:FP} {σ:St} {a:Act} {w:World} {F:Nat->FP} {R:Type} {x:R} {Q:Exit->Act->World->Prop} {o:Oper} {E:Env}
def acC (P:Program) (E:Env):Prop:=∀ i T,E.TI i=some T->T.qc=true->isAgg T=true->uh P T (.inl i)=true/\P.eqGuardType P.depth i=false/\dep T<=10000
theorem Gd {op:BinOp} {t:TypeId} {y z:Operand} {u v:Value} (h:¬ (∃ p q,u=.agg p/\v=.agg q)) (h2:u≠.nilIface):(eqGuard op t y z u v).run P w=.ok () w:=by
 simp_all [eqGuard]
theorem Ro.qc {w':World} {A':Cells}:∀ (t:Ty) {v:t.den} {cs:List Value},t.qc=true->Ro P w A t v cs->Ro P w' A' t v cs:=by
 intro t
 induction t with
 | pair a b nY nH=>
  intro v cs hq h;simp only[Ty.qc,aC] at hq;exact ⟨nY hq.1 h.1,nH hq.2 h.2⟩
 | arr n e ih=>intro v cs hq h;exact ⟨h.1,h.2.1,h.2.2.1,λi x hx=>ih hq (h.2.2.2 i x hx)⟩
 | aa e ih=>grind [Ty.qc]
 | ptr e ih=>grind [Ty.qc]
 | fn=>grind [Ty.qc]
 | map k v=>grind [Ty.qc]
 | _=>intro v cs hq h;exact h
theorem Wx (h:eo P C A σ a w F) (mY:∀ i T,E.TI i=some T->bn P T (.inl i)=true) (heq:acC P E) {op:BinOp} {t t2:Nat} {y z:Operand} (ho:o.op=.binOp op t y z t2) (a_:d_ P y=true/\d_ P z=true) {K:St->Option R}
  (hk:QQ E t op (eg σ y) (eg σ z) (λt v=>K (σ.cq o.dst (.val t v)))=some x):Tk P o a w (Nx P C K x):=by
 rcases gk h a_.1 with hy | ⟨xs,e⟩
 rotate_left
 ·grind [QQ]
 rcases gk h a_.2 with hz | ⟨xs,e⟩
 rotate_left
 ·grind [QQ]
 have fin:∀ (ty:Ty) (v:ty.den) (tv:Value),K (σ.cq o.dst (.val ty v))=some x->Ro P w A ty v [tv]->isAgg ty=false->(∀ w',vV o w w'->(eqGuard op t y z (a.eval y) (a.eval z)).run P w'=.ok () w')->(∀ w',vV o w w'->(binOp op t (a.eval y) (a.eval z)).run P w'=.ok tv w')->Tk P o a w (Nx P C K x):=λty v tv hk hr ha hg hb=>by
  refine jk (v:=tv) (λw' ve=>?_) (cx h hk ⟨[tv],(ep ty tv ha).symm,hr⟩ (λ_ _ _ _ e=>by cases e));grind [execOp,Sem.run_bind,Result.andThen_ok,Sem.run_pure]
 unfold QQ at hk;split at hk
 ·rename_i k n1 k' n2 Mm Rh;rw[Mm] at hy;rw[Rh] at hz;have e1:=CJ hy;have e2:=CJ hz;have hg:∀ w',vV o w w'->(eqGuard op t y z (a.eval y) (a.eval z)).run P w'=.ok () w':=λw' _=>by grind [Gd]
  have OS:(k=k'\/op=.shl\/op=.shr)/\QP op k (qR k n1) (qR k' n2) (λt v=>K (σ.cq o.dst (.val t v)))=some x:=by
   grind
  obtain ⟨ty,v,tv,q1,q2,q3,q4⟩:=ac9 (P:=P) (A:=A) (w:=w) OS.2 OS.1 (λe=>by subst e;exact YO n1) (λe=>by subst e;exact YO n2) t;grind
 ·rename_i s1 s2 Mm Rh;rw[Mm] at hy;rw[Rh] at hz;have e1:=CI hy;have e2:=CI hz;have hg:∀ w',vV o w w'->(eqGuard op t y z (a.eval y) (a.eval z)).run P w'=.ok () w':=λw' _=>by grind [Gd]
  obtain ⟨ty,v,tv,q1,q2,q3,q4⟩:=ac_ (P:=P) (A:=A) (w:=w) hk t;grind
 ·rename_i ty v1 ty' v2 hni hns Mm Rh;rw[Mm] at hy;rw[Rh] at hz
  have main:∀ (e:ty=ty') (hq:ty.qc=true) (hT:E.TI t=some ty) (w':World),vV o w w'->(eqGuard op t y z (a.eval y) (a.eval z)).run P w'=.ok () w'/\(∀ b,b=ty.eq v1 (e ▸ v2)->(op=.eql->(binOp op t (a.eval y) (a.eval z)).run P w'=.ok (.bool b) w')/\(op=.neq->(binOp op t (a.eval y) (a.eval z)).run P w'=.ok (.bool (!b)) w')):=λe hq hT w' ve=>by
   subst e;obtain ⟨sH,e1,r1⟩:=hy;obtain ⟨dO,e2,r2⟩:=hz;have r1:=Ro.qc (w':=w') (A':=A) _ hq r1;have r2:=Ro.qc (w':=w') (A':=A) _ hq r2;have kt:=mY _ _ hT
   cases hag:isAgg ty with
   | true=>
    obtain ⟨q1,q2,q3⟩:=heq _ _ hT hq hag;have aiL:=(acB (P:=P) (w:=w') (A:=A) ty).1 t 10000 v1 v2 sH dO kt q1 q3 r1 r2;simp_all [dj,run_eqGuard_agg,run_eql_struct,run_neq_struct]
   | false=>
    cases ty with
    | int k=>grind
    | str=>grind
    | bool=>
     simp only[Ro] at r1 r2;subst r1;subst r2;rw[ep _ _ rfl] at e1 e2
     have hu:P.underlying t=some .bool:=by
      grind [bn]
     rw[e1,e2];refine ⟨Gd (by grind) (by grind),λb hb=>⟨λh=>?_,λh=>?_⟩⟩
     ·subst h;subst hb;have:=run_equalIn_bool' (P:=P) w' 9999 t v1 v2 hu;simp only[Go.binOp,Op.equal,Op.maxDepth,Sem.run_bind,this,Result.andThen_ok,Sem.run_pure];rfl
     ·subst h;subst hb;have:=run_equalIn_bool' (P:=P) w' 9999 t v1 v2 hu;simp only[Go.binOp,Op.equal,Op.maxDepth,Sem.run_bind,this,Result.andThen_ok,Sem.run_pure];rfl
    | _=>grind [Ty.qc,isAgg]
  split at hk
  ·split at hk
   ·rename_i hq;obtain ⟨T,hT,hk⟩:=iy hk;split at hk
    ·rename_i e;subst e;obtain ⟨e,hk⟩:=dh hk;have m:=main e.symm hq hT;subst e;exact fin .bool _ _ hk rfl rfl (λw' ve=>(m w' ve).1) (λw' ve=>((m w' ve).2 _ rfl).1 rfl)
    ·cases hk
   ·cases hk
  ·split at hk
   ·rename_i hq;obtain ⟨T,hT,hk⟩:=iy hk;split at hk
    ·rename_i e;subst e;obtain ⟨e,hk⟩:=dh hk;have m:=main e.symm hq hT;subst e;exact fin .bool _ _ hk rfl rfl (λw' ve=>(m w' ve).1) (λw' ve=>((m w' ve).2 _ rfl).2 rfl)
    ·cases hk
   ·cases hk
  ·cases hk
 ·rename_i e v Mm Rh;rw[Mm] at hy;rw[Rh] at hz;obtain ⟨T,hT,hk⟩:=iy hk;split at hk
  ·rename_i eT;subst eT
   obtain ⟨te,hu⟩:∃ te,P.underlying t=some (.slice te):=by
    grind [bn]
   obtain ⟨cs,h1,a0,cap,h2,h3,h4,h5⟩:=hy;subst h2;rw[ep _ _ rfl] at h1;have hz':a.eval z=.slice none 0 0:=hz;have hg:∀ w',vV o w w'->(eqGuard op t y z (a.eval y) (a.eval z)).run P w'=.ok () w':=λw' _=>by grind [Gd]
   have key:∀ (b:Bool),CQ v (K (σ.cq o.dst (.val .bool b))) (K (σ.cq o.dst (.val .bool !b)))=some x->K (σ.cq o.dst (.val .bool (if a0.isNone then b else !b)))=some x:=λb hb=>by
    cases v with
    | nil=>
     grind [CQ,both]
    | cons y v=>
     have:a0.isNone=false:=by
      cases a0 <;> grind
     rw[this];exact hb
   unfold aeb at hk;split at hk
   ·refine fin .bool _ (.bool a0.isNone) (key true hk) ?_ rfl hg λw' _=>?_
    ·cases a0 <;> rfl
    grind [run_equal_slice_nil,Go.binOp,Sem.run_bind,Result.andThen_ok,Sem.run_pure]
   ·refine fin .bool _ (.bool !a0.isNone) (key false hk) ?_ rfl hg λw' _=>?_
    ·cases a0 <;> rfl
    grind [run_neq_slice_nil]
   ·cases hk
  ·cases hk
 ·cases hk
end
section
variable {P:Program} {C:Ctx} {A:Cells} {X:FP} {σ:St} {a:Act} {w:World} {F:Nat->FP} {R:Type} {x:R} {Q:Exit->Act->World->Prop} {o:Oper} {E:Env}
theorem qn (w:World) (ob:Obj):Ext w (w.alloc ob) (λ_ _=>0):=by
 refine ⟨by simp,λb i hb _ u hu=>?_,λb n hn=>?_,λb i hb=>World.frozen?_alloc_old w ob _ (by simp;omega),rfl,rfl,rfl,λb hb _=>?_,aG _⟩
 ·grind [CU,World.alloc]
 ·obtain ⟨c,e,fr,h1,h2,h3⟩:=hn;refine ⟨c,e,fr,?_,h2,h3⟩
  grind [World.alloc]
 grind [World.alloc]
theorem KW (w:World):Ext w w.drew (λ_ _=>0):=⟨aG _,λ_ _ _ _ _ h=>h,λ_ _ h=>h,λ_ _ _=>rfl,rfl,rfl,rfl,λ_ _ _=>rfl,Nat.le_succ _⟩
theorem D4 (w:World) (c:Array Value) (e:TypeId) (fr:Nat×Nat) (u:Bool) (pk:(u=true/\c.size<=fr.1)\/fr.2<=fr.1):jR (w.alloc (.cells c e fr)) w.heap.size (c.size,u):=
 ⟨c,e,fr,heap_alloc_new w _,rfl,λi hi=>by grind,λhu=>by grind⟩
theorem Bq (w:World) (c:Array Value) (e:TypeId) (fr:Nat×Nat) {k:Nat} {L:List Value} (hL:∀ j u,L[j]?=some u->c[k+j]?=some u) (qS:∀ u ∈ L,u.oneCell'=true):Has (w.alloc (.cells c e fr)) w.heap.size k L:=by
 intro j u hu;grind [JF,World.cell?,heap_alloc_new]
theorem Rel.alloc (h:Rel P C A X σ a w F) (c:Array Value) (e:TypeId) (fr:Nat×Nat):Rel P C A (λb i=>X b i+d8 w.heap.size 0 c.size b i) σ a (w.alloc (.cells c e fr)) F:=by
 refine h.grow (qn w _) (λ_ _ h=>h) (λ_ _ h=>.inl h) (λb i=>?_);by_cases hb:b=w.heap.size
 ·subst hb;right
  have hx:X w.heap.size i=0:=by
   rcases bK (X w.heap.size i) with h0 | h0
   ·exact h0
   ·have:=h.mr w.heap.size i (.inl Bys);omega
  exact ⟨aG _,by simp,by grind [d8]⟩
 grind [d8]
theorem Rel.drew (h:Rel P C A X σ a w F):Rel P C A X σ a w.drew F:=h.grow (KW w) (λ_ _ h=>h) (λ_ _ h=>.inl h) (λ_ _=>.inl (aG _))
theorem am.alloc (h:Rel P C A X σ a w F) {t:Ty} {m:Md} {H:List Path} {v:t.den} {cs:List Value} {G:FP} (hr:am P w A t m H v cs G) (hG:∀ b i,1<=G b i->b < w.heap.size) {w':World} (hw:Ext w w' (λ_ _=>0)):am P w' A t m H v cs G:=
 am.mono (λ_ _ h=>h) (λb i ha u hu=>hw.cell b i (h.mr b i (.inr ha)) rfl u hu) hw.y0 t hr (λ_ _=>aG _) (λb i hp u hu=>hw.cell b i (hG b i hp) rfl u hu)
theorem U8 (h:Rel P C A X σ a w F) {K:St->Option R} {d:Option Tmp} {t:Ty} {m:Md} {v:t.den} {cs:List Value} {Fv:FP} (e:TypeId) (hk:K (σ.cq d (.box t m [] v))=some x)
  (hr:am P w A t m [] v cs Fv) (hX:∀ b i,Fv b i<=X b i):∃ A' F',Rel P C A' (λ_ _=>0) (σ.cq d (.box t m [] v)) (a.put d (.pointer (some ⟨w.heap.size,0,none⟩))) (w.alloc (.cells cs.toArray e)) F':=by
 have hl:=am.length t hr;have h1:=h.alloc cs.toArray e (0,0);have jS:=D4 w cs.toArray e (0,0) false (.inr (aG _));simp only[iG,hl] at jS h1;have xl:=am.alloc h hr (λb i hp=>h.mr b i (.inl (by grind))) (qn w (.cells cs.toArray e))
 obtain ⟨F',hF⟩:=h1.cq d (s:=.box t m [] v) (v:=.pointer (some ⟨w.heap.size,0,none⟩)) (Fd:=λb i=>d8 w.heap.size 0 t.sz b i+Fv b i) (X':=λ_ _=>0)
  ⟨w.heap.size,0,cs,Fv,rfl,hl,Bq w cs.toArray e (0,0) (λj u hu=>by simpa using hu) (am.one _ hr),λj hj=>by simp_all,λ_ _=>aG _,xl⟩
  (λb i=>by grind) (λt' m' H' v' e'=>by grind)
 grind
theorem vW:∀ (t:Ty),t.yf=true->∃ L,zc t=some L:=by
 intro t
 induction t <;> grind [Ty.yf,zc]
theorem YS (h:eo P C A σ a w F) (mY:∀ i T,E.TI i=some T->bn P T (.inl i)=true) {t:Nat} (ho:o.op=.alloc t) {K:St->Option R}
  (hk:(so E t λT=>if T.yf then K (σ.cq o.dst (.box T (ai T) [] T.zero)) else none)=some x):o.wp P a w (λa' w'=>Nx P C K x a' w'/\Ext w w' (λ_ _=>0)) Q:=by
 obtain ⟨T,hT,hk⟩:=iy hk;split at hk
 ·rename_i Kb;have kt:=mY _ _ hT;obtain ⟨L,hL⟩:=vW T Kb;obtain ⟨z,Ri,Mn⟩:=BW (P:=P) (w:=w) kt hL;obtain ⟨r1,r2,r3⟩:=Co (P:=P) (w:=w) (A:=A) T hL kt;refine qm (v:=.pointer (some ⟨w.heap.size,0,none⟩)) (w':=w.alloc (.cells L.toArray t)) ?_ ?_
  ·have:z.cells=L.toArray:=by grind
   simp_all [execOp,Instr.alloc,newVar,newRow]
  ·obtain ⟨A',F',hF⟩:=U8 h t hk r1 (λ_ _=>aG _);exact ⟨⟨_,hk,A',F',hF⟩,qn w _⟩
 ·cases hk
end
section
variable {P:Program} {C:Ctx} {A:Cells} {X:FP} {σ:St} {a:Act} {w:World} {F:Nat->FP} {R:Type} {x:R} {Q:Exit->Act->World->Prop} {o:Oper} {E:Env}
theorem JK (h:Rel P C A X σ a w F) {K:St->Option R} {d:Option Tmp} {e:Ty} {m:Md} {v:List e.den} {c:Array Value} {cap:Nat} {el:TypeId} {fr:Nat×Nat} {Fi:Nat->FP} (pk:(KO e=true/\c.size<=fr.1)\/fr.2<=fr.1)
  (hk:K (σ.cq d (.own (.aa e) (.aa true m) [] v))=some x) (hc:c.size=cap*e.sz) (oc:cap<=maxLen) (hv:List.length v<=cap) (hX:∀ b i,bh (List.length v) Fi b i<=X b i)
  (uj:∀ (i:Nat) (y:e.den),v[i]?=some y->∃ L:List Value,L.length=e.sz/\(∀ j u,L[j]?=some u->c[i*e.sz+j]?=some u)/\am P w A e m [] y L (Fi i)) :
  Nx P C K x (a.put d (.slice (some ⟨w.heap.size,0,none⟩) (List.length v) cap)) (w.alloc (.cells c el fr)):=by
 have h1:=h.alloc c el fr;have jS:=D4 w c el fr (KO e) pk;rw[hc] at jS h1;refine rU h1 hk (Fd:=λb i=>d8 w.heap.size 0 (cap*e.sz) b i+bh (List.length v) Fi b i) ⟨_,(ep (.aa e) _ rfl).symm,?_⟩ (λb i=>by grind) (λ_ _ _ _ e=>by cases e);simp only[am,hole,bU,aF,aU,Md.own,aL,Md.e];refine ⟨_,cap,rfl,hv,oc,(λe=>by cases e),λad lI=>?_⟩
 injection lI with lI;subst lI;refine ⟨rfl,rfl,jS,Fi,λ_ _=>aG _,λi y hy=>?_⟩
 obtain ⟨L,l1,l2,l3⟩:=uj i y hy;have hi:=(aO.1 hy).1;refine ⟨L,l1,Bq w c el fr l2 (am.one _ l3),?_⟩
 simp only[eK];exact am.alloc h l3 (λb k hp=>h.mr b k (.inl (by grind [dw]))) (qn w _)
theorem Qa (h:eo P C A σ a w F) (mY:∀ i T,E.TI i=some T->bn P T (.inl i)=true) {t:Nat} {y z:Operand} (ho:o.op=.makeSlice t y z) (a_:d_ P y=true/\d_ P z=true) {K:St->Option R}
  (hk:(so E t λt=>match t with
  | .aa e=>yK (eg σ y) λn=>yK (eg σ z) λc=>
   if e.yf then (if 0<=n/\n<=c/\c<=(be:Int) then K (σ.cq o.dst (.own (.aa e) (ai (.aa e)) [] (List.replicate n.toNat e.zero))) else none) else none
  | _=>none)=some x):o.wp P a w (λa' w'=>Nx P C K x a' w'/\Ext w w' (λ_ _=>0)) Q:=by
 obtain ⟨T,hT,hk⟩:=iy hk;have kt:=mY _ _ hT;split at hk
 ·rename_i e
  rcases gk h a_.1 with hy | ⟨xs,e'⟩
  rotate_left
  ·rw[e'] at hk;cases hk
  obtain ⟨k1,n,hn,hk⟩:=zb hy hk
  rcases gk h a_.2 with hz | ⟨xs,e'⟩
  rotate_left
  ·rw[e'] at hk;cases hk
  obtain ⟨k2,c,hc,hk⟩:=zb hz hk;split at hk
  ·rename_i Kb;split at hk
   ·rename_i hb;obtain ⟨el,hu,oO,hle⟩:=wP kt;obtain ⟨inf,i1,i2,i3,i4⟩:=mI (nI hle);obtain ⟨L,hL⟩:=vW e Kb;obtain ⟨zv,z1,z2⟩:=i4 L hL;obtain ⟨r1,r2,r3⟩:=Co (P:=P) (w:=w) (A:=A) e hL hle
    have aev:(inf.bytes:Int)*c<=281474976710656:=by
     have h1:(inf.bytes:Int)<=512:=by omega
     have h2:(inf.bytes:Int)*c<=512*c:=Int.mul_le_mul_of_nonneg_right h1 Bys;grind [be]
    have lW:=run_make (P:=P) w t el inf zv hu i1 z1 k1 k2 n c hb.1 hb.2.1 aev (by grind [be]);have hzs:zv.cells.size=e.sz:=by grind
    have hlen:List.length (List.replicate n.toNat e.zero)=n.toNat:=by simp
    refine qm (v:=.slice (some ⟨w.heap.size,0,none⟩) n.toNat c.toNat) (w':=w.alloc (.cells (madeCells zv.cells (c.toNat*inf.size)) el)) ?_ ?_
    ·grind [execOp,Sem.run_bind,Result.andThen_ok,Sem.run_pure]
    ·refine ⟨?_,qn w _⟩
     have Db:=JK h (K:=K) (d:=o.dst) (v:=List.replicate n.toNat e.zero) (c:=madeCells zv.cells (c.toNat*inf.size)) (cap:=c.toNat) (el:=el) (fr:=(0,0)) (m:=ai e) (Fi:=λ_ _ _=>0) (.inr (aG _)) hk
      (by rw[size_madeCells,i2]) (by grind [be,maxLen]) (by grind) (λb i=>by grind [oB])
      (λi y hy=>by
       have hi:i < n.toNat:=by grind
       have hy:y=e.zero:=by grind
       subst hy;refine ⟨L,r3,λj u hu=>?_,r1⟩
       have hj:j < e.sz:=r3 ▸ (aO.1 hu).1
       have bc:i*e.sz+j < c.toNat*e.sz:=by
        have:(i+1)*e.sz<=c.toNat*e.sz:=bD _ Bys;grind
       grind [Nat.mul_comm,Nat.mul_add_mod,Nat.mod_eq_of_lt,madeCells])
     grind
   ·cases hk
  ·cases hk
 ·cases hk
theorem Rj (h:eo P C A σ a w F) (mY:∀ i T,E.TI i=some T->bn P T (.inl i)=true) {s t:Nat} {y:Operand} (ho:o.op=.convert s t y) (a_:d_ P y=true) (Kc:∀ T,E.TI t=some T->T.flat=true) {K:St->Option R}
  (hk:FS E σ s t (eg σ y) o.dst K=some x):Tk P o a w (Nx P C K x):=by
 unfold FS at hk;obtain ⟨S,hS,hk⟩:=iy hk;obtain ⟨T,hT,hk⟩:=iy hk;have C0:=mY _ _ hS;have Dc:=mY _ _ hT
 rcases gk h a_ with hs | ⟨xs,e⟩
 rotate_left
 ·grind [vj]
 split at hk
 ·rename_i k;split at hk
  ·rename_i k' n hv;rw[hv] at hs;have e:=CJ hs;split at hk
   ·rename_i hSe;obtain ⟨dS,hd,_⟩:=Cn C0;refine jk (v:=.int k (k.wrap (qR k' n))) (λw' _=>?_) (cx h hk ⟨[_],rfl,by simp only[Ro,um]⟩ (λ_ _ _ _ e=>by cases e));unfold execOp;simp only[ho,e,Sem.run_bind]
    have:(convert s t (.int k' (qR k' n))).run P w'=.ok (.int k (k.wrap (qR k' n))) w':=by
     unfold convert;simp only[Sem.run_bind,run_underlying hd,run_underlying (sG Dc),Result.andThen_ok];cases dS <;> rfl
    simp_all
   ·cases hk
  ·cases hk
 ·split at hk
  ·split at hk
   ·rename_i b hv;rw[hv] at hs;have e:=CI hs;refine jk (v:=.string ⟨List.toArray b⟩) (λw' _=>?_) (cx h hk ⟨[_],rfl,rfl⟩ (λ_ _ _ _ e=>by cases e));unfold execOp
    have:(convert s t (.string ⟨List.toArray b⟩)).run P w'=.ok (.string ⟨List.toArray b⟩) w':=by
     unfold convert;simp only[Sem.run_bind,run_underlying (oP C0),run_underlying (oP Dc),Result.andThen_ok];rfl
    simp_all
   ·cases hk
  ·obtain ⟨v,cs,hk,h1,h2⟩:=U1 h hs hk;obtain ⟨el,hu,_,hle⟩:=wP C0;obtain ⟨xa,cap,q1,q2,q3,q4⟩:=h2;subst q1;rw[ep _ _ rfl] at h1;have v8:List UInt8:=v
   have lW:∀ w',vV o w w'->(convert s t (a.eval y)).run P w'=.ok (.string ⟨List.toArray v⟩) w':=λw' ve=>by
    have ve:=ve (by rw[ho];rfl);rw[h1]
    cases xa with
    | none=>
     have:v=[]:=bX (q3 rfl);subst this;exact run_convert_bytes_nil w' s el hu (sG hle) _ _ t (oP Dc)
    | some ad=>
     obtain ⟨g1,g2⟩:=q4 _ rfl;refine run_convert_bytes_back w' s t el _ cap v hu (sG hle) (oP Dc) λj hj=>?_;obtain ⟨L,l1,l2,l3⟩:=g2 j _ (aB hj);simp only[Ro] at l3;subst l3;have:=(l2 0 _ rfl).1;obtain ⟨b,off,sp⟩:=ad;have rT:=g1 Bys;simp only at rT;subst rT;rw[sO];simp only[Ty.sz,jD,eM] at this;exact wO (ve.cell _ _ (yC this) rfl _ this) rfl
   refine jk (v:=.string ⟨List.toArray v⟩) (λw' ve=>?_) (cx h hk ⟨[_],rfl,rfl⟩ (λ_ _ _ _ e=>by cases e));grind [execOp,Sem.run_bind,Result.andThen_ok,Sem.run_pure]
  ·cases hk
 all_goals grind [Ty.flat]
theorem Mo (h:eo P C A σ a w F) (mY:∀ i T,E.TI i=some T->bn P T (.inl i)=true) {s t:Nat} {y:Operand} (ho:o.op=.convert s t y) (a_:d_ P y=true) (Kc:∀ T,E.TI t=some T->T.flat=true) (Mp:(match eg σ y with | .val (.int _) _=>true | .val .str _=>true | .val (.aa (.int .u8)) _=>true | _=>false)=true) {K:St->Option R}
  (hk:FS E σ s t (eg σ y) o.dst K=some x) :
  ∃ v,(∀ w',(∀ b i,A b i->∀ u,ce w b i=some u->ce w' b i=some u)->(execOp a.eval o).run P w'=.ok (.value v) w')/\Nx P C K x (a.put o.dst v) w:=by
 unfold FS at hk;obtain ⟨S,hS,hk⟩:=iy hk;obtain ⟨T,hT,hk⟩:=iy hk;have C0:=mY _ _ hS;have Dc:=mY _ _ hT
 rcases gk h a_ with hs | ⟨xs,e⟩
 rotate_left
 ·grind
 split at hk
 ·rename_i k;split at hk
  ·rename_i k' n hv;rw[hv] at hs;have e:=CJ hs;split at hk
   ·rename_i hSe;obtain ⟨dS,hd,_⟩:=Cn C0;refine ⟨.int k (k.wrap (qR k' n)),(λw' _=>?_),cx h hk ⟨[_],rfl,by simp only[Ro,um]⟩ (λ_ _ _ _ e=>by cases e)⟩
    unfold execOp;simp only[ho,e,Sem.run_bind]
    have:(convert s t (.int k' (qR k' n))).run P w'=.ok (.int k (k.wrap (qR k' n))) w':=by
     unfold convert;simp only[Sem.run_bind,run_underlying hd,run_underlying (sG Dc),Result.andThen_ok];cases dS <;> rfl
    simp_all
   ·cases hk
  ·cases hk
 ·split at hk
  ·split at hk
   ·rename_i b hv;rw[hv] at hs;have e:=CI hs;refine ⟨.string ⟨List.toArray b⟩,(λw' _=>?_),cx h hk ⟨[_],rfl,rfl⟩ (λ_ _ _ _ e=>by cases e)⟩
    unfold execOp
    have:(convert s t (.string ⟨List.toArray b⟩)).run P w'=.ok (.string ⟨List.toArray b⟩) w':=by
     unfold convert;simp only[Sem.run_bind,run_underlying (oP C0),run_underlying (oP Dc),Result.andThen_ok];rfl
    simp_all
   ·cases hk
  ·have Rk:∃ v',eg σ y=.val (.aa (.int .u8)) v':=by
    grind [vj,kT]
   obtain ⟨v,hv⟩:=Rk;rw[hv] at hs hk;simp only[vj] at hk;obtain ⟨_,hk⟩:=dh hk;obtain ⟨cs,h1,h2⟩:=hs;obtain ⟨el,hu,_,hle⟩:=wP C0;obtain ⟨xa,cap,q1,q2,q3,q4⟩:=h2;subst q1;rw[ep _ _ rfl] at h1;have v8:List UInt8:=v
   have lW:∀ w',(∀ b i,A b i->∀ u,ce w b i=some u->ce w' b i=some u)->(convert s t (a.eval y)).run P w'=.ok (.string ⟨List.toArray v⟩) w':=λw' ve=>by
    rw[h1]
    cases xa with
    | none=>
     have:v=[]:=bX (q3 rfl);subst this;exact run_convert_bytes_nil w' s el hu (sG hle) _ _ t (oP Dc)
    | some ad=>
     obtain ⟨g1,g2⟩:=q4 _ rfl;refine run_convert_bytes_back w' s t el _ cap v hu (sG hle) (oP Dc) λj hj=>?_;obtain ⟨L,l1,l2,l3⟩:=g2 j _ (aB hj);simp only[Ro] at l3;subst l3;have yg:=l2 0 _ rfl;obtain ⟨b,off,sp⟩:=ad;have rT:=g1 Bys;simp only at rT;subst rT;rw[sO];simp only[Ty.sz,jD,eM] at yg;exact wO (ve _ _ yg.2 _ yg.1) rfl
   refine ⟨.string ⟨List.toArray v⟩,(λw' ve=>?_),cx h hk ⟨[_],rfl,rfl⟩ (λ_ _ _ _ e=>by cases e)⟩
   grind [execOp,Sem.run_bind,Result.andThen_ok,Sem.run_pure]
  ·cases hk
 all_goals grind [Ty.flat]
theorem TN (h:eo P C A σ a w F) (mY:∀ i T,E.TI i=some T->bn P T (.inl i)=true) {s t:Nat} {y:Operand} (ho:o.op=.convert s t y) (a_:d_ P y=true) {K:St->Option R}
  (hk:FS E σ s t (eg σ y) o.dst K=some x):o.wp P a w (λa' w'=>Nx P C K x a' w'/\Ext w w' (λ_ _=>0)) Q:=by
 unfold FS at hk;obtain ⟨S,hS,hk⟩:=iy hk;obtain ⟨T,hT,hk⟩:=iy hk;have C0:=mY _ _ hS;have Dc:=mY _ _ hT
 rcases gk h a_ with hs | ⟨xs,e⟩
 rotate_left
 ·grind [vj]
 split at hk
 ·rename_i k;split at hk
  ·rename_i k' n hv;rw[hv] at hs;have e:=CJ hs;split at hk
   ·rename_i hSe;obtain ⟨dS,hd,_⟩:=Cn C0;refine qm (v:=.int k (k.wrap (qR k' n))) (w':=w) ?_ ⟨cx h hk ⟨[_],rfl,by simp only[Ro,um]⟩ (λ_ _ _ _ e=>by cases e),Ext.refl _ _⟩;unfold execOp;simp only[ho,e,Sem.run_bind]
    have:(convert s t (.int k' (qR k' n))).run P w=.ok (.int k (k.wrap (qR k' n))) w:=by
     unfold convert;simp only[Sem.run_bind,run_underlying hd,run_underlying (sG Dc),Result.andThen_ok];cases dS <;> rfl
    simp_all
   ·cases hk
  ·cases hk
 ·split at hk
  ·split at hk
   ·rename_i b hv;rw[hv] at hs;have e:=CI hs;refine qm (v:=.string ⟨List.toArray b⟩) (w':=w) ?_ ⟨cx h hk ⟨[_],rfl,rfl⟩ (λ_ _ _ _ e=>by cases e),Ext.refl _ _⟩;unfold execOp
    have:(convert s t (.string ⟨List.toArray b⟩)).run P w=.ok (.string ⟨List.toArray b⟩) w:=by
     unfold convert;simp only[Sem.run_bind,run_underlying (oP C0),run_underlying (oP Dc),Result.andThen_ok];rfl
    simp_all
   ·cases hk
  ·obtain ⟨v,cs,hk,h1,h2⟩:=U1 h hs hk;obtain ⟨el,hu,_,hle⟩:=wP C0;obtain ⟨xa,cap,q1,q2,q3,q4⟩:=h2;subst q1;rw[ep _ _ rfl] at h1;have v8:List UInt8:=v
   have lW:(convert s t (a.eval y)).run P w=.ok (.string ⟨List.toArray v⟩) w:=by
    rw[h1]
    cases xa with
    | none=>
     have:v=[]:=bX (q3 rfl);subst this;exact run_convert_bytes_nil w s el hu (sG hle) _ _ t (oP Dc)
    | some ad=>
     obtain ⟨g1,g2⟩:=q4 _ rfl;refine run_convert_bytes_back w s t el _ cap v hu (sG hle) (oP Dc) λj hj=>?_;obtain ⟨L,l1,l2,l3⟩:=g2 j _ (aB hj);simp only[Ro] at l3;subst l3;have:=(l2 0 _ rfl).1;obtain ⟨b,off,sp⟩:=ad;have rT:=g1 Bys;simp only at rT;subst rT;rw[sO];simp only[Ty.sz,jD,eM] at this;exact wO (this) rfl
   refine qm (v:=.string ⟨List.toArray v⟩) (w':=w) ?_ ⟨cx h hk ⟨[_],rfl,rfl⟩ (λ_ _ _ _ e=>by cases e),Ext.refl _ _⟩;grind [execOp,Sem.run_bind,Result.andThen_ok,Sem.run_pure]
  ·cases hk
 ·split at hk
  ·rename_i b hv;rw[hv] at hs;have e:=CI hs;split at hk
   ·rename_i hSe;rw[hSe] at C0;split at hk;rotate_left
    ·cases hk
    rename_i oc;obtain ⟨el,hu,_,hle⟩:=wP Dc;have lW:=run_bytes_of_string (P:=P) w s t el ⟨List.toArray b⟩ (oP C0) hu (sG hle);have hlen:(⟨List.toArray b⟩:ByteArray).size=List.length b:=rfl;have hge:=grownCap_ge w (List.length b) 0 el;have Q5:=grownCap_le_maxLen w (List.length b) 0 el (by grind [be,maxLen]);rw[hlen] at lW
    have oO:(bytesRow ⟨List.toArray b⟩ (grownCap w (List.length b) 0 el)).size=grownCap w (List.length b) 0 el:=by
     grind [bytesRow]
    refine qm ?_ ⟨JK (h.drew) (K:=K) (d:=o.dst) (e:=.int .u8) (v:=b) (m:=.leaf) (Fi:=λ_ _ _=>0) (cap:=grownCap w (List.length b) 0 el) (el:=el) (fr:=((bytesRow ⟨List.toArray b⟩ (grownCap w (List.length b) 0 el)).size,(bytesRow ⟨List.toArray b⟩ (grownCap w (List.length b) 0 el)).size+1)) (c:=bytesRow ⟨List.toArray b⟩ (grownCap w (List.length b) 0 el)) (.inl ⟨rfl,aG _⟩) hk
     (by grind [Ty.sz]) Q5 hge (λb i=>by grind [oB]) (λi y hy=>?_),(KW w).trans (qn w.drew _) (λ_ _ _ _=>rfl)⟩
    ·simp_all [execOp]
    ·have hi:=(aO.1 hy).1;have hb:=bytesRow_at ⟨List.toArray b⟩ (grownCap w (List.length b) 0 el) i (by simpa using hi);refine ⟨[.int .u8 (UInt8.toNat y)],rfl,λj u hu=>?_,rfl⟩
     grind [Ty.sz]
   ·cases hk
  ·cases hk
 ·cases hk
end
section
variable {P:Program} {C:Ctx} {A:Cells} {X:FP} {σ:St} {a:Act} {w:World} {F:Nat->FP} {R:Type} {x:R} {Q:Exit->Act->World->Prop} {o:Oper} {E:Env}
theorem Rl (h:eo P C A σ a w F) {i j:Nat} (ho:o.op=.extract (.tmp i) j) {K:St->Option R}
  (hk:(match σ.get i with
   | .ug xs=>match xs[j]? with
    | some x=>if x.t=.unit then none else K ((σ.put i (.ug (xs.set j ⟨.unit,.leaf,()⟩))).cq o.dst (laid x.t x.m x.v))
    | none=>none
   | _=>none)=some x):Tk P o a w (Nx P C K x):=by
 split at hk
 ·rename_i xs hg;split at hk
  ·rename_i y hy;split at hk
   ·cases hk
   ·rename_i hnu
    have hi:i < σ.n:=by
     grind [nQ]
    have hs:=h.jz i hi;rw[hg] at hs;obtain ⟨vs,Fi,h1,h2,h3⟩:=hs;obtain ⟨v,h4,h5⟩:=h3 j y hy
    rcases h5 with h5 | ⟨cs,h6,h7⟩
    ·grind
    have hj:=(aO.1 hy).1
    have C7:=h.put hi (s:=.ug (xs.set j ⟨.unit,.leaf,()⟩)) (v:=tmp a i) (Fd:=bh xs.length (il Fi j λ_ _=>0)) (X':=Fi j)
     ⟨vs,il Fi j λ_ _=>0,h1,λb k=>by grind,λk y' J7=>by
      rw[fC] at J7;split at J7
      ·rename_i e;subst e;injection J7 with J7;subst J7;exact ⟨v,h4,.inl rfl⟩
      grind [il]⟩
     (λb k=>by grind [vS]) (λt m H v e=>by cases e)
    rw[tM] at C7;refine jk (v:=v) ?_ ?_
    ·unfold execOp;have e:a.eval (.tmp i)=.tuple vs:=h1;simp_all [Instr.extract]
    grind [C8]
  ·cases hk
 ·cases hk
theorem Rel.agE (h:Rel P C A X σ a w F) {d n:Nat} (hd:∀ R,ej w (tmp a d) (σ.get d)=some R->dj R.t R.cs=C.args.getD n undef):Rel P C A X { σ with az:=(d,n,true)::σ.az } a w F:=by
 have pH:Az σ a w { σ with az:=(d,n,true)::σ.az } a w:=λr p snap hb=>⟨hb,λa_=>⟨a_,λhl pl i9=>⟨pl.H,pl.cs,i9,λ_=>rfl⟩⟩⟩
 refine ⟨h.size,h.defers,λi hi=>dn.oL pH (λ_ _ h=>h) (λ_ _ _ _ h=>h) (λ_ _ h=>h) (λ_ _ _=>⟨λ_ h=>h,rfl⟩) (h.jz i hi),λd r p snap hm=>tL.oL pH (h.gh d r p snap hm),h.ry,h.sr,h.mr,h.nF,h.ext,h.own,h.a0,h.a1,λj k hm=>?_,λr t m H v hg hl=>h.whole r t m H v hg λk hm=>hl k (bA _ hm),λj k hm R hR=>?_,h.zy⟩
 ·rcases aZ.1 hm with e | hm
  ·grind
  ·exact h.qA j k hm
 ·rcases aZ.1 hm with e | hm
  ·injection e with e1 e2;injection e2 with e2 e3;subst e1;subst e2;exact hd R hR
  ·exact h.pp j k hm R hR
theorem Wy {l:List (Nat×Nat×Bool)} {i n:Nat} (h:LW l i=some n):(i,n,true) ∈ l:=by
 induction l <;> grind [LW,Nat.beq_eq]
theorem ada (h:eo P C A σ a w F) {t:Nat} {y:Operand} (ho:o.op=.box t y) (a_:d_ P y=true) {mv:Bool} {K:St->Option R}
  (hk:(so E t λt=>nZ σ (eg σ y) mv t λm v σ'=>K (QS σ y o.dst (σ'.cq o.dst (.box t m [] v))))=some x):o.wp P a w (λa' w'=>Nx P C K x a' w'/\Ext w w' (λ_ _=>0)) Q:=by
 obtain ⟨T,hT,hk⟩:=iy hk
 rcases gk h a_ with hs | ⟨xs,e⟩
 rotate_left
 ·grind [nZ]
 have hk0:=hk;obtain ⟨A',σ',F',m,v,cs,Fv,k1,k2,k3,k4,kr,k5,k6⟩:=wH h hs hk;have hl:=am.length _ k6;have qS:=am.one _ k6;have hcv:(dj T cs).cells=cs.toArray:=by grind [mq]
 obtain ⟨A2,F2,hF⟩:=U8 k3 (K:=λs=>some s) (x:=σ'.cq o.dst (.box T m [] v)) (d:=o.dst) t rfl k6 (λb i=>by omega);refine qm (v:=.pointer (some ⟨w.heap.size,0,none⟩)) (w':=w.alloc (.cells cs.toArray t)) ?_ ?_
 ·simp_all [execOp,Instr.box,newVar,newRow]
 ·refine ⟨⟨_,k1,A2,F2,?_⟩,qn w _⟩
  clear hk;unfold QS;split
  ·rename_i i d hd;split
   ·rename_i t0 m0 H0 v0 hg;split
    ·rename_i n hn;rw[hd] at hF ⊢;refine Rel.agE hF λR hR=>?_;have ny:=h.pp i n (Wy hn) ⟨t0,H0,(tmp a i).cells.toList,none⟩ (by rw[hg];rfl);have mY:tmp a i=dj T cs:=k5
     have Hz:t0=T:=by
      simp only[eg,hg] at hk0;grind [nZ,rS,zp,qd,dh]
     subst Hz;simp only[mY,mq hl qS] at ny;simp only[St.cq,AA] at hR;split at hR
     ·rename_i hc
      have htd:tmp (a.put (some d) (.pointer (some ⟨w.heap.size,0,none⟩))) d=.pointer (some ⟨w.heap.size,0,none⟩):=by
       rw[ql,aH ⟨rfl,by rw[h.size,<- k4];exact hc.2⟩]
      rw[htd] at hR;simp only[ej,aQ] at hR;subst hR;have hh:=Bq w cs.toArray t (0,0) (k:=0) (L:=cs) (λj u hu=>by simpa using hu) qS;grind [f_]
     ·rename_i hc
      have hge:σ'.n<=d:=by
       grind
      rw[nQ (fT.2 hge)] at hR;cases hR
    ·exact hF
   ·exact hF
  ·exact hF
end
section
variable {P:Program} {C:Ctx} {A:Cells} {X:FP} {σ:St} {a:Act} {w:World} {F:Nat->FP} {R:Type} {x:R} {Q:Exit->Act->World->Prop} {o:Oper} {E:Env}
theorem Rel.giveUp (h:Rel P C A X σ a w F) {A1:Cells} {X1:FP} (hA:∀ b i,A b i->A1 b i) (Ia:∀ b i,A1 b i->A b i\/(1<=X b i/\X1 b i=0)) (hX:∀ b i,X1 b i<=X b i):Rel P C A1 X1 σ a w F:=by
 have pH:Az σ a w σ a w:=λr p snap hb=>⟨hb,λa_=>⟨a_,λhl pl i9=>⟨pl.H,pl.cs,i9,λ_=>rfl⟩⟩⟩
 refine ⟨h.size,h.defers,λi hi=>dn.oL pH hA (λ_ _ _ _ h=>h) (λ_ _ h=>h) (λ_ _ _=>⟨λ_ h=>h,rfl⟩) (h.jz i hi),h.gh,λb i=>by have:=h.ry b i;grind,
  λb i hp ha=>?_,λb i hp=>?_,h.nF,h.ext,λb i hp=>h.own b i (by grind),λb i ha=>hA b i (h.a0 b i ha),λb i ha=>?_,h.qA,h.whole,h.pp,h.zy⟩
 ·rcases Ia b i ha with ha | ha
  ·exact h.sr b i (by grind) ha
  ·have:=h.ry b i;omega
 ·rcases hp with hp | ha
  ·exact h.mr b i (.inl (by grind))
  ·rcases Ia b i ha with ha | ha
   ·exact h.mr b i (.inr ha)
   ·exact h.mr b i (.inl Bys)
 ·rcases Ia b i ha with ha | ha
  ·exact h.a1 b i ha
  ·exact .inr (h.own b i Bys)
theorem YT {off:Nat} {l cs:List Value} (h:off+l.length<=cs.length) :
  ((l.toArray.zipIdx).foldl (λcs (x:Value×Nat)=>cs.setIfInBounds (off+x.2) x.1) cs.toArray)=(cs.take off++l++cs.drop (off+l.length)).toArray:=by
 obtain ⟨h1,h2⟩:=Great.foldl_set off l 0 cs.toArray;have e:(l.toArray.zipIdx).foldl (λcs (x:Value×Nat)=>cs.setIfInBounds (off+x.2) x.1) cs.toArray=(l.zipIdx 0).foldl (λcs (x:Value×Nat)=>cs.setIfInBounds (off+x.2) x.1) cs.toArray:=by simp
 rw[e];apply Array.ext_getElem?;grind
theorem D5 {pl:Nat->Option (Nat×Nat)} {j off sz:Nat} (hp:pl j=some (off,sz)) {t:Ty} {l cs:List Value} (hl:l.length=sz) (h1:(dj t l).cells.toList=l) (h:off+sz<=cs.length) (rest:List (Nat×Value)) :
  Instr.fill pl cs.toArray ((j,dj t l)::rest)=Instr.fill pl (cs.take off++l++cs.drop (off+sz)).toArray rest:=by
 have hc:(dj t l).cells=l.toArray:=Array.ext' (by simpa using h1);grind [Instr.fill,YT]
theorem YU:∀ (n:Nat) (t:Ty) {t':Ty} {m m':Md} {v:t.den} {y:t'.den} {cs ys:List Value} {G H:FP} {K:Md->t.den->Option R},am P w A t m [] v cs G->am P w A t' m' [] y ys H ->
  HP n t m v t' m' y K=some x->∃ m2 v2,K m2 v2=some x/\am P w A t m2 [] v2 (cs.take (lQ n t)++ys++cs.drop (lQ n t+t'.sz)) (λb i=>G b i+H b i)/\lQ n t+t'.sz<=cs.length:=by
 intro n
 induction n with
 | zero=>
  intro t t' m m' v y cs ys G H K hr hy hk
  cases t with
  | pair a b=>
   simp only[HP] at hk;obtain ⟨e,hk⟩:=dh hk;subst e;have hl:=am.length _ hr;have hly:=am.length _ hy;obtain ⟨h0,F1,F2,hs,h1,h2⟩:=hr;refine ⟨_,_,hk,⟨rfl,H,F2,λb i=>by grind,?_,?_⟩,?_⟩
   all_goals simp_all [lQ,Md.l,Md.r,Ty.sz]
  | _=>cases hk
 | succ n ih=>
  intro t t' m m' v y cs ys G H K hr hy hk
  cases t with
  | pair a b=>
   simp only[HP] at hk;have hl:=am.length _ hr;obtain ⟨h0,F1,F2,hs,h1,h2⟩:=hr;obtain ⟨m2,v2,k1,k2,k3⟩:=ih b h2 hy hk;simp only[cC] at k3;simp only[Ty.sz] at hl;refine ⟨_,_,k1,⟨rfl,F1,λb i=>F2 b i+H b i,λb i=>by grind,?_,?_⟩,?_⟩
   ·simp only[lQ,eK,Md.l]
    have:(cs.take (a.sz+lQ n b)++ys++cs.drop (a.sz+lQ n b+t'.sz)).take a.sz=cs.take a.sz:=by
     simp_all [gM,fF]
    rw[this];exact h1
   ·simp only[lQ,eK,Md.r]
    have:(cs.take (a.sz+lQ n b)++ys++cs.drop (a.sz+lQ n b+t'.sz)).drop a.sz=(cs.drop a.sz).take (lQ n b)++ys++(cs.drop a.sz).drop (lQ n b+t'.sz):=by
     rw[bV,gN (by simp;omega),fE,dF,bV];rw[show a.sz+lQ n b - a.sz=lQ n b by omega,show a.sz+(lQ n b+t'.sz)=a.sz+lQ n b+t'.sz by omega]
    grind
   ·simp only[lQ];omega
  | _=>cases hk
theorem Rm {α β:Type} (g:α->Option β):∀ (l:List α) (ps:List β),l.mapM g=some ps->∀ (j:Nat) (f:α),l[j]?=some f->ps[j]?=g f
 | [],ps,h,j,f,hf=>by cases hf
 | y::l,ps,h,j,f,hf=>by
  simp only[List.mapM_cons,Option.bind_eq_bind,Option.pure_def] at h
  cases hy:g y with
  | none=>simp[hy] at h
  | some z=>
   cases hr:l.mapM g with
   | none=>grind
   | some r=>
    simp only[hy,hr,aA,aQ] at h;subst h
    cases j with
    | zero=>grind
    | succ j=>exact Rm g l r hr j f hf
theorem Wz:∀ (t:Ty) {fs:List Field} {off:Nat},bn P t (.inr (fs,off))=true->∃ ps,fs.mapM (λf=>(P.info? f.type).map λi=>(f.offset,i.size))=some ps:=by
 intro t
 induction t with
 | unit=>
  simp_all [bn]
 | pair a b nY nH=>
  intro fs off h
  cases fs with
  | nil=>simp_all
  | cons f r=>
   simp only[bn,aC] at h;obtain ⟨ps,zH⟩:=nH h.2;obtain ⟨inf,hi,_⟩:=mI (nI h.1.2);grind
 | _=>grind [bn]
theorem Qb {T:Ty} {i:TypeId} (hl:bn P T (.inl i)=true) {j:Nat} {t':Ty} (hj:wZ j T=some t') :
  ∃ fs ps,P.underlying i=some (.struct fs)/\fs.toList.mapM (λf=>(P.info? f.type).map λi=>(f.offset,i.size))=some ps/\∀ j t',wZ j T=some t'->ps.toArray[j]?=some (lQ j T,t'.sz):=by
 cases T with
 | pair a b=>
  have hl0:=hl;simp only[bn,aC] at hl;have h2:=hl.2;split at h2
  ·rename_i fs hu;split at h2
   ·rename_i f r Mj
    have h3:bn P (.pair a b) (.inr (f::r,0))=true:=by
     grind [bn]
    obtain ⟨ps,zH⟩:=Wz _ h3;refine ⟨fs,ps,hu,by grind,λj t' hj=>?_⟩
    obtain ⟨f',q1,q2,q3,q4⟩:=U4 j (.pair a b) h3 hj;have:=Rm _ _ _ zH j f' q1;obtain ⟨inf,hi,hs,_⟩:=mI (nI q3);grind
   ·cases h2
  ·cases h2
 | _=>cases j <;> cases hj
theorem YV {T:Ty} {fz:Nat->Bool} {pl:Nat->Option (Nat×Nat)} (i9:∀ j t',wZ j T=some t'->pl j=some (lQ j T,t'.sz)) {K:Md->T.den->St->Option R} :
  ∀ (ps:List (Nat×Operand)) {n:Nat} {σ:St} {A:Cells} {X:FP} {F:Nat->FP} {m:Md} {v:T.den} {cs:List Value},ps.all (λp=>d_ P p.2)=true->Rel P C A X σ a w F->am P w A T m [] v cs X ->
   HQ E σ T fz ps n m v K=some x->∃ A' σ' F' m' v' cn X',K m' v' σ'=some x/\Rel P C A' X' σ' a w F'/\am P w A' T m' [] v' cn X'/\Instr.fill pl cs.toArray (ps.map λp=>(p.1,a.eval p.2))=some cn.toArray:=by
 intro ps
 induction ps with
 | nil=>intro n σ A X F m v cs a_ h hr hk;exact ⟨A,σ,F,m,v,cs,X,hk,h,hr,rfl⟩
 | cons p ps ih=>
  intro n σ A X F m v cs a_ h hr hk;obtain ⟨j,y⟩:=p;simp only[eO,aC] at a_;simp only[HQ] at hk;split at hk
  ·rename_i t' D3
   rcases gk h a_.1 with hs | ⟨xs,e⟩
   rotate_left
   ·grind [nZ]
   obtain ⟨A1,qH,F1,m1,v1,sH,Fv,k1,k2,k3,k4,kr,k5,k6⟩:=wH h hs hk;have xl:=am.mono (P:=P) (A':=A1) k2 (λ_ _ _ _ h=>h) (λ_ _ h=>h) T hr (λ_ _=>aG _) (λ_ _ _ _ h=>h);obtain ⟨m2,v2,q1,q2,q3⟩:=YU j T xl k6 k1;obtain ⟨A',σ',F',m',v',cn,X',g1,g2,g3,g4⟩:=ih a_.2 k3 q2 q1;refine ⟨A',σ',F',m',v',cn,X',g1,g2,g3,?_⟩
   rw[dW,k5,D5 (i9 j t' D3) (am.length _ k6) (mq (am.length _ k6) (am.one _ k6)) q3];exact g4
  ·cases hk
theorem adb {n j:Nat} {e:Ty} {v:List e.den} {y:e.den} {cs ys:List Value} (h:Ro P w A (.arr n e) v cs) (hy:Ro P w A e y ys) (hj:j < v.length) :
  Ro P w A (.arr n e) (v.set j y) (cs.take (j*e.sz)++ys++cs.drop (j*e.sz+e.sz))/\j*e.sz+e.sz<=cs.length:=by
 obtain ⟨h1,h2,h3,h4⟩:=h;have hly:=Ro.length _ hy
 have hle:j*e.sz+e.sz<=cs.length:=by
  rw[h3,<- eP];exact bD _ Bys
 refine ⟨⟨h1,by simpa using h2,by grind,λi z hz=>?_⟩,hle⟩
 rw[fC] at hz;split at hz
 ·grind
 ·rename_i i7;have h5:=h4 i z hz
  have:((cs.take (j*e.sz)++ys++cs.drop (j*e.sz+e.sz)).drop (i*e.sz)).take e.sz=(cs.drop (i*e.sz)).take e.sz:=by
   rcases cR i j with sb | sb
   ·have h6:i*e.sz+e.sz<=j*e.sz:=by rw[<-eP];exact bD _ Bys
    grind [List.drop_take]
   ·have h6:j*e.sz+e.sz<=i*e.sz:=by rw[<-eP];exact bD _ Bys
    have h7:(cs.take (j*e.sz)++ys).length=j*e.sz+e.sz:=by grind
    rw[List.drop_append,h7,fI Bys,cJ,dF];congr 2;omega
  grind
theorem adc {n0:Nat} {e:Ty} {fz:Nat->Bool} (hf:e.flat=true) {K:List e.den->St->Option R} :
  ∀ (ps:List (Nat×Operand)) {n:Nat} {σ:St} {A:Cells} {F:Nat->FP} {v:List e.den} {cs:List Value},ps.all (λp=>d_ P p.2)=true->eo P C A σ a w F->Ro P w A (.arr n0 e) v cs ->
   QO σ e fz ps n v K=some x->∃ A' σ' F' v' cn,K v' σ'=some x/\eo P C A' σ' a w F'/\Ro P w A' (.arr n0 e) v' cn/\Instr.fill (λi=>some (i*e.sz,e.sz)) cs.toArray (ps.map λp=>(p.1,a.eval p.2))=some cn.toArray:=by
 intro ps
 induction ps with
 | nil=>intro n σ A F v cs a_ h hr hk;exact ⟨A,σ,F,v,cs,hk,h,hr,rfl⟩
 | cons p ps ih=>
  intro n σ A F v cs a_ h hr hk;obtain ⟨j,y⟩:=p;simp only[eO,aC] at a_;simp only[QO] at hk
  rcases gk h a_.1 with hs | ⟨xs,e⟩
  rotate_left
  ·grind [nZ]
  obtain ⟨A1,qH,F1,m1,v1,sH,Fv,k1,k2,k3,k4,kr,k5,k6⟩:=wH h hs hk;split at k1
  ·rename_i hj;have xl:Ro P w A1 (.arr n0 e) v cs:=Ro.mono (λ_ _ _ _ h=>h) k2 _ hr;obtain ⟨q1,q2⟩:=adb xl (am.flat _ hf k6) hj;obtain ⟨A',σ',F',v',cn,g1,g2,g3,g4⟩:=ih a_.2 (k3.less (X':=λ_ _=>0) λ_ _=>aX _) q1 k1;refine ⟨A',σ',F',v',cn,g1,g2,g3,?_⟩
   rw[dW,k5,D5 (pl:=λi=>some (i*e.sz,e.sz)) rfl (am.length _ k6) (mq (am.length _ k6) (am.one _ k6)) q2];exact g4
  ·cases k1
theorem WA (h:eo P C A σ a w F) (mY:∀ i T,E.TI i=some T->bn P T (.inl i)=true) {t:Nat} {ps:Array (Nat×Operand)} {fz:Nat->Bool} (ho:o.op=.build t ps) (a_:ps.toList.all (λp=>d_ P p.2)=true) {K:St->Option R}
  (hk:(so E t λt=>match t with
  | .arr n e=>if e.yf then QO σ e fz ps.toList 0 (Ty.arr n e).zero λv σ=>K (σ.cq o.dst (laid (.arr n e) (ai (.arr n e)) v)) else none
  | .pair t1 t2=>if (Ty.pair t1 t2).yf then HQ E σ (.pair t1 t2) fz ps.toList 0 (ai (.pair t1 t2)) (Ty.pair t1 t2).zero λm v σ=>K (σ.cq o.dst (laid (.pair t1 t2) m v)) else none
  | _=>none)=some x):Tk P o a w (Nx P C K x):=by
 obtain ⟨T,hT,hk⟩:=iy hk;have kt:=mY _ _ hT
 have run:∀ (cells:Array Value),P.built t (ps.map λ(i,x)=>(i,a.eval x)).toList=some cells->∀ w',vV o w w'->(execOp a.eval o).run P w'=.ok (.value (.agg cells)) w':=λcells hc w' _=>by
  simp_all [execOp,run_build]
 have zH:(ps.map λ(i,x)=>(i,a.eval x)).toList=ps.toList.map λp=>(p.1,a.eval p.2):=by simp
 rw[zH] at run;split at hk
 ·rename_i n e;split at hk
  ·rename_i hz
   have Ge:e.flat=true:=by
    grind [bn]
   obtain ⟨L,hL⟩:=vW (.arr n e) (by simpa [Ty.yf] using hz);obtain ⟨r1,r2,r3⟩:=Co (P:=P) (w:=w) (A:=A) _ hL kt;obtain ⟨inf,i1,i2,i3,i4⟩:=mI (nI kt);obtain ⟨z,z1,z2⟩:=i4 L hL;obtain ⟨A',σ',F',v',cn,g1,g2,g3,g4⟩:=adc Ge ps.toList a_ h r2 hk
   have hu:∃ el ie,P.underlying t=some (.array n el)/\P.info? el=some ie/\ie.size=e.sz:=by
    have hl:=kt;simp only[bn,aC] at hl;have h2:=hl.2;split at h2
    ·rename_i n' el hu;simp only[aC,eW] at h2;obtain ⟨ie,j1,j2,_⟩:=mI (nI h2.2);grind
    ·cases h2
   obtain ⟨el,ie,u1,u2,u3⟩:=hu;have hz':z.cells=L.toArray:=Array.ext' (by simpa using z2);have e1:dj (.arr n e) cn=.agg cn.toArray:=rfl;refine jk (v:=dj (.arr n e) cn) (run _ ?_) ?_
   ·grind [Program.built]
   ·exact C8 g2 g1 (Ro.flat _ (λ_ _=>0) (by grind [Ty.flat]) g3) (λ_ _=>aG _)
  ·cases hk
 ·rename_i t1 t2;split at hk
  ·rename_i hz;obtain ⟨L,hL⟩:=vW (.pair t1 t2) hz;obtain ⟨r1,r2,r3⟩:=Co (P:=P) (w:=w) (A:=A) _ hL kt;obtain ⟨inf,i1,i2,i3,i4⟩:=mI (nI kt);obtain ⟨z,z1,z2⟩:=i4 L hL;have hz':z.cells=L.toArray:=Array.ext' (by simpa using z2);obtain ⟨fs,pls,u1,u2,u3⟩:=Qb kt (j:=0) rfl;obtain ⟨A',σ',F',m',v',cn,X',g1,g2,g3,g4⟩:=YV (pl:=λj=>pls.toArray[j]?) u3 ps.toList a_ h r1 hk;refine jk (v:=dj (.pair t1 t2) cn) (run _ ?_) (C8 g2 g1 g3 (λ_ _=>aG _));grind [Program.built]
  ·cases hk
 ·cases hk
theorem ade {e:Ty} {fz:Nat->Bool} (oO:1<=e.sz) {K:Md->List e.den->St->Option R} :
  ∀ (ps:List (Nat×Operand)) {n:Nat} {σ:St} {A:Cells} {X:FP} {F:Nat->FP} {m:Md} {v:List e.den} {L Z:List Value} {Fi:Nat->FP},ps.all (λp=>d_ P p.2)=true->Rel P C A X σ a w F ->
   List.length v=n->L.length=n*e.sz->Z.length=ps.length*e.sz->(∀ b i,bh n Fi b i<=X b i)->(∀ (i:Nat) (y:e.den),v[i]?=some y->am P w A e m [] y ((L.drop (i*e.sz)).take e.sz) (Fi i)) ->
   HR σ e fz ps n m v K=some x->∃ (A':Cells) (σ':St) (F':Nat->FP) (m':Md) (v':List e.den) (L':List Value) (X':FP) (Mq:Nat->FP),K m' v' σ'=some x/\Rel P C A' X' σ' a w F'/\List.length v'=n+ps.length/\L'.length=(n+ps.length)*e.sz/\(∀ b i,bh (n+ps.length) Mq b i<=X' b i) /\
    (∀ (i:Nat) (y:e.den),v'[i]?=some y->am P w A' e m' [] y ((L'.drop (i*e.sz)).take e.sz) (Mq i))/\Instr.fill (λi=>some (i*e.sz,e.sz)) (L++Z).toArray (ps.map λp=>(p.1,a.eval p.2))=some L'.toArray:=by
 intro ps
 induction ps with
 | nil=>
  intro n σ A X F m v L Z Fi a_ h hv hL hZ hX hr hk;have:Z=[]:=by simpa using hZ
  subst this;exact ⟨A,σ,F,m,v,L,X,Fi,hk,h,hv,hL,hX,hr,by simp[Instr.fill]⟩
 | cons p ps ih=>
  intro n σ A X F m v L Z Fi a_ h hv hL hZ hX hr hk;obtain ⟨j,y⟩:=p;simp only[eO,aC] at a_;simp only[HR] at hk;split at hk
  ·rename_i hj;have hj:j=n:=by simpa using hj
   subst hj
   rcases gk h a_.1 with hs | ⟨xs,e⟩
   rotate_left
   ·grind [nZ]
   obtain ⟨A1,qH,F1,m1,v1,sH,Fv,k1,k2,k3,k4,kr,k5,k6⟩:=wH h hs hk;have zd:=am.length _ k6;have hZ1:Z.length=e.sz+ps.length*e.sz:=by grind
   have hgo:∀ {A2:Cells} {X2:FP} {m2:Md} {Rn:Nat->FP},Rel P C A2 X2 qH a w F1->(∀ b i,bh (j+1) Rn b i<=X2 b i)->(∀ (i:Nat) (y:e.den),v[i]?=some y->am P w A2 e m2 [] y ((L.drop (i*e.sz)).take e.sz) (Rn i)) ->
     am P w A2 e m2 [] v1 sH (Rn j)->HR qH e fz ps (j+1) m2 (v++[v1]) K=some x ->
     ∃ (A':Cells) (σ':St) (F':Nat->FP) (m':Md) (v':List e.den) (L':List Value) (X':FP) (Mq:Nat->FP),K m' v' σ'=some x/\Rel P C A' X' σ' a w F'/\List.length v'=j+(ps.length+1)/\L'.length=(j+(ps.length+1))*e.sz/\(∀ b i,bh (j+(ps.length+1)) Mq b i<=X' b i) /\
      (∀ (i:Nat) (y:e.den),v'[i]?=some y->am P w A' e m' [] y ((L'.drop (i*e.sz)).take e.sz) (Mq i))/\Instr.fill (λi=>some (i*e.sz,e.sz)) (L++Z).toArray ((j,a.eval y)::ps.map λp=>(p.1,a.eval p.2))=some L'.toArray:=by
    intro A2 X2 m2 Rn h2 hX2 vd Ig oC
    obtain ⟨A',σ',F',m',v',L',X',Mq,g1,g2,g3,g4,g5,g6,g7⟩:=ih (L:=L++sH) (Z:=Z.drop e.sz) (Fi:=Rn) a_.2 h2 (by simp[hv]) (by grind) (by simp[hZ1]) hX2 (λi z hz=>by
     by_cases hi:i=j
     ·grind
     ·have bc:i < j:=by
       grind
      rw[cT Bys] at hz;have h6:i*e.sz+e.sz<=j*e.sz:=by rw[<-eP];exact bD _ Bys
      grind) oC
    refine ⟨A',σ',F',m',v',L',X',Mq,g1,g2,by omega,by grind,λb i=>by grind,g6,?_⟩
    rw[k5,D5 (pl:=λi=>some (i*e.sz,e.sz)) rfl zd (mq zd (am.one _ k6)) (by simp[hL,hZ1])];grind [List.drop_append,List.drop_of_length_le,Nat.add_sub_cancel_left]
   have xl:∀ (i:Nat) (y:e.den),v[i]?=some y->am P w A1 e m [] y ((L.drop (i*e.sz)).take e.sz) (Fi i):=λi y hy=>am.mono (P:=P) (A':=A1) k2 (λ_ _ _ _ h=>h) (λ_ _ h=>h) e (hr i y hy) (λ_ _=>aG _) (λ_ _ _ _ h=>h);split at k1
   ·rename_i hm;subst hm;refine hgo (Rn:=il Fi j Fv) k3 (λb i=>?_) (λi y hy=>?_) (by grind [il]) k1
    ·have h1:=xi j 1 (il Fi j Fv) b i;have h2:bh j (il Fi j Fv) b i=bh j Fi b i:=by rw[QX Fi (aG j)]
     have h3:bh 1 (λk=>il Fi j Fv (j+k)) b i=Fv b i:=by simp[bh,il]
     grind
    grind [il]
   ·
    have yh:∃ A2:Cells,(∀ b i,A1 b i->A2 b i)/\Rel P C A2 (λ_ _=>0) qH a w F1/\Ro P w A2 e v1 sH/\∀ (i:Nat) (y:e.den),v[i]?=some y->Ro P w A2 e y ((L.drop (i*e.sz)).take e.sz):=by
     refine ⟨λb i=>A1 b i\/1<=X b i+Fv b i,λ_ _ h=>.inl h,k3.giveUp (λ_ _ h=>.inl h) (λb i ha=>ha.imp id λhp=>⟨hp,rfl⟩) (λ_ _=>aX _),am.zu (λ_ _ h=>.inl h) e k6 (λb i hp=>.inr Bys),λi y hy=>?_⟩
     grind [am.zu,dw]
    obtain ⟨A2,a1,a2,a3,a4⟩:=yh;exact hgo (Rn:=λ_ _ _=>0) a2 (λb i=>by grind [oB]) (λi y hy=>Ro.rep _ _ (jh _) (a4 i y hy)) (Ro.rep _ _ (jh _) a3) k1
  ·cases hk
theorem N1 (h:eo P C A σ a w F) (mY:∀ i T,E.TI i=some T->bn P T (.inl i)=true) {t n:Nat} {ps:Array (Nat×Operand)} {fz:Nat->Bool} (ho:o.op=.buildSlice t n ps) (a_:ps.toList.all (λp=>d_ P p.2)=true) {K:St->Option R}
  (hk:(so E t λt=>match t with
  | .aa e=>if Nat.beq n ps.size&&e.yf&&Nat.ble (n*e.sz) 16777216 then HR σ e fz ps.toList 0 (ai e) [] λm v σ=>K (σ.cq o.dst (.own (.aa e) (.aa true m) [] v)) else none
  | _=>none)=some x):o.wp P a w (λa' w'=>Nx P C K x a' w'/\Ext w w' (λ_ _=>0)) Q:=by
 obtain ⟨T,hT,hk⟩:=iy hk;have kt:=mY _ _ hT;split at hk
 ·rename_i e;split at hk
  ·rename_i hc;simp only[aC,eW,dK] at hc;obtain ⟨⟨hn,hz⟩,oc⟩:=hc;have hl:=kt;simp only[bn,aC] at hl;have h2:=hl.2;split at h2
   ·rename_i el hu;simp only[aC,dK] at h2;obtain ⟨oO,uj⟩:=h2;obtain ⟨Lz,YW⟩:=vW e hz;obtain ⟨r1,r2,r3⟩:=Co (P:=P) (w:=w) (A:=A) _ YW uj;obtain ⟨inf,i1,i2,i3,i4⟩:=mI (nI uj);obtain ⟨z,z1,z2⟩:=i4 Lz YW;have hzl:z.cells.size=e.sz:=by grind
    obtain ⟨A',σ',F',m',v',L',X',Mq,g1,g2,g3,g4,g5,g6,g7⟩:=ade (P:=P) oO ps.toList (n:=0) (L:=[]) (Z:=((Array.range (n*e.sz)).map (z.cells[· % z.cells.size]!)).toList) (Fi:=λ_ _ _=>0) (m:=ai e) a_ h rfl (by simp) (by simp[hn]) (λb i=>by grind [oB]) (λi y hy=>by cases hy) hk;simp only[cJ,Array.toArray_toList] at g7;simp only[bS] at g3 g4 g5;have vA:ps.toList.length=n:=by simpa using hn.symm
    rw[vA] at g3 g4 g5
    have lW:(execOp a.eval o).run P w=.ok (.value (.slice (some ⟨w.heap.size,0,none⟩) n n)) (w.alloc (.cells L'.toArray el)):=by
     by_cases HA:n*e.sz=0
     ·have:n=0:=by rcases Nat.mul_eq_zero.1 HA with h | h <;> omega
      subst this;have zH:ps=#[]:=by grind
      subst zH;have UT:L'=[]:=by simpa using g4
      subst UT;simp[execOp,ho,Instr.buildSlice,run_underlying hu,Go.sizeOf,typeInfo,i1,Instr.fill,newRow,show Array.range 0=#[] from rfl]
     simp_all [run_buildSlice,execOp]
    refine qm (w':=w.alloc (.cells L'.toArray el)) lW ?_
    have qT:=JK g2 (K:=K) (x:=x) (d:=o.dst) (e:=e) (m:=m') (v:=v') (c:=L'.toArray) (cap:=n) (el:=el) (fr:=(0,0)) (Fi:=Mq) (.inr (aG _)) g1 (by simp[g4]) (by simp only[maxLen];have:=Nat.le_mul_of_pos_right n oO;omega) Bys
     (λb i=>by grind) (λi y hy=>⟨(L'.drop (i*e.sz)).take e.sz,am.length _ (g6 i y hy),(λj u hu=>by
      grind),g6 i y hy⟩)
    grind [qn]
   ·cases h2
  ·cases hk
 ·cases hk
end
section
variable {P:Program} {C:Ctx} {A:Cells} {X:FP} {σ:St} {a:Act} {w:World} {F:Nat->FP} {R:Type} {x:R} {Q:Exit->Act->World->Prop} {o:Oper} {E:Env}
theorem Rel.world (h:Rel P C A X σ a w F) {w1:World} {G:FP} (hw:Ext w w1 G) (hG:∀ b i,1<=G b i->1<=X b i):Rel P C A X σ a w1 F:=by
 have vu:∀ b i,A b i->∀ u,ce w b i=some u->ce w1 b i=some u:=λb i ha u hu=>by
  refine hw.cell b i (h.mr b i (.inr ha)) ?_ u hu;rcases bK (G b i) with h0 | h0
  ·exact h0
  ·exact absurd ha (h.sr b i (by grind))
 have H_:∀ j,j < σ.n->∀ b i,1<=F j b i->(∀ u,ce w b i=some u->ce w1 b i=some u)/\w1.frozen? ⟨b,i,none⟩=w.frozen? ⟨b,i,none⟩:=λj hj b i hp=>by
  have hs:=dw F hj b i;have hb:=h.mr b i (.inl Bys);refine ⟨λu hu=>hw.cell b i hb ?_ u hu,hw.BU b i hb⟩
  rcases bK (G b i) with h0 | h0
  ·exact h0
  ·have:=hG b i h0;have:=h.ry b i;omega
 have pH:Az σ a w σ a w1:=λr p snap hb=>⟨hb,λa_=>⟨a_,λhl pl i9=>⟨pl.H,pl.cs,by
  have bc:=vU i9
  exact yt (h.jz r bc) rfl rfl vu (λb i hp=>(H_ r bc b i hp).1) i9,λ_=>rfl⟩⟩⟩
 refine ⟨h.size,h.defers,λi hi=>dn.oL pH (λ_ _ h=>h) vu hw.y0 (H_ i hi) (h.jz i hi),λd r p snap hm=>tL.oL pH (h.gh d r p snap hm),h.ry,h.sr,λb i hp=>dA (h.mr b i hp) hw.size,
  h.nF,h.ext.trans hw (λb i hb hz=>?_),h.own,h.a0,h.a1,h.qA,λr t m H v hg hl=>?_,λj k hm R' rz=>?_,h.zy⟩
 ·rcases bK (G b i) with h0 | h0
  ·exact h0
  ·rcases h.own b i (by grind) with h1 | h1 <;> omega
 ·obtain ⟨b,h1,h2⟩:=h.whole r t m H v hg hl;exact ⟨b,h1,hw.y0 _ _ h2⟩
 ·rcases cR j σ.n with hj | hj
  ·have oH:=h.jz j hj
   cases Ce:ej w (tmp a j) (σ.get j) with
   | none=>exfalso;cases hg:σ.get j <;> rw[hg] at Ce rz <;> simp only[ej] at Ce rz <;> first | grind | grind | grind
   | some R0=>
    rw[zB oH (λb i hp=>(H_ j hj b i hp).1) Ce] at rz;injection rz with rz;subst rz;exact h.pp j k hm _ Ce
  ·rw[nQ (fT.2 hj)] at rz;cases rz
theorem Mr {b o sz:Nat} {n:Nat} (h:∀ i,i < n->∃ L:List Value,L.length=sz/\Has w b (o+i*sz) L):Has w b o (rd w b o (n*sz))/\∀ i L,i < n->L.length=sz->Has w b (o+i*sz) L->((rd w b o (n*sz)).drop (i*sz)).take sz=L:=by
 have JL:∀ j,j < n*sz->(ce w b (o+j)).isSome=true:=λj hj=>by
  have oO:0 < sz:=by grind
  have hi:j / sz < n:=Nat.div_lt_of_lt_mul (by grind);obtain ⟨L,h1,h2⟩:=h _ hi;have hm:j % sz < L.length:=by simp_all [jH]
  have:=h2 (j % sz) _ (aB hm);grind [Nat.div_add_mod]
 refine ⟨λj u hu=>?_,λi L hi hl hL=>?_⟩
 ·have hj:=(aO.1 hu).1;rw[Bo] at hj;unfold rd at hu;rw[fB,gR hj] at hu;simp only[bR,aQ] at hu;obtain ⟨u',hu'⟩:=eN.1 (JL j hj);grind
 ·have h6:i*sz+sz<=n*sz:=by rw[<-eP];exact bD _ Bys
  apply eC;intro j;rw[cG,bP];by_cases hj:j < sz
  ·rw[aH hj];unfold rd;rw[fB,gR Bys];have:=hL j L[j] (aB Bys);grind
  grind
theorem Ms {e:Ty} {m:Md} {H:List Path} (hH:hole H=false) {v:List e.den} {cs:List Value} {Fv:FP} (hr:am P w A (.aa e) m H v cs Fv) :
  ∃ xa cap news Fi,cs=[.slice xa (List.length v) cap]/\(List.length v<=cap/\(xa=none->List.length v=0))/\(∀ ad,xa=some ad->(0 < cap->ad.spot=none)/\Has w ad.block ad.off news)/\news.length=List.length v*e.sz/\(∀ u ∈ news,u.oneCell'=true) /\
   (∀ (i:Nat) (y:e.den),v[i]?=some y->am P w A e m.e (H.filterMap (mp i)) y ((news.drop (i*e.sz)).take e.sz) (Fi i))/\(∀ b i,bh (List.length v) Fi b i<=Fv b i) /\
   (m.own=true->List.length v<=cap/\cap<=maxLen/\(xa=none->cap=0)/\∀ ad,xa=some ad->ad.off=0/\ad.spot=none/\jR w ad.block (cap*e.sz,KO e)/\∀ b i,d8 ad.block 0 (cap*e.sz) b i+bh (List.length v) Fi b i<=Fv b i):=by
 have qS:∀ (news:List Value) (Fi:Nat->FP),news.length=List.length v*e.sz->(∀ (i:Nat) (y:e.den),v[i]?=some y->am P w A e m.e (H.filterMap (mp i)) y ((news.drop (i*e.sz)).take e.sz) (Fi i))->∀ u ∈ news,u.oneCell'=true:=by
  intro news Fi hl uj u hu;obtain ⟨j,hj,rfl⟩:=dD.1 hu;have oO:0 < e.sz:=by grind
  have hi:j / e.sz < List.length v:=Nat.div_lt_of_lt_mul (by grind);have h1:=am.one _ (uj _ _ (aB hi));refine h1 _ (bT (i:=j % e.sz) ?_);grind [Nat.mod_lt,Nat.div_add_mod]
 simp only[am,hH,aF,aU] at hr;split at hr
 ·rename_i jS;obtain ⟨xa,cap,rfl,h1,h2,h3,h4⟩:=hr
  cases xa with
  | none=>
   have oc:=h3 rfl;have hv0:List.length v=0:=by omega
   have hv:v=[]:=bX hv0;subst hv;exact ⟨none,cap,[],λ_ _ _=>0,rfl,⟨aX _,λ_=>rfl⟩,(λad e=>by cases e),by simp,(λu hu=>by cases hu),(λi y hy=>by cases hy),λb i=>by grind [oB],λ_=>⟨h1,h2,h3,λad e=>by cases e⟩⟩
  | some ad=>
   obtain ⟨g1,g2,g3,Fi,g4,g5⟩:=h4 ad rfl
   have hp:∀ i,i < List.length v->∃ L:List Value,L.length=e.sz/\Has w ad.block (0+i*e.sz) L:=λi hi=>by
    obtain ⟨L,l1,l2,_⟩:=g5 i _ (aB hi);grind
   obtain ⟨p1,p2⟩:=Mr hp
   have uj:∀ (i:Nat) (y:e.den),v[i]?=some y->am P w A e m.e (H.filterMap (mp i)) y (((rd w ad.block 0 (List.length v*e.sz)).drop (i*e.sz)).take e.sz) (Fi i):=λi y hy=>by
    grind
   refine ⟨some ad,cap,rd w ad.block 0 (List.length v*e.sz),Fi,rfl,⟨h1,(λe=>by cases e)⟩,λdp e=>?_,Bo _ _ _ _,qS _ _ (Bo _ _ _ _) uj,uj,λb i=>by grind,λ_=>⟨h1,h2,h3,λdp e=>?_⟩⟩
   all_goals grind
 ·rename_i jS;obtain ⟨rfl,sa,xa,cap,rfl,h1,h2,h3⟩:=hr
  cases xa with
  | none=>
   have hv:v=[]:=bX (h2 rfl);subst hv;exact ⟨none,cap,[],λ_ _ _=>0,rfl,⟨aX _,λ_=>rfl⟩,(λad e=>by cases e),by simp,(λu hu=>by cases hu),(λi y hy=>by cases hy),(λb i=>by grind [oB]),λh=>absurd h jS⟩
  | some ad=>
   obtain ⟨g1,g2⟩:=h3 ad rfl
   have hp:∀ i,i < List.length v->∃ L:List Value,L.length=e.sz/\Has w ad.block (ad.off+i*e.sz) L:=λi hi=>by
    obtain ⟨L,l1,l2,_⟩:=g2 i _ (aB hi);exact ⟨L,l1,λj u hu=>(l2 j u hu).1⟩
   obtain ⟨p1,p2⟩:=Mr hp
   have uj:∀ (i:Nat) (y:e.den),v[i]?=some y->am P w A e m.e (([]:List Path).filterMap (mp i)) y (((rd w ad.block ad.off (List.length v*e.sz)).drop (i*e.sz)).take e.sz) (λ_ _=>0):=λi y hy=>by
    obtain ⟨L,l1,l2,l3⟩:=g2 i y hy;rw[p2 i L (aO.1 hy).1 l1 (λj u hu=>(l2 j u hu).1)];grind [Ro.rep]
   refine ⟨some ad,cap,rd w ad.block ad.off (List.length v*e.sz),λ_ _ _=>0,rfl,⟨h1,(λe=>by cases e)⟩,λdp e=>?_,Bo _ _ _ _,qS _ _ (Bo _ _ _ _) uj,uj,(λb i=>by grind [oB]),λh=>absurd h jS⟩
   grind
theorem Ih {e:Ty} {m:Md} {v:List e.den} {cs:List Value} {Fv:FP} (hr:am P w A (.aa e) m [] v cs Fv) :
  ∃ xa cap news Fi,cs=[.slice xa (List.length v) cap]/\(List.length v<=cap/\(xa=none->List.length v=0))/\(∀ ad,xa=some ad->(0 < cap->ad.spot=none)/\Has w ad.block ad.off news)/\news.length=List.length v*e.sz/\(∀ u ∈ news,u.oneCell'=true) /\
   (∀ (i:Nat) (y:e.den),v[i]?=some y->am P w A e m.e [] y ((news.drop (i*e.sz)).take e.sz) (Fi i))/\(∀ b i,bh (List.length v) Fi b i<=Fv b i) /\
   (m.own=true->List.length v<=cap/\cap<=maxLen/\(xa=none->cap=0)/\∀ ad,xa=some ad->ad.off=0/\ad.spot=none/\jR w ad.block (cap*e.sz,KO e)/\∀ b i,d8 ad.block 0 (cap*e.sz) b i+bh (List.length v) Fi b i<=Fv b i):=
 Ms rfl hr
theorem N2 (h:Rel P C A X σ a w F) {s:Slot} {tv:Value} {G:FP} (hs:dn P A σ a w tv s G) {mv:Bool} {e:Ty} {tx:TypeId} (D6:(∃ e',P.underlying tx=some (.slice e'))\/P.underlying tx=some .string)
  {K:Md->List e.den->St->Option R} (hk:DY σ s e mv K=some x) :
  ∃ (A':Cells) (σ':St) (F':Nat->FP) (me:Md) (y:List e.den) (news:List Value) (Fv:FP) (Fi:Nat->FP),K me y σ'=some x/\(∀ b i,A b i->A' b i)/\Rel P C A' (λb i=>X b i+Fv b i) σ' a w F'/\s_ σ σ' /\
   Src P e.sz tx tv (List.length y) news w/\(∀ k,k<=List.length y->(Builtin.firstCells e.sz k tv).run P w=.ok (news.take (k*e.sz)).toArray w)/\(∀ (i:Nat) (z:e.den),y[i]?=some z->am P w A' e me [] z ((news.drop (i*e.sz)).take e.sz) (Fi i))/\∀ b i,bh (List.length y) Fi b i<=Fv b i:=by
 unfold DY at hk;split at hk
 ·rename_i s';obtain ⟨e1,hk⟩:=dh hk;injection e1 with e1;subst e1;obtain ⟨cs,h1,h2⟩:=hs;simp only[Ro] at h2;subst h2;have C6:tv=.string ⟨List.toArray s'⟩:=h1;subst C6;have hlen:(byteCells ⟨List.toArray s'⟩)=List.map (λ(b:UInt8)=>Value.int .u8 b.toNat) s':=by simp[byteCells]
  have oO:(⟨List.toArray s'⟩:ByteArray).size=List.length s':=rfl;refine ⟨A,σ,F,.leaf,s',byteCells ⟨List.toArray s'⟩,λ_ _=>0,λ_ _ _=>0,hk,λ_ _ h=>h,h,s_.refl σ,⟨D6,λ_=>rfl,firstCells_string _ w,firstCells_string _ w.drew,by grind [Ty.sz],λu hu=>?_⟩,λk hk=>?_,λi z hz=>?_,λb i=>by grind [oB]⟩
  ·obtain ⟨_,_,rfl⟩:=dT.1 hu;rfl
  ·rw[hlen];have aiM:((⟨List.toArray s'⟩:ByteArray).extract 0 k).data.toList=s'.take k:=by simp[ByteArray.data_extract]
   simp only[Builtin.firstCells,Sem.run_pure,Ty.sz,jD];simp_all
  ·have:((byteCells ⟨List.toArray s'⟩).drop (i*Ty.sz (.int .u8))).take (Ty.sz (.int .u8))=[Value.int .u8 z.toNat]:=by
    show ((byteCells ⟨List.toArray s'⟩).drop (i*1)).take 1=_;grind [List.take_one,List.head?_drop]
   exact this
 ·rename_i s' hns;obtain ⟨A',σ',F',m,v,cs,Fv,k1,k2,k3,k4,kr,k5,k6⟩:=wH h hs hk;obtain ⟨xa,cap,news,Fi,r1,r2,r3,r4,r5,r6,r7,r8⟩:=Ih k6;rw[r1,ep _ _ rfl] at k5;subst k5
  have Re:∀ ad,xa=some ad->∀ j u,news[j]?=some u->w.cell? (ad.add j)=some u:=λad e1 j u hu=>by
   obtain ⟨g1,g2⟩:=r3 ad e1;have hj:=(aO.1 hu).1
   have Gc:0 < cap:=by
    grind
   obtain ⟨b,off,sp⟩:=ad;have:=g1 Gc;simp only at this;subst this;rw[sO];exact wO (g2 j u hu) (r5 u (bT hu))
  refine ⟨A',σ',F',m.e,v,news,Fv,Fi,k1,k2,k3,kr,?_,?_,r6,r7⟩
  rotate_left
  ·intro k hk
   cases xa with
   | none=>
    simp_all [run_firstCells_none]
   | some ad=>
    grind [Nat.mul_le_mul_right,run_firstCells_some]
  cases xa with
  | none=>
   have h0:=r2.2 rfl;have hn:news=[]:=bX (by grind);subst hn;rw[h0];exact ⟨D6,λ_=>rfl,run_firstCells_none w e.sz 0 0 cap,run_firstCells_none w.drew e.sz 0 0 cap,by simp,λu hu=>by cases hu⟩
  | some ad=>
   have hc:=Re ad rfl;exact ⟨D6,λ_=>rfl,run_firstCells_some w e.sz (List.length v) ad (List.length v) cap news r4 hc,run_firstCells_some w.drew e.sz (List.length v) ad (List.length v) cap news r4 (by simpa using hc),r4,r5⟩
theorem KX {e:Ty} {me:Md} {v y:List e.den} {sP news:List Value} {Fi Gi:Nat->FP} (hl:sP.length=List.length v*e.sz)
  (h1:∀ (i:Nat) (z:e.den),v[i]?=some z->am P w A e me [] z ((sP.drop (i*e.sz)).take e.sz) (Fi i)) (h2:∀ (i:Nat) (z:e.den),y[i]?=some z->am P w A e me [] z ((news.drop (i*e.sz)).take e.sz) (Gi i)) :
  ∀ (i:Nat) (z:e.den),(v++y)[i]?=some z->am P w A e me [] z (((sP++news).drop (i*e.sz)).take e.sz) (if i < List.length v then Fi i else Gi (i - List.length v)):=by
 intro i z hz;by_cases hi:i < List.length v
 ·rw[aH hi];rw[cT hi] at hz;have h6:i*e.sz+e.sz<=List.length v*e.sz:=by rw[<-eP];exact bD _ Bys
  grind
 grind [Nat.mul_le_mul_right,List.drop_append,List.drop_of_length_le,Nat.sub_mul]
theorem Rp (n m:Nat) (Fi Gi:Nat->FP) (b i:Nat):bh (n+m) (λi=>if i < n then Fi i else Gi (i - n)) b i=bh n Fi b i+bh m Gi b i:=by
 rw[xi];congr 1
 all_goals simp_all [zt,aN]
theorem Ro.indep {A':Cells}:∀ (t:Ty) {v:t.den} {cs:List Value},t.flat=true->t.sn=true->Ro P w A t v cs->Ro P w A' t v cs:=by
 intro t
 induction t with
 | pair a b nY nH=>
  intro v cs hf hn h;simp only[Ty.flat,Ty.sn,aC] at hf hn;exact ⟨nY hf.1 hn.1 h.1,nH hf.2 hn.2 h.2⟩
 | arr n e ih=>
  intro v cs hf hn h;exact ⟨h.1,h.2.1,h.2.2.1,λi x hx=>ih hf hn (h.2.2.2 i x hx)⟩
 | aa e ih=>grind [Ty.flat]
 | ptr e ih=>grind [Ty.flat]
 | fn=>grind [Ty.sn]
 | map k v=>grind [Ty.flat]
 | _=>intro v cs hf hn h;exact h
theorem Mt {A1 A2:Cells} {n_:St} {F2:Nat->FP} {t tx:Nat} {y z:Operand} (ho:o.op=.call { callee:=.builtin .append,args:=#[y,z],argTypes:=#[t,tx] }) {e:Ty} {el:Nat} (hu:P.underlying t=some (.slice el)) (uj:bn P e (.inl el)=true)
  {m me:Md} {v yv:List e.den} {cs news:List Value} {Fv Fw:FP} {Gi:Nat->FP} {K:St->Option R} (jS:m.own=true) (k5:a.eval y=dj (.aa e) cs) (k6:am P w A1 (.aa e) m [] v cs Fv) (oc:v.length+yv.length<=be)
  (q1:K (n_.cq o.dst (.own (.aa e) (.aa true (if me=m.e then me else ah e)) [] (v++yv)))=some x) (q2:∀ b i,A1 b i->A2 b i) (q3:Rel P C A2 (λb i=>0+Fv b i+Fw b i) n_ a w F2)
  (q4:Src P e.sz tx (a.eval z) (List.length yv) news w) (q5:∀ (i:Nat) (z:e.den),yv[i]?=some z->am P w A2 e me [] z ((news.drop (i*e.sz)).take e.sz) (Gi i)) (q6:∀ b i,bh (List.length yv) Gi b i<=Fw b i):o.wp P a w (Nx P C K x) Q:=by
 obtain ⟨inf,zv,i1,i2,i3,i4,i5,_⟩:=A4 (nI uj);obtain ⟨xa,cap,sP,Fi,r1,r2,r3,r4,r5,r6,r7,r8⟩:=Ih k6;obtain ⟨c1,c2,c3,c4⟩:=r8 jS;rw[r1,ep _ _ rfl] at k5;have r6':∀ (i:Nat) (z:e.den),v[i]?=some z->am P w A2 e m.e [] z ((sP.drop (i*e.sz)).take e.sz) (Fi i):=λi z hz=>am.mono (P:=P) (A':=A2) q2 (λ_ _ _ _ h=>h) (λ_ _ h=>h) e (r6 i z hz) (λ_ _=>aG _) (λ_ _ _ _ h=>h)
 have AC:∃ (A3:Cells) (X3:FP) (Hi:Nat->FP),Rel P C A3 X3 n_ a w F2/\(∀ (i:Nat) (z:e.den),(v++yv)[i]?=some z->am P w A3 e (if me=m.e then me else ah e) [] z (((sP++news).drop (i*e.sz)).take e.sz) (Hi i)) /\
   (∀ b i,bh (List.length v+List.length yv) Hi b i<=X3 b i)/\∀ ad,xa=some ad->∀ b i,d8 ad.block 0 (cap*e.sz) b i+bh (List.length v+List.length yv) Hi b i<=X3 b i:=by
  by_cases Av:me=m.e
  ·subst Av;refine ⟨A2,_,_,q3,by simp only[aL];exact KX r4 r6' q5,λb i=>?_,λad lI b i=>?_⟩
   all_goals grind [Rp]
  ·simp only[aN Av]
   obtain ⟨B,hB1,hB2,hB3⟩:∃ B:FP,(∀ b i,B b i+bh (List.length v) Fi b i<=Fv b i)/\(∀ ad,xa=some ad->∀ b i,d8 ad.block 0 (cap*e.sz) b i=B b i)/\∀ b i,B b i<=1:=by
    cases xa with
    | none=>exact ⟨λ_ _=>0,λb i=>by grind,(λad e=>by cases e),λ_ _=>aX _⟩
    | some ad=>exact ⟨d8 ad.block 0 (cap*e.sz),(c4 ad rfl).2.2.2,(λdp e=>by grind),λb i=>by grind [d8]⟩
   obtain ⟨A3,tK⟩:∃ A3:Cells,∀ b i,A3 b i↔(A2 b i\/(1<=0+Fv b i+Fw b i/\B b i=0)):=⟨λb i=>A2 b i\/(1<=0+Fv b i+Fw b i/\B b i=0),λ_ _=>iH⟩
   refine ⟨A3,B,λ_ _ _=>0,q3.giveUp (λb i h=>(tK b i).2 (.inl h)) (λb i ha=>(tK b i).1 ha) (λb i=>by grind),?_,λb i=>by grind [oB],λad lI b i=>by grind [oB]⟩
   have zC:∀ b i,(0+Fv b i+Fw b i)+bh n_.n F2 b i<=1:=λb i=>q3.ry b i
   have hv3:∀ (i:Nat) (z:e.den),v[i]?=some z->am P w A3 e (ah e) [] z ((sP.drop (i*e.sz)).take e.sz) (λ_ _=>0):=λi z hz=>Ro.rep _ _ (jh _) (am.zu (λb i h=>(tK b i).2 (.inl h)) e (r6' i z hz) λb k hp=>(tK b k).2 (.inr (by
    grind [dw])))
   have hy3:∀ (i:Nat) (z:e.den),yv[i]?=some z->am P w A3 e (ah e) [] z ((news.drop (i*e.sz)).take e.sz) (λ_ _=>0):=λi z hz=>Ro.rep _ _ (jh _) (am.zu (λb i h=>(tK b i).2 (.inl h)) e (q5 i z hz) λb k hp=>(tK b k).2 (.inr (by
    grind [dw])))
   exact λi z hz=>by simpa using KX (Fi:=λ_ _ _=>0) (Gi:=λ_ _ _=>0) r4 hv3 hy3 i z hz
 obtain ⟨A3,X3,Hi,n1,n2,n3,n4⟩:=AC;have UX:List.length (v++yv)=List.length v+List.length yv:=by simp
 by_cases zI:List.length v+List.length yv<=cap
 ·cases xa with
  | none=>
   have zJ:=c3 rfl;have hv0:v=[]:=bX Bys;have hy0:yv=[]:=bX Bys;subst hv0;subst hy0;have vz:(Builtin.firstCells e.sz 0 (a.eval z)).run P w=.ok news.toArray w:=by have:=q4.cells;simpa using this
   have lW:(execOp a.eval o).run P w=.ok (.value (.slice none 0 cap)) w:=by
    rcases q4.kind with ⟨e',U9⟩ | U9 <;>
     simp[execOp,ho,resolve,invoke,builtin,Builtin.append_,k5,run_underlying hu,run_underlying U9,Go.sizeOf,typeInfo,i1,q4.len,i2,vz]
   refine qm lW (rU n1 q1 (Fd:=λ_ _=>0) ⟨[.slice none 0 cap],(ep _ _ rfl).symm,?_⟩ (λ_ _=>aX _) (λ_ _ _ _ e=>by cases e));grind [am,Md.own]
  | some ad=>
   obtain ⟨d1,d4,d2,d3⟩:=c4 ad rfl;obtain ⟨_,d5⟩:=r3 ad rfl;obtain ⟨b,off,sp⟩:=ad;simp only at d1 d2 d3 d4 d5;subst d1;subst d4;have n4':∀ b' i,d8 b 0 (cap*e.sz) b' i+bh (List.length v+List.length yv) Hi b' i<=X3 b' i:=n4 _ rfl;have vA:=q4.newsLen;have Dd:List.length v*e.sz+news.length<=cap*e.sz:=by rw[vA,<- dC];exact bD _ zI
   have uu:∀ j,j < cap*e.sz->(w.cell? ⟨b,j,none⟩).isSome=true:=λj hj=>by
    obtain ⟨c,e',fr,w1,w2,w3⟩:=d2;grind [World.cell?]
   have lW:=run_append_room_src (P:=P) w t tx o.type el inf hu i1 b 0 (List.length v) cap (a.eval z) (List.length yv) news (by grind) zI (λj hj=>by grind) (λj hj=>by rw[i2,bS];exact d2.frozen Bys);rw[i2,bS] at lW
   have WB:(execOp a.eval o).run P w=.ok (.value (.slice (some ⟨b,0,none⟩) (List.length v+List.length yv) cap)) (w.setCells b (List.length v*e.sz) news):=by
    simp_all [execOp,resolve,invoke,builtin]
   have fq:=qU (b:=b) (o:=List.length v*e.sz) news w (List.length v*e.sz)
   have hX1:∀ b' i,1<=d8 b (List.length v*e.sz) news.length b' i->1<=d8 b 0 (cap*e.sz) b' i:=λb' i hp=>by
    grind [d8]
   have Rq:=n1.world fq (λb' i hp=>by grind);refine qm WB (rU Rq q1 (Fd:=X3) ⟨[.slice (some ⟨b,0,none⟩) (List.length v+List.length yv) cap],(ep _ _ rfl).symm,?_⟩ (λ_ _=>aG _) (λ_ _ _ _ e=>by cases e));simp only[am,hole,bU,aF,aU,Md.own,aL,Md.e];refine ⟨some ⟨b,0,none⟩,cap,by rw[UX],by omega,c2,(λe=>by cases e),λdp e'=>?_⟩
   injection e' with e';subst e';refine ⟨rfl,rfl,fq.y0 _ _ d2,Hi,λb' i=>by grind,λi zz hz=>?_⟩
   have jL:=n2 i zz hz;have Rr:i < List.length v+List.length yv:=by grind
   refine ⟨_,am.length _ jL,?_,?_⟩
   ·
    have st:Has (w.setCells b (List.length v*e.sz) news) b 0 (sP++news):=λj u hu=>by
     rw[bS];by_cases hj:j < sP.length
     ·rw[cT hj] at hu;have hold:=d5 j u hu;rw[bS] at hold;refine fq.cell b j (by obtain ⟨c,e',fr,w1,_⟩:=d2;grind) ?_ u hold;grind [d8]
     ·rw[eX Bys] at hu;have:=zG (w:=w) (b:=b) (o:=List.length v*e.sz) (L:=news) (λk hk=>uu _ Bys) q4.one _ u hu;grind
    intro j u hu;rw[cG] at hu;split at hu
    ·rw[bP] at hu;have:=st _ u hu;grind
    ·cases hu
   ·simp only[eK];refine am.mono (P:=P) (λ_ _ h=>h) (λb' k ha u hu=>fq.cell b' k (n1.mr b' k (.inr ha)) ?_ u hu) fq.y0 e jL (λ_ _=>aG _) (λb' k hp u hu=>fq.cell b' k ?_ ?_ u hu)
    ·rcases bK (d8 b (List.length v*e.sz) news.length b' k) with h0 | h0
     ·exact h0
     ·exact absurd ha (n1.sr b' k (by grind))
    ·exact n1.mr b' k (.inl (by grind [dw]))
    ·rcases bK (d8 b (List.length v*e.sz) news.length b' k) with h0 | h0
     ·exact h0
     ·have h1:=hX1 b' k h0;have h2:=n4' b' k;have h3:=dw Hi Rr b' k;have h4:=n1.ry b' k;omega
 ·
  have acD:(Builtin.firstCells inf.size (List.length v) (.slice xa (List.length v) cap)).run P w.drew=.ok sP.toArray w.drew:=by
   cases xa with
   | none=>
    simp_all [run_firstCells_none]
   | some ad=>
    obtain ⟨_,d4,_,_⟩:=c4 ad rfl;obtain ⟨_,d5⟩:=r3 ad rfl;obtain ⟨b,off,sp⟩:=ad;simp only at d4 d5;subst d4;exact run_firstCells_some w.drew inf.size (List.length v) ⟨b,off,none⟩ (List.length v) cap sP (by grind) (λj u hu=>by rw[sO];exact wO (d5 j u hu) (r5 u (bT hu)))
  simp only[be] at oc
  have lW:=run_append_grow_src (P:=P) w t tx o.type el inf zv hu i1 i4 xa (List.length v) cap sP acD (a.eval z) (List.length yv) news (by grind) Bys Bys
   (growslice_fits Bys (bB (Nat.mul_le_mul oc i3) (by decide)))
  have WB:(execOp a.eval o).run P w=.ok (.value (.slice (some ⟨w.heap.size,0,none⟩) (List.length v+List.length yv) (grownCap w (List.length v+List.length yv) cap el)))
    (w.drew.alloc (.cells ((sP++news).toArray++Builtin.zeroCells zv.cells (grownCap w (List.length v+List.length yv) cap el - (List.length v+List.length yv))) el)):=by
   simp_all [execOp,resolve,invoke,builtin]
  have hge:=grownCap_ge w (List.length v+List.length yv) cap el;have hgm:=grownCap_le_maxLen w (List.length v+List.length yv) cap el (by grind [maxLen]);have vA:=q4.newsLen
  have qT:=JK n1.drew (K:=K) (x:=x) (d:=o.dst) (e:=e) (m:=if me=m.e then me else ah e) (v:=v++yv) (c:=(sP++news).toArray++Builtin.zeroCells zv.cells (grownCap w (List.length v+List.length yv) cap el - (List.length v+List.length yv)))
   (cap:=grownCap w (List.length v+List.length yv) cap el) (el:=el) (fr:=(0,0)) (Fi:=Hi) (.inr (aG _)) q1
   (by
    rw[Array.size_append,size_zeroCells,i5,iG,bQ,r4,vA,<- dC,<- dC]
    congr 1;omega) hgm (by grind)
   (λb i=>by grind) (λi zz hz=>by
    have jL:=n2 i zz hz;refine ⟨_,am.length _ jL,λj u hu=>?_,am.mono (P:=P) (w:=w) (w':=w.drew) (A:=A3) (A':=A3) (λ_ _ h=>h) (λ_ _ _ _ h=>h) (λb n hn=>hn) e jL (λ_ _=>aG _) (λ_ _ _ _ h=>h)⟩
    grind)
  rw[UX] at qT;exact qm WB qT
theorem step_append (h:eo P C A σ a w F) (mY:∀ i T,E.TI i=some T->bn P T (.inl i)=true) {t tx:Nat} {y z:Operand} (ho:o.op=.call { callee:=.builtin .append,args:=#[y,z],argTypes:=#[t,tx] }) (a_:d_ P y=true/\d_ P z=true)
  (D6:(∃ e',P.underlying tx=some (.slice e'))\/P.underlying tx=some .string) {mv tf:Bool} {K:St->Option R} (hk:NL E σ t (eg σ y) z mv tf o.dst K=some x):o.wp P a w (Nx P C K x) Q:=by
 unfold NL at hk;obtain ⟨T,hT,hk⟩:=iy hk;have kt:=mY _ _ hT;split at hk
 ·rename_i e;have hl:=kt;simp only[bn,aC] at hl;have h2:=hl.2;split at h2;rotate_left
  ·cases h2
  rename_i el hu;simp only[aC,dK] at h2;obtain ⟨oO,uj⟩:=h2;split at hk
  ·rename_i Cf;simp only[aC] at Cf;obtain ⟨_,Cf,Kc⟩:=Cf
   rcases gk h a_.2 with De | ⟨xs,e'⟩
   rotate_left
   ·grind [DY,nZ]
   obtain ⟨A0,σ0,F0,me,yv,news,Fw,Gi,q1,_,_,_,q4,_,q5,_⟩:=N2 h De D6 hk
   rcases gk h a_.1 with hs | ⟨xs,e'⟩
   rotate_left
   ·grind [nZ]
   obtain ⟨A1,qH,F1,m,v,cs,Fv,k1,k2,k3,k4,kr,k5,k6⟩:=wH h hs q1;split at k1;rotate_left
   ·cases k1
   rename_i jS;split at k1;rotate_left
   ·cases k1
   rename_i oc
   exact Mt (me:=ah e) (Fw:=λ_ _=>0) (Gi:=λ_ _ _=>0) ho hu uj jS k5 k6 oc (by grind) (λ_ _ h=>h) k3 q4
    (λi zz hz=>Ro.rep _ _ (jh _) (Ro.indep e Cf Kc (am.flat e Cf (q5 i zz hz)))) (λb i=>by grind [oB])
  rcases gk h a_.1 with hs | ⟨xs,e'⟩
  rotate_left
  ·grind [nZ]
  obtain ⟨A1,qH,F1,m,v,cs,Fv,k1,k2,k3,k4,kr,k5,k6⟩:=wH h hs hk;split at k1;rotate_left
  ·cases k1
  rename_i jS
  rcases gk k3 a_.2 with De | ⟨xs,e'⟩
  rotate_left
  ·grind [DY,nZ]
  obtain ⟨A2,n_,F2,me,yv,news,Fw,Gi,q1,q2,q3,qr,q4,_,q5,q6⟩:=N2 k3 De D6 k1;split at q1;rotate_left
  ·cases q1
  rename_i oc;exact Mt ho hu uj jS k5 k6 oc q1 q2 q3 q4 q5 q6
 ·cases hk
end
section
variable {P:Program} {C:Ctx} {A:Cells} {X:FP} {σ:St} {a:Act} {w:World} {F:Nat->FP} {R:Type} {x:R} {Q:Exit->Act->World->Prop} {o:Oper} {E:Env}
theorem Qc (h:eo P C A σ a w F) {f:Nat} {first cs:Array Operand} (ho:o.op=.makeFunc (.func f) first cs) (dm:(P.funcs[f]?).any (λfn=>fn.nfree == cs.size)=true) {K:St->Option R}
  (hk:(if first.size=0 then
   match cs.toList with
   | []=>K (σ.cq o.dst (.val .fn (f,0)))
   | [.tmp i]=>match σ.get i with
    | .box (.int .i64) _ _ n=>K (((σ.put i .dead).put i (.cp (.int .i64) n)).cq o.dst (.val .fn (f,n)))
    | _=>none
   | _=>none
  else none)=some x):Tk P o a w (Nx P C K x):=by
 simp only[Option.any_eq_true,jG] at dm;obtain ⟨fn,hf,hn⟩:=dm;split at hk
 ·rename_i h0;have Rs:first=#[]:=Array.eq_empty_of_size_eq_zero h0
  subst Rs;split at hk
  ·rename_i pP;have pP:cs=#[]:=by grind
   subst pP;refine jk (v:=.func (.func f) #[] #[]) (by simp[execOp,ho,Instr.makeFunc]) (cx h hk ⟨[.func (.func f) #[] #[]],rfl,#[],rfl,fn,hf,.inl ⟨by simpa using hn,rfl⟩⟩ (λ_ _ _ _ e=>by cases e))
  ·rename_i i pP;have pP:cs=#[.tmp i]:=by grind
   subst pP;split at hk
   ·rename_i m H n hg
    have hi:i < σ.n:=by
     grind [nQ]
    have hs:=h.jz i hi;rw[hg] at hs;obtain ⟨b,off,L,F1,s1,s2,s3,s4,s5,s6⟩:=hs;simp only[am,Ro] at s6;subst s6;have h1:=h.put hi (s:=.dead) (v:=tmp a i) (Fd:=λ_ _=>0) (X':=F i) trivial (λb k=>by omega) (λ_ _ _ _ e=>by cases e);rw[tM] at h1;have hle:∀ b' i',d8 b off 1 b' i'<=F i b' i':=λb' i'=>by grind
    have h2:=h1.giveUp (A1:=λb' i'=>A b' i'\/1<=d8 b off 1 b' i') (X1:=λ_ _=>0) (λ_ _ h=>.inl h) (λb' i' ha=>ha.imp id λhp=>⟨by grind,rfl⟩) (λ_ _=>aX _);have uu:ce w b off=some (.int .i64 n):=s3 0 _ rfl;have hA:1<=d8 b off 1 b off:=by simp[d8]
    have h3:=h2.put (d:=i) hi (s:=.cp (.int .i64) n) (v:=tmp a i) (Fd:=λ_ _=>0) (X':=λ_ _=>0)
     ⟨⟨b,off,none⟩,by rw[s1],rfl,[.int .i64 n],rfl,(λj u hu=>by
      grind),rfl⟩ (λb k=>by omega) (λ_ _ _ _ e=>by cases e)
    rw[tM] at h3;have ev:a.eval (.tmp i)=.pointer (some ⟨b,off,none⟩):=s1
    refine jk (v:=.func (.func f) #[] #[.pointer (some ⟨b,off,none⟩)]) (by simp[execOp,ho,Instr.makeFunc,ev])
     (cx h3 hk ⟨[.func (.func f) #[] #[.pointer (some ⟨b,off,none⟩)]],rfl,_,rfl,fn,hf,.inr ⟨by simpa using hn,_,rfl,rfl,uu,.inr hA⟩⟩ (λ_ _ _ _ e=>by cases e))
   ·cases hk
  ·cases hk
 ·cases hk
theorem TO (h:eo P C A σ a w F) {y:Operand} (ho:o.op=.assign y) (a_:d_ P y=true) {T:Nat} {mv:Bool} {K:St->Option R} (hk:NM E σ T y mv o.dst K=some x):Tk P o a w (Nx P C K x):=by
 refine jk (v:=a.eval y) (by simp[execOp,ho]) ?_;unfold NM at hk;by_cases agF:∃ i xs,y=.tmp i/\σ.get i=.ug xs
 ·obtain ⟨i,xs,rfl,hg⟩:=agF;have e:eg σ (.tmp i)=.ug xs:=by grind [eg]
  rw[e] at hk
  cases xs with
  | nil=>
   have hi:i < σ.n:=by
    grind [nQ]
   have hs:=h.jz i hi;rw[hg] at hs;obtain ⟨vs,Fi,h1,h2,h3⟩:=hs;exact cx h hk ⟨vs,λ_ _ _=>0,h1,λb i=>by simp[bh],λj y hy=>by cases hy⟩ (λ_ _ _ _ e=>by cases e)
  | cons _ _=>cases hk
 rcases gk h a_ with hs | ⟨xs,e⟩
 rotate_left
 ·exfalso
  cases y with
  | tmp i=>
   grind [eg]
  | const v=>simp only[eg] at e;unfold vO at e;grind
  | func f=>cases e
  | global g=>cases e
 split at hk
 ·grind [cx]
 ·rename_i hv;rw[hv] at hs;obtain ⟨t,hT,hk⟩:=iy hk;split at hk
  ·have hs:a.eval y=.slice none 0 0:=hs;rw[hs];refine cx h hk ⟨[.slice none 0 0],(ep _ _ rfl).symm,?_⟩ (λ_ _ _ _ e=>by cases e);grind [am,hole,wU,Md.own]
  ·cases hk
 ·grind [cx]
 ·cases hk
 ·grind [wH,C8]
 ·grind [wH,C8]
 ·rename_i r p snap hv;rw[hv] at hs;split at hk
  ·rename_i t m H v hg;split at hk
   ·rename_i hc;simp only[aC,cB] at hc;split at hk
    ·rename_i i hd
     have hr:r < σ.n:=by
      grind [nQ]
     have oH:=h.jz r hr;rw[hg] at oH;obtain ⟨b,off,L,F1,s1,s2,s3,s4,s5,s6⟩:=oH;obtain ⟨pl,b',o',g1,g2,g3,g4⟩:=hs.2 hc.1.1
     have i9:place σ a w r []=some ⟨t,H,rd w b off t.sz,some (b,off)⟩:=by
      unfold place;rw[hg,s1];rfl
     rw[i9] at g1;injection g1 with g1;subst g1;simp only[aQ,bN] at g2;obtain ⟨rfl,rfl⟩:=g2;have h1:=h.put hr (s:=.dead) (v:=tmp a r) (Fd:=λ_ _=>0) (X':=F r) trivial (λb k=>by omega) (λ_ _ _ _ e=>by cases e);rw[tM] at h1;obtain ⟨bw,w1,w2⟩:=h.whole r t m H v hg (Mg hc.2);rw[s1] at w1;injection w1 with w1;injection w1 with w1;injection w1 with w1 w3;subst w1;have:=rU (K:=K) (x:=x) (d:=some i) h1 hk (v:=a.eval y) (s:=.box t m H v) (Fd:=F r) ⟨b,off,L,F1,g3,s2,s3,s4,s5,s6⟩ (λb i=>aG _) (λt' m' H' v' e=>by grind);grind
    ·cases hk
   grind [cx]
  grind [cx]
 grind [cx,OW]
theorem tt {α:Type} (v y:List α) {lo n:Nat} (h:lo+n<=v.length) (hy:n<=y.length):(pO v lo n y).length=v.length:=by
 grind [pO]
theorem Rt {α:Type} (v y:List α) {lo n:Nat} (h:lo+n<=v.length) (hy:n<=y.length) (i:Nat):(pO v lo n y)[i]?=if lo<=i/\i < lo+n then y[i - lo]? else v[i]?:=by
 unfold pO;by_cases h1:i < lo
 all_goals grind
theorem O0 (h:eo P C A σ a w F) {r:Nat} {p:Path} {e:Ty} {m:Md} {v y:List e.den} {news:List Value} {Gi:Nat->FP} {me:Md} {lo n:Nat} {K:St->Option R} (ey:At σ r p (.aa e) m [] v) (jS:m.own=true) (hf:e.flat=true) (hn:lo+n<=List.length v) (hy:n<=List.length y)
  (hl:news.length=List.length y*e.sz) (qS:∀ u ∈ news,u.oneCell'=true) (uj:∀ (i:Nat) (z:e.den),y[i]?=some z->am P w A e me [] z ((news.drop (i*e.sz)).take e.sz) (Gi i))
  (hk:ym σ r p (.aa e) m (pO v lo n y) (λσ'=>K { σ' with vr:=(σ.oG r zo).vr,az:=σ.az })=some x) :
  ∃ (xa:Option Addr) (cap:Nat) (ad:Option (Nat×Nat)) (w2:World) (A3:Cells) (σ':St) (F3:Nat->FP),place σ a w r p=some ⟨.aa e,[],[.slice xa (List.length v) cap],ad⟩/\K σ'=some x/\eo P C A3 σ' a w2 F3 /\
   (xa=none->w2=w/\List.length v=0)/\∀ ad,xa=some ad->ad.off=0/\ad.spot=none/\(n=0->w2=w)/\(storeCells ⟨ad.block,lo*e.sz,none⟩ (news.take (n*e.sz))).run P w=.ok () w2:=by
 obtain ⟨hr,m2,H2,v2,dO,Fe,F2,q1,q2,q3,q4,q5,q6⟩:=Fc h hk;obtain ⟨_,e2,e3,e4⟩:=ey.inj q1;subst e2;subst e3;have e4:=gI e4;subst e4;have jL:=q3;simp only[am,hole,bU,aF,aU,jS,aL] at q3;obtain ⟨xa,cap,rfl,c1,c2,c3,c4⟩:=q3;have UX:=tt v y hn hy;have J_:∀ b i,F r b i<=1:=λb i=>by have:=h.ry b i;grind [dw]
 have fin:∀ (w2:World),Ext w w2 (λb i=>0+(F2 b i+mH Fe (Ty.aa e).sz b i))->(∀ b o,Fe=some (b,o)->Has w2 b o [.slice xa (List.length v) cap])->am P w2 A (.aa e) m [] (pO v lo n y) [.slice xa (List.length v) cap] F2 ->
   (∀ (i:Nat) (z:e.den),(pO v lo n y)[i]?=some z->∀ ad,xa=some ad->∃ L,L.length=e.sz/\Has w2 ad.block (ad.off+i*e.sz) L/\am P w2 A e .leaf [] z L (λ_ _=>0)) ->
   ∃ (A3:Cells) (σ':St) (F3:Nat->FP),K σ'=some x/\eo P C A3 σ' a w2 F3:=by
  intro w2 g1 g2 g3 g4;obtain ⟨A3,D2,Fr,n1,n2,n3,n4,n5⟩:=q6 w2 A _ F2 (λ_ _=>0) g1 (λ_ _ h=>h) (λ_ _ h=>.inl h) (λb i=>by omega) g2 (λ_=>rfl) g3;refine ⟨A3,_,_,n1,n5 zo (AY (h.nF r)) (H8 (h.nF r)) rfl λp' snap hb a_ hlen=>?_⟩
  have h5:=KS (h.nF r) hb a_;refine ⟨en p'+1,False,by omega,λ_=>.inl Bys,λ_=>by omega,?_⟩
  intro q pl hq hp
  cases q with
  | nil=>
   simp only[cd,aQ] at hp;subst hp;exact ⟨_,_,rfl,λ_=>rfl⟩
  | cons s q=>
   cases s with
   | idx i=>
    cases xa with
    | none=>grind [cd]
    | some ad=>
     simp only[cd,hole,bU,aF,aU,eK] at hp ⊢;split at hp
     ·rename_i hi;rw[aH hi];have vP:i < (pO v lo n y).length:=by grind
      obtain ⟨L,l1,l2,l3⟩:=g4 i _ (aB vP) ad rfl;rw[f_ l2 l1];obtain ⟨H',cn,h1,h2⟩:=D1 (A:=A) (m:=.leaf) (v:=(pO v lo n y)[i]) (F:=λ_ _=>0) q e l3 (.inr hf) hp;grind
     ·cases hp
   | _=>simp[cd] at hp
 cases xa with
 | none=>
  have h0:=c3 rfl;have hv0:List.length v=0:=by omega
  grind [Ext.refl]
 | some ad=>
  obtain ⟨d1,d2,d3,Fi,d4,d5⟩:=c4 ad rfl;obtain ⟨b,off,sp⟩:=ad;simp only at d1 d2 d3 d4 d5;subst d1;subst d2;have hle:lo*e.sz+n*e.sz<=cap*e.sz:=by rw[<-dC];exact bD _ Bys
  have vA:(news.take (n*e.sz)).length=n*e.sz:=by
   grind [Nat.mul_le_mul_right]
  have uu:∀ j,j < cap*e.sz->(w.cell? ⟨b,j,none⟩).isSome=true:=λj hj=>by
   obtain ⟨c,e',fr,w1,w2,w3⟩:=d3;grind [World.cell?]
  have dm:=run_storeCells_cells (P:=P) b (lo*e.sz) (news.take (n*e.sz)) 0 w (λj hj=>by grind) (λj hj=>by rw[eM];exact d3.frozen Bys) (λu hu=>qS u (cX hu));rw[eM] at dm;have fq:=qU (b:=b) (o:=lo*e.sz) (news.take (n*e.sz)) w (lo*e.sz);rw[vA] at fq
  have FZ:∀ b' i,d8 b (lo*e.sz) (n*e.sz) b' i<=d8 b 0 (cap*e.sz) b' i:=λb' i=>by
   grind [d8]
  have hA:∀ b' i,A b' i->∀ u,ce w b' i=some u->ce (w.setCells b (lo*e.sz) (news.take (n*e.sz))) b' i=some u:=λb' i ha u hu=>by
   refine fq.cell b' i (h.mr b' i (.inr ha)) ?_ u hu;rcases bK (d8 b (lo*e.sz) (n*e.sz) b' i) with h0 | h0
   ·exact h0
   ·exact absurd ha (h.sr b' i (by grind [dw]))
  have agG:∀ (i:Nat) (z:e.den),(pO v lo n y)[i]?=some z->∃ L,L.length=e.sz/\Has (w.setCells b (lo*e.sz) (news.take (n*e.sz))) b (i*e.sz) L/\Ro P (w.setCells b (lo*e.sz) (news.take (n*e.sz))) A e z L:=by
   intro i z hz;rw[Rt v y hn hy] at hz;split at hz
   ·rename_i hi;have xl:=am.flat _ hf (uj _ z hz);refine ⟨_,Ro.length _ xl,λj u hu=>?_,Ro.mono hA (λ_ _ h=>h) e xl⟩
    rw[cG] at hu;split at hu
    ·rename_i hj;rw[bP] at hu;have h6:(i - lo)*e.sz+e.sz<=n*e.sz:=by rw[<-eP];exact bD _ Bys
     have:=zG (w:=w) (b:=b) (o:=lo*e.sz) (L:=news.take (n*e.sz)) (λk hk=>uu _ Bys) (λu hu=>qS u (cX hu)) ((i - lo)*e.sz+j) u (by grind);rw[<-this];have h7:i*e.sz=lo*e.sz+(i - lo)*e.sz:=by rw[<-dC];congr 1;omega
     congr 1;omega
    ·cases hu
   ·rename_i hi;obtain ⟨L,l1,l2,l3⟩:=d5 i z hz;have xl:=am.flat _ hf l3;refine ⟨L,l1,λj u hu=>?_,Ro.mono hA (λ_ _ h=>h) e xl⟩
    refine fq.cell b _ (by obtain ⟨c,e',fr,w1,_⟩:=d3;grind) ?_ u (l2 j u hu);have hj:=(aO.1 hu).1;simp only[d8];rw[aN];rintro ⟨_,h8,h9⟩;rcases cR i lo with Ii | Ii
    ·have h6:i*e.sz+e.sz<=lo*e.sz:=by rw[<-eP];exact bD _ Bys
     omega
    ·have h6:lo*e.sz+n*e.sz<=i*e.sz:=by rw[<-dC];exact bD _ Bys
     omega
  have JI:am P (w.setCells b (lo*e.sz) (news.take (n*e.sz))) A (.aa e) m [] (pO v lo n y) [.slice (some ⟨b,0,none⟩) (List.length v) cap] F2:=by
   simp only[am,hole,bU,aF,aU,jS,aL];refine ⟨some ⟨b,0,none⟩,cap,by rw[UX],by omega,c2,(λe=>by cases e),λdp e'=>?_⟩
   injection e' with e';subst e';refine ⟨rfl,rfl,fq.y0 _ _ d3,λ_ _ _=>0,λb' i=>by grind [oB],λi z hz=>?_⟩
   obtain ⟨L,l1,l2,l3⟩:=agG i z hz;grind [Ro.flat]
  have yn:∀ b' o',Fe=some (b',o')->Has (w.setCells b (lo*e.sz) (news.take (n*e.sz))) b' o' [.slice (some ⟨b,0,none⟩) (List.length v) cap]:=λb' o' ea j u hu=>by
   have h1:=(q5 b' o' ea).1 j u hu;have hj:=(aO.1 hu).1;have h2:=q4 b' (o'+j);have h3:=d4 b' (o'+j);have h4:=FZ b' (o'+j);have h5:=J_ b' (o'+j);have h7:=dw F hr b' (o'+j)
   have h6:mH Fe (Ty.aa e).sz b' (o'+j)=1:=by
    grind [mH,d8,Ty.sz]
   exact fq.cell _ _ (h.mr b' (o'+j) (.inl (by grind))) Bys u h1
  obtain ⟨A3,D2,F3,n1,n2⟩:=fin _ (fq.mono λb' i hz=>by
    grind) yn JI (λi z hz ad e=>by
    grind [Ro.flat])
  refine ⟨_,cap,Fe,_,A3,D2,F3,q2,n1,n2,(λe=>by cases e),λdp e'=>?_⟩
  injection e' with e';subst e';refine ⟨rfl,rfl,λHA=>?_,dm⟩
  subst HA;simp[World.setCells]
theorem YX (h:eo P C A σ a w F) (mY:∀ i T,E.TI i=some T->bn P T (.inl i)=true) {t tx:Nat} {y z:Operand} (ho:o.op=.call { callee:=.builtin .copy,args:=#[y,z],argTypes:=#[t,tx] }) (a_:d_ P y=true/\d_ P z=true)
  (D6:(∃ e',P.underlying tx=some (.slice e'))\/P.underlying tx=some .string) {K:St->Option R} (hk:Wa E σ t y (eg σ z) o.dst K=some x):o.wp P a w (Nx P C K x) Q:=by
 unfold Wa at hk;obtain ⟨T,hT,hk⟩:=iy hk;have kt:=mY _ _ hT;split at hk
 ·rename_i e;have hl:=kt;simp only[bn,aC] at hl;have h2:=hl.2;split at h2;rotate_left
  ·cases h2
  rename_i el hu;simp only[aC,dK] at h2;obtain ⟨oO,uj⟩:=h2;have aew:=run_sizeOf (P:=P) (w:=w) uj;split at hk;rotate_left
  ·cases hk
  rename_i hf
  rcases gk h a_.2 with De | ⟨xs,e'⟩
  rotate_left
  ·grind [DY,nZ]
  obtain ⟨A2,n_,F2,me,yv,news,Fw,Gi,q1,q2,q3,qr,q4,q4',q5,q6⟩:=N2 h De D6 hk;have h2:eo P C A2 n_ a w F2:=q3.less λ_ _=>aX _
  have run:∀ (xa:Option Addr) (n cap:Nat) (w2:World),a.eval y=.slice xa n cap->(match (generalizing:=false) xa with | none=>w2=w | some ad=>(storeCells ad (news.take (min (List.length yv) n*e.sz))).run P w=.ok () w2) ->
    (execOp a.eval o).run P w=.ok (.value (.int .i64 ((min (List.length yv) n:Nat):Int))) w2:=by
   intro xa n cap w2 hy dm;have hfc:=q4' (min (List.length yv) n) (iZ _ _)
   cases xa with
   | none=>
    simp only at dm;subst dm;simp[execOp,ho,resolve,invoke,builtin,Builtin.copy_,hy,run_underlying hu,q4.len,aew,Nat.min_def] at hfc ⊢;simp[hfc,goInt]
   | some ad=>
    simp only at dm;simp[execOp,ho,resolve,invoke,builtin,Builtin.copy_,hy,run_underlying hu,q4.len,aew,Nat.min_def] at hfc dm ⊢;simp[hfc,dm,goInt]
  rcases gk h2 a_.1 with hs | ⟨xs,e'⟩
  rotate_left
  ·grind
  split at q1
  ·rename_i r p snap lo hi hv;rw[hv] at hs;split at q1
   ·rename_i qT;obtain ⟨hr,t',m',H',v',cn,dp,F',h1,ey,h3,h4,h5,h6⟩:=m_ h2 q1;split at h1
    ·rename_i hc;simp only[aC,bH] at hc;obtain ⟨jS,hH⟩:=hc;subst hH;obtain ⟨e1,h1⟩:=dh h1;subst e1;obtain ⟨pl,e2,xa,n,cap,yu,cap',g1,g2,g3,g4,g5,g6,g7,g8,g9,g10,g11⟩:=hs.2 qT
     have hvn:n=List.length v':=by
      grind [am,hole]
     obtain ⟨xb,NZ,Fe,w2,A3,D2,F3,c1,c2,c3,c4,c5⟩:=O0 h2 (K:=λσ'=>K (σ'.cq o.dst (.val (.int .i64) ((min (List.length yv) (hi - lo):Nat):Int)))) ⟨ey⟩ jS hf (lo:=lo) (n:=min (List.length yv) (hi - lo)) Bys (iZ _ _) q4.newsLen q4.one q5 h1;rw[c1] at g1;injection g1 with g1;subst g1;simp only[dP,Value.slice.injEq,eU] at g3;obtain ⟨rfl,g3,rfl⟩:=g3;injection g2 with g2;subst g2;refine qm (run yu (hi - lo) cap' w2 g6 ?_) (cx c3 c2 ⟨[.int .i64 _],rfl,rfl⟩ (λ_ _ _ _ e=>by cases e))
     cases xb with
     | none=>grind
     | some ad=>
      obtain ⟨aex,k1,k2,k3,k4⟩:=g10 ad rfl;rw[k1];obtain ⟨j1,j2,j3,j4⟩:=c5 ad rfl;simp only;by_cases bc:lo < hi
      ·have:aex=⟨ad.block,lo*e.sz,none⟩:=by
        have h1:=k4 bc;obtain ⟨x1,x2,x3⟩:=aex;grind
       grind
      ·have HA:min (List.length yv) (hi - lo)=0:=by omega
       rw[HA,Nat.zero_mul,jE];rw[j3 HA];rfl
    ·cases h1
   ·cases q1
  ·rename_i r p snap hv;rw[hv] at hs;split at q1
   ·rename_i qT;obtain ⟨hr,t',m',H',v',cn,dp,F',h1,ey,h3,h4,h5,h6⟩:=m_ h2 q1;split at h1
    ·rename_i hc;simp only[aC,bH] at hc;obtain ⟨jS,hH⟩:=hc;subst hH;obtain ⟨e1,h1⟩:=dh h1;subst e1;obtain ⟨pl,g1,g2,g3⟩:=hs.2 qT;obtain ⟨xb,NZ,Fe,w2,A3,D2,F3,c1,c2,c3,c4,c5⟩:=O0 h2 (K:=λσ'=>K (σ'.cq o.dst (.val (.int .i64) ((min (List.length yv) (List.length v'):Nat):Int)))) ⟨ey⟩ jS hf (lo:=0) (n:=min (List.length yv) (List.length v')) Bys (iZ _ _) q4.newsLen q4.one q5 h1;rw[c1] at g1;injection g1 with g1;subst g1;simp only[ep (.aa e) _ rfl] at g2;refine qm (run xb (List.length v') NZ w2 g2 ?_) (cx c3 c2 ⟨[.int .i64 _],rfl,rfl⟩ (λ_ _ _ _ e=>by cases e))
     cases xb with
     | none=>grind
     | some ad=>
      obtain ⟨j1,j2,j3,j4⟩:=c5 ad rfl;obtain ⟨b,off,sp⟩:=ad;grind
    ·cases h1
   ·cases q1
  ·cases q1
 ·cases hk
end
def mu (w:World):(t:Ty)->Md->List Path->List Value->FP
 | .pair a b,m,H,cs=>λx i=>mu w a m.l (H.filterMap yq) (cs.take a.sz) x i+mu w b m.r (H.filterMap yr) (cs.drop a.sz) x i
 | .aa e,m,H,cs=>
  if hole H then λ_ _=>0 else if m.own then
   match cs with
   | [.slice (some ad) n cap]=>λx i=>d8 ad.block 0 (cap*e.sz) x i+bh n (λj=>mu w e m.e (H.filterMap (mp j)) (rd w ad.block (j*e.sz) e.sz)) x i
   | _=>λ_ _=>0
  else λ_ _=>0
 | .ptr e,m,H,cs=>
  if hole H then λ_ _=>0 else if m.own then
   match cs with
   | [.pointer (some ad)]=>λx i=>d8 ad.block 0 e.sz x i+mu w e m.e [] (rd w ad.block 0 e.sz) x i
   | _=>λ_ _=>0
  else λ_ _=>0
 | .map _ _,m,H,cs=>
  if hole H then λ_ _=>0 else if m.own then
   match cs with
   | [.map (some r)]=>d8 r 0 1
   | _=>λ_ _=>0
  else λ_ _=>0
 | _,_,_,_=>λ_ _=>0
section
variable {P:Program} {w w1:World} {A:Cells}
theorem am.fp:∀ (t:Ty) {m:Md} {H:List Path} {v:t.den} {cs:List Value} {F:FP},am P w A t m H v cs F->am P w A t m H v cs (mu w t m H cs)/\∀ b i,mu w t m H cs b i<=F b i:=by
 intro t
 induction t with
 | pair a b nY nH=>
  intro m H v cs F h;obtain ⟨h0,F1,F2,hs,h1,h2⟩:=h;obtain ⟨a1,a2⟩:=nY h1;obtain ⟨b1,b2⟩:=nH h2;exact ⟨⟨h0,_,_,λ_ _=>aG _,a1,b1⟩,λb i=>by grind [mu]⟩
 | aa e ih=>
  intro m H v cs F h;have h':=h;simp only[am] at h;split at h
  ·simp_all [am,mu]
  ·rename_i hh;split at h
   ·rename_i hm;obtain ⟨xa,cap,rfl,h1,h2,h3,h4⟩:=h
    cases xa with
    | none=>
     grind [mu,am]
    | some ad=>
     obtain ⟨g1,g2,g3,Fi,g4,g5⟩:=h4 ad rfl
     have each:∀ (i:Nat) (x:e.den),v[i]?=some x->∃ L:List Value,L.length=e.sz/\Has w ad.block (i*e.sz) L/\am P w A e m.e (H.filterMap (mp i)) x L (mu w e m.e (H.filterMap (mp i)) (rd w ad.block (i*e.sz) e.sz)) /\
       ∀ b k,mu w e m.e (H.filterMap (mp i)) (rd w ad.block (i*e.sz) e.sz) b k<=Fi i b k:=λi x hx=>by
      grind [f_]
     have hle:∀ b i,bh (List.length v) (λj=>mu w e m.e (H.filterMap (mp j)) (rd w ad.block (j*e.sz) e.sz)) b i<=bh (List.length v) Fi b i:=λb i=>NS b i λj hj=>by
      obtain ⟨_,_,_,_,q⟩:=each j _ (aB hj);exact q b i
     refine ⟨?_,λb i=>by grind [mu]⟩
     simp only[am,hh,hm,aL,aF,aU];refine ⟨some ad,cap,rfl,h1,h2,h3,λdp e'=>?_⟩
     injection e' with e';subst e';refine ⟨g1,g2,g3,λj=>mu w e m.e (H.filterMap (mp j)) (rd w ad.block (j*e.sz) e.sz),λb i=>by grind [mu],λi x hx=>?_⟩
     grind
   simp_all [am,mu]
 | ptr e ih=>
  intro m H v cs F h;simp only[am] at h;split at h
  ·simp_all [am,mu]
  ·rename_i hh;split at h
   ·grind [mu,f_,am]
   simp_all [am,mu]
 | arr n e ih=>intro m H v cs F h;exact ⟨h,λ_ _=>aX _⟩
 | map k v=>
  intro m H x cs F h;simp only[am] at h;split at h
  ·simp_all [am,mu]
  ·rename_i hh;split at h
   ·rename_i hm;obtain ⟨h1,h2,r,wD,rfl,h4,h5,h6,h7⟩:=h;refine ⟨?_,λb i=>?_⟩
    ·simp only[am,hh,hm,aL,aF,aU];exact ⟨h1,h2,r,wD,rfl,h4,by simp[mu,hh,hm,d8],h6,h7⟩
    ·simp only[mu,hh,hm,aL,aF,aU,d8];grind
   simp_all [am,mu]
 | _=>intro m H v cs F h;exact ⟨h,λ_ _=>aX _⟩
theorem WC:∀ (t:Ty) {m:Md} {H:List Path} {v:t.den} {cs:List Value} {F:FP},am P w A t m H v cs F->(∀ b i,1<=F b i->∀ u,ce w b i=some u->ce w1 b i=some u)->mu w1 t m H cs=mu w t m H cs:=by
 intro t
 induction t with
 | pair a b nY nH=>
  intro m H v cs F h hF;obtain ⟨h0,F1,F2,hs,h1,h2⟩:=h;have e1:=nY h1 (λb i hp=>hF b i (by grind));have e2:=nH h2 (λb i hp=>hF b i (by grind));simp_all [mu]
 | aa e ih=>
  intro m H v cs F h hF;simp only[am] at h;split at h
  ·simp_all [mu]
  ·rename_i hh;split at h
   ·rename_i hm;obtain ⟨xa,cap,rfl,h1,h2,h3,h4⟩:=h
    cases xa with
    | none=>simp only[mu]
    | some ad=>
     obtain ⟨g1,g2,g3,Fi,g4,g5⟩:=h4 ad rfl;simp only[mu,hh,hm,aL,aF,aU];funext b i;congr 1;refine congrFun (congrFun (zt λj hj=>?_) b) i;obtain ⟨L,l1,l2,l3⟩:=g5 j _ (aB hj);have hle:j*e.sz+e.sz<=cap*e.sz:=by rw[<-eP];exact bD _ Bys
     have l2':Has w1 ad.block (j*e.sz) L:=λk u hu=>hF _ _ (by
      grind [d8]) u (l2 k u hu)
     grind [f_,dw]
   simp_all [mu]
 | ptr e ih=>
  intro m H v cs F h hF;simp only[am] at h;split at h
  ·simp_all [mu]
  ·rename_i hh;split at h
   ·rename_i hm;obtain ⟨b0,rfl,h1,L,F1,h2,h3,h4,h5⟩:=h
    have h3':Has w1 b0 0 L:=λk u hu=>hF _ _ (by
     grind [d8]) u (h3 k u hu)
    simp only[mu,hh,hm,aL,aF,aU,f_ h3 h2,f_ h3' h2];rw[ih h5 (λb i hp=>hF b i (by grind))]
   simp_all [mu]
 | _=>intro m H v cs F h hF;rfl
theorem am.indep {A':Cells}:∀ (t:Ty) {v:t.den} {cs:List Value} {F:FP},t.sn=true->am P w A t (ai t) [] v cs F->am P w A' t (ai t) [] v cs F:=by
 intro t
 induction t with
 | pair a b nY nH=>
  intro v cs F hn h;simp only[Ty.sn,aC] at hn;obtain ⟨h0,F1,F2,hs,h1,h2⟩:=h;exact ⟨h0,F1,F2,hs,nY hn.1 h1,nH hn.2 h2⟩
 | aa e ih=>
  intro v cs F hn h;simp only[am,hole,bU,aF,aU,ai,wU,Md.own,aL] at h ⊢;obtain ⟨xa,cap,h1,h2,h3,h4,h5⟩:=h;refine ⟨xa,cap,h1,h2,h3,h4,λad e'=>?_⟩
  obtain ⟨g1,g2,g3,Fi,g4,g5⟩:=h5 ad e';refine ⟨g1,g2,g3,Fi,g4,λi x hx=>?_⟩
  obtain ⟨L,l1,l2,l3⟩:=g5 i x hx;exact ⟨L,l1,l2,ih hn l3⟩
 | ptr e ih=>
  intro v cs F hn h;simp only[am,hole,bU,aF,aU,ai,wU,Md.own,aL] at h ⊢;obtain ⟨b,h1,h2,L,F1,h3,h4,h5,h6⟩:=h;exact ⟨b,h1,h2,L,F1,h3,h4,h5,ih hn h6⟩
 | arr n e ih=>
  intro v cs F hn h;exact ⟨h.1,Ro.indep _ (by have:=h.2.1;grind [Ty.flat]) hn h.2⟩
 | fn=>grind [Ty.sn]
 | map k v=>
  grind [Ty.sn,am,wU,Md.own,Ro.indep]
 | _=>intro v cs F hn h;exact h
theorem am.free {A':Cells} {t:Ty} {m:Md} {v:t.den} {cs:List Value} {F:FP} (ho:(t.flat||decide (m=ai t))=true) (hn:t.sn=true) (h:am P w A t m [] v cs F):am P w A' t m [] v cs F:=by
 grind [Ro.flat,Ro.indep,am.flat,am.indep]
def World.news (w w2:World):World:={ w2 with heap:=(w.heap.toList++w2.heap.toList.drop w.heap.size).toArray }
theorem O1 {w2:World} (h:w.heap.size<=w2.heap.size) (k:Nat):(World.news w w2).heap[k]?=if k < w.heap.size then w.heap[k]? else w2.heap[k]?:=by
 grind [World.news]
theorem Br {w2:World} (h:w.heap.size<=w2.heap.size):(World.news w w2).heap.size=w2.heap.size:=by grind [World.news]
theorem xp {w2:World} (h:w.heap.size<=w2.heap.size) {b:Nat} (hb:b < w.heap.size):(World.news w w2).heap[b]?=w.heap[b]?:=by grind [O1]
theorem Gf {w2:World} (h:w.heap.size<=w2.heap.size) {b:Nat} (hb:w.heap.size<=b):(World.news w w2).heap[b]?=w2.heap[b]?:=by grind [O1]
theorem EJ {w2:World} {b:Nat} (h:w2.heap[b]?=w.heap[b]?) (i:Nat):ce w2 b i=ce w b i:=CU h i
theorem A6 {w2:World} {b:Nat} (h:w2.heap[b]?=w.heap[b]?) (i:Nat):w2.frozen? ⟨b,i,none⟩=w.frozen? ⟨b,i,none⟩:=by simp[World.frozen?,h]
theorem zK {w2:World} {b:Nat} (h:w2.heap[b]?=w.heap[b]?) (n:Nat×Bool):jR w b n↔jR w2 b n:=by grind [jR]
theorem jR.lt {b:Nat} {n:Nat×Bool} (h:jR w b n):b < w.heap.size:=by
 obtain ⟨c,e,fr,h1,_⟩:=h;grind
theorem KY {w2:World} {F:FP} (h:Ext w w2 F):Ext w (World.news w w2) (λ_ _=>0)/\Ext (World.news w w2) w2 F:=by
 have hs:=h.size
 refine ⟨⟨by grind [Br],λb i hb _ u hu=>by grind [EJ,xp],λb n hn=>(zK (xp hs hn.lt) n).1 hn,λb i hb=>A6 (xp hs hb) i,h.os,h.tape,h.output,λb hb _=>xp hs hb,h.drawn⟩,
  ⟨by grind [Br],λb i hb hz u hu=>?_,λb n hn=>?_,λb i hb=>?_,rfl,rfl,rfl,λb hb hz=>?_,aG _⟩⟩
 ·by_cases Df:b < w.heap.size
  ·rw[EJ (xp hs Df)] at hu;exact h.cell b i Df hz u hu
  grind [EJ,Gf]
 ·by_cases Df:b < w.heap.size
  ·exact h.y0 b n ((zK (xp hs Df) n).2 hn)
  grind [zK,Gf]
 ·by_cases Df:b < w.heap.size
  ·rw[A6 (xp hs Df)];exact h.BU b i Df
  grind [A6,Gf]
 ·by_cases Df:b < w.heap.size
  ·rw[xp hs Df];exact h.obj b Df hz
  grind [Gf]
end
def ArgRel (P:Program) (w:World) (A:Cells) (ho:List Path->Bool) (pm:PM) (t:Ty) (v:t.den) (x:Value) (F:FP):Prop:=
 match pm with
 | .ro=>∃ cs,x=dj t cs/\Ro P w A t v cs
 | .fix f=>(∃ cs,x=dj t cs/\Ro P w A t v cs)/\∀ e:t=.fn,(e ▸ v:Ty.fn.den).1=f
 | .ii m _=>∃ b o L F1,x=.pointer (some ⟨b,o,none⟩)/\L.length=t.sz/\Has w b o L/\(∀ j,j < t.sz->w.frozen? ⟨b,o+j,none⟩=false)/\(∀ b' i,d8 b o t.sz b' i+F1 b' i<=F b' i)/\am P w A t m [] v L F1
 | .oS m=>∃ cs,x=dj t cs/\am P w A t m [] v cs F
 | .pN m=>∃ H cs,ho H=true/\x=dj t cs/\am P w A t m H v cs F
 | .tq m=>∃ b o L F1,x=.pointer (some ⟨b,o,none⟩)/\L.length=t.sz/\Has w b o L/\(∀ j,j < t.sz->w.frozen? ⟨b,o+j,none⟩=false)/\(∀ b' i,d8 b o t.sz b' i+F1 b' i<=F b' i)/\am P w A t m [] v L F1
def rx (P:Program) (w:World) (A:Cells) (ho:List Path->Bool):(ps:List (PM×Ty))->(bq (ps.map (·.2))).den->List Value->FP->Prop
 | [],_,xs,_=>xs=[]
 | (pm,t)::ps,v,xs,F=>∃ (x:Value) (U_:List Value) (F1 F2:FP),xs=x::U_/\(∀ b i,F1 b i+F2 b i<=F b i)/\ArgRel P w A ho pm t v.1 x F1/\rx P w A ho ps v.2 U_ F2
abbrev Ru:List Path->Bool:=λH=>H.isEmpty
theorem rx.none {P:Program} {w:World} {A:Cells} {ho:List Path->Bool} (hh:∀ H,ho H=true->H=[]):∀ (ps:List (PM×Ty)) {v:(bq (ps.map (·.2))).den} {xs:List Value} {F:FP},rx P w A ho ps v xs F->rx P w A Ru ps v xs F
 | [],_,_,_,h=>h
 | (pm,t)::ps,_,_,_,⟨x,U_,F1,F2,h1,h2,h3,h4⟩=>⟨x,U_,F1,F2,h1,h2,by
  cases pm with
  | pN m=>obtain ⟨H,cs,g1,g2⟩:=h3;rw[hh H g1] at g2;exact ⟨[],cs,rfl,g2⟩
  | _=>exact h3,rx.none hh ps h4⟩
def qo (P:Program) (w:World) (A:Cells):(ps:List (PM×Ty))->(bq (mR ps)).den->List Value->FP->Prop
 | [],_,_,_=>True
 | (.ro,_)::ps,v,xs,F=>qo P w A ps v xs.tail F
 | (.fix _,_)::ps,v,xs,F=>qo P w A ps v xs.tail F
 | (.tq _,_)::ps,v,xs,F=>qo P w A ps v xs.tail F
 | (.pN _,_)::ps,v,xs,F=>qo P w A ps v xs.tail F
 | (.ii _ m,t)::ps,v,xs,F=>∃ (F1 F2:FP),(∀ b i,F1 b i+F2 b i<=F b i)/\(∃ b o L F3,xs.head?=some (.pointer (some ⟨b,o,none⟩))/\L.length=t.sz/\Has w b o L/\(∀ b' i,d8 b o t.sz b' i+F3 b' i<=F1 b' i)/\am P w A t m [] v.1 L F3)/\qo P w A ps v.2 xs.tail F2
 | (.oS m,t)::ps,v,xs,F=>∃ (F1 F2:FP),(∀ b i,F1 b i+F2 b i<=F b i)/\(∃ cs,xs.head?=some (dj t cs)/\am P w A t m [] v.1 cs F1)/\qo P w A ps v.2 xs.tail F2
def pz (P:Program) (w:World) (A:Cells) (rs:List LV) (rv:Value) (F:FP):Prop:=
 match rs with
 | []=>True
 | [x]=>∃ cs,rv=dj x.t cs/\am P w A x.t x.m [] x.v cs F
 | xs=>∃ (vs:Array Value) (Fi:Nat->FP),rv=.tuple vs/\(∀ b i,bh xs.length Fi b i<=F b i)/\∀ j x,xs[j]?=some x->∃ v cs,vs[j]?=some v/\v=dj x.t cs/\am P w A x.t x.m [] x.v cs (Fi j)
def Sound (P:Program) (f:FuncId) (g:wY):Prop:=
 ∀ (w:World) (A:Cells) (F0:FP) (v:(bq (g.ps.map (·.2))).den) (xs:List Value),rx P w A (g.Hv v) g.ps v xs F0->(∀ b i,F0 b i<=1)->(∀ b i,1<=F0 b i->¬ A b i)->(∀ b i,1<=F0 b i\/A b i->b < w.heap.size)->yB P w F0 ->
  ∀ out,g.F v=some out->Calls P f xs.toArray w λe w'=>∃ rv,e=.returned rv/\Ext w w' F0/\∃ (A':Cells) (G GR GM:FP),(∀ b i,A b i->A' b i)/\(∀ b i,A' b i->A b i\/1<=F0 b i\/w.heap.size<=b) /\
   (∀ b i,1<=G b i->1<=F0 b i\/w.heap.size<=b)/\(∀ b i,G b i<=1)/\(∀ b i,1<=G b i->¬ A' b i)/\(∀ b i,1<=G b i\/A' b i->b < w'.heap.size)/\(∀ b i,GR b i+GM b i<=G b i) /\
   pz P w' A' (mS g.rs out).1 rv GR/\qo P w' A' g.ps (mS g.rs out).2 xs GM
def xO (P:Program) (f:FuncId) (cap:Bool):Prop:=∃ fn,P.funcs[f]?=some fn/\(fn.name == "runtime.NumGoroutine")=false/\fn.body.isNone=false/\fn.nfree=(match cap with | true=>1 | false=>0)
section
variable {P:Program} {C:Ctx} {A:Cells} {X:FP} {σ:St} {a:Act} {w:World} {F:Nat->FP} {R:Type} {x:R}
theorem adf {K:St->Option R}:∀ (ps:List (PM×Ty)) (xs:List Operand) {σ:St} {A:Cells} {F:Nat->FP},eo P C A σ a w F->uo σ ps xs K=some x ->
  ∃ (A':Cells) (σ':St) (F':Nat->FP),K σ'=some x/\(∀ b i,A b i->A' b i)/\eo P C A' σ' a w F'/\σ'.n=σ.n:=by
 intro ps
 induction ps with
 | nil=>intro xs σ A F h hk;exact ⟨A,σ,F,by cases xs <;> exact hk,λ_ _ h=>h,h,rfl⟩
 | cons p ps ih=>
  intro xs σ A F h hk
  cases xs with
  | nil=>obtain ⟨pm,t⟩:=p;exact ⟨A,σ,F,by cases pm <;> exact hk,λ_ _ h=>h,h,rfl⟩
  | cons y xs=>
   obtain ⟨pm,t⟩:=p
   have fin:∀ {m' m:Md} {r:Nat} {p:Path},(if m'=m then uo σ ps xs K else yY σ r p m λσ=>uo σ ps xs K)=some x ->
     ∃ (A':Cells) (σ':St) (F':Nat->FP),K σ'=some x/\(∀ b i,A b i->A' b i)/\eo P C A' σ' a w F'/\σ'.n=σ.n:=λhk=>by
    grind [TJ]
   cases pm with
   | ro=>exact ih xs h hk
   | fix f=>exact ih xs h hk
   | ii m m'=>
    simp only[uo] at hk;split at hk
    ·split at hk
     ·obtain ⟨hr,t',m',H',v',cn,dp,F',h1,_⟩:=m_ h hk;exact fin h1
     ·cases hk
    ·cases hk
   | tq m=>
    simp only[uo] at hk;split at hk
    ·split at hk
     ·obtain ⟨hr,t',m',H',v',cn,dp,F',h1,_⟩:=m_ h hk;exact fin h1
     ·cases hk
    ·cases hk
   | oS m=>
    simp only[uo] at hk;split at hk
    ·split at hk
     ·obtain ⟨hr,t',m',H',v',cn,dp,F',h1,_⟩:=m_ h hk;exact fin h1
     ·cases hk
    ·cases hk
   | pN m=>
    simp only[uo] at hk;split at hk
    ·split at hk
     ·obtain ⟨hr,t',m',H',v',cn,dp,F',h1,_⟩:=m_ h hk;exact fin h1
     ·cases hk
    ·cases hk
theorem YY (h:eo P C A σ a w F) {r:Nat} {t:Ty} {m:Md} {v:t.den} (hg:σ.get r=.box t m [] v):∃ (A':Cells) (F':Nat->FP),(∀ b i,A b i->A' b i)/\eo P C A' ((σ.put r .dead).put r (.cp t v)) a w F'/\Ro P w A' (.ptr t) v [tmp a r]/\r < σ.n:=by
 have hi:r < σ.n:=by
  grind [nQ]
 have hs:=h.jz r hi;rw[hg] at hs;obtain ⟨b,off,L,F1,s1,s2,s3,s4,s5,s6⟩:=hs;have h1:=h.put hi (s:=.dead) (v:=tmp a r) (Fd:=λ_ _=>0) (X':=F r) trivial (λb k=>by omega) (λ_ _ _ _ e=>by cases e);rw[tM] at h1;have h2:=h1.giveUp (A1:=λb' i'=>A b' i'\/1<=F r b' i') (X1:=λ_ _=>0) (λ_ _ h=>.inl h) (λb' i' ha=>ha.imp id λhp=>⟨hp,rfl⟩) (λ_ _=>aX _)
 have yh:Ro P w (λb' i'=>A b' i'\/1<=F r b' i') (.ptr t) v [tmp a r]:=
  ⟨⟨b,off,none⟩,by rw[s1],rfl,L,s2,(λj u hu=>⟨s3 j u hu,.inr (by
   grind [d8])⟩),am.zu (λ_ _ h=>.inl h) t s6 (λb' i' hp=>.inr (by grind))⟩
 have h3:=h2.put (d:=r) hi (s:=.cp t v) (v:=tmp a r) (Fd:=λ_ _=>0) (X':=λ_ _=>0) yh (λb k=>by omega) (λ_ _ _ _ e=>by cases e);grind [tM]
theorem adg (h:eo P C A σ a w F) {i:Nat} (hi:i < σ.n) {t:Ty} {v:t.den} (yh:Ro P w A (.ptr t) v [tmp a i]):∃ F':Nat->FP,eo P C A ((σ.put i .dead).put i (.cp t v)) a w F':=by
 have h1:=h.put hi (s:=.dead) (v:=tmp a i) (Fd:=λ_ _=>0) (X':=F i) trivial (λb k=>by omega) (λ_ _ _ _ e=>by cases e);rw[tM] at h1;have h2:=h1.giveUp (A1:=A) (X1:=λ_ _=>0) (λ_ _ h=>h) (λb' i' ha=>.inl ha) (λ_ _=>aX _);have h3:=h2.put (d:=i) hi (s:=.cp t v) (v:=tmp a i) (Fd:=λ_ _=>0) (X':=λ_ _=>0) yh (λb k=>by omega) (λ_ _ _ _ e=>by cases e);grind [tM]
theorem aaO (h:eo P C A σ a w F) {i r:Nat} {snap:List Nat} {t:Ty} {m:Md} {H:List Path} {v:t.den} (hi:i < σ.n) (hs:σ.get i=.ptr r [] snap) (a_:σ.ok r snap=true) (hg:σ.get r=.box t m H v):tmp a i=tmp a r:=by
 have h1:=h.jz i hi;rw[hs] at h1;obtain ⟨pl,b,o,p1,p2,p3,p4⟩:=h1.2 a_
 have hr:r < σ.n:=by
  grind [nQ]
 have h2:=h.jz r hr;rw[hg] at h2;obtain ⟨b2,off,L,F1,s1,_⟩:=h2;grind [place,ej,cd]
theorem aey {K:St->Option R}:∀ (ps:List (PM×Ty)) (xs:List Operand) {σ:St} {A:Cells} {F:Nat->FP},eo P C A σ a w F->CS σ ps xs K=some x ->
  ∃ (A':Cells) (σ':St) (F':Nat->FP),K σ'=some x/\(∀ b i,A b i->A' b i)/\eo P C A' σ' a w F'/\σ'.n=σ.n:=by
 intro ps
 induction ps with
 | nil=>intro xs σ A F h hk;exact ⟨A,σ,F,by cases xs <;> exact hk,λ_ _ h=>h,h,rfl⟩
 | cons p ps ih=>
  intro xs σ A F h hk
  cases xs with
  | nil=>obtain ⟨pm,t⟩:=p;exact ⟨A,σ,F,by cases pm <;> exact hk,λ_ _ h=>h,h,rfl⟩
  | cons y xs=>
   obtain ⟨pm,t⟩:=p
   have fin:∀ {r:Nat} {p:Path},(Ax σ r p λσ=>CS σ ps xs K)=some x ->
     ∃ (A':Cells) (σ':St) (F':Nat->FP),K σ'=some x/\(∀ b i,A b i->A' b i)/\eo P C A' σ' a w F'/\σ'.n=σ.n:=λhk=>by
    grind [Bp]
   cases pm with
   | fix f=>exact ih xs h hk
   | ii m m'=>exact ih xs h hk
   | tq m=>exact ih xs h hk
   | oS m=>exact ih xs h hk
   | pN m=>exact ih xs h hk
   | ro=>
    simp only[CS] at hk;split at hk
    ·grind
    ·split at hk
     ·grind
     ·grind
     ·rename_i r p snap Rk;split at hk
      ·rename_i a_;split at hk
       ·rename_i t m H v hg;split at hk
        ·rename_i hc;simp only[aC,bH] at hc;obtain ⟨hH,Dd⟩:=hc;subst hH;obtain ⟨A1,F1,Ia,h3,h4,h5⟩:=YY h hg
         have go:∀ {n_:St} {F2:Nat->FP},eo P C A1 n_ a w F2->CS n_ ps xs K=some x->n_.n=σ.n->∃ (A':Cells) (σ':St) (F':Nat->FP),K σ'=some x/\(∀ b i,A b i->A' b i)/\eo P C A' σ' a w F'/\σ'.n=σ.n:=λh3 hk hn=>by
          grind
         cases y with
         | tmp i=>
          simp only[aec] at hk;split at hk
          ·exact go h3 hk rfl
          ·rename_i D7;simp only[Bool.or_eq_false_iff,Bool.not_eq_false',Nat.blt_eq] at D7;obtain ⟨g1,g2⟩:=D7;have hi:i < σ.n:=g2;have UY:i≠r:=λe=>by simp_all
           have hs:σ.get i=.ptr r [] snap:=by
            grind [eg]
           have he:=aaO h hi hs a_ hg;rw[<-he] at h4;obtain ⟨F3,h6⟩:=adg h3 (i:=i) g2 h4;exact go h6 hk rfl
         | const c=>exact go h3 hk rfl
         | func f=>exact go h3 hk rfl
         | global g=>exact go h3 hk rfl
        ·cases hk
       ·cases hk
      ·cases hk
     grind
def AX (A:Cells) (F:Nat->FP) (n r0:Nat) (ow:Bool):Cells:=λb i=>A b i\/(ow=true/\∃ j,j < n/\j≠r0/\1<=F j b i)
def acE (P:Program) (A:Cells) (σ:St) (a:Act) (w:World) (F:Nat->FP) (ow:Bool) (pm:PM) (t:Ty) (v:t.den) (s:Slot) (tv:Value) (wp:Option (Nat×Path)):Prop:=
 match pm with
 | .ro=>wp=none/\∃ cs,tv=dj t cs/\Ro P w (λb i=>A b i\/(ow=true/\∃ r ∈ oT s,r < σ.n/\1<=F r b i)) t v cs
 | .fix f=>wp=none/\(∃ cs,tv=dj t cs/\Ro P w A t v cs)/\∀ e:t=.fn,(e ▸ v:Ty.fn.den).1=f
 | .ii m _=>∃ r p snap b o cs,s=.ptr r p snap/\wp=some (r,p)/\At σ r p t m [] v/\tv=.pointer (some ⟨b,o,none⟩)/\place σ a w r p=some ⟨t,[],cs,some (b,o)⟩
 | .oS m=>∃ r p snap cs ad,s=.ref r p snap/\wp=some (r,p)/\At σ r p t m [] v/\tv=dj t cs/\place σ a w r p=some ⟨t,[],cs,ad⟩
 | .pN m=>∃ H r p snap cs ad,s=.ref r p snap/\wp=some (r,p)/\At σ r p t m H v/\tv=dj t cs/\place σ a w r p=some ⟨t,H,cs,ad⟩
 | .tq m=>∃ r p snap b o cs,s=.ptr r p snap/\wp=some (r,p)/\At σ r p t m [] v/\tv=.pointer (some ⟨b,o,none⟩)/\place σ a w r p=some ⟨t,[],cs,some (b,o)⟩
def Bs (P:Program) (A:Cells) (σ:St) (a:Act) (w:World) (F:Nat->FP) (ow:Bool):(ps:List (PM×Ty))->(bq (ps.map (·.2))).den->List Slot->List Value->List (Nat×Path)->Prop
 | [],_,ss,qV,ws=>ss=[]/\qV=[]/\ws=[]
 | (pm,t)::ps,v,ss,qV,ws=>∃ s Mu tv xq wp zL,ss=s::Mu/\qV=tv::xq/\ws=(match (generalizing:=false) wp with | some x=>x::zL | none=>zL)/\acE P A σ a w F ow pm t v.1 s tv wp/\Bs P A σ a w F ow ps v.2 Mu xq zL
def yP (P:Program) (A:Cells) (σ:St) (a:Act) (w:World):List Slot->List Value->Prop
 | [],[]=>True
 | s::ss,tv::qV=>(dn P A σ a w tv s (λ_ _=>0)\/∃ xs,s=.ug xs)/\yP P A σ a w ss qV
 | _,_=>False
theorem Mv (h:eo P C A σ a w F):∀ (xs:List Operand) {ss:List Slot} {qV:List Value},xs.all (d_ P)=true->yP P A σ a w ss qV->yP P A σ a w (xs.map (eg σ)++ss) (xs.map a.eval++qV)
 | [],_,_,_,h2=>h2
 | y::xs,_,_,a_,h2=>by
  simp only[eO,aC] at a_;exact ⟨gk h a_.1,Mv h xs a_.2 h2⟩
theorem afW (h:eo P C A σ a w F) {s:Slot} {tv:Value} {G:FP} (hs:dn P A σ a w tv s G) {t:Ty} {K:t.den->Option R} (hk:QR σ s t K=some x) :
  ∃ (v:t.den) (cs:List Value),K v=some x/\tv=dj t cs/\Ro P w A t v cs:=by
 cases s with
 | val t' v=>
  obtain ⟨e,hk⟩:=dh hk;subst e;obtain ⟨cs,h1,h2⟩:=hs;grind
 | cp t' v=>
  obtain ⟨e,hk⟩:=dh hk;subst e;exact ⟨v,[tv],hk,(ep _ _ rfl).symm,hs⟩
 | zn=>
  simp only[QR] at hk;split at hk
  ·rename_i t e;have hs:tv=.slice none 0 0:=hs;subst hs;exact ⟨[],_,hk,(ep _ _ rfl).symm,none,0,rfl,aG _,λ_=>rfl,λad lI=>by cases lI⟩
  ·cases hk
 | ref r p snap=>
  simp only[QR] at hk;split at hk
  ·rename_i a_;obtain ⟨hr,t',m',H',v',cn,dp,F',h1,h2,h3,h4,h5,h6⟩:=m_ h hk;obtain ⟨pl,g1,g2,g3⟩:=hs.2 a_;grind [dh,am.flat,am.ro,jh]
  ·cases hk
 | sub r p snap lo hi=>
  simp only[QR] at hk;split at hk
  ·rename_i a_;obtain ⟨hr,t',m',H',v',cn,dp,F',h1,h2,h3,h4,h5,h6⟩:=m_ h hk;obtain ⟨pl,e,xa,n,cap,yu,cap',g1,g2,g3,g4,g5,g6,g7,U0,g8,g9,g10⟩:=hs.2 a_;rw[h3] at g1;injection g1 with g1;subst g1;simp only at g2 g3;subst g2;subst g3;split at h1
   ·rename_i hc;simp only[aC,bH,bE] at hc;obtain ⟨hH,hm⟩:=hc;subst hH;subst hm;obtain ⟨e',h1⟩:=dh h1;subst e';exact ⟨_,_,h1,by rw[ep _ _ rfl];exact g6,Ro.piece (am.ro _ (jh _) h4) g4 g5 g7 g8 g9⟩
   ·cases h1
  ·cases hk
 | _=>simp[QR] at hk
theorem aez (h:eo P C A σ a w F) {ow:Bool} {pm:PM} {t:Ty} {s:Slot} {tv:Value} (hs:dn P A σ a w tv s (λ_ _=>0)\/∃ xs,s=.ug xs) {K:t.den->Option (Nat×Path)->Option R} (hk:CR σ ow pm t s K=some x) :
  ∃ v wp,K v wp=some x/\acE P A σ a w F ow pm t v s tv wp:=by
 rcases hs with hs | ⟨xs,rfl⟩
 rotate_left
 ·cases pm with
  | ro=>cases ow <;> simp[CR,vj,QR] at hk
  | _=>simp[CR] at hk
 cases pm with
 | ro=>
  cases ow with
  | true=>
   simp only[CR] at hk;have bc:=Ib h hk;obtain ⟨v,cs,h1,h2,h3⟩:=OV h hs hk;exact ⟨v,none,h1,rfl,cs,h2,Ro.mono (λ_ _ _ _ h=>h) (λb i ha=>ha.imp id λ⟨r,hr,hp⟩=>⟨rfl,r,hr,bc r hr,hp⟩) t h3⟩
  | false=>
   simp only[CR] at hk;obtain ⟨v,cs,h1,h2,h3⟩:=afW h hs hk;exact ⟨v,none,h1,rfl,cs,h2,Ro.mono (λ_ _ _ _ h=>h) (λb i ha=>.inl ha) t h3⟩
 | fix f=>
  simp only[CR] at hk;split at hk
  ·rename_i v;split at hk
   ·rename_i hf;obtain ⟨e,hk⟩:=dh hk;subst e;obtain ⟨cs,h1,h2⟩:=hs;exact ⟨v,none,hk,rfl,⟨cs,h1,h2⟩,λe=>by simpa using hf⟩
   ·cases hk
  ·cases hk
 | ii m m'=>
  simp only[CR] at hk;split at hk
  ·rename_i r p snap;split at hk
   ·rename_i a_;obtain ⟨hr,t',m',H',v',cn,dp,F',h1,h2,h3,h4,h5,h6⟩:=m_ h hk;obtain ⟨pl,b,o,g1,g2,g3,g4⟩:=hs.2 a_;rw[h3] at g1;injection g1 with g1;subst g1;simp only at g2;subst g2;split at h1
    ·rename_i hc;simp only[aC,bH,bE] at hc;obtain ⟨hH,hm⟩:=hc;subst hH;subst hm;obtain ⟨e,h1⟩:=dh h1;subst e;exact ⟨v',_,h1,r,p,snap,b,o,cn,rfl,rfl,⟨h2⟩,g3,h3⟩
    ·cases h1
   ·cases hk
  ·cases hk
 | tq m=>
  simp only[CR] at hk;split at hk
  ·rename_i r p snap;split at hk
   ·rename_i a_;obtain ⟨hr,t',m',H',v',cn,dp,F',h1,h2,h3,h4,h5,h6⟩:=m_ h hk;obtain ⟨pl,b,o,g1,g2,g3,g4⟩:=hs.2 a_;rw[h3] at g1;injection g1 with g1;subst g1;simp only at g2;subst g2;split at h1
    ·rename_i hc;simp only[aC,bH,bE] at hc;obtain ⟨hH,hm⟩:=hc;subst hH;subst hm;obtain ⟨e,h1⟩:=dh h1;subst e;exact ⟨v',_,h1,r,p,snap,b,o,cn,rfl,rfl,⟨h2⟩,g3,h3⟩
    ·cases h1
   ·cases hk
  ·cases hk
 | oS m=>
  simp only[CR] at hk;split at hk
  ·rename_i r p snap;split at hk
   ·rename_i a_;obtain ⟨hr,t',m',H',v',cn,dp,F',h1,h2,h3,h4,h5,h6⟩:=m_ h hk;obtain ⟨pl,g1,g2,g3⟩:=hs.2 a_;rw[h3] at g1;injection g1 with g1;subst g1;split at h1
    ·rename_i hc;simp only[aC,bH,bE] at hc;obtain ⟨hH,hm⟩:=hc;subst hH;subst hm;obtain ⟨e,h1⟩:=dh h1;subst e;exact ⟨v',_,h1,r,p,snap,cn,dp,rfl,rfl,⟨h2⟩,g2,h3⟩
    ·cases h1
   ·cases hk
  ·cases hk
 | pN m=>
  simp only[CR] at hk;split at hk
  ·rename_i r p snap;split at hk
   ·rename_i a_;obtain ⟨hr,t',m',H',v',cn,dp,F',h1,h2,h3,h4,h5,h6⟩:=m_ h hk;obtain ⟨pl,g1,g2,g3⟩:=hs.2 a_;rw[h3] at g1;injection g1 with g1;subst g1;split at h1
    ·rename_i hm;subst hm;obtain ⟨e,h1⟩:=dh h1;subst e;exact ⟨v',_,h1,H',r,p,snap,cn,dp,rfl,rfl,⟨h2⟩,g2,h3⟩
    ·cases h1
   ·cases hk
  ·cases hk
theorem adh (h:eo P C A σ a w F) {ow:Bool}:∀ (ps:List (PM×Ty)) {ss:List Slot} {qV:List Value} {K:(bq (ps.map (·.2))).den->List (Nat×Path)->Option R},yP P A σ a w ss qV->Qj σ ow ps ss K=some x ->
  ∃ v ws,K v ws=some x/\Bs P A σ a w F ow ps v ss qV ws:=by
 intro ps
 induction ps with
 | nil=>
  intro ss qV K hs hk
  cases ss with
  | nil=>
   cases qV with
   | nil=>exact ⟨(),[],hk,rfl,rfl,rfl⟩
   | cons _ _=>exact hs.elim
  | cons _ _=>cases hk
 | cons p ps ih=>
  intro ss qV K hs hk;obtain ⟨pm,t⟩:=p
  cases ss with
  | nil=>cases hk
  | cons s ss=>
   cases qV with
   | nil=>exact hs.elim
   | cons tv qV=>
    simp only[Qj] at hk;obtain ⟨v,wp,h1,h2⟩:=aez h hs.1 hk;obtain ⟨vs,ws,h3,h4⟩:=ih hs.2 h1;exact ⟨(v,vs),_,h3,s,ss,tv,qV,wp,ws,rfl,rfl,rfl,h2,h4⟩
theorem sd {ow:Bool} {A0:Cells} (hA:∀ b i,A b i->A0 b i) {r0:Nat} (hX:ow=true->∀ b i j,j < σ.n->j≠r0->1<=F j b i->A0 b i):∀ (ps:List (PM×Ty)) {v:(bq (ps.map (·.2))).den} {ss:List Slot} {qV:List Value},
  Bs P A σ a w F ow ps v ss qV []->(∀ r ∈ ss.flatMap oT,r < σ.n->r≠r0)->(∀ ho,rx P w A0 ho ps v qV (λ_ _=>0))/\(∀ (σ':St) (K:St->Option R) (out:(bq (mR ps)).den),uq σ' ps [] out K=K σ'):=by
 intro ps
 induction ps with
 | nil=>intro v ss qV h hr;exact ⟨λ_=>h.2.1,λσ' K out=>rfl⟩
 | cons p ps ih=>
  intro v ss qV h hr;obtain ⟨pm,t⟩:=p;obtain ⟨s,Mu,tv,xq,wp,zL,rfl,rfl,hw,mX,qB⟩:=h;have pP:∀ b i,A b i->∀ u,ce w b i=some u->ce w b i=some u:=λ_ _ _ _ h=>h
  cases wp with
  | some y=>cases hw
  | none=>
   have hw:[]=zL:=hw;subst hw;obtain ⟨i1,i2⟩:=ih qB (λr hm=>hr r (by grind))
   cases pm with
   | ro=>
    obtain ⟨_,cs,h1,h2⟩:=mX;refine ⟨λho=>⟨tv,xq,λ_ _=>0,λ_ _=>0,rfl,λ_ _=>aG _,⟨cs,h1,Ro.mono (λ_ _ _ _ h=>h) (λb i ha=>?_) t h2⟩,i1 ho⟩,λσ' K out=>i2 σ' K out⟩
    grind
   | fix f=>
    obtain ⟨_,⟨cs,h1,h2⟩,h3⟩:=mX;exact ⟨λho=>⟨tv,xq,λ_ _=>0,λ_ _=>0,rfl,λ_ _=>aG _,⟨⟨cs,h1,Ro.mono (λ_ _ _ _ h=>h) hA t h2⟩,h3⟩,i1 ho⟩,λσ' K out=>i2 σ' K out⟩
   | ii m m'=>obtain ⟨r,p,snap,b,o,cs,_,e,_⟩:=mX;cases e
   | tq m=>obtain ⟨r,p,snap,b,o,cs,_,e,_⟩:=mX;cases e
   | oS m=>obtain ⟨r,p,snap,cs,ad,_,e,_⟩:=mX;cases e
   | pN m=>obtain ⟨H,r,p,snap,cs,ad,_,e,_⟩:=mX;cases e
theorem adi {t:Ty} {cs cn:List Value} (h1:cs.length=t.sz) (h2:∀ x ∈ cs,x.oneCell'=true) (h3:cn.length=t.sz) (h4:∀ x ∈ cn,x.oneCell'=true) (h:dj t cs=dj t cn):cs=cn:=by
 grind [mq]
theorem WD {ow:Bool} {r:Nat} {p:Path}:∀ (ps:List (PM×Ty)) {v:(bq (ps.map (·.2))).den} {ss:List Slot} {qV:List Value},
  Bs P A σ a w F ow ps v ss qV [(r,p)]->(ss.flatMap oT).count r<=1 ->
  1<=(ss.flatMap oT).count r/\∃ (vB tu HB:Bool) (t:Ty) (m:Md) (H:List Path) (v1:t.den) (cs:List Value) (ad:Option (Nat×Nat)),((HB=false->H=[])/\(HB=true->Wb ps=true)/\(LZ ps=true->vB=false)/\(va ps=true->J4 t=true))/\At σ r p t m H v1/\place σ a w r p=some ⟨t,H,cs,ad⟩/\(tu=true->∃ b o,ad=some (b,o)) /\
   (oN ps=true->(t.flat||decide (m=ai t))=true/\t.sn=true) /\
   (∀ (A0:Cells) (F0 Fp:FP),(∀ b i,A b i->A0 b i)->(ow=true->∀ b i j,j < σ.n->j≠r->1<=F j b i->A0 b i)->am P w A0 t m H v1 cs Fp ->
    (tu=true->∀ b o,ad=some (b,o)->Has w b o cs/\(∀ j,j < t.sz->w.frozen? ⟨b,o+j,none⟩=false)/\∀ b' i,d8 b o t.sz b' i+Fp b' i<=F0 b' i)->(tu=false->∀ b i,Fp b i<=F0 b i)->∀ ho,(HB=true->ho H=true)->rx P w A0 ho ps v qV F0) /\
   (HB=true->vB=true/\tu=false/\∀ (σ':St) (K:St->Option R) (out:(bq (mR ps)).den),uq σ' ps [(r,p)] out K=Ci σ' r p K) /\
   (vB=true->HB=false->∀ (σ':St) (K:St->Option R) (out:(bq (mR ps)).den),uq σ' ps [(r,p)] out K=match ym σ' r p t m t.zero (λ_=>some ()) with | some _=>K (σ'.put r .dead) | none=>none) /\
   (vB=false->∀ out:(bq (mR ps)).den,∃ (m2:Md) (o1:t.den),(oN ps=true->(t.flat||decide (m2=ai t))=true) /\
    (∀ (σ':St) (K:St->Option R),uq σ' ps [(r,p)] out K=ym σ' r p t m2 o1 λAB=>K (match tu with | true=>AB | false=>{ AB with vr:=(σ'.oG r (wC (en p+1))).vr,az:=σ'.az })) /\
    ∀ (w':World) (A':Cells) (GM:FP),qo P w' A' ps out qV GM->∃ cn F3,am P w' A' t m2 [] o1 cn F3/\(∀ b i,F3 b i<=GM b i)/\(tu=true->∀ b o,ad=some (b,o)->Has w' b o cn/\∀ b' i,d8 b o t.sz b' i+F3 b' i<=GM b' i) /\
     (tu=false->dj t cn=dj t cs)):=by
 intro ps
 induction ps with
 | nil=>intro v ss qV h hc;cases h.2.2
 | cons p0 ps ih=>
  intro v ss qV h hc;obtain ⟨pm,t⟩:=p0;obtain ⟨s,Mu,tv,xq,wp,zL,rfl,rfl,hw,mX,qB⟩:=h;simp only[dU,List.count_append] at hc ⊢
  cases pm with
  | ro=>
   obtain ⟨Bt,cs,h1,h2⟩:=mX;subst Bt;have hw:[(r,p)]=zL:=hw;subst hw;obtain ⟨c1,vB,tu,HB,t1,m1,H1,v1,sH,J6,q0,q1,q2,q3,q4,q5,q8,q7,q6⟩:=ih qB Bys;refine ⟨by omega,vB,tu,HB,t1,m1,H1,v1,sH,J6,⟨q0.1,q0.2.1,q0.2.2.1,λe=>q0.2.2.2 (by simp only[va,aC] at e;exact e.2)⟩,q1,q2,q3,q4,λA0 F0 Fp a1 a2 a3 a4 a5 ho a6=>⟨tv,xq,λ_ _=>0,F0,rfl,λb i=>by simp,⟨cs,h1,Ro.mono (λ_ _ _ _ h=>h) (λb i ha=>?_) t h2⟩,q5 A0 F0 Fp a1 a2 a3 a4 a5 ho a6⟩,λhV=>⟨(q8 hV).1,(q8 hV).2.1,λσ' K out=>(q8 hV).2.2 σ' K out⟩,λhE hV σ' K out=>q7 hE hV σ' K out,λhE out=>q6 hE out⟩
   rcases ha with ha | ⟨Bu,r',hm,bc,hp⟩
   ·exact a1 b i ha
   ·refine a2 Bu b i r' bc (λe=>?_) hp;subst e;have:=dL.2 hm;omega
  | fix f=>
   obtain ⟨Bt,⟨cs,h1,h2⟩,h3⟩:=mX;subst Bt;have hw:[(r,p)]=zL:=hw;subst hw;obtain ⟨c1,vB,tu,HB,t1,m1,H1,v1,sH,J6,q0,q1,q2,q3,q4,q5,q8,q7,q6⟩:=ih qB Bys;exact ⟨by omega,vB,tu,HB,t1,m1,H1,v1,sH,J6,⟨q0.1,q0.2.1,q0.2.2.1,λe=>q0.2.2.2 (by simp only[va] at e;exact e)⟩,q1,q2,q3,q4,λA0 F0 Fp a1 a2 a3 a4 a5 ho a6=>⟨tv,xq,λ_ _=>0,F0,rfl,λb i=>by simp,⟨⟨cs,h1,Ro.mono (λ_ _ _ _ h=>h) a1 t h2⟩,h3⟩,q5 A0 F0 Fp a1 a2 a3 a4 a5 ho a6⟩,λhV=>⟨(q8 hV).1,(q8 hV).2.1,λσ' K out=>(q8 hV).2.2 σ' K out⟩,λhE hV σ' K out=>q7 hE hV σ' K out,λhE out=>q6 hE out⟩
  | tq m=>
   obtain ⟨r1,p1,snap,b,o,cs,rfl,Bt,ey,C6,i9⟩:=mX;subst Bt;have hw:[(r,p)]=(r1,p1)::zL:=hw;injection hw with yj Dg;injection yj with yj Rv;subst yj;subst Dg;subst Rv;have Mw:(oT (.ptr r p snap)).count r=1:=by simp[oT]
   obtain ⟨n1,n2⟩:=sd (R:=R) (P:=P) (A0:=λb i=>True) (λ_ _ _=>trivial) (r0:=r) (λ_ _ _ _ _ _ _=>trivial) ps qB (λr' hm _ e=>by subst e;have:=dL.2 hm;omega);refine ⟨by omega,true,true,false,t,m,[],v.1,cs,some (b,o),⟨λ_=>rfl,(λe=>by cases e),(λe=>absurd e (by simp[LZ])),λe=>absurd e (by simp[va])⟩,ey,i9,λ_=>⟨b,o,rfl⟩,λho=>?_,λA0 F0 Fp a1 a2 a3 a4 a5 ho _=>?_,(λe=>by cases e),λ_ _ σ' K out=>?_,λe=>by cases e⟩
   ·simp only[oN,aC] at ho;exact ho.1
   ·obtain ⟨b1,b2,b3⟩:=a4 rfl b o rfl;obtain ⟨k1,_⟩:=sd (R:=R) (P:=P) a1 (r0:=r) a2 ps qB (λr' hm _ e=>by subst e;have:=dL.2 hm;omega);exact ⟨tv,xq,F0,λ_ _=>0,rfl,λb i=>aG _,⟨b,o,cs,Fp,C6,am.length _ a3,b1,b2,b3,a3⟩,k1 ho⟩
   ·show (match ym σ' r p t m t.zero (λ_=>some ()) with | some _=>uq (σ'.put r .dead) ps [] out K | none=>none)=_;split
    ·exact n2 _ K out
    ·rfl
  | ii m m'=>
   obtain ⟨r1,p1,snap,b,o,cs,rfl,Bt,ey,C6,i9⟩:=mX;subst Bt;have hw:[(r,p)]=(r1,p1)::zL:=hw;injection hw with yj Dg;injection yj with yj Rv;subst yj;subst Dg;subst Rv;have Mw:(oT (.ptr r p snap)).count r=1:=by simp[oT]
   obtain ⟨n1,n2⟩:=sd (R:=R) (P:=P) (A0:=λb i=>True) (λ_ _ _=>trivial) (r0:=r) (λ_ _ _ _ _ _ _=>trivial) ps qB (λr' hm _ e=>by subst e;have:=dL.2 hm;omega);refine ⟨by omega,false,true,false,t,m,[],v.1,cs,some (b,o),⟨λ_=>rfl,(λe=>by cases e),(λ_=>rfl),λe=>by simp only[va,aC] at e;exact e.1⟩,ey,i9,λ_=>⟨b,o,rfl⟩,λho=>?_,λA0 F0 Fp a1 a2 a3 a4 a5 ho _=>?_,(λe=>by cases e),(λe=>by cases e),λ_ out=>⟨m',out.1,λho=>?_,λσ' K=>?_,λw' A' GM hm=>?_⟩⟩
   ·simp only[oN,aC] at ho;exact ho.1
   ·obtain ⟨b1,b2,b3⟩:=a4 rfl b o rfl;obtain ⟨k1,_⟩:=sd (R:=R) (P:=P) a1 (r0:=r) a2 ps qB (λr' hm _ e=>by subst e;have:=dL.2 hm;omega);exact ⟨tv,xq,F0,λ_ _=>0,rfl,λb i=>aG _,⟨b,o,cs,Fp,C6,am.length _ a3,b1,b2,b3,a3⟩,k1 ho⟩
   ·simp only[oN,aC] at ho;exact ho.2.1
   ·show ym σ' r p t m' out.1 (λσ=>uq σ ps [] out.2 K)=_;congr 1;funext AB;exact n2 AB K out.2
   ·obtain ⟨F1,F2,h1,⟨b',o',L,F3,h2,h3,h4,h5,h6⟩,h7⟩:=hm;simp only[List.head?_cons,aQ,C6,Value.pointer.injEq,Addr.mk.injEq,eU] at h2;obtain ⟨rfl,rfl⟩:=h2;refine ⟨L,F3,h6,λb' i=>by have:=h5 b' i;have:=h1 b' i;omega,λ_ b2 o2 e=>?_,λe=>by cases e⟩
    simp only[aQ,bN] at e;obtain ⟨rfl,rfl⟩:=e;exact ⟨h4,λb' i=>by have:=h5 b' i;have:=h1 b' i;omega⟩
  | oS m=>
   obtain ⟨r1,p1,snap,cs,ad,rfl,Bt,ey,C6,i9⟩:=mX;subst Bt;have hw:[(r,p)]=(r1,p1)::zL:=hw;injection hw with yj Dg;injection yj with yj Rv;subst yj;subst Dg;subst Rv;have Mw:(oT (.ref r p snap)).count r=1:=by simp[oT]
   obtain ⟨n1,n2⟩:=sd (R:=R) (P:=P) (A0:=λb i=>True) (λ_ _ _=>trivial) (r0:=r) (λ_ _ _ _ _ _ _=>trivial) ps qB (λr' hm _ e=>by subst e;have:=dL.2 hm;omega);refine ⟨by omega,false,false,false,t,m,[],v.1,cs,ad,⟨λ_=>rfl,(λe=>by cases e),(λ_=>rfl),λe=>absurd e (by simp[va])⟩,ey,i9,(λe=>by cases e),λho=>?_,λA0 F0 Fp a1 a2 a3 a4 a5 ho _=>?_,(λe=>by cases e),(λe=>by cases e),λ_ out=>⟨m,out.1,λho=>?_,λσ' K=>?_,λw' A' GM hm=>?_⟩⟩
   ·simp only[oN,aC] at ho;exact ho.1
   ·obtain ⟨k1,_⟩:=sd (R:=R) (P:=P) a1 (r0:=r) a2 ps qB (λr' hm _ e=>by subst e;have:=dL.2 hm;omega);exact ⟨tv,xq,F0,λ_ _=>0,rfl,λb i=>aG _,⟨cs,C6,a3.le (a5 rfl)⟩,k1 ho⟩
   ·simp only[oN,aC] at ho;exact ho.1.1
   ·show ym σ' r p t m out.1 (λAB=>uq { AB with vr:=(σ'.oG r (wC (en p+1))).vr,az:=σ'.az } ps [] out.2 K)=_;congr 1;funext AB;exact n2 _ K out.2
   ·obtain ⟨F1,F2,h1,⟨cn,h2,h3⟩,h7⟩:=hm;simp only[List.head?_cons,aQ,C6] at h2;exact ⟨cn,F1,h3,λb' i=>by have:=h1 b' i;omega,(λe=>by cases e),λ_=>h2.symm⟩
  | pN m=>
   obtain ⟨H,r1,p1,snap,cs,ad,rfl,Bt,ey,C6,i9⟩:=mX;subst Bt;have hw:[(r,p)]=(r1,p1)::zL:=hw;injection hw with yj Dg;injection yj with yj Rv;subst yj;subst Dg;subst Rv;have Mw:(oT (.ref r p snap)).count r=1:=by simp[oT]
   obtain ⟨n1,n2⟩:=sd (R:=R) (P:=P) (A0:=λb i=>True) (λ_ _ _=>trivial) (r0:=r) (λ_ _ _ _ _ _ _=>trivial) ps qB (λr' hm _ e=>by subst e;have:=dL.2 hm;omega);refine ⟨by omega,true,false,true,t,m,H,v.1,cs,ad,⟨λe=>(by cases e),(λ_=>rfl),(λe=>absurd e (by simp[LZ])),λe=>absurd e (by simp[va])⟩,ey,i9,(λe=>by cases e),λho=>?_,λA0 F0 Fp a1 a2 a3 a4 a5 ho a6=>?_,λ_=>⟨rfl,rfl,λσ' K out=>?_⟩,(λ_ e=>by cases e),λe=>by cases e⟩
   ·simp only[oN,aC] at ho;exact ho.1
   ·obtain ⟨k1,_⟩:=sd (R:=R) (P:=P) a1 (r0:=r) a2 ps qB (λr' hm _ e=>by subst e;have:=dL.2 hm;omega);exact ⟨tv,xq,F0,λ_ _=>0,rfl,λb i=>aG _,⟨H,cs,a6 rfl,C6,a3.le (a5 rfl)⟩,k1 ho⟩
   ·show Ci σ' r p (λAB=>uq AB ps [] out K)=_;congr 1;funext AB;exact n2 _ K out
def Rw:Option Value->Bool
 | some (.int .u8 _)=>false
 | none=>false
 | _=>true
def KZ (w:World) (F:Nat->FP):Nat->FP:=λj b i=>if Rw (ce w b i) then F j b i else 0
theorem adj (w:World) (F:Nat->FP) (j b i:Nat):KZ w F j b i<=F j b i:=by
 grind [KZ]
theorem aaP {w:World} {F:Nat->FP} {j b i:Nat} (h:1<=KZ w F j b i):Rw (ce w b i)=true:=by
 grind [KZ]
theorem Ro.nb:∀ (t:Ty) {v:t.den} {cs:List Value},Hw t=true->Ro P w A t v cs->(∀ u ∈ cs,Rw (some u)=true)/\Ro P w (λb i=>A b i/\Rw (ce w b i)=true) t v cs:=by
 intro t
 induction t with
 | int k=>
  intro v cs hn h;have h:cs=[.int k (qR k v)]:=h;refine ⟨λu hu=>?_,h⟩
  rw[h,bC] at hu;subst hu;cases k <;> first | rfl | grind [Hw]
 | bool=>
  intro v cs hn h;have h:cs=[.bool v]:=h;exact ⟨λu hu=>by rw[h,bC] at hu;subst hu;rfl,h⟩
 | str=>
  intro v cs hn h;have h:cs=[.string ⟨List.toArray v⟩]:=h;exact ⟨λu hu=>by rw[h,bC] at hu;subst hu;rfl,h⟩
 | unit=>
  intro v cs hn h;have h:cs=[]:=h;exact ⟨λu hu=>(by grind),h⟩
 | pair a b nY nH=>
  intro v cs hn h;simp only[Hw,aC] at hn;obtain ⟨h1,h2⟩:=h;obtain ⟨a1,a2⟩:=nY hn.1 h1;obtain ⟨b1,b2⟩:=nH hn.2 h2;refine ⟨λu hu=>?_,a2,b2⟩
  grind [List.take_append_drop]
 | arr n e ih=>
  intro v cs hn h;simp only[Hw] at hn;obtain ⟨h1,h2,h3,h4⟩:=h;refine ⟨λu hu=>?_,h1,h2,h3,λi x hx=>(ih hn (h4 i x hx)).2⟩
  obtain ⟨q,hq,rfl⟩:=bL hu
  have hs:0 < e.sz:=by
   grind
  have hi:q / e.sz < n:=by rw[eZ hs];omega
  have hx:=h4 (q / e.sz) (v[q / e.sz]'Bys) (aB Bys);refine (ih hn hx).1 _ ?_;have hm:=jH q hs;have he:q / e.sz*e.sz+q % e.sz=q:=Nat.div_add_mod' q e.sz;refine fA.2 ⟨q % e.sz,?_⟩;grind
 | aa e ih=>
  intro v cs hn h;simp only[Hw] at hn;obtain ⟨a,cap,h1,h2,h3,h4⟩:=h;refine ⟨λu hu=>by rw[h1,bC] at hu;subst hu;rfl,a,cap,h1,h2,h3,λad lI=>⟨(h4 ad lI).1,λi x hx=>?_⟩⟩
  obtain ⟨L,l1,l2,l3⟩:=(h4 ad lI).2 i x hx;obtain ⟨g1,g2⟩:=ih hn l3;grind
 | ptr e ih=>
  intro v cs hn h;simp only[Hw] at hn;obtain ⟨ad,h1,h2,L,l1,l2,l3⟩:=h;obtain ⟨g1,g2⟩:=ih hn l3;exact ⟨λu hu=>by rw[h1,bC] at hu;subst hu;rfl,ad,h1,h2,L,l1,λj u hu=>⟨(l2 j u hu).1,(l2 j u hu).2,by grind⟩,g2⟩
 | fn=>grind [Hw]
 | map k v _ _=>grind [Hw]
theorem Cp {ow:Bool}:∀ (ps:List (PM×Ty)) {v:(bq (ps.map (·.2))).den} {ss:List Slot} {qV:List Value} {ws:List (Nat×Path)},va ps=true->Bs P A σ a w F ow ps v ss qV ws->Bs P A σ a w (KZ w F) ow ps v ss qV ws
 | [],_,_,_,_,_,h=>h
 | (pm,t)::ps,v,_,_,_,hu,h=>by
  obtain ⟨s,Mu,tv,xq,wp,zL,e1,e2,hw,mX,qB⟩:=h
  cases pm with
  | ro=>
   simp only[va,aC,cN] at hu;refine ⟨s,Mu,tv,xq,wp,zL,e1,e2,hw,?_,Cp ps hu.2 qB⟩
   obtain ⟨Bt,cs,h1,h2⟩:=mX;refine ⟨Bt,cs,h1,?_⟩
   rcases hu.1 with ⟨f1,f2⟩ | hn
   ·grind [Ro.indep]
   ·refine Ro.mono (λ_ _ _ _ h=>h) (λb i ha=>?_) t (Ro.nb t hn h2).2;grind [KZ]
  | fix f=>
   simp only[va] at hu;exact ⟨s,Mu,tv,xq,wp,zL,e1,e2,hw,mX,Cp ps hu qB⟩
  | ii m m'=>
   simp only[va,aC] at hu;exact ⟨s,Mu,tv,xq,wp,zL,e1,e2,hw,mX,Cp ps hu.2 qB⟩
  | oS m=>simp[va] at hu
  | tq m=>simp[va] at hu
  | pN m=>simp[va] at hu
theorem D8:∀ (ps:List (PM×Ty)),va ps=true->LZ ps=true
 | [],_=>rfl
 | (pm,t)::ps,h=>by
  cases pm with
  | ro=>simp only[va,aC] at h;exact D8 ps h.2
  | fix f=>simp only[va] at h;exact D8 ps h
  | ii m m'=>simp only[va,aC] at h;exact D8 ps h.2
  | oS m=>simp[va] at h
  | tq m=>simp[va] at h
  | pN m=>simp[va] at h
theorem am.u8 {A2:Cells} (hA:∀ b i n,A b i->ce w b i=some (.int .u8 n)->A2 b i):∀ (t:Ty) {m:Md} {H:List Path} {v:t.den} {cs:List Value} {G:FP},J4 t=true->am P w A t m H v cs G->am P w A2 t m H v cs G:=by
 intro t
 induction t with
 | pair a b nY nH=>
  intro m H v cs G hu h;simp only[J4,aC] at hu;obtain ⟨h0,F1,F2,h1,h2,h3⟩:=h;exact ⟨h0,F1,F2,h1,nY hu.1 h2,nH hu.2 h3⟩
 | aa e _=>
  intro m H v cs G hu h;unfold J4 at hu;split at hu
  ·grind
  ·rename_i heq;injection heq with heq;subst heq;simp only[am] at h ⊢;split
   ·grind
   ·rename_i hh;rw[aN hh] at h;split
    ·rename_i hm;rw[aH hm] at h;exact h
    ·rename_i hm;rw[aN hm] at h;obtain ⟨h1,h2,a,cap,h3,h4,h5,h6⟩:=h;refine ⟨h1,h2,a,cap,h3,h4,h5,λad lI=>⟨(h6 ad lI).1,λi x hx=>?_⟩⟩
     obtain ⟨L,l1,l2,l3⟩:=(h6 ad lI).2 i x hx;refine ⟨L,l1,λj u hu=>⟨(l2 j u hu).1,hA _ _ (qR .u8 x) (l2 j u hu).2 ?_⟩,l3⟩
     have l3:L=[.int .u8 (qR .u8 x)]:=l3;grind
  grind [Ty.flat]
 | int k=>intro m H v cs G _ h;exact h
 | bool=>intro m H v cs G _ h;exact h
 | str=>intro m H v cs G _ h;exact h
 | unit=>intro m H v cs G _ h;exact h
 | arr n e _=>
  intro m H v cs G hu h;have hu:((Ty.arr n e).flat&&(Ty.arr n e).sn)=true:=hu;simp only[aC] at hu;obtain ⟨h1,h2⟩:=h;exact ⟨h1,Ro.indep _ hu.1 hu.2 h2⟩
 | ptr e _=>grind [J4,Ty.flat]
 | fn=>grind [J4,Ty.sn]
 | map k v _ _=>grind [J4,Ty.flat]
theorem Ff {rs:List LV} {rv:Value} {G:FP} (h:pz P w A rs rv G):dn P A σ a w rv (xM rs) G/\∀ t m H v,xM rs=.box t m H v->∃ b,rv=.pointer (some ⟨b,0,none⟩)/\jR w b (t.sz,false):=by
 match rs,h with
 | [],_=>exact ⟨trivial,λ_ _ _ _ e=>by cases e⟩
 | [x],h=>
  obtain ⟨cs,rfl,h2⟩:=h;exact JJ h2
 | x::y::rs,h=>
  obtain ⟨vs,Fi,h1,h2,h3⟩:=h
  exact ⟨⟨vs,Fi,h1,h2,λj z hz=>by
   obtain ⟨v,cs,g1,g2,g3⟩:=h3 j z hz
   exact ⟨v,g1,.inr ⟨cs,g2,g3⟩⟩⟩,λ_ _ _ _ e=>by cases e⟩
theorem pz.free {A':Cells}:∀ {rs:List LV} {rv:Value} {G:FP},(∀ x ∈ rs,(x.t.flat||decide (x.m=ai x.t))=true/\x.t.sn=true)->pz P w A rs rv G->pz P w A' rs rv G
 | [],_,_,_,_=>trivial
 | [x],_,_,ho,⟨cs,h1,h2⟩=>⟨cs,h1,am.free (ho x (by simp)).1 (ho x (by simp)).2 h2⟩
 | x::y::rs,_,_,ho,⟨vs,Fi,h1,h2,h3⟩=>⟨vs,Fi,h1,h2,λj z hz=>by
  grind [am.free]⟩
theorem ze:∀ (rs:List (Ty×Md)) {ts:List Ty} (out:(bq (rs.map (·.1)++ts)).den),zq rs=true->∀ x ∈ (mS rs out).1,(x.t.flat||decide (x.m=ai x.t))=true/\x.t.sn=true
 | [],_,_,_=>λx hx=>by cases hx
 | (t,m)::rs,_,out,h=>λx hx=>by
  simp only[zq,aC] at h;simp only[mS,aZ] at hx;rcases hx with rfl | hx
  ·exact h.1
  ·exact ze rs out.2 h.2 x hx
theorem pz.mono {A':Cells} (hA:∀ b i,A b i->A' b i):∀ {rs:List LV} {rv:Value} {G:FP},pz P w A rs rv G->pz P w A' rs rv G
 | [],_,_,_=>trivial
 | [x],_,_,⟨cs,h1,h2⟩=>⟨cs,h1,am.mono hA (λ_ _ _ _ h=>h) (λ_ _ h=>h) _ h2 (λ_ _=>aG _) (λ_ _ _ _ h=>h)⟩
 | x::y::rs,_,_,⟨vs,Fi,h1,h2,h3⟩=>⟨vs,Fi,h1,h2,λj z hz=>by
  obtain ⟨v,cs,g1,g2,g3⟩:=h3 j z hz
  exact ⟨v,cs,g1,g2,am.mono hA (λ_ _ _ _ h=>h) (λ_ _ h=>h) _ g3 (λ_ _=>aG _) (λ_ _ _ _ h=>h)⟩⟩
end
end OT
