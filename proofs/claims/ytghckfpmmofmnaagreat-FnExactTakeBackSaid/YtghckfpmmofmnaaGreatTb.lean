/- The proof's parts, merged: Operations, first part.. No conditions but those that each states. -/
import Derived.Test.YtghckfpmmofmnaaGreatTa
import Derived.Laws.Slices
import Derived.Laws.Concat
import Derived.Laws.StructEq
import Derived.Laws.Cover3
import Derived.ChangeKeysEq
import Derived.Laws.MakeOwn
import Derived.Laws.IdiomStrings
import Derived.Laws.BytesArg
import Derived.Laws.Tables
import Derived.Great.BuildSlice
import Derived.Deep.AppendSrc
set_option linter.unusedVariables false
set_option linter.unusedSimpArgs false
namespace OT
open Go
section
variable {P:Program} {C:Ctx} {A:Cells} {X:FP} {σ:St} {a:Act} {w:World} {F:Nat->FP} {R:Type} {x:R} {Q:Exit->Act->World->Prop} {o:Oper} {E:Env}
def Nx (P:Program) (C:Ctx) {R:Type} (K:St->Option R) (x:R) (a:Act) (w:World):Prop:=∃ σ',K σ'=some x/\Eh P C σ' a w
abbrev d_ (P:Program) (C:Ctx) (A:Cells) (σ:St) (a:Act) (w:World) (F:Nat->FP):Prop:=Rel P C A (λ_ _=>0) σ a w F
theorem oA {v:Value} {w':World} {next:Act->World->Prop} (kO:(execOp a.eval o).run P w=.ok (.value v) w') (hn:next (a.put o.dst v) w'):o.wp P a w next Q:=by
 unfold Oper.wp;rw[kO];exact hn
theorem LP {w':World} {next:Act->World->Prop} (kO:(execOp a.eval o).run P w=.ok .skip w') (hd:o.dst=none) (hn:next a w'):o.wp P a w next Q:=by
 unfold Oper.wp;rw[kO,Oper.upon,hd];exact hn
def reads:Op->Bool
 | .load .. | .convert ..=>true
 | _=>false
def tQ (o:Oper) (w w':World):Prop:=reads o.op=true->Ext w w' (λ_ _=>0)
theorem tQ.ext {o:Oper} {w w':World} (h:tQ o w w') (hr:reads o.op=true):Ext w w' (λ_ _=>0):=h hr
def Tk (P:Program) (o:Oper) (a:Act) (w:World) (next:Act->World->Prop):Prop:=
 ∃ v,(∀ w',tQ o w w'->(execOp a.eval o).run P w'=.ok (.value v) w')/\next (a.put o.dst v) w
theorem im {v:Value} {next:Act->World->Prop} (kO:∀ w',tQ o w w'->(execOp a.eval o).run P w'=.ok (.value v) w') (hn:next (a.put o.dst v) w):Tk P o a w next:=⟨v,kO,hn⟩
theorem Tk.wp {next:Act->World->Prop} (h:Tk P o a w next):o.wp P a w next Q:=by
 obtain ⟨v,h1,h2⟩:=h;exact oA (h1 w λ_=>Ext.refl _ _) h2
theorem wX {b i:Nat} {u:Value} (h:ce w b i=some u):b < w.heap.size:=by
 grind [ce,World.cell?]
theorem Has.ext {b o:Nat} {L:List Value} {w':World} (h:Has w b o L) (hw:Ext w w' (λ_ _=>0)):Has w' b o L:=λj u hu=>hw.cell b (o+j) (wX (h j u hu)) rfl u (h j u hu)
theorem pO (h:Rel P C A X σ a w F) {K:St->Option R} {d:Option Tmp} {s:Slot} {v:Value} {Fd:FP} (hk:K (σ.bz d s)=some x) (hs:c8 P A σ a w v s Fd) (ht:∀ b i,Fd b i<=X b i)
  (Wn:∀ t m H v',s=.box t m H v'->∃ b,v=.pointer (some ⟨b,0,none⟩)/\je w b (t.sz,false)):Nx P C K x (a.put d v) w:=by
 obtain ⟨F',hF⟩:=h.bz d (X':=λ_ _=>0) hs (λb i=>by grind) Wn;exact ⟨_,hk,A,F',hF⟩
theorem cm (h:Rel P C A X σ a w F) {K:St->Option R} {d:Option Tmp} {s:Slot} {v:Value} (hk:K (σ.bz d s)=some x) (hs:c8 P A σ a w v s (λ_ _=>0))
  (hb:∀ t m H v',s≠.box t m H v'):Nx P C K x (a.put d v) w:=
 pO h hk hs (λ_ _=>bD _) (λt m H v' e=>absurd e (hb t m H v'))
theorem Ad (h:Rel P C A X σ a w F) {K:St->Option R} {d:Option Tmp} {t:Ty} {m:Md} {v:t.den} {cs:List Value} {Fd:FP} (hk:K (σ.bz d (laid t m v))=some x) (hr:ao P w A t m [] v cs Fd) (ht:∀ b i,Fd b i<=X b i) :
  Nx P C K x (a.put d (dq t cs)) w:=
 pO h hk (FB (σ:=σ) (a:=a) hr).1 ht (FB (σ:=σ) (a:=a) hr).2
theorem gw {t:Nat} {K:Ty->Option R} (h:p_ E t K=some x):∃ T,E.TI t=some T/\K T=some x:=by
 grind [p_]
theorem HH {s:Slot} {K:Bool->Option R} {tv:Value} {G:FP} (hs:c8 P A σ a w tv s G) (h:Hu s K=some x):∃ b,tv=.bool b/\K b=some x:=by
 unfold Hu at h;split at h
 ·rename_i b;obtain ⟨cs,h1,h2⟩:=hs;simp only[Ro] at h2;subst h2;exact ⟨b,by rw[h1];rfl,h⟩
 ·cases h
theorem wv {s:Slot} {K:Int->Option R} {tv:Value} {G:FP} (hs:c8 P A σ a w tv s G) (h:wc s K=some x):∃ k n,tv=.int k n/\K n=some x:=by
 unfold wc at h;split at h
 ·rename_i k n;obtain ⟨cs,h1,h2⟩:=hs;simp only[Ro] at h2;subst h2;exact ⟨k,_,by rw[h1];rfl,h⟩
 ·cases h
theorem CM (h:Rel P C A X σ a w F) {r:Nat} {p:Path} {pl:Pl} (hp:place σ a w r p=some pl):rG σ a w (dq pl.t pl.cs) r p (vk σ r p pl.t):=by
 have h5:=h.l8 r;refine ⟨?_,λ_=>⟨_,hp,rfl,?_⟩⟩
 ·unfold vk;split
  ·intro j y hj;grind
  ·intro j y hj;grind
  ·exact Below.refl _
 ·unfold vk;split
  ·rename_i e he;left;exact ⟨by rw[he];rfl,by grind⟩
  ·rename_i k v he;left;exact ⟨by rw[he];rfl,by grind⟩
  grind
theorem JT (σ:St) (y:Operand) (t:Ty) (m:Md) (H:List Path) (v:t.den):d7 σ y≠.box t m H v:=by
 intro e
 cases y with
 | tmp i=>grind [d7]
 | const v=>simp only[d7] at e;unfold yw at e;grind
 | func f=>cases e
 | global g=>cases e
theorem SG (h:d_ P C A σ a w F) {y:Operand} (ho:o.op=.move y) (ba:dO P y=true) {K:St->Option R} (hk:Qh σ y o.dst K=some x):Tk P o a w (Nx P C K x):=by
 refine im (v:=a.eval y) (by simp[execOp,ho]) ?_;unfold Qh at hk;have hs:=fy h ba;split at hk
 ·rename_i xs i hx
  have hi:i < σ.n:=by
   grind [d7,mf]
  have hg:σ.get i=.rT xs:=by
   grind [d7]
  have lT:=h.iW i hi;rw[hg] at lT;have h2:=h.put hi (s:=.dead) (v:=tmp a i) (Fd:=λ_ _=>0) (X':=λb k=>F i b k) trivial (λb k=>by omega) (λt m H v e=>by cases e);rw[rH] at h2;refine pO h2 hk (Fd:=F i) ?_ (λb i=>aL _) (λt m H v e=>by cases e);obtain ⟨vs,Fi,h3,h4,h5⟩:=lT;exact ⟨vs,Fi,h3,h4,h5⟩
 all_goals grind [cm,JT]
theorem SH (h:d_ P C A σ a w F) {c y z:Operand} (ho:o.op=.pick c y z) (ba:dO P c=true/\dO P y=true/\dO P z=true) {K:St->Option R}
  (hk:(Hu (d7 σ c) λc=>match d7 σ (bif c then y else z) with
   | .val .bool b=>K (σ.bz o.dst (.val .bool b))
   | _=>none)=some x):Tk P o a w (Nx P C K x):=by
 have hc:=fy h ba.1
 rcases hc with hc | ⟨xs,e⟩
 ·obtain ⟨b,hb,hk⟩:=HH hc hk
  have ab9:∀ y':Operand,dO P y'=true->(match d7 σ y' with
   | .val .bool b=>K (σ.bz o.dst (.val .bool b))
   | _=>none)=some x->Nx P C K x (a.put o.dst (a.eval y')) w:=λy' hy hk=>by
   grind [fy,cm]
  cases b <;> simp_all [im,execOp,asBool]
 ·rw[e] at hk;cases hk
theorem SI (h:d_ P C A σ a w F) (kG:∀ i T,E.TI i=some T->bi P T (.inl i)=true) {t:Nat} {y:Operand} (ho:o.op=.load t y) (ba:dO P y=true) {K:St->Option R}
  {mv:Bool} (hk:Cx E σ t (d7 σ y) mv o.dst K=some x):Tk P o a w (Nx P C K x):=by
 unfold Cx at hk;obtain ⟨T,hT,hk⟩:=gw hk;have jk:=kG _ _ hT
 have run:∀ b off L,a.eval y=.pointer (some ⟨b,off,none⟩)->Has w b off L->L.length=T.sz->(∀ u ∈ L,u.oneCell'=true)->∀ w',tQ o w w'->(execOp a.eval o).run P w'=.ok (.value (dq T L)) w':=λb off L hy hL hl qT w' s8=>by
  have s8:=s8 (by rw[ho];rfl);simp[execOp,ho,hy,Instr.loadAt,Instr.sureAddr,ye jk (hL.ext s8) hl qT]
 rcases fy h ba with hs | ⟨xs,e⟩
 rotate_left
 ·grind
 split at hk
 ·rename_i t' v hv;rw[hv] at hs;split at hk
  ·rename_i e;subst e;obtain ⟨⟨b,off,sp⟩,h1,h2,L,h3,h4,h5⟩:=hs;simp only[dH,eJ] at h1;simp only at h2;subst h2;exact im (run b off L h1 (λj u hu=>(h4 j u hu).1) h3 (Ro.one _ h5)) (cm h hk ⟨L,rfl,h5⟩ (λ_ _ _ _ e=>by cases e))
  ·cases hk
 ·rename_i r p snap hv;rw[hv] at hs;split at hk
  ·rename_i oW;obtain ⟨hr,t',m',H',v',bu,c_,F',h1,h2,h3,h4,h5,h6⟩:=lA h hk;obtain ⟨pl,b,off,g1,g2,g3,g4⟩:=hs.2 oW;rw[h3] at g1;injection g1 with g1;subst g1;simp only at g2;subst g2;split at h1
   ·rename_i e;subst e;refine im (run b off bu g3 (h6 b off rfl) (ao.length _ h4) (ao.one _ h4)) ?_;split at h1
    ·rename_i hf;split at h1
     ·exact cm h h1 ⟨bu,rfl,ao.flat _ hf h4⟩ (λ_ _ _ _ e=>by cases e)
     ·cases h1
    ·split at h1
     ·rename_i hm;split at h1
      ·rename_i hH;have hH:=bG.1 hH;subst hH;subst hm
       cases mv with
       | false=>exact cm h h1 ⟨bu,rfl,ao.ro _ (it _) h4⟩ (λ_ _ _ _ e=>by cases e)
       | true=>exact cm h h1 (CM h h3) (λ_ _ _ _ e=>by cases e)
      ·cases h1
     ·cases mv with
      | false=>exact cm h h1 (CM h h3) (λ_ _ _ _ e=>by cases e)
      | true=>
       simp only at h1;split at h1
       ·rename_i hH;have hH:=bG.1 hH;subst hH;obtain ⟨A2,ml,F2,d6,Ca,Fv,k1,k2,k3,k4,k5,k6,k7⟩:=I_ h h1 ⟨h2⟩;rw[h3] at k6;simp only[aS,Pl.mk.injEq,dQ] at k6;obtain ⟨rfl,rfl⟩:=k6;have hl:=FB (σ:=ml) (a:=a) (ao.mono k2 (λ_ _ _ _ h=>h) (λ_ _ h=>h) _ k7 (λ_ _=>aL _) (λ_ _ _ _ h=>h));exact pO k3 k1 hl.1 (λb i=>by omega) hl.2
       ·cases h1
   ·cases h1
  ·cases hk
 ·cases hk
theorem Qv (h:d_ P C A σ a w F) (kG:∀ i T,E.TI i=some T->bi P T (.inl i)=true) {t:Nat} {y:Operand} (ho:o.op=.load t y) (ba:dO P y=true) {K:St->Option R}
  {mv fr:Bool} (hk:Hv E σ t y mv fr o.dst K=some x):Tk P o a w (Nx P C K x):=by
 unfold Hv at hk;grind [SI,yz]
theorem Qw {b o b' i:Nat} {v u:Value} (kF:¬ (b=b'/\o=i)) (h:ce w b' i=some u):ce (w.setCell ⟨b,o,none⟩ v) b' i=some u:=by
 by_cases hb:b=b'
 ·subst hb
  cases hh:w.heap[b]? with
  | none=>grind [ce,World.cell?]
  | some ob=>
   cases ob <;> simp_all [World.setCell,gI,ce,World.cell?]
 grind [World.setCell,zU]
theorem rI {b o:Nat}:∀ (L:List Value) (w:World) (o:Nat),Ext w (w.setCells b o L) (ep b o L.length)
 | [],w,o=>Ext.refl _ _
 | v::L,w,o=>by
  have ih:=rI (b:=b) (o:=o+1) L (w.setCell ⟨b,o,none⟩ v) (o+1)
  have h1:Ext w (w.setCell ⟨b,o,none⟩ v) (ep b o (L.length+1)):=by
   refine ⟨by simp,λb' i hb hz u hu=>?_,λb' n hn=>?_,λb' i hb=>by simp,rfl,rfl,rfl,λb' hb hz=>?_,aL _⟩
   ·grind [Qw,ep]
   ·obtain ⟨c,e,fr,h1,h2,h3⟩:=hn;by_cases JU:b=b'
    ·subst JU;exact ⟨c.setIfInBounds o v,e,fr,by grind [World.setCell],by simp[h2],h3⟩
    ·exact ⟨c,e,fr,by grind [World.setCell],h2,h3⟩
   ·have kF:b≠b':=λe=>by
     subst e;have:=hz o;grind [ep]
    grind [World.setCell]
  exact h1.trans ih λb' i hb hz=>by
   grind [ep]
theorem Ae {w:World} {b o:Nat} {L:List Value} (h:∀ j,j < L.length->(w.cell? ⟨b,o+j,none⟩).isSome=true) (qT:∀ u ∈ L,u.oneCell'=true):Has (w.setCells b o L) b o L:=by
 intro j u hu;grind [Fx,World.cell?_setCells_in]
theorem Qx (h:d_ P C A σ a w F) (kG:∀ i T,E.TI i=some T->bi P T (.inl i)=true) {t:Nat} {y z:Operand} (ho:o.op=.store t y z) (hd:o.dst=none) (ba:dO P y=true/\dO P z=true) {mv:Bool} {K:St->Option R}
  (hk:Lo E σ t (d7 σ y) (d7 σ z) mv K=some x):o.wp P a w (Nx P C K x) Q:=by
 unfold Lo at hk;obtain ⟨T,hT,hk⟩:=gw hk;have jk:=kG _ _ hT
 rcases fy h ba.1 with hs | ⟨xs,e⟩
 rotate_left
 ·grind
 split at hk
 ·rename_i r p snap hv;rw[hv] at hs;split at hk
  ·rename_i oW;split at hk
   ·obtain ⟨pl,b,off,g1,g2,g3,g4⟩:=hs.2 oW
    rcases fy h ba.2 with hz | ⟨xs,e⟩
    rotate_left
    ·grind [mV]
    obtain ⟨A',σ',F',m,v,cs,Fv,k1,k2,k3,k4,kr,k5,k6⟩:=um h hz hk;obtain ⟨hr,m2,H2,v2,d6,Ca,F2,q1,q2,q3,q4,q5,q6⟩:=B_ k3 k1
    have iU:Ca=some (b,off):=by
     unfold place at g1 q2
     cases hR:d8 w (tmp a r) (σ'.get r) with
     | none=>grind
     | some R1=>
      rw[hR] at q2;obtain ⟨H0,zd⟩:=kr w (tmp a r) r R1 hR;rw[zd] at g1;have:=(aam p R1.t g1 q2).2.2;grind
    subst iU;obtain ⟨wV,nc⟩:=q5 b off rfl;have hl:=ao.length _ k6;have wK:=ao.length _ q3;have qT:=ao.one _ k6;have aat:=ao.one _ q3
    have LQ:∀ j,j < cs.length->(w.cell? ⟨b,off+j,none⟩).isSome=true:=λj hj=>by
     rw[vm (wV j _ (aB (by omega))) (aat _ (aU _))];rfl
    have dc:=run_storeCells_cells (P:=P) b off cs 0 w (by simpa using LQ) (λj hj=>by grind) qT;have hcv:(dq T cs).cells.toList=cs:=lu hl qT;have nC:(dq T cs).cells.size=T.sz:=by grind
    have kO:(execOp a.eval o).run P w=.ok .skip (w.setCells b off cs):=by
     simp[execOp,ho,g3,k5,Instr.storeAt,Instr.sureAddr,storeVar,run_sizeOf jk,nC,hcv,dc]
    refine LP kO hd ?_
    have jj:ao P (w.setCells b off cs) A' T m [] v cs Fv:=by
     refine ao.mono (λ_ _ h=>h) (λb' i ha u hu=>?_) (rI (b:=b) (o:=off) cs w off).xE _ k6 (λ_ _=>aL _) (λb' i hp u hu=>?_)
     ·refine (rI (b:=b) (o:=off) cs w off).cell b' i (k3.kN b' i (.inr ha)) ?_ u hu;have h1:=q4 b' i;have h2:=dv F' hr b' i
      rcases bM (k_ (some (b,off)) T.sz b' i) with h0 | h0
      ·rw[hl];exact h0
      ·exact absurd ha (k3.qb b' i (by omega))
     ·have h1:=q4 b' i;have h2:=dv F' hr b' i;have h3:=k3.pk b' i
      refine (rI (b:=b) (o:=off) cs w off).cell b' i (k3.kN b' i (.inl (by omega))) ?_ u hu;grind [k_]
    have gf:Ext w (w.setCells b off cs) (λb' i=>(0+Fv b' i)+(F2 b' i+k_ (some (b,off)) T.sz b' i)):=(rI (b:=b) (o:=off) cs w off).mono λb' i hz=>by
     grind [k_]
    obtain ⟨A3,A_,Fr,n1,n2,n3,_⟩:=q6 (w.setCells b off cs) A' cs Fv (λ_ _=>0) gf (λ_ _ h=>h) (λ_ _ h=>.inl h) (λb i=>by omega) (λb' o' e=>by
      grind [Ae]) (λe=>by cases e) jj
    exact ⟨A_,n1,A3,_,n3⟩
   ·cases hk
  ·cases hk
 ·cases hk
end
end OT
namespace OT
open Go
section
variable {P:Program} {w:World} {A:Cells}
theorem Qy:∀ (p q:Path) (t:Ty) {H:List Path} {cs:List Value} {ad:Option (Nat×Nat)},bn w (p++q) t H cs ad=(bn w p t H cs ad).bind λpl=>bn w q pl.t pl.H pl.cs pl.ad:=by
 intro p
 induction p with
 | nil=>intro q t H cs ad;rfl
 | cons s p ih=>
  intro q t H cs ad
  cases t with
  | pair a b=>
   cases s <;> grind [bn]
  | aa e=>
   cases s with
   | idx i=>
    simp only[cL,bn];split
    ·rfl
    ·split
     all_goals grind
   | _=>simp[bn]
  | arr n e=>
   cases s <;> grind [bn]
  | _=>grind [bn]
theorem GO:∀ (p:Path) (t:Ty) {H:List Path} {cs:List Value} {ad:Option (Nat×Nat)} {pl:Pl},bn w p t H cs ad=some pl->BH p t=some pl.t:=by
 intro p
 induction p with
 | nil=>intro t H cs ad pl h;simp only[bn,aS] at h;subst h;rfl
 | cons s p ih=>
  intro t H cs ad pl h
  cases t with
  | pair a b=>
   cases s with
   | fst=>simp only[bn] at h;split at h;cases h;exact ih a h
   | snd=>simp only[bn] at h;split at h;cases h;exact ih b h
   | _=>simp[bn] at h
  | aa e=>
   cases s with
   | idx i=>
    simp only[bn] at h;split at h
    ·cases h
    ·split at h
     ·split at h
      ·exact ih e h
      ·cases h
     ·cases h
   | _=>simp[bn] at h
  | arr n e=>
   cases s with
   | qO i=>
    simp only[bn] at h;split at h
    ·split at h
     ·exact ih e h
     ·cases h
    ·cases h
   | _=>simp[bn] at h
  | _=>grind [bn]
theorem XB:∀ (q:Path) (t:Ty) {m:Md} {H:List Path} {v:t.den} {cs:List Value} {F:FP} {ad:Option (Nat×Nat)} {pl:Pl},ao P w A t m H v cs F->bn w q t H cs ad=some pl ->
  ∃ (m':Md) (v':pl.t.den) (F':FP),ao P w A pl.t m' pl.H v' pl.cs F':=by
 intro q
 induction q with
 | nil=>grind [bn]
 | cons s q ih=>
  intro t m H v cs F ad pl hr h
  cases t with
  | pair a b=>
   obtain ⟨h0,F1,F2,hs,h1,h2⟩:=hr;cases s <;> grind [bn]
  | aa e=>
   cases s with
   | idx i=>
    simp only[ao] at hr;simp only[bn] at h;split at h
    ·cases h
    ·rename_i hh;rw[aP hh] at hr;split at hr
     ·obtain ⟨a,cap,rfl,h2,h3,h4,h5⟩:=hr
      cases a with
      | none=>cases h
      | some ik=>
       obtain ⟨g1,g2,g3,Fi,g4,g5⟩:=h5 ik rfl;simp only at h;split at h
       ·rename_i hi;obtain ⟨L,hl,hL,jj⟩:=g5 i _ (aB hi);rw[g1,cB,fi hL hl] at h;grind
       ·cases h
     ·obtain ⟨rfl,oN,a,cap,rfl,h2,h3,h4⟩:=hr
      cases a with
      | none=>cases h
      | some ik=>
       simp only at h;split at h
       ·rename_i hi;obtain ⟨L,hl,hL,jj⟩:=(h4 ik rfl).2 i _ (aB hi);rw[fi (λj u hu=>(hL j u hu).1) hl] at h;exact ih e (Ro.rep e (λ_ _=>0) oN jj) h
       ·cases h
   | _=>simp[bn] at h
  | arr n e=>
   cases s with
   | qO i=>
    obtain ⟨rfl,hf,hl,hlen,hr⟩:=hr;simp only[bn,cM,aI] at h;split at h
    ·rename_i hi;exact ih e (Ro.flat e (m:=.leaf) (λ_ _=>0) hf (hr i _ (aB (by grind)))) h
    ·cases h
   | _=>simp[bn] at h
  | _=>grind [bn]
def ko:Nat->Ty->Nat
 | j+1,.pair a b=>a.sz+ko j b
 | _,_=>0
theorem N5 (ad:Option (Nat×Nat)):iu ad 0=ad:=by simp_all [iu]
theorem Qz (ad:Option (Nat×Nat)) (j k:Nat):iu (iu ad j) k=iu ad (j+k):=by cases ad <;> simp[iu,cW]
theorem Po:∀ (j:Nat) (S:Ty) {t':Ty} {m:Md} {H:List Path} {v:S.den} {cs:List Value} {F:FP} {ad:Option (Nat×Nat)},ao P w A S m H v cs F->uE j S=some t' ->
  ∃ H',bn w (om j) S H cs ad=some ⟨t',H',(cs.drop (ko j S)).take t'.sz,iu ad (ko j S)⟩:=by
 intro j
 induction j with
 | zero=>
  intro S t' m H v cs F ad hr h
  cases S with
  | pair a b=>
   injection h with h;subst h;obtain ⟨h0,F1,F2,hs,h1,h2⟩:=hr;simp_all [om,bn,ko,N5]
  | _=>cases h
 | succ j ih=>
  intro S t' m H v cs F ad hr h
  cases S with
  | pair a b=>
   obtain ⟨h0,F1,F2,hs,h1,h2⟩:=hr;obtain ⟨H',e⟩:=ih b (ad:=iu ad a.sz) h2 h;grind [om,bn,ko,List.drop_drop,Qz]
  | _=>cases h
theorem UT:∀ (j:Nat) (T:Ty) {t:Ty},BH (om j) T=some t->∃ t2,uE j T=some t2:=by
 intro j
 induction j with
 | zero=>intro T t h;cases T <;> first | exact ⟨_,rfl⟩ | grind [om,BH]
 | succ j ih=>intro T t h;cases T <;> first | (simp[om,BH] at h;done) | exact ih _ (by simpa [om,BH] using h)
theorem Pp:∀ (j:Nat) (S:Ty) {t':Ty} {fs:List Field} {off:Nat},bi P S (.inr (fs,off))=true->uE j S=some t' ->
  ∃ f,fs[j]?=some f/\f.offset=off+ko j S/\bi P t' (.inl f.type)=true/\1<=t'.sz:=by
 intro j
 induction j with
 | zero=>
  intro S t' fs off hl h
  cases S with
  | pair a b=>
   injection h with h;subst h;cases fs <;> simp_all [bi,ko]
  | _=>cases h
 | succ j ih=>
  intro S t' fs off hl h
  cases S with
  | pair a b=>
   cases fs with
   | nil=>simp[bi] at hl
   | cons f r=>
    simp only[bi,aF,eN,dK] at hl;obtain ⟨f',h1,h2,h3⟩:=ih b hl.2 h;grind [ko]
  | _=>cases h
theorem HI {j:Nat} {S t':Ty} {i:TypeId} (hl:bi P S (.inl i)=true) (h:uE j S=some t') :
  ∃ fs f,P.underlying i=some (.struct fs)/\fs[j]?=some f/\f.offset=ko j S/\bi P t' (.inl f.type)=true/\1<=t'.sz:=by
 cases S with
 | pair a b=>
  simp only[bi,aF] at hl;have h2:=hl.2;split at h2
  ·rename_i fs hu;split at h2
   ·rename_i f r HJ
    have h3:bi P (.pair a b) (.inr (f::r,0))=true:=by
     grind [bi]
    grind [Pp]
   ·cases h2
  ·cases h2
 | _=>cases j <;> cases h
theorem uS {t:Ty} {i:TypeId} (h:bi P t (.inl i)=true) {cs:Array Value} {off:Nat} (hl:((cs.toList.drop off).take t.sz).length=t.sz):(part i cs off).run P w=.ok (dq t ((cs.toList.drop off).take t.sz)) w:=by
 unfold part;simp only[Sem.run_bind,Ei h,Result.andThen_ok]
 cases ht:isAgg t with
 | true=>
  simp only[aI,Sem.run_bind,run_sizeOf h,Result.andThen_ok,Sem.run_pure,dq,ht];congr 2;grind
 | false=>
  simp_all [LO,List.take_one,dq]
end
section
variable {P:Program} {C:Ctx} {A:Cells} {X:FP} {σ:St} {a:Act} {w:World} {F:Nat->FP} {R:Type} {x:R} {Q:Exit->Act->World->Prop} {o:Oper} {E:Env}
theorem JV (h:Rel P C A X σ a w F) {r:Nat} {p:Path} {pl:Pl} (hp:place σ a w r p=some pl):∃ (m':Md) (v':pl.t.den) (F':FP),ao P w A pl.t m' pl.H v' pl.cs F':=by
 have ax:=tP hp;unfold place at hp
 cases hR:d8 w (tmp a r) (σ.get r) with
 | none=>grind
 | some R0=>
  rw[hR] at hp;obtain ⟨m0,v0,F1,q1,q2,q3,_⟩:=wO (h.iW r ax) hR;grind [XB]
theorem tw (r:Nat) (p q:Path):place σ a w r (p++q)=(place σ a w r p).bind λpl=>bn w q pl.t pl.H pl.cs pl.ad:=by
 unfold place;cases d8 w (tmp a r) (σ.get r) <;> grind [Qy]
theorem HK {r:Nat} {p:Path} {pl:Pl} (hp:place σ a w r p=some pl):GF σ r p=some pl.t:=by
 unfold place at hp;unfold GF Ln
 cases hg:σ.get r with
 | own t m H v=>grind [d8,GO]
 | box t m H v=>
  rw[hg] at hp;simp only[d8] at hp;grind [GO]
 | _=>grind [d8]
theorem UU (p:Path) (j:Nat):d9 (p++om j)=d9 p:=by
 induction p with
 | nil=>induction j <;> grind [om,d9]
 | cons s p ih=>cases s <;> simp only[cL,d9,ih]
theorem JW {A':Cells}:∀ (j:Nat) (S:Ty) {v:S.den} {K:(t':Ty)->t'.den->Option R} {cs:List Value},Qe j S v K=some x->Ro P w A' S v cs ->
  ∃ t' v',uE j S=some t'/\K t' v'=some x/\Ro P w A' t' v' ((cs.drop (ko j S)).take t'.sz):=by
 intro j
 induction j with
 | zero=>
  intro S v K cs h hr
  cases S with
  | pair a b=>exact ⟨a,v.1,rfl,h,by simp only[ko,dV];exact hr.1⟩
  | _=>cases h
 | succ j ih=>
  intro S v K cs h hr
  cases S with
  | pair a b=>
   obtain ⟨t',v',h1,h2,h3⟩:=ih b (v:=v.2) h hr.2;exact ⟨t',v',h1,h2,by grind [ko,List.drop_drop]⟩
  | _=>cases h
theorem KJ (h:d_ P C A σ a w F) {y:Operand} (ho:o.op=.nilCheck y) (ba:dO P y=true) {K:St->Option R}
  (hk:(match d7 σ y with
  | .ptr r p snap=>if σ.ok r snap then K (σ.bz o.dst (.ptr r p snap)) else none
  | .cp t v=>K (σ.bz o.dst (.cp t v))
  | .val .fn f=>K (σ.bz o.dst (.val .fn f))
  | _=>none)=some x):Tk P o a w (Nx P C K x):=by
 rcases fy h ba with hs | ⟨xs,e⟩
 rotate_left
 ·grind
 split at hk
 ·rename_i r p snap hv;rw[hv] at hs;split at hk
  ·rename_i oW;obtain ⟨pl,b,off,g1,g2,g3,g4⟩:=hs.2 oW;exact im (v:=a.eval y) (by simp[execOp,ho,g3]) (cm h hk hs (λ_ _ _ _ e=>by cases e))
  ·cases hk
 ·rename_i t v hv;rw[hv] at hs;obtain ⟨ad,h1,_⟩:=id hs;simp only[dH,eJ] at h1;exact im (v:=a.eval y) (by simp[execOp,ho,h1]) (cm h hk hs (λ_ _ _ _ e=>by cases e))
 ·rename_i f hv;rw[hv] at hs;obtain ⟨cs,h1,yO,h2,_⟩:=id hs;subst h2;exact im (v:=a.eval y) (by simp[execOp,ho,h1,dq,isAgg]) (cm h hk hs (λ_ _ _ _ e=>by cases e))
 ·cases hk
theorem Jb (h:d_ P C A σ a w F) (kG:∀ i T,E.TI i=some T->bi P T (.inl i)=true) {S:Nat} {y:Operand} {j:Nat} (ho:o.op=.fieldAddr S y j) (ba:dO P y=true) {K:St->Option R}
  (hk:Cy E σ S (d7 σ y) j o.dst K=some x):Tk P o a w (Nx P C K x):=by
 unfold Cy at hk;obtain ⟨T,hT,hk⟩:=gw hk;have jk:=kG _ _ hT
 have run:∀ t' b off,uE j T=some t'->a.eval y=.pointer (some ⟨b,off,none⟩)->∀ w',tQ o w w'->(execOp a.eval o).run P w'=.ok (.value (.pointer (some ⟨b,off+ko j T,none⟩))) w':=λt' b off ht hy w' _=>by
  obtain ⟨fs,f,h1,h2,h3,h4,h5⟩:=HI jk ht;have nC:=run_sizeOf (P:=P) (w:=w') h4;have kF:¬ t'.sz=0:=by omega
  simp_all [execOp,Instr.fieldAt,Instr.sureAddr,run_underlying,fieldPlace,qF]
 rcases fy h ba with hs | ⟨xs,e⟩
 rotate_left
 ·grind
 split at hk
 ·rename_i t' v hv;rw[hv] at hs;split at hk
  ·rename_i e;subst e;obtain ⟨⟨b,off,sp⟩,h1,h2,L,h3,h4,h5⟩:=hs;simp only[dH,eJ] at h1;simp only at h2;subst h2;obtain ⟨t2,v2,q1,q2,q3⟩:=JW j t' hk h5;refine im (run t2 b off q1 h1) (cm h q2 ⟨_,rfl,rfl,_,Ro.length _ q3,λk u hu=>?_,q3⟩ (λ_ _ _ _ e=>by cases e));grind
  ·cases hk
 ·rename_i r p snap hv;rw[hv] at hs;split at hk
  ·rename_i oW;split at hk
   ·rename_i Af;split at hk
    ·rename_i hf;obtain ⟨pl,b,off,g1,g2,g3,g4⟩:=hs.2 oW;rw[HK g1] at Af;injection Af with Af;obtain ⟨t',DW⟩:=eC.1 hf;refine im (run t' b off DW g3) (cm h hk ⟨hs.1,λ_=>?_⟩ (λ_ _ _ _ e=>by cases e));obtain ⟨m',v',F',jj⟩:=JV h g1;obtain ⟨tp,Hp,Y0,Wv⟩:=pl;simp only at Af g2 jj;subst Af;obtain ⟨H',e⟩:=Po (ad:=Wv) j tp jj DW;grind [iu,UU,tw]
    ·cases hk
   ·cases hk
  ·cases hk
 ·cases hk
theorem QA (h:d_ P C A σ a w F) (kG:∀ i T,E.TI i=some T->bi P T (.inl i)=true) {S:Nat} {y:Operand} {j:Nat} (ho:o.op=.field S y j) (ba:dO P y=true) {K:St->Option R}
  (hk:IX E σ S (d7 σ y) j o.dst K=some x):Tk P o a w (Nx P C K x):=by
 unfold IX at hk;obtain ⟨T,hT,hk⟩:=gw hk;have jk:=kG _ _ hT
 have run:∀ t' cs,uE j T=some t'->a.eval y=dq T cs->((cs.drop (ko j T)).take t'.sz).length=t'.sz->∀ w',tQ o w w'->(execOp a.eval o).run P w'=.ok (.value (dq t' ((cs.drop (ko j T)).take t'.sz))) w':=λt' cs ht hy hl w' _=>by
  obtain ⟨fs,f,h1,h2,h3,h4,h5⟩:=HI jk ht
  have ack:dq T cs=.agg cs.toArray:=by cases T <;> first | rfl | (cases j <;> cases ht)
  have:=uS (P:=P) (w:=w') h4 (cs:=cs.toArray) (off:=ko j T) (by simpa using hl);simp_all [execOp,Instr.field,run_underlying,asAgg]
 rcases fy h ba with hs | ⟨xs,e⟩
 rotate_left
 ·grind
 split at hk
 ·rename_i t' v hv;rw[hv] at hs;split at hk
  ·rename_i e;subst e;obtain ⟨cs,h1,h2⟩:=hs;obtain ⟨t2,v2,q1,q2,q3⟩:=JW j t' hk h2;exact im (run t2 cs q1 h1 (Ro.length _ q3)) (cm h q2 ⟨_,rfl,q3⟩ (λ_ _ _ _ e=>by cases e))
  ·cases hk
 ·rename_i r p snap hv;rw[hv] at hs;split at hk
  ·rename_i oW;split at hk
   ·rename_i Af;obtain ⟨hr,t',m',H',v',bu,c_,F',h1,h2,h3,h4,h5,h6⟩:=lA h hk;obtain ⟨pl,g1,g2,g3⟩:=hs.2 oW;rw[HK g1] at Af;injection Af with Af;obtain ⟨m0,v0,F0,jj⟩:=JV h g1;obtain ⟨tp,Hp,Y0,Wv⟩:=pl;simp only at Af g2 jj;subst Af
    have hf:∃ t2,uE j tp=some t2:=by
     have h7:=h3;rw[tw,g1] at h7;exact UT j tp (GO _ _ h7)
    obtain ⟨t2,ht2⟩:=hf;obtain ⟨H2,e⟩:=Po (ad:=Wv) j tp jj ht2;have iU:place σ a w r (p++om j)=some ⟨t2,H2,(Y0.drop (ko j tp)).take t2.sz,iu Wv (ko j tp)⟩:=by grind [tw]
    rw[iU] at h3;injection h3 with h3;simp only[Pl.mk.injEq] at h3;obtain ⟨rfl,rfl,rfl,rfl⟩:=h3;refine im (run t2 Y0 ht2 g2 (ao.length _ h4)) ?_;split at h1
    ·rename_i hc;split at h1
     ·rename_i hH;have hH:=bG.1 hH;subst hH;refine cm h h1 ⟨_,rfl,?_⟩ (λ_ _ _ _ e=>by cases e);grind [ao.flat,ao.ro,it]
     ·cases h1
    ·exact cm h h1 (CM h iU) (λ_ _ _ _ e=>by cases e)
   ·cases hk
  ·cases hk
 ·cases hk
end
end OT
namespace OT
open Go
section
variable {P:Program} {C:Ctx} {A:Cells} {X:FP} {σ:St} {a:Act} {w:World} {F:Nat->FP} {R:Type} {x:R} {Q:Exit->Act->World->Prop} {o:Oper} {E:Env}
theorem GP {n:Int} {len:Nat} {K:Nat->Option R} (h:Sm n len K=some x):0<=n/\n < (len:Int)/\K n.toNat=some x:=by
 grind [Sm]
theorem bind_some {α:Type} {o:Option α} {K:α->Option R} (h:o.bind K=some x):∃ y,o=some y/\K y=some x:=by
 cases o <;> grind
theorem uw {e:Ty} {i:TypeId} (h:bi P (.aa e) (.inl i)=true):∃ el,P.underlying i=some (.slice el)/\1<=e.sz/\bi P e (.inl el)=true:=by
 grind [bi,Nat.ble_eq]
theorem Pq {n:Nat} {e:Ty} {i:TypeId} (h:bi P (.arr n e) (.inl i)=true):∃ el,P.underlying i=some (.array n el)/\1<=e.sz/\bi P e (.inl el)=true:=by
 grind [bi,Nat.ble_eq,Nat.beq_eq]
theorem mY {i:TypeId} (h:bi P .str (.inl i)=true):P.underlying i=some .string:=by
 grind [bi]
theorem qq {k:IntKind} {i:TypeId} (h:bi P (.int k) (.inl i)=true):P.underlying i=some (.int k):=by
 grind [bi]
theorem N6 (p q:Path):d9 (p++q)=d9 p+d9 q:=by
 induction p with
 | nil=>simp[d9]
 | cons s p ih=>cases s <;> simp only[cL,d9,ih] <;> omega
theorem HL (h:Rel P C A X σ a w F) {r:Nat} {p:Path} {pl:Pl} {b off:Nat} (hp:place σ a w r p=some pl) (lH:pl.ad=some (b,off)):B9 σ a w (.pointer (some ⟨b,off,none⟩)) r p (wo σ r p):=by
 have h5:=h.l8 r;refine ⟨?_,λ_=>⟨pl,b,off,hp,lH,rfl,by grind [wo]⟩⟩
 unfold wo;intro j y hj;grind
theorem Jc (h:d_ P C A σ a w F) (kG:∀ i T,E.TI i=some T->bi P T (.inl i)=true) {t:Nat} {y z:Operand} (ho:o.op=.indexAddr t y z) (ba:dO P y=true/\dO P z=true) {K:St->Option R}
  (hk:Cz E σ t (d7 σ y) (d7 σ z) o.dst K=some x):Tk P o a w (Nx P C K x):=by
 unfold Cz at hk;obtain ⟨T,hT,hk⟩:=gw hk;have jk:=kG _ _ hT
 rcases fy h ba.2 with hz | ⟨xs,e⟩
 rotate_left
 ·rw[e] at hk;cases hk
 obtain ⟨kz,n,Pr,hk⟩:=wv hz hk
 have Ej:∀ e ad len cap,T=.aa e->a.eval y=.slice (some ad) len cap->ad.spot=none->0<=n->n < (len:Int)->∀ w',tQ o w w'->(execOp a.eval o).run P w'=.ok (.value (.pointer (some ⟨ad.block,ad.off+n.toNat*e.sz,none⟩))) w':=λe ad len cap rV hy pL h0 h1 w' _=>by
  subst rV;obtain ⟨el,hu,_,hle⟩:=uw jk;obtain ⟨b,off,sp⟩:=ad;simp only at pL;subst pL;have nC:=run_sizeOf (P:=P) (w:=w') hle;simp[execOp,ho,hy,Pr,Instr.indexAt,asIntOf,run_underlying hu,h0,h1,nC,qF]
 have Y1:∀ m e b off,T=.arr m e->a.eval y=.pointer (some ⟨b,off,none⟩)->0<=n->n < (m:Int)->∀ w',tQ o w w'->(execOp a.eval o).run P w'=.ok (.value (.pointer (some ⟨b,off+n.toNat*e.sz,none⟩))) w':=λm e b off rV hy h0 h1 w' _=>by
  subst rV;obtain ⟨el,hu,_,hle⟩:=Pq jk;have nC:=run_sizeOf (P:=P) (w:=w') hle;simp[execOp,ho,hy,Pr,Instr.indexAt,asIntOf,run_underlying hu,h0,h1,nC,qF,Instr.sureAddr]
 have roS:∀ (e:Ty) (v:List e.den) (tv:Value) (yv:e.den),T=.aa e->a.eval y=tv->Ro P w A (.aa e) v [tv]->0<=n->v[n.toNat]?=some yv->K (σ.bz o.dst (.cp e yv))=some x->Tk P o a w (Nx P C K x):=λe v tv yv rV hy wW h0 Ek hk=>by
  obtain ⟨xa,cap,h1,h2,h3,h4⟩:=wW;simp only[dH,eJ] at h1;subst h1;have ax:=(aR.1 Ek).1
  cases xa with
  | none=>grind
  | some ad=>
   obtain ⟨g1,g2⟩:=h4 ad rfl;obtain ⟨L,l1,l2,l3⟩:=g2 _ _ Ek;exact im (Ej e ad _ cap rV hy (g1 (by omega)) h0 (by omega)) (cm h hk ⟨_,rfl,rfl,L,l1,l2,l3⟩ (λ_ _ _ _ e=>by cases e))
 rcases fy h ba.1 with hs | ⟨xs,e⟩
 rotate_left
 ·grind
 split at hk
 ·rename_i e v hv;rw[hv] at hs;split at hk
  ·rename_i rV;split at hk
   ·rename_i h0;obtain ⟨yv,Ek,hk⟩:=bind_some hk;obtain ⟨cs,h1,h2⟩:=hs;have hl:=Ro.length _ h2
    match cs,hl with
    | [tv],_=>exact roS e v tv yv rV (by rw[h1,eo _ _ rfl]) h2 h0 Ek hk
   ·cases hk
  ·cases hk
 ·rename_i m e v hv;rw[hv] at hs;split at hk
  ·rename_i rV;split at hk
   ·rename_i h0;obtain ⟨yv,Ek,hk⟩:=bind_some hk;obtain ⟨⟨b,off,sp⟩,h1,h2,L,h3,h4,h5⟩:=hs;simp only[dH,eJ] at h1;simp only at h2;subst h2;obtain ⟨q1,q2,q3,q4⟩:=h5;have ax:n.toNat < m:=q2 ▸ (aR.1 Ek).1;have wW:=q4 _ _ Ek;refine im (Y1 m e b off rV h1 h0 (by omega)) (cm h hk ⟨_,rfl,rfl,_,Ro.length _ wW,λk u hu=>?_,wW⟩ (λ_ _ _ _ e=>by cases e));grind
   ·cases hk
  ·cases hk
 ·rename_i r p snap hv;rw[hv] at hs;split at hk
  ·rename_i oW;obtain ⟨hr,t',m',H',v',bu,c_,F',h1,h2,h3,h4,h5,h6⟩:=lA h hk;obtain ⟨pl,g1,g2,g3⟩:=hs.2 oW;rw[h3] at g1;injection g1 with g1;subst g1;simp only at g2;split at h1
   ·cases h1
   ·rename_i hH;have hH:hole H'=false:=fJ.2 hH;split at h1
    ·rename_i rV;split at h1
     ·rename_i e Ps;have hl:=ao.length _ h4;split at h1
      ·rename_i jE;obtain ⟨i0,i1,h1⟩:=GP h1;have jj:=h4;simp only[ao,hH,aJ,aO,jE,aI] at jj;obtain ⟨xa,cap,rfl,q2,q3,q4,q5⟩:=jj
       cases xa with
       | none=>grind
       | some ik=>
        obtain ⟨r1,r2,r3,Fi,r4,r5⟩:=q5 ik rfl;rw[eo _ _ rfl] at g2;have ax:n.toNat < List.length Ps:=by omega
        refine im (Ej e ik _ cap rV.symm g2 r2 i0 i1) (cm h h1 (HL (pl:=⟨e,H'.filterMap (lG n.toNat),rd w ik.block (ik.off+n.toNat*e.sz) e.sz,some (ik.block,ik.off+n.toNat*e.sz)⟩) h ?_ rfl) (λ_ _ _ _ e=>by cases e));grind [tw,bn]
      ·rename_i jE;split at h1
       ·rename_i h0;obtain ⟨yv,Ek,h1⟩:=bind_some h1;have jj:=h4;simp only[ao,hH,aJ,aO,jE] at jj
        match bu,hl with
        | [tv],_=>
         rw[eo _ _ rfl] at g2;grind
       ·cases h1
     ·cases h1
    ·cases h1
  ·cases hk
 ·rename_i r p snap lo hi hv;rw[hv] at hs;split at hk
  ·rename_i oW;obtain ⟨hr,t',m',H',v',bu,c_,F',h1,h2,h3,h4,h5,h6⟩:=lA h hk;obtain ⟨pl,e,xa,len,cap,vM,cap',g1,g2,g3,g4,g5,g6,g7,Pk,g8,g9,g10⟩:=hs.2 oW;rw[h3] at g1;injection g1 with g1;subst g1;simp only at g2 g3;subst g2;subst g3;split at h1
   ·cases h1
   ·rename_i hH;have hH:hole H'=false:=fJ.2 hH;split at h1
    ·rename_i rV;obtain ⟨i0,i1,h1⟩:=GP h1
     have z8:∃ ik,xa=some ik/\ik.spot=none:=by
      simp only[ao,hH,aJ,aO] at h4
      cases xa with
      | none=>
       split at h4
       ·grind
       ·obtain ⟨_,_,Y2,Jd,q1,q2,q3,_⟩:=h4;grind
      | some ik=>
       refine ⟨ik,rfl,?_⟩
       split at h4
       ·grind
       ·obtain ⟨_,_,Y2,Jd,q1,q2,q3,q4⟩:=h4;grind
     obtain ⟨ik,rfl,pL⟩:=z8;obtain ⟨FS,e1,e2,e3,e4⟩:=g9 ik rfl;subst e1;have e4:=e4 (by omega);refine im (Ej e FS _ cap' rV.symm g6 (e2.trans pL) i0 i1) ?_
     have LR:(⟨FS.block,FS.off+n.toNat*e.sz,none⟩:Addr)=⟨ik.block,ik.off+(lo+n.toNat)*e.sz,none⟩:=by
      grind
     rw[LR];have ax:lo+n.toNat < len:=by omega
     refine cm h h1 (HL (pl:=⟨e,H'.filterMap (lG (lo+n.toNat)),rd w ik.block (ik.off+(lo+n.toNat)*e.sz) e.sz,some (ik.block,ik.off+(lo+n.toNat)*e.sz)⟩) h ?_ rfl) (λ_ _ _ _ e=>by cases e);grind [tw,bn]
    ·cases h1
  ·cases hk
 ·rename_i r p snap hv;rw[hv] at hs;split at hk
  ·rename_i oW;obtain ⟨hr,t',m',H',v',bu,c_,F',h1,h2,h3,h4,h5,h6⟩:=lA h hk;obtain ⟨pl,b,off,g1,g2,g3,g4⟩:=hs.2 oW;rw[h3] at g1;injection g1 with g1;subst g1;simp only at g2;subst g2;split at h1
   ·rename_i rV;split at h1
    ·rename_i m e Ps;obtain ⟨i0,i1,h1⟩:=GP h1;obtain ⟨hH,hf,hl,hlen,wW⟩:=h4;subst hH;have ax:n.toNat < m:=by omega
     refine im (Y1 m e b off rV.symm g3 i0 (by omega)) (cm h h1 ⟨hs.1,λ_=>⟨⟨e,[],(bu.drop (n.toNat*e.sz)).take e.sz,some (b,off+n.toNat*e.sz)⟩,b,off+n.toNat*e.sz,?_,rfl,rfl,?_⟩⟩ (λ_ _ _ _ e=>by cases e))
     ·grind [tw,bn,iu]
     ·rw[N6];exact g4
    ·cases h1
   ·cases h1
  ·cases hk
 ·cases hk
end
end OT
namespace OT
open Go
section
variable {P:Program} {C:Ctx} {A:Cells} {X:FP} {σ:St} {a:Act} {w:World} {F:Nat->FP} {R:Type} {x:R} {Q:Exit->Act->World->Prop} {o:Oper} {E:Env}
theorem SJ (s:List UInt8) (n:Nat):(⟨s.toArray⟩:ByteArray)[n]?=s[n]?:=by
 by_cases h:n < s.length
 ·have h1:n < (⟨s.toArray⟩:ByteArray).size:=by simpa [ByteArray.size] using h
  rw[getElem?_pos _ n h1,aB h];rfl
 grind [ByteArray.size]
theorem QB (h:d_ P C A σ a w F) (kG:∀ i T,E.TI i=some T->bi P T (.inl i)=true) {t:Nat} {y z:Operand} (ho:o.op=.index t y z) (ba:dO P y=true/\dO P z=true) {K:St->Option R}
  (hk:Lp E σ t (d7 σ y) (d7 σ z) o.dst K=some x):Tk P o a w (Nx P C K x):=by
 unfold Lp at hk;have JX:=gw hk;clear hk;obtain ⟨T,hT,mJ⟩:=JX;have jk:=kG _ _ hT
 rcases fy h ba.2 with hz | ⟨xs,e⟩
 rotate_left
 ·rw[e] at mJ;cases mJ
 have hk3:=wv hz mJ;clear mJ;obtain ⟨kz,n,Pr,hk⟩:=hk3
 rcases fy h ba.1 with hs | ⟨xs,e⟩
 rotate_left
 ·grind
 split at hk
 ·rename_i s hv;rw[hv] at hs;split at hk
  ·rename_i rV;subst rV;split at hk
   ·rename_i h0;obtain ⟨c,hc,hk⟩:=bind_some hk;obtain ⟨cs,h1,h2⟩:=hs;simp only[Ro] at h2;subst h2;have hb:=SJ s n.toNat;rw[hc] at hb;refine im (v:=.int .u8 c.toNat) ?_ (cm h hk ⟨[_],rfl,rfl⟩ (λ_ _ _ _ e=>by cases e));simp[execOp,ho,h1,dq,isAgg,Pr,Instr.index,asIntOf,run_underlying (mY jk),h0,hb]
   ·cases hk
  ·cases hk
 ·rename_i m e v hv;rw[hv] at hs;split at hk
  ·rename_i rV;subst rV;split at hk
   ·rename_i h0;obtain ⟨yv,Ek,hk⟩:=bind_some hk;obtain ⟨cs,h1,h2⟩:=hs;obtain ⟨q1,q2,q3,q4⟩:=id h2;obtain ⟨el,hu,_,hle⟩:=Pq jk;have ax:n.toNat < m:=q2 ▸ (aR.1 Ek).1;have z6:n < (m:Int):=by omega
    have wW:=q4 _ _ Ek;refine im (v:=dq e ((cs.drop (n.toNat*e.sz)).take e.sz)) (λw' _=>?_) (cm h hk ⟨_,rfl,wW⟩ (λ_ _ _ _ e=>by cases e));have hp:=uS (P:=P) (w:=w') hle (cs:=cs.toArray) (off:=n.toNat*e.sz) (by grind [Ro.length]);simp only[List.toList_toArray] at hp;have nC:=run_sizeOf (P:=P) (w:=w') hle;simp_all [execOp,dq,isAgg,Instr.index,asIntOf,run_underlying]
   ·cases hk
  ·cases hk
 ·cases hk
theorem Ag {t:Ty} {m:Md} {H:List Path} {e:Ty} {v:List e.den} {cs:List Value} {G:FP} (h:ao P w A (.aa e) m H v cs G) (hH:hole H=false) :
  ∃ xa cap,cs=[.slice xa (List.length v) cap]/\List.length v<=cap/\(xa=none->List.length v=0):=by
 simp only[ao,hH,aJ,aO] at h;split at h
 ·grind
 ·obtain ⟨_,_,xa,cap,q1,q2,q3,q4⟩:=h;grind
theorem Ah {t:Nat} {y:Operand} (ho:o.op=.call { callee:=.builtin .len,args:=#[y],argTypes:=#[t] }) :
  (execOp a.eval o).run P w=((Builtin.len_ #[t] o.type #[a.eval y]).run P w).andThen λv w'=>.ok (.value v) w':=by
 simp_all [execOp,resolve,invoke,builtin]
theorem UV (h:d_ P C A σ a w F) (kG:∀ i T,E.TI i=some T->bi P T (.inl i)=true) {t:Nat} {y:Operand} (ho:o.op=.call { callee:=.builtin .len,args:=#[y],argTypes:=#[t] }) (ba:dO P y=true) {K:St->Option R}
  (hk:UL E σ t (d7 σ y) (λn=>K (σ.bz o.dst (.val (.int .i64) (n:Int))))=some x):Tk P o a w (Nx P C K x):=by
 unfold UL at hk;obtain ⟨T,hT,hk⟩:=gw hk;have jk:=kG _ _ hT
 rcases fy h ba with hs | ⟨xs,e⟩
 rotate_left
 ·grind
 have fin:∀ n:Nat,K (σ.bz o.dst (.val (.int .i64) (n:Int)))=some x->Nx P C K x (a.put o.dst (.int .i64 (n:Int))) w:=λn hk=>cm h hk ⟨[_],rfl,rfl⟩ (λ_ _ _ _ e=>by cases e);split at hk
 ·split at hk
  ·rename_i s hv;rw[hv] at hs;obtain ⟨cs,h1,h2⟩:=hs;simp only[Ro] at h2;subst h2;refine im (v:=.int .i64 (s.length:Int)) (λw' _=>?_) (fin _ hk);have e:a.eval y=.string ⟨List.toArray s⟩:=h1;have e2:(⟨List.toArray s⟩:ByteArray).size=s.length:=rfl;rw[Ah ho,e];unfold Builtin.len_;simp only[List.getElem?_toArray,eI,Sem.run_bind,run_underlying (mY jk),Result.andThen_ok,Sem.run_pure,goInt,e2]
  ·cases hk
 ·rename_i e;obtain ⟨el,hu,_,hle⟩:=uw jk
  have run:∀ xa n cap,a.eval y=.slice xa n cap->∀ w',tQ o w w'->(execOp a.eval o).run P w'=.ok (.value (.int .i64 (n:Int))) w':=λxa n cap hy w' _=>by
   rw[Ah ho];simp[Builtin.len_,hy,run_underlying hu,goInt]
  split at hk
  ·rename_i e' v hv;rw[hv] at hs;obtain ⟨cs,h1,xa,cap,h2,_⟩:=hs;subst h2;exact im (run xa _ cap h1) (fin _ hk)
  ·rename_i hv;rw[hv] at hs;exact im (run none 0 0 hs) (fin _ hk)
  ·rename_i r p snap hv;rw[hv] at hs;split at hk
   ·rename_i oW;obtain ⟨hr,t',m',H',v',bu,c_,F',h1,h2,h3,h4,h5,h6⟩:=lA h hk;obtain ⟨pl,g1,g2,g3⟩:=hs.2 oW;rw[h3] at g1;injection g1 with g1;subst g1;simp only at g2;split at h1
    ·cases h1
    ·rename_i hH;have hH:hole H'=false:=fJ.2 hH;split at h1
     ·rename_i e' Ps;obtain ⟨xa,cap,q1,q2,q3⟩:=Ag (t:=.unit) h4 hH;subst q1;exact im (run xa _ cap g2) (fin _ h1)
     ·cases h1
   ·cases hk
  ·rename_i r p snap lo hi hv;rw[hv] at hs;split at hk
   ·rename_i oW;obtain ⟨pl,e',xa,len,cap,vM,cap',g1,g2,g3,g4,g5,g6,g7,Pk,g8,g9,g10⟩:=hs.2 oW;grind [im]
   ·cases hk
  ·cases hk
 ·cases hk
theorem SK {len cap:Nat} {lo hi:Option Operand} {K:Nat->Nat->Option R} (qU:len<=cap) (vN:∀ y,lo=some y->c8 P A σ a w (a.eval y) (d7 σ y) (λ_ _=>0)) (FZ:∀ y,hi=some y->c8 P A σ a w (a.eval y) (d7 σ y) (λ_ _=>0))
  (hk:uu len (lo.map (d7 σ)) (hi.map (d7 σ)) K=some x):∃ l h,l<=h/\h<=len/\K l h=some x/\(∀ w',(Instr.sliceBounds true len cap (lo.map a.eval) (hi.map a.eval) none).run P w'=.ok (l,h,cap) w') /\
   (len=cap->∀ w',(Instr.sliceBounds false len cap (lo.map a.eval) (hi.map a.eval) none).run P w'=.ok (l,h,cap) w'):=by
 have kN:∀ (k:IntKind) (i:Int) (y:Nat) code,0<=i->i<=(y:Int)->∀ w',(Instr.sliceBound (.int k i) y code).run P w'=.ok i.toNat w':=λk i y code h0 h1 w'=>run_sliceBound w' k i y code h0 h1
 have two:∀ (SL pj:Option Value) (l h:Nat),(SL=none/\l=0\/∃ k n,SL=some (.int k n)/\0<=n/\n<=(h:Int)/\l=n.toNat)->(pj=none/\h=len\/∃ k n,pj=some (.int k n)/\0<=n/\n<=(len:Int)/\h=n.toNat) ->
   (∀ w',(Instr.sliceBounds true len cap SL pj none).run P w'=.ok (l,h,cap) w')/\(len=cap->∀ w',(Instr.sliceBounds false len cap SL pj none).run P w'=.ok (l,h,cap) w'):=λSL pj l h h1 h2=>by
  rcases h2 with ⟨rfl,rfl⟩ | ⟨k2,n2,rfl,b1,b2,rfl⟩
  ·rcases h1 with ⟨rfl,rfl⟩ | ⟨k1,n1,rfl,a1,a2,rfl⟩
   ·simp_all [Instr.sliceBounds]
   ·exact ⟨by simp_all [Instr.sliceBounds],λ_=>by simp_all [Instr.sliceBounds]⟩
  ·have c1:=kN k2 n2 cap .sliceAcap b1 (by omega);have c2:=kN k2 n2 cap .sliceAlen b1 (by omega)
   rcases h1 with ⟨rfl,rfl⟩ | ⟨k1,n1,rfl,a1,a2,rfl⟩
   all_goals simp_all [Instr.sliceBounds]
 unfold uu at hk
 cases lo with
 | none=>
  cases hi <;> grind [wv]
 | some yl=>
  cases hi <;> grind [wv]
theorem KK (s:List UInt8) (l h:Nat) (hl:l<=h) (hh:h<=s.length):(⟨s.toArray⟩:ByteArray).extract l h=⟨((s.take h).drop l).toArray⟩:=by
 apply ByteArray.ext;grind [ByteArray.data_extract]
theorem QC (h:d_ P C A σ a w F) (kG:∀ i T,E.TI i=some T->bi P T (.inl i)=true) {t:Nat} {y:Operand} {lo hi:Option Operand} (ho:o.op=.slice t y lo hi none)
  (ba:dO P y=true/\(∀ z,lo=some z->dO P z=true)/\(∀ z,hi=some z->dO P z=true)) {K:St->Option R}
  (hk:Lq E σ t (d7 σ y) (lo.map (d7 σ)) (hi.map (d7 σ)) o.dst K=some x):Tk P o a w (Nx P C K x):=by
 unfold Lq at hk;have JX:=gw hk;clear hk;obtain ⟨T,hT,hk⟩:=JX;have jk:=kG _ _ hT
 have Ww:∀ z,dO P z=true->(∀ xs,d7 σ z≠.rT xs)->c8 P A σ a w (a.eval z) (d7 σ z) (λ_ _=>0):=λz hz hn=>by
  grind [fy]
 have bound:∀ (len cap:Nat) (K':Nat->Nat->Option R),len<=cap->uu len (lo.map (d7 σ)) (hi.map (d7 σ)) K'=some x->∃ l h,l<=h/\h<=len/\K' l h=some x/\(∀ w',(Instr.sliceBounds true len cap (lo.map a.eval) (hi.map a.eval) none).run P w'=.ok (l,h,cap) w') /\
   (len=cap->∀ w',(Instr.sliceBounds false len cap (lo.map a.eval) (hi.map a.eval) none).run P w'=.ok (l,h,cap) w'):=λlen cap K' hc hb=>by
  refine SK hc (λz hz=>Ww z (ba.2.1 z hz) λxs e=>?_) (λz hz=>Ww z (ba.2.2 z hz) λxs e=>?_) hb
  ·subst hz;unfold uu at hb;grind [wc]
  ·subst hz;unfold uu at hb
   cases lo with
   | none=>grind [wc]
   | some yl=>
    simp only[bT,e] at hb;unfold wc at hb;grind
 have Ej:∀ e xa len cap l h,T=.aa e->a.eval y=.slice xa len cap->l<=cap->(∀ ad,xa=some ad->0 < cap->ad.spot=none)->(∀ w',(Instr.sliceBounds true len cap (lo.map a.eval) (hi.map a.eval) none).run P w'=.ok (l,h,cap) w') ->
   ∀ w',tQ o w w'->(execOp a.eval o).run P w'=.ok (.value (.slice (if cap=l then xa else xa.map λad=>⟨ad.block,ad.off+l*e.sz,none⟩) (h - l) (cap - l))) w':=λe xa len cap l h rV hy hlc pL hb w' _=>by
  have hb:=hb w';subst rV;obtain ⟨el,hu,_,hle⟩:=uw jk;have nC:=run_sizeOf (P:=P) (w:=w') hle;unfold execOp;simp only[ho,gR,Instr.sliceAt,Instr.slice,Sem.run_bind,run_underlying hu,Result.andThen_ok,hy,hb,nC,Sem.run_pure];by_cases Ba:cap=l
  ·simp[Ba]
  ·congr 4
   cases xa with
   | none=>rfl
   | some ad=>
    obtain ⟨b,off,sp⟩:=ad;grind [qF]
 have addr:∀ (xa:Option Addr) (cap l h n:Nat) (e:Ty),l<=h->h<=n->n<=cap->(∀ ad,xa=some ad->0 < cap->ad.spot=none) ->
   (xa=none->(if cap=l then xa else xa.map λad=>⟨ad.block,ad.off+l*e.sz,none⟩)=none) /\
   (∀ ad,xa=some ad->∃ c_,(if cap=l then xa else xa.map λad=>⟨ad.block,ad.off+l*e.sz,none⟩)=some c_/\c_.spot=ad.spot/\c_.block=ad.block/\(l < h->c_.off=ad.off+l*e.sz)) /\
   (l=0->(if cap=l then xa else xa.map λad=>(⟨ad.block,ad.off+l*e.sz,none⟩:Addr))=xa):=λxa cap l h n e h1 h2 h3 pL=>by
  refine ⟨λe=>by grind,λad e=>?_,λe0=>?_⟩
  ·grind
  ·subst e0;split
   ·rfl
   ·cases xa with
    | none=>rfl
    | some ad=>
     obtain ⟨b,off,sp⟩:=ad;grind
 have Wx:∀ {e:Ty} {v:List e.den} {m:Md} {H:List Path} {xa n cap} {G:FP},ao P w A (.aa e) m H v [.slice xa n cap] G->hole H=false->∀ ad,xa=some ad->0 < cap->ad.spot=none:=λ{e v m H xa n cap G} jj hH ad SE GQ=>by
  simp only[ao,hH,aJ,aO] at jj;split at jj
  ·grind
  ·obtain ⟨_,_,Y2,Jd,q1,q2,q3,q4⟩:=jj;grind
 rcases fy h ba.1 with hs | ⟨xs,e⟩
 rotate_left
 ·grind
 split at hk
 ·rename_i s hv;rw[hv] at hs;split at hk
  ·rename_i rV;have Wy:=jk;rw[rV] at Wy;obtain ⟨l,h',b1,b2,hk,b3,b4⟩:=bound s.length s.length _ (aL _) hk;obtain ⟨cs,h1,h2⟩:=hs;simp only[Ro] at h2;subst h2;have e1:a.eval y=.string ⟨List.toArray s⟩:=h1;have e2:(⟨List.toArray s⟩:ByteArray).size=s.length:=rfl;refine im (v:=.string ⟨((s.take h').drop l).toArray⟩) (λw' _=>?_) (cm h hk ⟨[_],rfl,rfl⟩ (λ_ _ _ _ e=>by cases e));unfold execOp;simp only[ho,gR,Instr.sliceAt,Instr.slice,Sem.run_bind,run_underlying (mY Wy),Result.andThen_ok,e1,Option.isSome_none,aJ,aO,e2,b4 rfl w',Sem.run_pure,KK s l h' b1 b2]
  ·cases hk
 ·rename_i e v hv;rw[hv] at hs;split at hk
  ·rename_i rV;obtain ⟨cs,h1,h2⟩:=hs;obtain ⟨xa,cap,q1,q2,q3,q4⟩:=id h2;subst q1;rw[eo _ _ rfl] at h1;obtain ⟨l,h',b1,b2,hk,b3,_⟩:=bound (List.length v) cap _ q2 hk;obtain ⟨r1,r2,r3⟩:=addr xa cap l h' _ e b1 b2 q2 (λad e=>(q4 ad e).1);exact im (Ej e xa _ cap l h' rV h1 (by omega) (λad e=>(q4 ad e).1) b3) (cm h hk ⟨_,(eo (.aa e) _ rfl).symm,Ro.piece h2 b1 b2 (by omega) r1 r2⟩ (λ_ _ _ _ e=>by cases e))
  ·cases hk
 ·rename_i r p snap hv;rw[hv] at hs;split at hk
  ·rename_i oW;obtain ⟨hr,t',m',H',v',bu,c_,F',h1,h2,h3,h4,h5,h6⟩:=lA h hk;obtain ⟨pl,g1,g2,g3⟩:=hs.2 oW;rw[h3] at g1;injection g1 with g1;subst g1;simp only at g2 g3;split at h1
   ·cases h1
   ·rename_i hH;have hH:hole H'=false:=fJ.2 hH;split at h1
    ·rename_i rV;split at h1
     ·rename_i e Ps;obtain ⟨xa,cap,q1,q2,q3⟩:=Ag (t:=.unit) h4 hH;subst q1;rw[eo _ _ rfl] at g2;have pL:=Wx h4 hH;split at h1
      ·obtain ⟨l,h',b1,b2,h1,b3,_⟩:=bound (List.length Ps) cap _ q2 h1;obtain ⟨r1,r2,r3⟩:=addr xa cap l h' _ e b1 b2 q2 pL;refine im (Ej e xa _ cap l h' rV.symm g2 (by omega) pL b3) (cm h h1 ⟨hs.1,λ_=>⟨_,e,xa,_,cap,_,cap - l,h3,rfl,rfl,b1,b2,rfl,by omega,r3,r1,r2,?_⟩⟩ (λ_ _ _ _ e=>by cases e));grind
      ·rename_i jE;obtain ⟨l,h',b1,b2,h1,b3,_⟩:=bound (List.length Ps) cap _ q2 h1;obtain ⟨r1,r2,r3⟩:=addr xa cap l h' _ e b1 b2 q2 pL;simp only[ao,hH,aJ,aO,jE] at h4;exact im (Ej e xa _ cap l h' rV.symm g2 (by omega) pL b3) (cm h h1 ⟨_,(eo (.aa e) _ rfl).symm,Ro.piece h4.2.2 b1 b2 (by omega) r1 r2⟩ (λ_ _ _ _ e=>by cases e))
     ·cases h1
    ·cases h1
  ·cases hk
 ·rename_i r p snap l0 h0 hv;rw[hv] at hs;split at hk
  ·rename_i oW;obtain ⟨hr,t',m',H',v',bu,c_,F',h1,h2,h3,h4,h5,h6⟩:=lA h hk;obtain ⟨pl,e,xa,n,cap,vM,cap',g1,g2,g3,g4,g5,g6,g7,Pk,g8,g9,g10⟩:=hs.2 oW;have g1':=g1;rw[h3] at g1;injection g1 with g1;subst g1;simp only at g2 g3;subst g2;subst g3;split at h1
   ·cases h1
   ·rename_i hH;have hH:hole H'=false:=fJ.2 hH;split at h1
    ·rename_i rV;obtain ⟨Y2,Jd,q1,q2,q3⟩:=Ag (t:=.unit) h4 hH;simp only[dH,Value.slice.injEq,eJ] at q1;obtain ⟨rfl,rfl,rfl⟩:=q1;have pL:=Wx h4 hH
     have Y3:∀ ad,vM=some ad->0 < cap'->ad.spot=none:=λad e' GQ=>by
      cases SE:xa <;> grind
     obtain ⟨l,h',b1,b2,h1,b3,_⟩:=bound (h0 - l0) cap' _ (by omega) h1;obtain ⟨r1,r2,r3⟩:=addr vM cap' l h' _ e b1 b2 (by omega) Y3;refine im (Ej e vM _ cap' l h' rV.symm g6 (by omega) Y3 b3) (cm h h1 ⟨hs.1,λ_=>⟨⟨.aa e,H',[.slice xa (List.length v') cap],c_⟩,e,xa,List.length v',cap,(if cap'=l then vM else vM.map λad=>⟨ad.block,ad.off+l*e.sz,none⟩),cap' - l,h3,rfl,rfl,by omega,by omega,?_,by omega,λe0=>?_,λe'=>?_,λad e'=>?_,g10⟩⟩ (λ_ _ _ _ e=>by cases e))
     ·grind
     ·grind
     ·grind
     grind
    ·cases h1
  ·cases hk
 ·cases hk
end
end OT
namespace OT
open Go
theorem rZ (k:IntKind) (n:Int):pU k (DT k n)=k.wrap n:=by
 cases k <;> first | rfl | skip
 show ((UInt8.ofNat (n % 2 ^ 8).toNat).toNat:Int)=_;grind [UInt8.toNat_ofNat',IntKind.wrap,IntKind.bits,IntKind.signed]
theorem Je (k:IntKind) (n:Int) (h:k=.u8->0<=n/\n < 256):pU k (Wh k n)=n:=by
 cases k <;> first | rfl | skip
 obtain ⟨h1,h2⟩:=h rfl;show ((UInt8.ofNat (n % 2 ^ 8).toNat).toNat:Int)=_;rw[gA];omega
theorem SM (v:BY .u8):0<=pU .u8 v/\pU .u8 v < 256:=by
 have:UInt8.toNat v < 256:=iQ v;show 0<=((UInt8.toNat v:Nat):Int)/\((UInt8.toNat v:Nat):Int) < 256;omega
section
variable {P:Program} {C:Ctx} {A:Cells} {X:FP} {σ:St} {a:Act} {w:World} {F:Nat->FP} {R:Type} {x:R} {Q:Exit->Act->World->Prop} {o:Oper} {E:Env}
theorem XC {op:BinOp} {k k':IntKind} {na nb:Int} {K:(t:Ty)->t.den->Option R} (hk:Ls op k na nb K=some x) (LK:k=k'\/op=.shl\/op=.shr) (hu:k=.u8->0<=na/\na < 256) (hu':k'=.u8->0<=nb/\nb < 256) (T:TypeId) :
  ∃ t v tv,K t v=some x/\Ro P w A t v [tv]/\isAgg t=false/\∀ w:World,(binOp op T (.int k na) (.int k' nb)).run P w=.ok tv w:=by
 have same:op≠.shl->op≠.shr->k=k':=λh1 h2=>by grind
 unfold Ls at hk;split at hk
 ·have:=same (by simp) (by simp);subst this;exact ⟨_,_,.int k (k.wrap (na+nb)),hk,by simp only[Ro,rZ],rfl,λw=>by simp[Go.binOp,Op.intArith]⟩
 ·have:=same (by simp) (by simp);subst this;exact ⟨_,_,.int k (k.wrap (na - nb)),hk,by simp only[Ro,rZ],rfl,λw=>by simp[Go.binOp,Op.intArith]⟩
 ·have:=same (by simp) (by simp);subst this;exact ⟨_,_,.int k (k.wrap (na*nb)),hk,by simp only[Ro,rZ],rfl,λw=>by simp[Go.binOp,Op.intArith]⟩
 ·have:=same (by simp) (by simp);subst this;split at hk
  ·cases hk
  ·rename_i Y4;exact ⟨_,_,.int k (k.wrap (na.tdiv nb)),hk,by simp only[Ro,rZ],rfl,λw=>by simp[Go.binOp,Op.intDiv,Y4]⟩
 ·have:=same (by simp) (by simp);subst this;split at hk
  ·cases hk
  ·rename_i Y4;refine ⟨_,_,.int k (na.tmod nb),hk,?_,rfl,λw=>by simp[Go.binOp,Op.intDiv,Y4]⟩
   simp only[Ro];rw[Je k _ (λe=>?_)];have h1:=hu e;have h2:=hu' e
   have:=Int.tmod_nonneg nb h1.1;have h3:na.tmod nb < nb:=Int.tmod_lt_of_pos na (by omega);omega
 ·have:=same (by simp) (by simp);subst this;exact ⟨_,_,.int k (k.wrap ((BitVec.ofInt k.bits na &&& BitVec.ofInt k.bits nb).toNat:Int)),hk,by simp only[Ro,rZ],rfl,λw=>by grind [Go.binOp,Op.intBits,Sem.run_pure]⟩
 ·have:=same (by simp) (by simp);subst this;exact ⟨_,_,.int k (k.wrap ((BitVec.ofInt k.bits na ||| BitVec.ofInt k.bits nb).toNat:Int)),hk,by simp only[Ro,rZ],rfl,λw=>by grind [Go.binOp,Op.intBits,Sem.run_pure]⟩
 ·have:=same (by simp) (by simp);subst this;exact ⟨_,_,.int k (k.wrap ((BitVec.ofInt k.bits na ^^^ BitVec.ofInt k.bits nb).toNat:Int)),hk,by simp only[Ro,rZ],rfl,λw=>by grind [Go.binOp,Op.intBits,Sem.run_pure]⟩
 ·split at hk
  ·cases hk
  ·rename_i hn;exact ⟨_,_,.int k (k.wrap (na*2 ^ (min nb.toNat k.bits))),hk,by simp only[Ro,rZ],rfl,λw=>by simp[Go.binOp,Op.shift,hn]⟩
 ·split at hk
  ·cases hk
  ·rename_i hn;refine ⟨_,_,.int k (na.fdiv (2 ^ (min nb.toNat k.bits))),hk,?_,rfl,λw=>by simp[Go.binOp,Op.shift,hn]⟩
   simp only[Ro];rw[Je k _ (λe=>?_)];have h1:=hu e;have hp:(0:Int) < 2 ^ (min nb.toNat k.bits):=Int.pow_pos (by omega);rw[fM _ (by omega)];have h2:=Int.ediv_nonneg h1.1 (Int.le_of_lt hp);have h3:=Int.ediv_le_self (2 ^ (min nb.toNat k.bits)) h1.1;omega
 ·have:=same (by simp) (by simp);subst this;exact ⟨.bool,decide (na=nb),_,hk,rfl,rfl,λw=>by simp[Go.binOp,Op.intCmp];rfl⟩
 ·have:=same (by simp) (by simp);subst this;exact ⟨.bool,!decide (na=nb),_,hk,rfl,rfl,λw=>by simp[Go.binOp,Op.intCmp,bne];rfl⟩
 ·have:=same (by simp) (by simp);subst this;exact ⟨.bool,decide (na < nb),_,hk,rfl,rfl,λw=>by simp[Go.binOp,Op.intCmp]⟩
 ·have:=same (by simp) (by simp);subst this;exact ⟨.bool,decide (na<=nb),_,hk,rfl,rfl,λw=>by simp[Go.binOp,Op.intCmp]⟩
 ·have:=same (by simp) (by simp);subst this;exact ⟨.bool,decide (nb < na),_,hk,rfl,rfl,λw=>by simp[Go.binOp,Op.intCmp]⟩
 ·have:=same (by simp) (by simp);subst this;exact ⟨.bool,decide (nb<=na),_,hk,rfl,rfl,λw=>by simp[Go.binOp,Op.intCmp]⟩
 ·cases hk
theorem XD {op:BinOp} {s t:List UInt8} {K:(t:Ty)->t.den->Option R} (hk:UM op s t K=some x) (T:TypeId) :
  ∃ ty v tv,K ty v=some x/\Ro P w A ty v [tv]/\isAgg ty=false/\∀ w:World,(binOp op T (.string ⟨s.toArray⟩) (.string ⟨t.toArray⟩)).run P w=.ok tv w:=by
 have h0:∀ w:World,(binOp op T (.string ⟨s.toArray⟩) (.string ⟨t.toArray⟩)).run P w=(Op.stringOp op ⟨s.toArray⟩ ⟨t.toArray⟩).run P w:=λw=>by cases op <;> rfl
 simp only[h0];unfold UM at hk;split at hk
 ·split at hk
  ·rename_i hc;refine ⟨.str,s++t,.string ⟨(s++t).toArray⟩,hk,rfl,rfl,λw=>?_⟩
   grind [run_string_add_sum,ByteArray.size,cg,ByteArray.mk_append_mk]
  ·cases hk
 ·exact ⟨.bool,decide (s=t),_,hk,rfl,rfl,λw=>by simp[Op.stringOp];grind⟩
 ·exact ⟨.bool,!decide (s=t),_,hk,rfl,rfl,λw=>by simp[Op.stringOp];grind⟩
 ·cases hk
theorem zI {tv:Value} {s:List UInt8} {G:FP} (h:c8 P A σ a w tv (.val .str s) G):tv=.string ⟨s.toArray⟩:=by
 obtain ⟨cs,h1,h2⟩:=h;simp only[Ro] at h2;subst h2;exact h1
theorem zJ {tv:Value} {k:IntKind} {n:BY k} {G:FP} (h:c8 P A σ a w tv (.val (.int k) n) G):tv=.int k (pU k n):=by
 obtain ⟨cs,h1,h2⟩:=h;simp only[Ro] at h2;subst h2;exact h1
theorem LS {tv:Value} {b:Bool} {G:FP} (h:c8 P A σ a w tv (.val .bool b) G):tv=.bool b:=by
 obtain ⟨cs,h1,h2⟩:=h;simp only[Ro] at h2;subst h2;exact h1
theorem SN (h:d_ P C A σ a w F) {op:UnOp} {t:Nat} {y:Operand} (ho:o.op=.unOp op t y) (ba:dO P y=true) {K:St->Option R}
  (hk:(match op,d7 σ y with
  | .not,.val .bool b=>K (σ.bz o.dst (.val .bool (!b)))
  | .neg,.val (.int k) n=>K (σ.bz o.dst (.val (.int k) (DT k (0 - pU k n))))
  | _,_=>none)=some x):Tk P o a w (Nx P C K x):=by
 rcases fy h ba with hs | ⟨xs,e⟩
 rotate_left
 ·grind
 split at hk
 ·rename_i b ho hv;rw[hv] at hs;have e:=LS hs;exact im (v:=.bool (!b)) (by simp[execOp,ho,e,Op.unary]) (cm h hk ⟨[_],rfl,rfl⟩ (λ_ _ _ _ e=>by cases e))
 ·rename_i k n ho hv;rw[hv] at hs;have e:=zJ hs;exact im (v:=.int k (k.wrap (0 - pU k n))) (by simp[execOp,ho,e,Op.unary,Op.intArith]) (cm h hk ⟨[_],rfl,by simp only[Ro,rZ]⟩ (λ_ _ _ _ e=>by cases e))
 ·cases hk
end
end OT
namespace OT
open Go
section
variable {P:Program} {w:World} {A:Cells}
theorem Wz:∀ (t:Ty),(∀ (i:TypeId) (d:Nat) (v1 v2:t.den) (qt d6:List Value),bi P t (.inl i)=true->rU P t (.inl i)=true->dep t<=d->Ro P w A t v1 qt->Ro P w A t v2 d6->(Op.equalIn d i (dq t qt) (dq t d6)).run P w=.ok (t.eq v1 v2) w) /\
  (∀ (fs:List Field) (off d:Nat) (v1 v2:t.den) (xs ys:Array Value),bi P t (.inr (fs,off))=true->rU P t (.inr fs)=true->dep t<=d+1->Ro P w A t v1 (xs.toList.drop off)->Ro P w A t v2 (ys.toList.drop off)->(Op.eqFields d xs ys fs).run P w=.ok (t.eq v1 v2) w):=by
 intro t
 induction t with
 | int k=>
  refine ⟨λi d v1 v2 qt d6 hl he hd h1 h2=>?_,λfs off d v1 v2 xs ys hl=>by simp[bi] at hl⟩
  simp only[Ro] at h1 h2;subst h1;subst h2
  cases d with
  | zero=>simp[dep] at hd
  | succ d=>
   rw[eo _ _ rfl,eo _ _ rfl,run_equalIn_int w d i k k _ _ (qq hl)];congr 1
   cases k with
   | u8=>exact iM.2 (by simp only[pU,Ty.eq,beq_iff_eq];constructor;(intro h;exact fY.1 (by omega));grind)
   | _=>grind [pU,Ty.eq]
 | bool=>
  refine ⟨λi d v1 v2 qt d6 hl he hd h1 h2=>?_,λfs off d v1 v2 xs ys hl=>by simp[bi] at hl⟩
  simp only[Ro] at h1 h2;subst h1;subst h2
  have hu:P.underlying i=some .bool:=by
   grind [bi]
  cases d with
  | zero=>simp[dep] at hd
  | succ d=>rw[eo _ _ rfl,eo _ _ rfl,run_equalIn_bool' w d i _ _ hu];rfl
 | str=>
  refine ⟨λi d v1 v2 qt d6 hl he hd h1 h2=>?_,λfs off d v1 v2 xs ys hl=>by simp[bi] at hl⟩
  simp only[Ro] at h1 h2;subst h1;subst h2
  cases d with
  | zero=>simp[dep] at hd
  | succ d=>
   rw[eo _ _ rfl,eo _ _ rfl,run_equalIn_string w d i _ _ (mY hl),ByteArray.toList_mk,ByteArray.toList_mk];grind [Ty.eq]
 | unit=>
  refine ⟨λi d v1 v2 qt d6 hl he hd h1 h2=>?_,λfs off d v1 v2 xs ys hl he hd h1 h2=>?_⟩
  ·simp only[Ro] at h1 h2;subst h1;subst h2;simp only[bi,aF] at hl;have h3:=hl.2;split at h3
   ·rename_i fs hu;have hf:P.fieldsOf i=fs:=by simp[Program.fieldsOf,hu]
    cases d with
    | zero=>simp[dep] at hd
    | succ d=>
     have Jf:fs.toList=[]:=bG.1 h3;simp only[rU,cC] at he;show (Op.equalIn (d+1) i (.agg #[]) (.agg #[])).run P w=_;rw[run_equalIn_struct w d i _ _ (by grind) he,hf,Jf];rfl
   ·cases h3
  ·simp only[bi,bG] at hl;subst hl;rfl
 | pair a b mX mO=>
  have second:∀ (fs:List Field) (off d:Nat) (v1 v2:(Ty.pair a b).den) (xs ys:Array Value),bi P (.pair a b) (.inr (fs,off))=true->rU P (.pair a b) (.inr fs)=true->dep (.pair a b)<=d+1->Ro P w A (.pair a b) v1 (xs.toList.drop off)->Ro P w A (.pair a b) v2 (ys.toList.drop off)->(Op.eqFields d xs ys fs).run P w=.ok ((Ty.pair a b).eq v1 v2) w:=by
   intro fs off d v1 v2 xs ys hl he hd h1 h2
   cases fs with
   | nil=>simp[bi] at hl
   | cons f r=>
    simp only[bi,aF,eN,dK] at hl;simp only[rU,aF,bne_iff_ne,ne_eq] at he;simp only[dep] at hd;obtain ⟨SO,SP⟩:=h1;obtain ⟨h2a,h2b⟩:=h2;have p1:=uS (P:=P) (w:=w) hl.1.2 (cs:=xs) (off:=off) (Ro.length _ SO);have p2:=uS (P:=P) (w:=w) hl.1.2 (cs:=ys) (off:=off) (Ro.length _ h2a);have e1:=mX.1 f.type d v1.1 v2.1 _ _ hl.1.2 he.1.2 (by omega) SO h2a;rw[cU] at SP h2b;have e2:=mO.2 r (off+a.sz) d v1.2 v2.2 xs ys hl.2 he.2 (by omega) SP h2b;simp only[Op.eqFields,ne_eq,he.1.1,dM,aI,Sem.run_bind,hl.1.1.1,p1,p2,e1,Result.andThen_ok];cases hq:a.eq v1.1 v2.1 <;> simp_all [Ty.eq]
  refine ⟨λi d v1 v2 qt d6 hl he hd h1 h2=>?_,second⟩
  simp only[bi,aF] at hl;simp only[rU,aF,cC] at he;have h3:=hl.2;have h4:=he.2;split at h3
  ·rename_i fs hu;rw[hu] at h4;simp only at h4;have hf:P.fieldsOf i=fs:=by simp[Program.fieldsOf,hu]
   split at h3
   ·rename_i f r HJ;rw[HJ] at h4;simp only at h4
    cases d with
    | zero=>grind [dep]
    | succ d=>
     show (Op.equalIn (d+1) i (.agg qt.toArray) (.agg d6.toArray)).run P w=_;rw[run_equalIn_struct w d i _ _ (by grind) he.1,hf,HJ];refine second (f::r) 0 d v1 v2 _ _ ?_ ?_ hd (by simpa using h1) (by simpa using h2)
     all_goals grind [bi,rU]
   ·cases h3
  ·cases h3
 | arr n e ih=>
  refine ⟨λi d v1 v2 qt d6 hl he hd h1 h2=>?_,λfs off d v1 v2 xs ys hl=>by simp[bi] at hl⟩
  simp only[bi,aF] at hl;have h3:=hl.2;simp only[rU] at he;split at h3
  ·rename_i n' el hu;simp only[aF,eN,dK] at h3;obtain ⟨⟨rfl,_⟩,hle⟩:=h3;rw[hu] at he;simp only at he;obtain ⟨inf,i1,i2,_⟩:=lc (nf hle);have nC:P.cellsOf el=e.sz:=by grind [Program.cellsOf]
   obtain ⟨_,l1,_,r1⟩:=h1;obtain ⟨_,l2,_,r2⟩:=h2
   cases d with
   | zero=>simp[dep] at hd
   | succ d=>
    simp only[dep] at hd
    have key:∀ (m j:Nat),j+m=n->(Op.eqItems d el e.sz qt.toArray d6.toArray (List.range' j m)).run P w=.ok (((List.drop j v1).zip (List.drop j v2)).all λp=>e.eq p.1 p.2) w:=by
     intro m
     induction m with
     | zero=>
      intro j hj;rw[dX (by omega)];rfl
     | succ m Y5=>
      intro j hj;have g1:=aB (l:=v1) (i:=j) (by omega);have g2:=aB (l:=v2) (i:=j) (by omega);have a1:=r1 j _ g1;have a2:=r2 j _ g2;have p1:=uS (P:=P) (w:=w) hle (cs:=qt.toArray) (off:=j*e.sz) (Ro.length _ a1);have p2:=uS (P:=P) (w:=w) hle (cs:=d6.toArray) (off:=j*e.sz) (Ro.length _ a2);have e1:=ih.1 el d _ _ _ _ hle he (by omega) a1 a2;rw[iG,bX (l:=v1) (i:=j) (by omega),bX (l:=v2) (i:=j) (by omega)];simp only[Op.eqItems,Sem.run_bind,p1,p2,e1,Result.andThen_ok,List.zip_cons_cons,dI]
      cases hq:e.eq v1[j] v2[j] with
      | true=>grind
      | false=>simp
    show (Op.equalIn (d+1) i (.agg qt.toArray) (.agg d6.toArray)).run P w=_;rw[run_equalIn_array w d _ _ hu i1,nC,fN];exact key n 0 (by omega)
  ·cases h3
 | _=>grind [rU]
end
section
variable {P:Program} {C:Ctx} {A:Cells} {X:FP} {σ:St} {a:Act} {w:World} {F:Nat->FP} {R:Type} {x:R} {Q:Exit->Act->World->Prop} {o:Oper} {E:Env}
def WA (P:Program) (E:Env):Prop:=∀ i T,E.TI i=some T->T.oh=true->isAgg T=true->rU P T (.inl i)=true/\P.eqGuardType P.depth i=false/\dep T<=10000
theorem CN {op:BinOp} {t:TypeId} {y z:Operand} {u v:Value} (h:¬ (∃ p q,u=.agg p/\v=.agg q)) (h2:u≠.nilIface):(eqGuard op t y z u v).run P w=.ok () w:=by
 simp_all [eqGuard]
theorem Ro.oh {w':World} {A':Cells}:∀ (t:Ty) {v:t.den} {cs:List Value},t.oh=true->Ro P w A t v cs->Ro P w' A' t v cs:=by
 intro t
 induction t with
 | pair a b mX mO=>
  intro v cs hq h;simp only[Ty.oh,aF] at hq;exact ⟨mX hq.1 h.1,mO hq.2 h.2⟩
 | arr n e ih=>intro v cs hq h;exact ⟨h.1,h.2.1,h.2.2.1,λi x hx=>ih hq (h.2.2.2 i x hx)⟩
 | aa e ih=>grind [Ty.oh]
 | ptr e ih=>grind [Ty.oh]
 | fn=>grind [Ty.oh]
 | map k v=>grind [Ty.oh]
 | _=>intro v cs hq h;exact h
theorem QD (h:d_ P C A σ a w F) (kG:∀ i T,E.TI i=some T->bi P T (.inl i)=true) (heq:WA P E) {op:BinOp} {t t2:Nat} {y z:Operand} (ho:o.op=.binOp op t y z t2) (ba:dO P y=true/\dO P z=true) {K:St->Option R}
  (hk:Lt E t op (d7 σ y) (d7 σ z) (λt v=>K (σ.bz o.dst (.val t v)))=some x):Tk P o a w (Nx P C K x):=by
 rcases fy h ba.1 with hy | ⟨xs,e⟩
 rotate_left
 ·grind [Lt]
 rcases fy h ba.2 with hz | ⟨xs,e⟩
 rotate_left
 ·grind [Lt]
 have fin:∀ (ty:Ty) (v:ty.den) (tv:Value),K (σ.bz o.dst (.val ty v))=some x->Ro P w A ty v [tv]->isAgg ty=false->(∀ w',tQ o w w'->(eqGuard op t y z (a.eval y) (a.eval z)).run P w'=.ok () w')->(∀ w',tQ o w w'->(binOp op t (a.eval y) (a.eval z)).run P w'=.ok tv w')->Tk P o a w (Nx P C K x):=λty v tv hk hr ha hg hb=>by
  refine im (v:=tv) (λw' s8=>?_) (cm h hk ⟨[tv],(eo ty tv ha).symm,hr⟩ (λ_ _ _ _ e=>by cases e));grind [execOp,Sem.run_bind,Result.andThen_ok,Sem.run_pure]
 unfold Lt at hk;split at hk
 ·rename_i k n1 k' n2 HM LT;rw[HM] at hy;rw[LT] at hz;have e1:=zJ hy;have e2:=zJ hz;have hg:∀ w',tQ o w w'->(eqGuard op t y z (a.eval y) (a.eval z)).run P w'=.ok () w':=λw' _=>by grind [CN]
  have LK:(k=k'\/op=.shl\/op=.shr)/\Ls op k (pU k n1) (pU k' n2) (λt v=>K (σ.bz o.dst (.val t v)))=some x:=by
   grind
  obtain ⟨ty,v,tv,q1,q2,q3,q4⟩:=XC (P:=P) (A:=A) (w:=w) LK.2 LK.1 (λe=>by subst e;exact SM n1) (λe=>by subst e;exact SM n2) t;grind
 ·rename_i s1 s2 HM LT;rw[HM] at hy;rw[LT] at hz;have e1:=zI hy;have e2:=zI hz;have hg:∀ w',tQ o w w'->(eqGuard op t y z (a.eval y) (a.eval z)).run P w'=.ok () w':=λw' _=>by grind [CN]
  obtain ⟨ty,v,tv,q1,q2,q3,q4⟩:=XD (P:=P) (A:=A) (w:=w) hk t;grind
 ·rename_i ty v1 ty' v2 hni hns HM LT;rw[HM] at hy;rw[LT] at hz
  have main:∀ (e:ty=ty') (hq:ty.oh=true) (hT:E.TI t=some ty) (w':World),tQ o w w'->(eqGuard op t y z (a.eval y) (a.eval z)).run P w'=.ok () w'/\(∀ b,b=ty.eq v1 (e ▸ v2)->(op=.eql->(binOp op t (a.eval y) (a.eval z)).run P w'=.ok (.bool b) w')/\(op=.neq->(binOp op t (a.eval y) (a.eval z)).run P w'=.ok (.bool (!b)) w')):=λe hq hT w' s8=>by
   subst e;obtain ⟨qt,e1,r1⟩:=hy;obtain ⟨d6,e2,r2⟩:=hz;have r1:=Ro.oh (w':=w') (A':=A) _ hq r1;have r2:=Ro.oh (w':=w') (A':=A) _ hq r2;have jk:=kG _ _ hT
   cases hag:isAgg ty with
   | true=>
    obtain ⟨q1,q2,q3⟩:=heq _ _ hT hq hag;have acl:=(Wz (P:=P) (w:=w') (A:=A) ty).1 t 10000 v1 v2 qt d6 jk q1 q3 r1 r2;simp_all [dq,run_eqGuard_agg,run_eql_struct,run_neq_struct]
   | false=>
    cases ty with
    | int k=>grind
    | str=>grind
    | bool=>
     simp only[Ro] at r1 r2;subst r1;subst r2;rw[eo _ _ rfl] at e1 e2
     have hu:P.underlying t=some .bool:=by
      grind [bi]
     rw[e1,e2];refine ⟨CN (by grind) (by grind),λb hb=>⟨λh=>?_,λh=>?_⟩⟩
     ·subst h;subst hb;have:=run_equalIn_bool' (P:=P) w' 9999 t v1 v2 hu;simp only[Go.binOp,Op.equal,Op.maxDepth,Sem.run_bind,this,Result.andThen_ok,Sem.run_pure];rfl
     ·subst h;subst hb;have:=run_equalIn_bool' (P:=P) w' 9999 t v1 v2 hu;simp only[Go.binOp,Op.equal,Op.maxDepth,Sem.run_bind,this,Result.andThen_ok,Sem.run_pure];rfl
    | _=>grind [Ty.oh,isAgg]
  split at hk
  ·split at hk
   ·rename_i hq;obtain ⟨T,hT,hk⟩:=gw hk;split at hk
    ·rename_i e;subst e;obtain ⟨e,hk⟩:=cy hk;have m:=main e.symm hq hT;subst e;exact fin .bool _ _ hk rfl rfl (λw' s8=>(m w' s8).1) (λw' s8=>((m w' s8).2 _ rfl).1 rfl)
    ·cases hk
   ·cases hk
  ·split at hk
   ·rename_i hq;obtain ⟨T,hT,hk⟩:=gw hk;split at hk
    ·rename_i e;subst e;obtain ⟨e,hk⟩:=cy hk;have m:=main e.symm hq hT;subst e;exact fin .bool _ _ hk rfl rfl (λw' s8=>(m w' s8).1) (λw' s8=>((m w' s8).2 _ rfl).2 rfl)
    ·cases hk
   ·cases hk
  ·cases hk
 ·rename_i e v HM LT;rw[HM] at hy;rw[LT] at hz;obtain ⟨T,hT,hk⟩:=gw hk;split at hk
  ·rename_i eT;subst eT
   obtain ⟨te,hu⟩:∃ te,P.underlying t=some (.slice te):=by
    grind [bi]
   obtain ⟨cs,h1,a0,cap,h2,h3,h4,h5⟩:=hy;subst h2;rw[eo _ _ rfl] at h1;have WB:a.eval z=.slice none 0 0:=hz;have hg:∀ w',tQ o w w'->(eqGuard op t y z (a.eval y) (a.eval z)).run P w'=.ok () w':=λw' _=>by grind [CN]
   have key:∀ (b:Bool),zP v (K (σ.bz o.dst (.val .bool b))) (K (σ.bz o.dst (.val .bool !b)))=some x->K (σ.bz o.dst (.val .bool (if a0.isNone then b else !b)))=some x:=λb hb=>by
    cases v with
    | nil=>
     grind [zP,both]
    | cons y v=>
     have:a0.isNone=false:=by
      cases a0 <;> grind
     rw[this];exact hb
   unfold Yw at hk;split at hk
   ·refine fin .bool _ (.bool a0.isNone) (key true hk) ?_ rfl hg λw' _=>?_
    ·cases a0 <;> rfl
    grind [run_equal_slice_nil,Go.binOp,Sem.run_bind,Result.andThen_ok,Sem.run_pure]
   ·refine fin .bool _ (.bool !a0.isNone) (key false hk) ?_ rfl hg λw' _=>?_
    ·cases a0 <;> rfl
    grind [run_neq_slice_nil]
   ·cases hk
  ·cases hk
 ·cases hk
end
end OT
namespace OT
open Go
section
variable {P:Program} {C:Ctx} {A:Cells} {X:FP} {σ:St} {a:Act} {w:World} {F:Nat->FP} {R:Type} {x:R} {Q:Exit->Act->World->Prop} {o:Oper} {E:Env}
theorem pp (w:World) (ob:Obj):Ext w (w.alloc ob) (λ_ _=>0):=by
 refine ⟨by simp,λb i hb _ u hu=>?_,λb n hn=>?_,λb i hb=>World.frozen?_alloc_old w ob _ (by simp;omega),rfl,rfl,rfl,λb hb _=>?_,aL _⟩
 ·grind [zU,World.alloc]
 ·obtain ⟨c,e,fr,h1,h2,h3⟩:=hn;refine ⟨c,e,fr,?_,h2,h3⟩
  grind [World.alloc]
 grind [World.alloc]
theorem LU (w:World):Ext w w.drew (λ_ _=>0):=⟨aL _,λ_ _ _ _ _ h=>h,λ_ _ h=>h,λ_ _ _=>rfl,rfl,rfl,rfl,λ_ _ _=>rfl,Nat.le_succ _⟩
theorem Bb (w:World) (c:Array Value) (e:TypeId) (fr:Nat×Nat) (u:Bool) (nc:(u=true/\c.size<=fr.1)\/fr.2<=fr.1):je (w.alloc (.cells c e fr)) w.heap.size (c.size,u):=
 ⟨c,e,fr,heap_alloc_new w _,rfl,λi hi=>by grind,λhu=>by grind⟩
theorem Bc (w:World) (c:Array Value) (e:TypeId) (fr:Nat×Nat) {k:Nat} {L:List Value} (hL:∀ j u,L[j]?=some u->c[k+j]?=some u) (qT:∀ u ∈ L,u.oneCell'=true):Has (w.alloc (.cells c e fr)) w.heap.size k L:=by
 intro j u hu;grind [Fx,World.cell?,heap_alloc_new]
theorem Rel.alloc (h:Rel P C A X σ a w F) (c:Array Value) (e:TypeId) (fr:Nat×Nat):Rel P C A (λb i=>X b i+ep w.heap.size 0 c.size b i) σ a (w.alloc (.cells c e fr)) F:=by
 refine h.grow (pp w _) (λ_ _ h=>h) (λ_ _ h=>.inl h) (λb i=>?_);by_cases hb:b=w.heap.size
 ·subst hb;right
  have hx:X w.heap.size i=0:=by
   rcases bM (X w.heap.size i) with h0 | h0
   ·exact h0
   ·have:=h.kN w.heap.size i (.inl (by omega));omega
  exact ⟨aL _,by simp,by grind [ep]⟩
 grind [ep]
theorem Rel.drew (h:Rel P C A X σ a w F):Rel P C A X σ a w.drew F:=h.grow (LU w) (λ_ _ h=>h) (λ_ _ h=>.inl h) (λ_ _=>.inl (aL _))
theorem ao.alloc (h:Rel P C A X σ a w F) {t:Ty} {m:Md} {H:List Path} {v:t.den} {cs:List Value} {G:FP} (hr:ao P w A t m H v cs G) (hG:∀ b i,1<=G b i->b < w.heap.size) {w':World} (hw:Ext w w' (λ_ _=>0)):ao P w' A t m H v cs G:=
 ao.mono (λ_ _ h=>h) (λb i ha u hu=>hw.cell b i (h.kN b i (.inr ha)) rfl u hu) hw.xE t hr (λ_ _=>aL _) (λb i hp u hu=>hw.cell b i (hG b i hp) rfl u hu)
theorem Pt (h:Rel P C A X σ a w F) {K:St->Option R} {d:Option Tmp} {t:Ty} {m:Md} {v:t.den} {cs:List Value} {Fv:FP} (e:TypeId) (hk:K (σ.bz d (.box t m [] v))=some x)
  (hr:ao P w A t m [] v cs Fv) (hX:∀ b i,Fv b i<=X b i):∃ A' F',Rel P C A' (λ_ _=>0) (σ.bz d (.box t m [] v)) (a.put d (.pointer (some ⟨w.heap.size,0,none⟩))) (w.alloc (.cells cs.toArray e)) F':=by
 have hl:=ao.length t hr;have h1:=h.alloc cs.toArray e (0,0);have jE:=Bb w cs.toArray e (0,0) false (.inr (aL _));simp only[iD,hl] at jE h1;have wM:=ao.alloc h hr (λb i hp=>h.kN b i (.inl (by grind))) (pp w (.cells cs.toArray e))
 obtain ⟨F',hF⟩:=h1.bz d (s:=.box t m [] v) (v:=.pointer (some ⟨w.heap.size,0,none⟩)) (Fd:=λb i=>ep w.heap.size 0 t.sz b i+Fv b i) (X':=λ_ _=>0)
  ⟨w.heap.size,0,cs,Fv,rfl,hl,Bc w cs.toArray e (0,0) (λj u hu=>by simpa using hu) (ao.one _ hr),λj hj=>by simp_all,λ_ _=>aL _,wM⟩
  (λb i=>by grind) (λt' m' H' v' e'=>by grind)
 grind
theorem wd:∀ (t:Ty),t.wl=true->∃ L,zc t=some L:=by
 intro t
 induction t <;> grind [Ty.wl,zc]
theorem SQ (h:d_ P C A σ a w F) (kG:∀ i T,E.TI i=some T->bi P T (.inl i)=true) {t:Nat} (ho:o.op=.alloc t) {K:St->Option R}
  (hk:(p_ E t λT=>if T.wl then K (σ.bz o.dst (.box T (ai T) [] T.zero)) else none)=some x):o.wp P a w (λa' w'=>Nx P C K x a' w'/\Ext w w' (λ_ _=>0)) Q:=by
 obtain ⟨T,hT,hk⟩:=gw hk;split at hk
 ·rename_i SR;have jk:=kG _ _ hT;obtain ⟨L,hL⟩:=wd T SR;obtain ⟨z,El,ze⟩:=yS (P:=P) (w:=w) jk hL;obtain ⟨r1,r2,r3⟩:=CL (P:=P) (w:=w) (A:=A) T hL jk;refine oA (v:=.pointer (some ⟨w.heap.size,0,none⟩)) (w':=w.alloc (.cells L.toArray t)) ?_ ?_
  ·have:z.cells=L.toArray:=by grind
   simp_all [execOp,Instr.alloc,newVar,newRow]
  ·obtain ⟨A',F',hF⟩:=Pt h t hk r1 (λ_ _=>aL _);exact ⟨⟨_,hk,A',F',hF⟩,pp w _⟩
 ·cases hk
end
end OT
namespace OT
open Go
section
variable {P:Program} {C:Ctx} {A:Cells} {X:FP} {σ:St} {a:Act} {w:World} {F:Nat->FP} {R:Type} {x:R} {Q:Exit->Act->World->Prop} {o:Oper} {E:Env}
theorem FC (h:Rel P C A X σ a w F) {K:St->Option R} {d:Option Tmp} {e:Ty} {m:Md} {v:List e.den} {c:Array Value} {cap:Nat} {el:TypeId} {fr:Nat×Nat} {Fi:Nat->FP} (nc:(I5 e=true/\c.size<=fr.1)\/fr.2<=fr.1)
  (hk:K (σ.bz d (.own (.aa e) (.aa true m) [] v))=some x) (hc:c.size=cap*e.sz) (qU:cap<=maxLen) (hv:List.length v<=cap) (hX:∀ b i,bg (List.length v) Fi b i<=X b i)
  (sk:∀ (i:Nat) (y:e.den),v[i]?=some y->∃ L:List Value,L.length=e.sz/\(∀ j u,L[j]?=some u->c[i*e.sz+j]?=some u)/\ao P w A e m [] y L (Fi i)) :
  Nx P C K x (a.put d (.slice (some ⟨w.heap.size,0,none⟩) (List.length v) cap)) (w.alloc (.cells c el fr)):=by
 have h1:=h.alloc c el fr;have jE:=Bb w c el fr (I5 e) nc;rw[hc] at jE h1;refine pO h1 hk (Fd:=λb i=>ep w.heap.size 0 (cap*e.sz) b i+bg (List.length v) Fi b i) ⟨_,(eo (.aa e) _ rfl).symm,?_⟩ (λb i=>by grind) (λ_ _ _ _ e=>by cases e);simp only[ao,hole,bV,aJ,aO,Md.own,aI,Md.e];refine ⟨_,cap,rfl,hv,qU,(λe=>by cases e),λad lH=>?_⟩
 injection lH with lH;subst lH;refine ⟨rfl,rfl,jE,Fi,λ_ _=>aL _,λi y hy=>?_⟩
 obtain ⟨L,l1,l2,l3⟩:=sk i y hy;have hi:=(aR.1 hy).1;refine ⟨L,l1,Bc w c el fr l2 (ao.one _ l3),?_⟩
 simp only[eO];exact ao.alloc h l3 (λb k hp=>h.kN b k (.inl (by grind [dv]))) (pp w _)
theorem KL (h:d_ P C A σ a w F) (kG:∀ i T,E.TI i=some T->bi P T (.inl i)=true) {t:Nat} {y z:Operand} (ho:o.op=.makeSlice t y z) (ba:dO P y=true/\dO P z=true) {K:St->Option R}
  (hk:(p_ E t λt=>match t with
  | .aa e=>wc (d7 σ y) λn=>wc (d7 σ z) λc=>
   if e.wl then (if 0<=n/\n<=c/\c<=(cg:Int) then K (σ.bz o.dst (.own (.aa e) (ai (.aa e)) [] (List.replicate n.toNat e.zero))) else none) else none
  | _=>none)=some x):o.wp P a w (λa' w'=>Nx P C K x a' w'/\Ext w w' (λ_ _=>0)) Q:=by
 obtain ⟨T,hT,hk⟩:=gw hk;have jk:=kG _ _ hT;split at hk
 ·rename_i e
  rcases fy h ba.1 with hy | ⟨xs,e'⟩
  rotate_left
  ·rw[e'] at hk;cases hk
  obtain ⟨k1,n,hn,hk⟩:=wv hy hk
  rcases fy h ba.2 with hz | ⟨xs,e'⟩
  rotate_left
  ·rw[e'] at hk;cases hk
  obtain ⟨k2,c,hc,hk⟩:=wv hz hk;split at hk
  ·rename_i SR;split at hk
   ·rename_i hb;obtain ⟨el,hu,nC,hle⟩:=uw jk;obtain ⟨inf,i1,i2,i3,i4⟩:=lc (nf hle);obtain ⟨L,hL⟩:=wd e SR;obtain ⟨zv,z1,z2⟩:=i4 L hL;obtain ⟨r1,r2,r3⟩:=CL (P:=P) (w:=w) (A:=A) e hL hle
    have Y6:(inf.bytes:Int)*c<=281474976710656:=by
     have h1:(inf.bytes:Int)<=512:=by omega
     have h2:(inf.bytes:Int)*c<=512*c:=Int.mul_le_mul_of_nonneg_right h1 (by omega);grind [cg]
    have kO:=run_make (P:=P) w t el inf zv hu i1 z1 k1 k2 n c hb.1 hb.2.1 Y6 (by grind [cg]);have hzs:zv.cells.size=e.sz:=by grind
    have hlen:List.length (List.replicate n.toNat e.zero)=n.toNat:=by simp
    refine oA (v:=.slice (some ⟨w.heap.size,0,none⟩) n.toNat c.toNat) (w':=w.alloc (.cells (madeCells zv.cells (c.toNat*inf.size)) el)) ?_ ?_
    ·grind [execOp,Sem.run_bind,Result.andThen_ok,Sem.run_pure]
    ·refine ⟨?_,pp w _⟩
     have hnx:=FC h (K:=K) (d:=o.dst) (v:=List.replicate n.toNat e.zero) (c:=madeCells zv.cells (c.toNat*inf.size)) (cap:=c.toNat) (el:=el) (fr:=(0,0)) (m:=ai e) (Fi:=λ_ _ _=>0) (.inr (aL _)) hk
      (by rw[size_madeCells,i2]) (by grind [cg,maxLen]) (by grind) (λb i=>by grind [m_])
      (λi y hy=>by
       have hi:i < n.toNat:=by grind
       have hy:y=e.zero:=by grind
       subst hy;refine ⟨L,r3,λj u hu=>?_,r1⟩
       have hj:j < e.sz:=r3 ▸ (aR.1 hu).1
       have ax:i*e.sz+j < c.toNat*e.sz:=by
        have:(i+1)*e.sz<=c.toNat*e.sz:=bH _ (by omega);grind
       grind [Nat.mul_comm,Nat.mul_add_mod,Nat.mod_eq_of_lt,madeCells])
     grind
   ·cases hk
  ·cases hk
 ·cases hk
theorem LV (h:d_ P C A σ a w F) (kG:∀ i T,E.TI i=some T->bi P T (.inl i)=true) {s t:Nat} {y:Operand} (ho:o.op=.convert s t y) (ba:dO P y=true) (Pu:∀ T,E.TI t=some T->T.flat=true) {K:St->Option R}
  (hk:CA E σ s t (d7 σ y) o.dst K=some x):Tk P o a w (Nx P C K x):=by
 unfold CA at hk;obtain ⟨S,hS,hk⟩:=gw hk;obtain ⟨T,hT,hk⟩:=gw hk;have z7:=kG _ _ hS;have Ai:=kG _ _ hT
 rcases fy h ba with hs | ⟨xs,e⟩
 rotate_left
 ·grind [s_]
 split at hk
 ·rename_i k;split at hk
  ·rename_i k' n hv;rw[hv] at hs;have e:=zJ hs;split at hk
   ·rename_i WC;obtain ⟨dS,hd,_⟩:=zk z7;refine im (v:=.int k (k.wrap (pU k' n))) (λw' _=>?_) (cm h hk ⟨[_],rfl,by simp only[Ro,rZ]⟩ (λ_ _ _ _ e=>by cases e));unfold execOp;simp only[ho,e,Sem.run_bind]
    have:(convert s t (.int k' (pU k' n))).run P w'=.ok (.int k (k.wrap (pU k' n))) w':=by
     unfold convert;simp only[Sem.run_bind,run_underlying hd,run_underlying (qq Ai),Result.andThen_ok];cases dS <;> rfl
    simp_all
   ·cases hk
  ·cases hk
 ·split at hk
  ·split at hk
   ·rename_i b hv;rw[hv] at hs;have e:=zI hs;refine im (v:=.string ⟨List.toArray b⟩) (λw' _=>?_) (cm h hk ⟨[_],rfl,rfl⟩ (λ_ _ _ _ e=>by cases e));unfold execOp
    have:(convert s t (.string ⟨List.toArray b⟩)).run P w'=.ok (.string ⟨List.toArray b⟩) w':=by
     unfold convert;simp only[Sem.run_bind,run_underlying (mY z7),run_underlying (mY Ai),Result.andThen_ok];rfl
    simp_all
   ·cases hk
  ·obtain ⟨v,cs,hk,h1,h2⟩:=Pm h hs hk;obtain ⟨el,hu,_,hle⟩:=uw z7;obtain ⟨xa,cap,q1,q2,q3,q4⟩:=h2;subst q1;rw[eo _ _ rfl] at h1;have v8:List UInt8:=v
   have kO:∀ w',tQ o w w'->(convert s t (a.eval y)).run P w'=.ok (.string ⟨List.toArray v⟩) w':=λw' s8=>by
    have s8:=s8 (by rw[ho];rfl);rw[h1]
    cases xa with
    | none=>
     have:v=[]:=bS (q3 rfl);subst this;exact run_convert_bytes_nil w' s el hu (qq hle) _ _ t (mY Ai)
    | some ad=>
     obtain ⟨g1,g2⟩:=q4 _ rfl;refine run_convert_bytes_back w' s t el _ cap v hu (qq hle) (mY Ai) λj hj=>?_;obtain ⟨L,l1,l2,l3⟩:=g2 j _ (aB hj);simp only[Ro] at l3;subst l3;have:=(l2 0 _ rfl).1;obtain ⟨b,off,sp⟩:=ad;have pL:=g1 (by omega);simp only at pL;subst pL;rw[qF];simp only[Ty.sz,iR,dW] at this;exact vm (s8.cell _ _ (wX this) rfl _ this) rfl
   refine im (v:=.string ⟨List.toArray v⟩) (λw' s8=>?_) (cm h hk ⟨[_],rfl,rfl⟩ (λ_ _ _ _ e=>by cases e));grind [execOp,Sem.run_bind,Result.andThen_ok,Sem.run_pure]
  ·cases hk
 all_goals grind [Ty.flat]
theorem HN (h:d_ P C A σ a w F) (kG:∀ i T,E.TI i=some T->bi P T (.inl i)=true) {s t:Nat} {y:Operand} (ho:o.op=.convert s t y) (ba:dO P y=true) (Pu:∀ T,E.TI t=some T->T.flat=true) (HO:(match d7 σ y with | .val (.int _) _=>true | .val .str _=>true | .val (.aa (.int .u8)) _=>true | _=>false)=true) {K:St->Option R}
  (hk:CA E σ s t (d7 σ y) o.dst K=some x) :
  ∃ v,(∀ w',(∀ b i,A b i->∀ u,ce w b i=some u->ce w' b i=some u)->(execOp a.eval o).run P w'=.ok (.value v) w')/\Nx P C K x (a.put o.dst v) w:=by
 unfold CA at hk;obtain ⟨S,hS,hk⟩:=gw hk;obtain ⟨T,hT,hk⟩:=gw hk;have z7:=kG _ _ hS;have Ai:=kG _ _ hT
 rcases fy h ba with hs | ⟨xs,e⟩
 rotate_left
 ·grind
 split at hk
 ·rename_i k;split at hk
  ·rename_i k' n hv;rw[hv] at hs;have e:=zJ hs;split at hk
   ·rename_i WC;obtain ⟨dS,hd,_⟩:=zk z7;refine ⟨.int k (k.wrap (pU k' n)),(λw' _=>?_),cm h hk ⟨[_],rfl,by simp only[Ro,rZ]⟩ (λ_ _ _ _ e=>by cases e)⟩
    unfold execOp;simp only[ho,e,Sem.run_bind]
    have:(convert s t (.int k' (pU k' n))).run P w'=.ok (.int k (k.wrap (pU k' n))) w':=by
     unfold convert;simp only[Sem.run_bind,run_underlying hd,run_underlying (qq Ai),Result.andThen_ok];cases dS <;> rfl
    simp_all
   ·cases hk
  ·cases hk
 ·split at hk
  ·split at hk
   ·rename_i b hv;rw[hv] at hs;have e:=zI hs;refine ⟨.string ⟨List.toArray b⟩,(λw' _=>?_),cm h hk ⟨[_],rfl,rfl⟩ (λ_ _ _ _ e=>by cases e)⟩
    unfold execOp
    have:(convert s t (.string ⟨List.toArray b⟩)).run P w'=.ok (.string ⟨List.toArray b⟩) w':=by
     unfold convert;simp only[Sem.run_bind,run_underlying (mY z7),run_underlying (mY Ai),Result.andThen_ok];rfl
    simp_all
   ·cases hk
  ·have WD:∃ v',d7 σ y=.val (.aa (.int .u8)) v':=by
    grind [s_,jJ]
   obtain ⟨v,hv⟩:=WD;rw[hv] at hs hk;simp only[s_] at hk;obtain ⟨_,hk⟩:=cy hk;obtain ⟨cs,h1,h2⟩:=hs;obtain ⟨el,hu,_,hle⟩:=uw z7;obtain ⟨xa,cap,q1,q2,q3,q4⟩:=h2;subst q1;rw[eo _ _ rfl] at h1;have v8:List UInt8:=v
   have kO:∀ w',(∀ b i,A b i->∀ u,ce w b i=some u->ce w' b i=some u)->(convert s t (a.eval y)).run P w'=.ok (.string ⟨List.toArray v⟩) w':=λw' s8=>by
    rw[h1]
    cases xa with
    | none=>
     have:v=[]:=bS (q3 rfl);subst this;exact run_convert_bytes_nil w' s el hu (qq hle) _ _ t (mY Ai)
    | some ad=>
     obtain ⟨g1,g2⟩:=q4 _ rfl;refine run_convert_bytes_back w' s t el _ cap v hu (qq hle) (mY Ai) λj hj=>?_;obtain ⟨L,l1,l2,l3⟩:=g2 j _ (aB hj);simp only[Ro] at l3;subst l3;have wK:=l2 0 _ rfl;obtain ⟨b,off,sp⟩:=ad;have pL:=g1 (by omega);simp only at pL;subst pL;rw[qF];simp only[Ty.sz,iR,dW] at wK;exact vm (s8 _ _ wK.2 _ wK.1) rfl
   refine ⟨.string ⟨List.toArray v⟩,(λw' s8=>?_),cm h hk ⟨[_],rfl,rfl⟩ (λ_ _ _ _ e=>by cases e)⟩
   grind [execOp,Sem.run_bind,Result.andThen_ok,Sem.run_pure]
  ·cases hk
 all_goals grind [Ty.flat]
theorem N7 (h:d_ P C A σ a w F) (kG:∀ i T,E.TI i=some T->bi P T (.inl i)=true) {s t:Nat} {y:Operand} (ho:o.op=.convert s t y) (ba:dO P y=true) {K:St->Option R}
  (hk:CA E σ s t (d7 σ y) o.dst K=some x):o.wp P a w (λa' w'=>Nx P C K x a' w'/\Ext w w' (λ_ _=>0)) Q:=by
 unfold CA at hk;obtain ⟨S,hS,hk⟩:=gw hk;obtain ⟨T,hT,hk⟩:=gw hk;have z7:=kG _ _ hS;have Ai:=kG _ _ hT
 rcases fy h ba with hs | ⟨xs,e⟩
 rotate_left
 ·grind [s_]
 split at hk
 ·rename_i k;split at hk
  ·rename_i k' n hv;rw[hv] at hs;have e:=zJ hs;split at hk
   ·rename_i WC;obtain ⟨dS,hd,_⟩:=zk z7;refine oA (v:=.int k (k.wrap (pU k' n))) (w':=w) ?_ ⟨cm h hk ⟨[_],rfl,by simp only[Ro,rZ]⟩ (λ_ _ _ _ e=>by cases e),Ext.refl _ _⟩;unfold execOp;simp only[ho,e,Sem.run_bind]
    have:(convert s t (.int k' (pU k' n))).run P w=.ok (.int k (k.wrap (pU k' n))) w:=by
     unfold convert;simp only[Sem.run_bind,run_underlying hd,run_underlying (qq Ai),Result.andThen_ok];cases dS <;> rfl
    simp_all
   ·cases hk
  ·cases hk
 ·split at hk
  ·split at hk
   ·rename_i b hv;rw[hv] at hs;have e:=zI hs;refine oA (v:=.string ⟨List.toArray b⟩) (w':=w) ?_ ⟨cm h hk ⟨[_],rfl,rfl⟩ (λ_ _ _ _ e=>by cases e),Ext.refl _ _⟩;unfold execOp
    have:(convert s t (.string ⟨List.toArray b⟩)).run P w=.ok (.string ⟨List.toArray b⟩) w:=by
     unfold convert;simp only[Sem.run_bind,run_underlying (mY z7),run_underlying (mY Ai),Result.andThen_ok];rfl
    simp_all
   ·cases hk
  ·obtain ⟨v,cs,hk,h1,h2⟩:=Pm h hs hk;obtain ⟨el,hu,_,hle⟩:=uw z7;obtain ⟨xa,cap,q1,q2,q3,q4⟩:=h2;subst q1;rw[eo _ _ rfl] at h1;have v8:List UInt8:=v
   have kO:(convert s t (a.eval y)).run P w=.ok (.string ⟨List.toArray v⟩) w:=by
    rw[h1]
    cases xa with
    | none=>
     have:v=[]:=bS (q3 rfl);subst this;exact run_convert_bytes_nil w s el hu (qq hle) _ _ t (mY Ai)
    | some ad=>
     obtain ⟨g1,g2⟩:=q4 _ rfl;refine run_convert_bytes_back w s t el _ cap v hu (qq hle) (mY Ai) λj hj=>?_;obtain ⟨L,l1,l2,l3⟩:=g2 j _ (aB hj);simp only[Ro] at l3;subst l3;have:=(l2 0 _ rfl).1;obtain ⟨b,off,sp⟩:=ad;have pL:=g1 (by omega);simp only at pL;subst pL;rw[qF];simp only[Ty.sz,iR,dW] at this;exact vm (this) rfl
   refine oA (v:=.string ⟨List.toArray v⟩) (w':=w) ?_ ⟨cm h hk ⟨[_],rfl,rfl⟩ (λ_ _ _ _ e=>by cases e),Ext.refl _ _⟩;grind [execOp,Sem.run_bind,Result.andThen_ok,Sem.run_pure]
  ·cases hk
 ·split at hk
  ·rename_i b hv;rw[hv] at hs;have e:=zI hs;split at hk
   ·rename_i WC;rw[WC] at z7;split at hk;rotate_left
    ·cases hk
    rename_i qU;obtain ⟨el,hu,_,hle⟩:=uw Ai;have kO:=run_bytes_of_string (P:=P) w s t el ⟨List.toArray b⟩ (mY z7) hu (qq hle);have hlen:(⟨List.toArray b⟩:ByteArray).size=List.length b:=rfl;have WE:=grownCap_ge w (List.length b) 0 el;have LF:=grownCap_le_maxLen w (List.length b) 0 el (by grind [cg,maxLen]);rw[hlen] at kO
    have nC:(bytesRow ⟨List.toArray b⟩ (grownCap w (List.length b) 0 el)).size=grownCap w (List.length b) 0 el:=by
     grind [bytesRow]
    refine oA ?_ ⟨FC (h.drew) (K:=K) (d:=o.dst) (e:=.int .u8) (v:=b) (m:=.leaf) (Fi:=λ_ _ _=>0) (cap:=grownCap w (List.length b) 0 el) (el:=el) (fr:=((bytesRow ⟨List.toArray b⟩ (grownCap w (List.length b) 0 el)).size,(bytesRow ⟨List.toArray b⟩ (grownCap w (List.length b) 0 el)).size+1)) (c:=bytesRow ⟨List.toArray b⟩ (grownCap w (List.length b) 0 el)) (.inl ⟨rfl,aL _⟩) hk
     (by grind [Ty.sz]) LF WE (λb i=>by grind [m_]) (λi y hy=>?_),(LU w).trans (pp w.drew _) (λ_ _ _ _=>rfl)⟩
    ·simp_all [execOp]
    ·have hi:=(aR.1 hy).1;have hb:=bytesRow_at ⟨List.toArray b⟩ (grownCap w (List.length b) 0 el) i (by simpa using hi);refine ⟨[.int .u8 (UInt8.toNat y)],rfl,λj u hu=>?_,rfl⟩
     grind [Ty.sz]
   ·cases hk
  ·cases hk
 ·cases hk
end
end OT
namespace OT
open Go
section
variable {P:Program} {C:Ctx} {A:Cells} {X:FP} {σ:St} {a:Act} {w:World} {F:Nat->FP} {R:Type} {x:R} {Q:Exit->Act->World->Prop} {o:Oper} {E:Env}
theorem LW (h:d_ P C A σ a w F) {i j:Nat} (ho:o.op=.extract (.tmp i) j) {K:St->Option R}
  (hk:(match σ.get i with
   | .rT xs=>match xs[j]? with
    | some x=>if x.t=.unit then none else K ((σ.put i (.rT (xs.set j ⟨.unit,.leaf,()⟩))).bz o.dst (laid x.t x.m x.v))
    | none=>none
   | _=>none)=some x):Tk P o a w (Nx P C K x):=by
 split at hk
 ·rename_i xs hg;split at hk
  ·rename_i y hy;split at hk
   ·cases hk
   ·rename_i hnu
    have hi:i < σ.n:=by
     grind [mf]
    have hs:=h.iW i hi;rw[hg] at hs;obtain ⟨vs,Fi,h1,h2,h3⟩:=hs;obtain ⟨v,h4,h5⟩:=h3 j y hy
    rcases h5 with h5 | ⟨cs,h6,h7⟩
    ·grind
    have hj:=(aR.1 hy).1
    have Ac:=h.put hi (s:=.rT (xs.set j ⟨.unit,.leaf,()⟩)) (v:=tmp a i) (Fd:=bg xs.length (ge Fi j λ_ _=>0)) (X':=Fi j)
     ⟨vs,ge Fi j λ_ _=>0,h1,λb k=>by grind,λk y' FT=>by
      rw[eH] at FT;split at FT
      ·rename_i e;subst e;injection FT with FT;subst FT;exact ⟨v,h4,.inl rfl⟩
      grind [ge]⟩
     (λb k=>by grind [tO]) (λt m H v e=>by cases e)
    rw[rH] at Ac;refine im (v:=v) ?_ ?_
    ·unfold execOp;have e:a.eval (.tmp i)=.tuple vs:=h1;simp_all [Instr.extract]
    grind [Ad]
  ·cases hk
 ·cases hk
theorem Rel.abk (h:Rel P C A X σ a w F) {d n:Nat} (hd:∀ R,d8 w (tmp a d) (σ.get d)=some R->dq R.t R.cs=C.args.getD n undef):Rel P C A X { σ with az:=(d,n,true)::σ.az } a w F:=by
 have nP:xN σ a w { σ with az:=(d,n,true)::σ.az } a w:=λr p snap hb=>⟨hb,λba=>⟨ba,λhl pl iU=>⟨pl.H,pl.cs,iU,λ_=>rfl⟩⟩⟩
 refine ⟨h.size,h.defers,λi hi=>c8.mW nP (λ_ _ h=>h) (λ_ _ _ _ h=>h) (λ_ _ h=>h) (λ_ _ _=>⟨λ_ h=>h,rfl⟩) (h.iW i hi),λd r p snap hm=>rG.mW nP (h.gh d r p snap hm),h.pk,h.qb,h.kN,h.l8,h.ext,h.own,h.a0,h.a1,λj k hm=>?_,λr t m H v hg hl=>h.whole r t m H v hg λk hm=>hl k (bF _ hm),λj k hm R hR=>?_,h.wN⟩
 ·rcases bB.1 hm with e | hm
  ·grind
  ·exact h.oL j k hm
 ·rcases bB.1 hm with e | hm
  ·injection e with e1 e2;injection e2 with e2 e3;subst e1;subst e2;exact hd R hR
  ·exact h.nD j k hm R hR
theorem QE {l:List (Nat×Nat×Bool)} {i n:Nat} (h:Ht l i=some n):(i,n,true) ∈ l:=by
 induction l <;> grind [Ht,Nat.beq_eq]
theorem XE (h:d_ P C A σ a w F) {t:Nat} {y:Operand} (ho:o.op=.box t y) (ba:dO P y=true) {mv:Bool} {K:St->Option R}
  (hk:(p_ E t λt=>mV σ (d7 σ y) mv t λm v σ'=>K (Lv σ y o.dst (σ'.bz o.dst (.box t m [] v))))=some x):o.wp P a w (λa' w'=>Nx P C K x a' w'/\Ext w w' (λ_ _=>0)) Q:=by
 obtain ⟨T,hT,hk⟩:=gw hk
 rcases fy h ba with hs | ⟨xs,e⟩
 rotate_left
 ·grind [mV]
 have hk0:=hk;obtain ⟨A',σ',F',m,v,cs,Fv,k1,k2,k3,k4,kr,k5,k6⟩:=um h hs hk;have hl:=ao.length _ k6;have qT:=ao.one _ k6;have hcv:(dq T cs).cells=cs.toArray:=by grind [lu]
 obtain ⟨A2,F2,hF⟩:=Pt k3 (K:=λs=>some s) (x:=σ'.bz o.dst (.box T m [] v)) (d:=o.dst) t rfl k6 (λb i=>by omega);refine oA (v:=.pointer (some ⟨w.heap.size,0,none⟩)) (w':=w.alloc (.cells cs.toArray t)) ?_ ?_
 ·simp_all [execOp,Instr.box,newVar,newRow]
 ·refine ⟨⟨_,k1,A2,F2,?_⟩,pp w _⟩
  clear hk;unfold Lv;split
  ·rename_i i d hd;split
   ·rename_i t0 m0 H0 v0 hg;split
    ·rename_i n hn;rw[hd] at hF ⊢;refine Rel.abk hF λR hR=>?_;have mC:=h.nD i n (QE hn) ⟨t0,H0,(tmp a i).cells.toList,none⟩ (by rw[hg];rfl);have kG:tmp a i=dq T cs:=k5
     have ht0:t0=T:=by
      simp only[d7,hg] at hk0;grind [mV,pK,wE,ol,cy]
     subst ht0;simp only[kG,lu hl qT] at mC;simp only[St.bz,xO] at hR;split at hR
     ·rename_i hc
      have htd:tmp (a.put (some d) (.pointer (some ⟨w.heap.size,0,none⟩))) d=.pointer (some ⟨w.heap.size,0,none⟩):=by
       rw[oz,aM ⟨rfl,by rw[h.size,<- k4];exact hc.2⟩]
      rw[htd] at hR;simp only[d8,aS] at hR;subst hR;have hh:=Bc w cs.toArray t (0,0) (k:=0) (L:=cs) (λj u hu=>by simpa using hu) qT;grind [fi]
     ·rename_i hc
      have WE:σ'.n<=d:=by
       grind
      rw[mf (fZ.2 WE)] at hR;cases hR
    ·exact hF
   ·exact hF
  ·exact hF
end
end OT
namespace OT
open Go
section
variable {P:Program} {C:Ctx} {A:Cells} {X:FP} {σ:St} {a:Act} {w:World} {F:Nat->FP} {R:Type} {x:R} {Q:Exit->Act->World->Prop} {o:Oper} {E:Env}
theorem Rel.giveUp (h:Rel P C A X σ a w F) {A1:Cells} {X1:FP} (hA:∀ b i,A b i->A1 b i) (FX:∀ b i,A1 b i->A b i\/(1<=X b i/\X1 b i=0)) (hX:∀ b i,X1 b i<=X b i):Rel P C A1 X1 σ a w F:=by
 have nP:xN σ a w σ a w:=λr p snap hb=>⟨hb,λba=>⟨ba,λhl pl iU=>⟨pl.H,pl.cs,iU,λ_=>rfl⟩⟩⟩
 refine ⟨h.size,h.defers,λi hi=>c8.mW nP hA (λ_ _ _ _ h=>h) (λ_ _ h=>h) (λ_ _ _=>⟨λ_ h=>h,rfl⟩) (h.iW i hi),h.gh,λb i=>by have:=h.pk b i;grind,
  λb i hp ha=>?_,λb i hp=>?_,h.l8,h.ext,λb i hp=>h.own b i (by grind),λb i ha=>hA b i (h.a0 b i ha),λb i ha=>?_,h.oL,h.whole,h.nD,h.wN⟩
 ·rcases FX b i ha with ha | ha
  ·exact h.qb b i (by grind) ha
  ·have:=h.pk b i;omega
 ·rcases hp with hp | ha
  ·exact h.kN b i (.inl (by grind))
  ·rcases FX b i ha with ha | ha
   ·exact h.kN b i (.inr ha)
   ·exact h.kN b i (.inl (by omega))
 ·rcases FX b i ha with ha | ha
  ·exact h.a1 b i ha
  ·exact .inr (h.own b i (by omega))
theorem SS {off:Nat} {l cs:List Value} (h:off+l.length<=cs.length) :
  ((l.toArray.zipIdx).foldl (λcs (x:Value×Nat)=>cs.setIfInBounds (off+x.2) x.1) cs.toArray)=(cs.take off++l++cs.drop (off+l.length)).toArray:=by
 obtain ⟨h1,h2⟩:=Great.foldl_set off l 0 cs.toArray;have e:(l.toArray.zipIdx).foldl (λcs (x:Value×Nat)=>cs.setIfInBounds (off+x.2) x.1) cs.toArray=(l.zipIdx 0).foldl (λcs (x:Value×Nat)=>cs.setIfInBounds (off+x.2) x.1) cs.toArray:=by simp
 rw[e];apply Array.ext_getElem?;grind
theorem Em {pl:Nat->Option (Nat×Nat)} {j off sz:Nat} (hp:pl j=some (off,sz)) {t:Ty} {l cs:List Value} (hl:l.length=sz) (h1:(dq t l).cells.toList=l) (h:off+sz<=cs.length) (rest:List (Nat×Value)) :
  Instr.fill pl cs.toArray ((j,dq t l)::rest)=Instr.fill pl (cs.take off++l++cs.drop (off+sz)).toArray rest:=by
 have hc:(dq t l).cells=l.toArray:=Array.ext' (by simpa using h1);grind [Instr.fill,SS]
theorem ST:∀ (n:Nat) (t:Ty) {t':Ty} {m m':Md} {v:t.den} {y:t'.den} {cs ys:List Value} {G H:FP} {K:Md->t.den->Option R},ao P w A t m [] v cs G->ao P w A t' m' [] y ys H ->
  D2 n t m v t' m' y K=some x->∃ m2 v2,K m2 v2=some x/\ao P w A t m2 [] v2 (cs.take (ko n t)++ys++cs.drop (ko n t+t'.sz)) (λb i=>G b i+H b i)/\ko n t+t'.sz<=cs.length:=by
 intro n
 induction n with
 | zero=>
  intro t t' m m' v y cs ys G H K hr hy hk
  cases t with
  | pair a b=>
   simp only[D2] at hk;obtain ⟨e,hk⟩:=cy hk;subst e;have hl:=ao.length _ hr;have hly:=ao.length _ hy;obtain ⟨h0,F1,F2,hs,h1,h2⟩:=hr;refine ⟨_,_,hk,⟨rfl,H,F2,λb i=>by grind,?_,?_⟩,?_⟩
   all_goals simp_all [ko,Md.l,Md.r,Ty.sz]
  | _=>cases hk
 | succ n ih=>
  intro t t' m m' v y cs ys G H K hr hy hk
  cases t with
  | pair a b=>
   simp only[D2] at hk;have hl:=ao.length _ hr;obtain ⟨h0,F1,F2,hs,h1,h2⟩:=hr;obtain ⟨m2,v2,k1,k2,k3⟩:=ih b h2 hy hk;simp only[bQ] at k3;simp only[Ty.sz] at hl;refine ⟨_,_,k1,⟨rfl,F1,λb i=>F2 b i+H b i,λb i=>by grind,?_,?_⟩,?_⟩
   ·simp only[ko,eO,Md.l]
    have:(cs.take (a.sz+ko n b)++ys++cs.drop (a.sz+ko n b+t'.sz)).take a.sz=cs.take a.sz:=by
     simp_all [gP,fL]
    rw[this];exact h1
   ·simp only[ko,eO,Md.r]
    have:(cs.take (a.sz+ko n b)++ys++cs.drop (a.sz+ko n b+t'.sz)).drop a.sz=(cs.drop a.sz).take (ko n b)++ys++(cs.drop a.sz).drop (ko n b+t'.sz):=by
     rw[bN,gQ (by simp;omega),eD,cU,bN];rw[show a.sz+ko n b - a.sz=ko n b by omega,show a.sz+(ko n b+t'.sz)=a.sz+ko n b+t'.sz by omega]
    grind
   ·simp only[ko];omega
  | _=>cases hk
theorem LX {α β:Type} (g:α->Option β):∀ (l:List α) (ps:List β),l.mapM g=some ps->∀ (j:Nat) (f:α),l[j]?=some f->ps[j]?=g f
 | [],ps,h,j,f,hf=>by cases hf
 | y::l,ps,h,j,f,hf=>by
  simp only[List.mapM_cons,Option.bind_eq_bind,Option.pure_def] at h
  cases hy:g y with
  | none=>simp[hy] at h
  | some z=>
   cases hr:l.mapM g with
   | none=>grind
   | some r=>
    simp only[hy,hr,aA,aS] at h;subst h
    cases j with
    | zero=>grind
    | succ j=>exact LX g l r hr j f hf
theorem QF:∀ (t:Ty) {fs:List Field} {off:Nat},bi P t (.inr (fs,off))=true->∃ ps,fs.mapM (λf=>(P.info? f.type).map λi=>(f.offset,i.size))=some ps:=by
 intro t
 induction t with
 | unit=>
  simp_all [bi]
 | pair a b mX mO=>
  intro fs off h
  cases fs with
  | nil=>simp_all
  | cons f r=>
   simp only[bi,aF] at h;obtain ⟨ps,wY⟩:=mO h.2;obtain ⟨inf,hi,_⟩:=lc (nf h.1.2);grind
 | _=>grind [bi]
theorem KM {T:Ty} {i:TypeId} (hl:bi P T (.inl i)=true) {j:Nat} {t':Ty} (hj:uE j T=some t') :
  ∃ fs ps,P.underlying i=some (.struct fs)/\fs.toList.mapM (λf=>(P.info? f.type).map λi=>(f.offset,i.size))=some ps/\∀ j t',uE j T=some t'->ps.toArray[j]?=some (ko j T,t'.sz):=by
 cases T with
 | pair a b=>
  have Y7:=hl;simp only[bi,aF] at hl;have h2:=hl.2;split at h2
  ·rename_i fs hu;split at h2
   ·rename_i f r HJ
    have h3:bi P (.pair a b) (.inr (f::r,0))=true:=by
     grind [bi]
    obtain ⟨ps,wY⟩:=QF _ h3;refine ⟨fs,ps,hu,by grind,λj t' hj=>?_⟩
    obtain ⟨f',q1,q2,q3,q4⟩:=Pp j (.pair a b) h3 hj;have:=LX _ _ _ wY j f' q1;obtain ⟨inf,hi,hs,_⟩:=lc (nf q3);grind
   ·cases h2
  ·cases h2
 | _=>cases j <;> cases hj
theorem SV {T:Ty} {fz:Nat->Bool} {pl:Nat->Option (Nat×Nat)} (iU:∀ j t',uE j T=some t'->pl j=some (ko j T,t'.sz)) {K:Md->T.den->St->Option R} :
  ∀ (ps:List (Nat×Operand)) {n:Nat} {σ:St} {A:Cells} {X:FP} {F:Nat->FP} {m:Md} {v:T.den} {cs:List Value},ps.all (λp=>dO P p.2)=true->Rel P C A X σ a w F->ao P w A T m [] v cs X ->
   D3 E σ T fz ps n m v K=some x->∃ A' σ' F' m' v' bu X',K m' v' σ'=some x/\Rel P C A' X' σ' a w F'/\ao P w A' T m' [] v' bu X'/\Instr.fill pl cs.toArray (ps.map λp=>(p.1,a.eval p.2))=some bu.toArray:=by
 intro ps
 induction ps with
 | nil=>intro n σ A X F m v cs ba h hr hk;exact ⟨A,σ,F,m,v,cs,X,hk,h,hr,rfl⟩
 | cons p ps ih=>
  intro n σ A X F m v cs ba h hr hk;obtain ⟨j,y⟩:=p;simp only[dI,aF] at ba;simp only[D3] at hk;split at hk
  ·rename_i t' DW
   rcases fy h ba.1 with hs | ⟨xs,e⟩
   rotate_left
   ·grind [mV]
   obtain ⟨A1,pM,F1,m1,v1,qt,Fv,k1,k2,k3,k4,kr,k5,k6⟩:=um h hs hk;have wM:=ao.mono (P:=P) (A':=A1) k2 (λ_ _ _ _ h=>h) (λ_ _ h=>h) T hr (λ_ _=>aL _) (λ_ _ _ _ h=>h);obtain ⟨m2,v2,q1,q2,q3⟩:=ST j T wM k6 k1;obtain ⟨A',σ',F',m',v',bu,X',g1,g2,g3,g4⟩:=ih ba.2 k3 q2 q1;refine ⟨A',σ',F',m',v',bu,X',g1,g2,g3,?_⟩
   rw[cY,k5,Em (iU j t' DW) (ao.length _ k6) (lu (ao.length _ k6) (ao.one _ k6)) q3];exact g4
  ·cases hk
theorem XF {n j:Nat} {e:Ty} {v:List e.den} {y:e.den} {cs ys:List Value} (h:Ro P w A (.arr n e) v cs) (hy:Ro P w A e y ys) (hj:j < v.length) :
  Ro P w A (.arr n e) (v.set j y) (cs.take (j*e.sz)++ys++cs.drop (j*e.sz+e.sz))/\j*e.sz+e.sz<=cs.length:=by
 obtain ⟨h1,h2,h3,h4⟩:=h;have hly:=Ro.length _ hy
 have hle:j*e.sz+e.sz<=cs.length:=by
  rw[h3,<- eW];exact bH _ (by omega)
 refine ⟨⟨h1,by simpa using h2,by grind,λi z hz=>?_⟩,hle⟩
 rw[eH] at hz;split at hz
 ·grind
 ·rename_i kF;have h5:=h4 i z hz
  have:((cs.take (j*e.sz)++ys++cs.drop (j*e.sz+e.sz)).drop (i*e.sz)).take e.sz=(cs.drop (i*e.sz)).take e.sz:=by
   rcases cK i j with ui | ui
   ·have h6:i*e.sz+e.sz<=j*e.sz:=by rw[<-eW];exact bH _ (by omega)
    grind [List.drop_take]
   ·have h6:j*e.sz+e.sz<=i*e.sz:=by rw[<-eW];exact bH _ (by omega)
    have h7:(cs.take (j*e.sz)++ys).length=j*e.sz+e.sz:=by grind
    rw[List.drop_append,h7,dX (by omega),bO,cU];congr 2;omega
  grind
theorem XG {n0:Nat} {e:Ty} {fz:Nat->Bool} (hf:e.flat=true) {K:List e.den->St->Option R} :
  ∀ (ps:List (Nat×Operand)) {n:Nat} {σ:St} {A:Cells} {F:Nat->FP} {v:List e.den} {cs:List Value},ps.all (λp=>dO P p.2)=true->d_ P C A σ a w F->Ro P w A (.arr n0 e) v cs ->
   Lr σ e fz ps n v K=some x->∃ A' σ' F' v' bu,K v' σ'=some x/\d_ P C A' σ' a w F'/\Ro P w A' (.arr n0 e) v' bu/\Instr.fill (λi=>some (i*e.sz,e.sz)) cs.toArray (ps.map λp=>(p.1,a.eval p.2))=some bu.toArray:=by
 intro ps
 induction ps with
 | nil=>intro n σ A F v cs ba h hr hk;exact ⟨A,σ,F,v,cs,hk,h,hr,rfl⟩
 | cons p ps ih=>
  intro n σ A F v cs ba h hr hk;obtain ⟨j,y⟩:=p;simp only[dI,aF] at ba;simp only[Lr] at hk
  rcases fy h ba.1 with hs | ⟨xs,e⟩
  rotate_left
  ·grind [mV]
  obtain ⟨A1,pM,F1,m1,v1,qt,Fv,k1,k2,k3,k4,kr,k5,k6⟩:=um h hs hk;split at k1
  ·rename_i hj;have wM:Ro P w A1 (.arr n0 e) v cs:=Ro.mono (λ_ _ _ _ h=>h) k2 _ hr;obtain ⟨q1,q2⟩:=XF wM (ao.flat _ hf k6) hj;obtain ⟨A',σ',F',v',bu,g1,g2,g3,g4⟩:=ih ba.2 (k3.less (X':=λ_ _=>0) λ_ _=>bD _) q1 k1;refine ⟨A',σ',F',v',bu,g1,g2,g3,?_⟩
   rw[cY,k5,Em (pl:=λi=>some (i*e.sz,e.sz)) rfl (ao.length _ k6) (lu (ao.length _ k6) (ao.one _ k6)) q2];exact g4
  ·cases k1
theorem QG (h:d_ P C A σ a w F) (kG:∀ i T,E.TI i=some T->bi P T (.inl i)=true) {t:Nat} {ps:Array (Nat×Operand)} {fz:Nat->Bool} (ho:o.op=.build t ps) (ba:ps.toList.all (λp=>dO P p.2)=true) {K:St->Option R}
  (hk:(p_ E t λt=>match t with
  | .arr n e=>if e.wl then Lr σ e fz ps.toList 0 (Ty.arr n e).zero λv σ=>K (σ.bz o.dst (laid (.arr n e) (ai (.arr n e)) v)) else none
  | .pair t1 t2=>if (Ty.pair t1 t2).wl then D3 E σ (.pair t1 t2) fz ps.toList 0 (ai (.pair t1 t2)) (Ty.pair t1 t2).zero λm v σ=>K (σ.bz o.dst (laid (.pair t1 t2) m v)) else none
  | _=>none)=some x):Tk P o a w (Nx P C K x):=by
 obtain ⟨T,hT,hk⟩:=gw hk;have jk:=kG _ _ hT
 have run:∀ (cells:Array Value),P.built t (ps.map λ(i,x)=>(i,a.eval x)).toList=some cells->∀ w',tQ o w w'->(execOp a.eval o).run P w'=.ok (.value (.agg cells)) w':=λcells hc w' _=>by
  simp_all [execOp,run_build]
 have wY:(ps.map λ(i,x)=>(i,a.eval x)).toList=ps.toList.map λp=>(p.1,a.eval p.2):=by simp
 rw[wY] at run;split at hk
 ·rename_i n e;split at hk
  ·rename_i hz
   have aau:e.flat=true:=by
    grind [bi]
   obtain ⟨L,hL⟩:=wd (.arr n e) (by simpa [Ty.wl] using hz);obtain ⟨r1,r2,r3⟩:=CL (P:=P) (w:=w) (A:=A) _ hL jk;obtain ⟨inf,i1,i2,i3,i4⟩:=lc (nf jk);obtain ⟨z,z1,z2⟩:=i4 L hL;obtain ⟨A',σ',F',v',bu,g1,g2,g3,g4⟩:=XG aau ps.toList ba h r2 hk
   have hu:∃ el ie,P.underlying t=some (.array n el)/\P.info? el=some ie/\ie.size=e.sz:=by
    have hl:=jk;simp only[bi,aF] at hl;have h2:=hl.2;split at h2
    ·rename_i n' el hu;simp only[aF,eN] at h2;obtain ⟨ie,j1,j2,_⟩:=lc (nf h2.2);grind
    ·cases h2
   obtain ⟨el,ie,u1,u2,u3⟩:=hu;have WB:z.cells=L.toArray:=Array.ext' (by simpa using z2);have e1:dq (.arr n e) bu=.agg bu.toArray:=rfl;refine im (v:=dq (.arr n e) bu) (run _ ?_) ?_
   ·grind [Program.built]
   ·exact Ad g2 g1 (Ro.flat _ (λ_ _=>0) (by grind [Ty.flat]) g3) (λ_ _=>aL _)
  ·cases hk
 ·rename_i t1 t2;split at hk
  ·rename_i hz;obtain ⟨L,hL⟩:=wd (.pair t1 t2) hz;obtain ⟨r1,r2,r3⟩:=CL (P:=P) (w:=w) (A:=A) _ hL jk;obtain ⟨inf,i1,i2,i3,i4⟩:=lc (nf jk);obtain ⟨z,z1,z2⟩:=i4 L hL;have WB:z.cells=L.toArray:=Array.ext' (by simpa using z2);obtain ⟨fs,pls,u1,u2,u3⟩:=KM jk (j:=0) rfl;obtain ⟨A',σ',F',m',v',bu,X',g1,g2,g3,g4⟩:=SV (pl:=λj=>pls.toArray[j]?) u3 ps.toList ba h r1 hk;refine im (v:=dq (.pair t1 t2) bu) (run _ ?_) (Ad g2 g1 g3 (λ_ _=>aL _));grind [Program.built]
  ·cases hk
 ·cases hk
theorem XH {e:Ty} {fz:Nat->Bool} (nC:1<=e.sz) {K:Md->List e.den->St->Option R} :
  ∀ (ps:List (Nat×Operand)) {n:Nat} {σ:St} {A:Cells} {X:FP} {F:Nat->FP} {m:Md} {v:List e.den} {L Z:List Value} {Fi:Nat->FP},ps.all (λp=>dO P p.2)=true->Rel P C A X σ a w F ->
   List.length v=n->L.length=n*e.sz->Z.length=ps.length*e.sz->(∀ b i,bg n Fi b i<=X b i)->(∀ (i:Nat) (y:e.den),v[i]?=some y->ao P w A e m [] y ((L.drop (i*e.sz)).take e.sz) (Fi i)) ->
   GG σ e fz ps n m v K=some x->∃ (A':Cells) (σ':St) (F':Nat->FP) (m':Md) (v':List e.den) (L':List Value) (X':FP) (HP:Nat->FP),K m' v' σ'=some x/\Rel P C A' X' σ' a w F'/\List.length v'=n+ps.length/\L'.length=(n+ps.length)*e.sz/\(∀ b i,bg (n+ps.length) HP b i<=X' b i) /\
    (∀ (i:Nat) (y:e.den),v'[i]?=some y->ao P w A' e m' [] y ((L'.drop (i*e.sz)).take e.sz) (HP i))/\Instr.fill (λi=>some (i*e.sz,e.sz)) (L++Z).toArray (ps.map λp=>(p.1,a.eval p.2))=some L'.toArray:=by
 intro ps
 induction ps with
 | nil=>
  intro n σ A X F m v L Z Fi ba h hv hL hZ hX hr hk;have:Z=[]:=by simpa using hZ
  subst this;exact ⟨A,σ,F,m,v,L,X,Fi,hk,h,hv,hL,hX,hr,by simp[Instr.fill]⟩
 | cons p ps ih=>
  intro n σ A X F m v L Z Fi ba h hv hL hZ hX hr hk;obtain ⟨j,y⟩:=p;simp only[dI,aF] at ba;simp only[GG] at hk;split at hk
  ·rename_i hj;have hj:j=n:=by simpa using hj
   subst hj
   rcases fy h ba.1 with hs | ⟨xs,e⟩
   rotate_left
   ·grind [mV]
   obtain ⟨A1,pM,F1,m1,v1,qt,Fv,k1,k2,k3,k4,kr,k5,k6⟩:=um h hs hk;have xF:=ao.length _ k6;have hZ1:Z.length=e.sz+ps.length*e.sz:=by grind
   have hgo:∀ {A2:Cells} {X2:FP} {m2:Md} {LY:Nat->FP},Rel P C A2 X2 pM a w F1->(∀ b i,bg (j+1) LY b i<=X2 b i)->(∀ (i:Nat) (y:e.den),v[i]?=some y->ao P w A2 e m2 [] y ((L.drop (i*e.sz)).take e.sz) (LY i)) ->
     ao P w A2 e m2 [] v1 qt (LY j)->GG pM e fz ps (j+1) m2 (v++[v1]) K=some x ->
     ∃ (A':Cells) (σ':St) (F':Nat->FP) (m':Md) (v':List e.den) (L':List Value) (X':FP) (HP:Nat->FP),K m' v' σ'=some x/\Rel P C A' X' σ' a w F'/\List.length v'=j+(ps.length+1)/\L'.length=(j+(ps.length+1))*e.sz/\(∀ b i,bg (j+(ps.length+1)) HP b i<=X' b i) /\
      (∀ (i:Nat) (y:e.den),v'[i]?=some y->ao P w A' e m' [] y ((L'.drop (i*e.sz)).take e.sz) (HP i))/\Instr.fill (λi=>some (i*e.sz,e.sz)) (L++Z).toArray ((j,a.eval y)::ps.map λp=>(p.1,a.eval p.2))=some L'.toArray:=by
    intro A2 X2 m2 LY h2 hX2 wu hn2 mJ
    obtain ⟨A',σ',F',m',v',L',X',HP,g1,g2,g3,g4,g5,g6,g7⟩:=ih (L:=L++qt) (Z:=Z.drop e.sz) (Fi:=LY) ba.2 h2 (by simp[hv]) (by grind) (by simp[hZ1]) hX2 (λi z hz=>by
     by_cases hi:i=j
     ·grind
     ·have ax:i < j:=by
       grind
      rw[cS (by omega)] at hz;have h6:i*e.sz+e.sz<=j*e.sz:=by rw[<-eW];exact bH _ (by omega)
      grind) mJ
    refine ⟨A',σ',F',m',v',L',X',HP,g1,g2,by omega,by grind,λb i=>by grind,g6,?_⟩
    rw[k5,Em (pl:=λi=>some (i*e.sz,e.sz)) rfl xF (lu xF (ao.one _ k6)) (by simp[hL,hZ1])];grind [List.drop_append,List.drop_of_length_le,Nat.add_sub_cancel_left]
   have wM:∀ (i:Nat) (y:e.den),v[i]?=some y->ao P w A1 e m [] y ((L.drop (i*e.sz)).take e.sz) (Fi i):=λi y hy=>ao.mono (P:=P) (A':=A1) k2 (λ_ _ _ _ h=>h) (λ_ _ h=>h) e (hr i y hy) (λ_ _=>aL _) (λ_ _ _ _ h=>h);split at k1
   ·rename_i hm;subst hm;refine hgo (LY:=ge Fi j Fv) k3 (λb i=>?_) (λi y hy=>?_) (by grind [ge]) k1
    ·have h1:=xM j 1 (ge Fi j Fv) b i;have h2:bg j (ge Fi j Fv) b i=bg j Fi b i:=by rw[LB Fi (aL j)]
     have h3:bg 1 (λk=>ge Fi j Fv (j+k)) b i=Fv b i:=by simp[bg,ge]
     grind
    grind [ge]
   ·
    have wW:∃ A2:Cells,(∀ b i,A1 b i->A2 b i)/\Rel P C A2 (λ_ _=>0) pM a w F1/\Ro P w A2 e v1 qt/\∀ (i:Nat) (y:e.den),v[i]?=some y->Ro P w A2 e y ((L.drop (i*e.sz)).take e.sz):=by
     refine ⟨λb i=>A1 b i\/1<=X b i+Fv b i,λ_ _ h=>.inl h,k3.giveUp (λ_ _ h=>.inl h) (λb i ha=>ha.imp id λhp=>⟨hp,rfl⟩) (λ_ _=>bD _),ao.wI (λ_ _ h=>.inl h) e k6 (λb i hp=>.inr (by omega)),λi y hy=>?_⟩
     grind [ao.wI,dv]
    obtain ⟨A2,a1,a2,a3,a4⟩:=wW;exact hgo (LY:=λ_ _ _=>0) a2 (λb i=>by grind [m_]) (λi y hy=>Ro.rep _ _ (it _) (a4 i y hy)) (Ro.rep _ _ (it _) a3) k1
  ·cases hk
theorem Jg (h:d_ P C A σ a w F) (kG:∀ i T,E.TI i=some T->bi P T (.inl i)=true) {t n:Nat} {ps:Array (Nat×Operand)} {fz:Nat->Bool} (ho:o.op=.buildSlice t n ps) (ba:ps.toList.all (λp=>dO P p.2)=true) {K:St->Option R}
  (hk:(p_ E t λt=>match t with
  | .aa e=>if Nat.beq n ps.size&&e.wl&&Nat.ble (n*e.sz) 16777216 then GG σ e fz ps.toList 0 (ai e) [] λm v σ=>K (σ.bz o.dst (.own (.aa e) (.aa true m) [] v)) else none
  | _=>none)=some x):o.wp P a w (λa' w'=>Nx P C K x a' w'/\Ext w w' (λ_ _=>0)) Q:=by
 obtain ⟨T,hT,hk⟩:=gw hk;have jk:=kG _ _ hT;split at hk
 ·rename_i e;split at hk
  ·rename_i hc;simp only[aF,eN,dK] at hc;obtain ⟨⟨hn,hz⟩,qU⟩:=hc;have hl:=jk;simp only[bi,aF] at hl;have h2:=hl.2;split at h2
   ·rename_i el hu;simp only[aF,dK] at h2;obtain ⟨nC,sk⟩:=h2;obtain ⟨Lz,hLz⟩:=wd e hz;obtain ⟨r1,r2,r3⟩:=CL (P:=P) (w:=w) (A:=A) _ hLz sk;obtain ⟨inf,i1,i2,i3,i4⟩:=lc (nf sk);obtain ⟨z,z1,z2⟩:=i4 Lz hLz;have hzl:z.cells.size=e.sz:=by grind
    obtain ⟨A',σ',F',m',v',L',X',HP,g1,g2,g3,g4,g5,g6,g7⟩:=XH (P:=P) nC ps.toList (n:=0) (L:=[]) (Z:=((Array.range (n*e.sz)).map (z.cells[· % z.cells.size]!)).toList) (Fi:=λ_ _ _=>0) (m:=ai e) ba h rfl (by simp) (by simp[hn]) (λb i=>by grind [m_]) (λi y hy=>by cases hy) hk;simp only[bO,Array.toArray_toList] at g7;simp only[cB] at g3 g4 g5;have JY:ps.toList.length=n:=by simpa using hn.symm
    rw[JY] at g3 g4 g5
    have kO:(execOp a.eval o).run P w=.ok (.value (.slice (some ⟨w.heap.size,0,none⟩) n n)) (w.alloc (.cells L'.toArray el)):=by
     by_cases JZ:n*e.sz=0
     ·have:n=0:=by rcases Nat.mul_eq_zero.1 JZ with h | h <;> omega
      subst this;have wY:ps=#[]:=by grind
      subst wY;have Wk:L'=[]:=by simpa using g4
      subst Wk;simp[execOp,ho,Instr.buildSlice,run_underlying hu,Go.sizeOf,typeInfo,i1,Instr.fill,newRow,show Array.range 0=#[] from rfl]
     simp_all [run_buildSlice,execOp]
    refine oA (w':=w.alloc (.cells L'.toArray el)) kO ?_
    have oW:=FC g2 (K:=K) (x:=x) (d:=o.dst) (e:=e) (m:=m') (v:=v') (c:=L'.toArray) (cap:=n) (el:=el) (fr:=(0,0)) (Fi:=HP) (.inr (aL _)) g1 (by simp[g4]) (by simp only[maxLen];have:=Nat.le_mul_of_pos_right n nC;omega) (by omega)
     (λb i=>by grind) (λi y hy=>⟨(L'.drop (i*e.sz)).take e.sz,ao.length _ (g6 i y hy),(λj u hu=>by
      grind),g6 i y hy⟩)
    grind [pp]
   ·cases h2
  ·cases hk
 ·cases hk
end
end OT
namespace OT
open Go
section
variable {P:Program} {C:Ctx} {A:Cells} {X:FP} {σ:St} {a:Act} {w:World} {F:Nat->FP} {R:Type} {x:R} {Q:Exit->Act->World->Prop} {o:Oper} {E:Env}
theorem Rel.world (h:Rel P C A X σ a w F) {w1:World} {G:FP} (hw:Ext w w1 G) (hG:∀ b i,1<=G b i->1<=X b i):Rel P C A X σ a w1 F:=by
 have tr:∀ b i,A b i->∀ u,ce w b i=some u->ce w1 b i=some u:=λb i ha u hu=>by
  refine hw.cell b i (h.kN b i (.inr ha)) ?_ u hu;rcases bM (G b i) with h0 | h0
  ·exact h0
  ·exact absurd ha (h.qb b i (by grind))
 have Ef:∀ j,j < σ.n->∀ b i,1<=F j b i->(∀ u,ce w b i=some u->ce w1 b i=some u)/\w1.frozen? ⟨b,i,none⟩=w.frozen? ⟨b,i,none⟩:=λj hj b i hp=>by
  have hs:=dv F hj b i;have hb:=h.kN b i (.inl (by omega));refine ⟨λu hu=>hw.cell b i hb ?_ u hu,hw.yP b i hb⟩
  rcases bM (G b i) with h0 | h0
  ·exact h0
  ·have:=hG b i h0;have:=h.pk b i;omega
 have nP:xN σ a w σ a w1:=λr p snap hb=>⟨hb,λba=>⟨ba,λhl pl iU=>⟨pl.H,pl.cs,by
  have ax:=tP iU
  exact vL (h.iW r ax) rfl rfl tr (λb i hp=>(Ef r ax b i hp).1) iU,λ_=>rfl⟩⟩⟩
 refine ⟨h.size,h.defers,λi hi=>c8.mW nP (λ_ _ h=>h) tr hw.xE (Ef i hi) (h.iW i hi),λd r p snap hm=>rG.mW nP (h.gh d r p snap hm),h.pk,h.qb,λb i hp=>dB (h.kN b i hp) hw.size,
  h.l8,h.ext.trans hw (λb i hb hz=>?_),h.own,h.a0,h.a1,h.oL,λr t m H v hg hl=>?_,λj k hm R' po=>?_,h.wN⟩
 ·rcases bM (G b i) with h0 | h0
  ·exact h0
  ·rcases h.own b i (by grind) with h1 | h1 <;> omega
 ·obtain ⟨b,h1,h2⟩:=h.whole r t m H v hg hl;exact ⟨b,h1,hw.xE _ _ h2⟩
 ·rcases cK j σ.n with hj | hj
  ·have lT:=h.iW j hj
   cases zd:d8 w (tmp a j) (σ.get j) with
   | none=>exfalso;cases hg:σ.get j <;> rw[hg] at zd po <;> simp only[d8] at zd po <;> first | grind | grind | grind
   | some R0=>
    rw[wP lT (λb i hp=>(Ef j hj b i hp).1) zd] at po;injection po with po;subst po;exact h.nD j k hm _ zd
  ·rw[mf (fZ.2 hj)] at po;cases po
theorem HQ {b o sz:Nat} {n:Nat} (h:∀ i,i < n->∃ L:List Value,L.length=sz/\Has w b (o+i*sz) L):Has w b o (rd w b o (n*sz))/\∀ i L,i < n->L.length=sz->Has w b (o+i*sz) L->((rd w b o (n*sz)).drop (i*sz)).take sz=L:=by
 have aav:∀ j,j < n*sz->(ce w b (o+j)).isSome=true:=λj hj=>by
  have nC:0 < sz:=by grind
  have hi:j / sz < n:=Nat.div_lt_of_lt_mul (by grind);obtain ⟨L,h1,h2⟩:=h _ hi;have hm:j % sz < L.length:=by simp_all [Nat.mod_lt]
  have:=h2 (j % sz) _ (aB hm);grind [Nat.div_add_mod]
 refine ⟨λj u hu=>?_,λi L hi hl hL=>?_⟩
 ·have hj:=(aR.1 hu).1;rw[yx] at hj;unfold rd at hu;rw[eV,gW hj] at hu;simp only[bT,aS] at hu;obtain ⟨u',hu'⟩:=eC.1 (aav j hj);grind
 ·have h6:i*sz+sz<=n*sz:=by rw[<-eW];exact bH _ (by omega)
  apply eF;intro j;rw[cJ,bZ];by_cases hj:j < sz
  ·rw[aM hj];unfold rd;rw[eV,gW (by omega)];have:=hL j L[j] (aB (by omega));grind
  grind
theorem QH {e:Ty} {m:Md} {H:List Path} (hH:hole H=false) {v:List e.den} {cs:List Value} {Fv:FP} (hr:ao P w A (.aa e) m H v cs Fv) :
  ∃ xa cap news Fi,cs=[.slice xa (List.length v) cap]/\(List.length v<=cap/\(xa=none->List.length v=0))/\(∀ ad,xa=some ad->(0 < cap->ad.spot=none)/\Has w ad.block ad.off news)/\news.length=List.length v*e.sz/\(∀ u ∈ news,u.oneCell'=true) /\
   (∀ (i:Nat) (y:e.den),v[i]?=some y->ao P w A e m.e (H.filterMap (lG i)) y ((news.drop (i*e.sz)).take e.sz) (Fi i))/\(∀ b i,bg (List.length v) Fi b i<=Fv b i) /\
   (m.own=true->List.length v<=cap/\cap<=maxLen/\(xa=none->cap=0)/\∀ ad,xa=some ad->ad.off=0/\ad.spot=none/\je w ad.block (cap*e.sz,I5 e)/\∀ b i,ep ad.block 0 (cap*e.sz) b i+bg (List.length v) Fi b i<=Fv b i):=by
 have qT:∀ (news:List Value) (Fi:Nat->FP),news.length=List.length v*e.sz->(∀ (i:Nat) (y:e.den),v[i]?=some y->ao P w A e m.e (H.filterMap (lG i)) y ((news.drop (i*e.sz)).take e.sz) (Fi i))->∀ u ∈ news,u.oneCell'=true:=by
  intro news Fi hl sk u hu;obtain ⟨j,hj,rfl⟩:=cV.1 hu;have nC:0 < e.sz:=by grind
  have hi:j / e.sz < List.length v:=Nat.div_lt_of_lt_mul (by grind);have h1:=ao.one _ (sk _ _ (aB hi));refine h1 _ (cD (i:=j % e.sz) ?_);grind [Nat.mod_lt,Nat.div_add_mod]
 simp only[ao,hH,aJ,aO] at hr;split at hr
 ·rename_i jE;obtain ⟨xa,cap,rfl,h1,h2,h3,h4⟩:=hr
  cases xa with
  | none=>
   have qU:=h3 rfl;have WF:List.length v=0:=by omega
   have hv:v=[]:=bS WF;subst hv;exact ⟨none,cap,[],λ_ _ _=>0,rfl,⟨bD _,λ_=>rfl⟩,(λad e=>by cases e),by simp,(λu hu=>by cases hu),(λi y hy=>by cases hy),λb i=>by grind [m_],λ_=>⟨h1,h2,h3,λad e=>by cases e⟩⟩
  | some ad=>
   obtain ⟨g1,g2,g3,Fi,g4,g5⟩:=h4 ad rfl
   have hp:∀ i,i < List.length v->∃ L:List Value,L.length=e.sz/\Has w ad.block (0+i*e.sz) L:=λi hi=>by
    obtain ⟨L,l1,l2,_⟩:=g5 i _ (aB hi);grind
   obtain ⟨p1,p2⟩:=HQ hp
   have sk:∀ (i:Nat) (y:e.den),v[i]?=some y->ao P w A e m.e (H.filterMap (lG i)) y (((rd w ad.block 0 (List.length v*e.sz)).drop (i*e.sz)).take e.sz) (Fi i):=λi y hy=>by
    grind
   refine ⟨some ad,cap,rd w ad.block 0 (List.length v*e.sz),Fi,rfl,⟨h1,(λe=>by cases e)⟩,λc_ e=>?_,yx _ _ _ _,qT _ _ (yx _ _ _ _) sk,sk,λb i=>by grind,λ_=>⟨h1,h2,h3,λc_ e=>?_⟩⟩
   all_goals grind
 ·rename_i jE;obtain ⟨rfl,oN,xa,cap,rfl,h1,h2,h3⟩:=hr
  cases xa with
  | none=>
   have hv:v=[]:=bS (h2 rfl);subst hv;exact ⟨none,cap,[],λ_ _ _=>0,rfl,⟨bD _,λ_=>rfl⟩,(λad e=>by cases e),by simp,(λu hu=>by cases hu),(λi y hy=>by cases hy),(λb i=>by grind [m_]),λh=>absurd h jE⟩
  | some ad=>
   obtain ⟨g1,g2⟩:=h3 ad rfl
   have hp:∀ i,i < List.length v->∃ L:List Value,L.length=e.sz/\Has w ad.block (ad.off+i*e.sz) L:=λi hi=>by
    obtain ⟨L,l1,l2,_⟩:=g2 i _ (aB hi);exact ⟨L,l1,λj u hu=>(l2 j u hu).1⟩
   obtain ⟨p1,p2⟩:=HQ hp
   have sk:∀ (i:Nat) (y:e.den),v[i]?=some y->ao P w A e m.e (([]:List Path).filterMap (lG i)) y (((rd w ad.block ad.off (List.length v*e.sz)).drop (i*e.sz)).take e.sz) (λ_ _=>0):=λi y hy=>by
    obtain ⟨L,l1,l2,l3⟩:=g2 i y hy;rw[p2 i L (aR.1 hy).1 l1 (λj u hu=>(l2 j u hu).1)];grind [Ro.rep]
   refine ⟨some ad,cap,rd w ad.block ad.off (List.length v*e.sz),λ_ _ _=>0,rfl,⟨h1,(λe=>by cases e)⟩,λc_ e=>?_,yx _ _ _ _,qT _ _ (yx _ _ _ _) sk,sk,(λb i=>by grind [m_]),λh=>absurd h jE⟩
   grind
theorem En {e:Ty} {m:Md} {v:List e.den} {cs:List Value} {Fv:FP} (hr:ao P w A (.aa e) m [] v cs Fv) :
  ∃ xa cap news Fi,cs=[.slice xa (List.length v) cap]/\(List.length v<=cap/\(xa=none->List.length v=0))/\(∀ ad,xa=some ad->(0 < cap->ad.spot=none)/\Has w ad.block ad.off news)/\news.length=List.length v*e.sz/\(∀ u ∈ news,u.oneCell'=true) /\
   (∀ (i:Nat) (y:e.den),v[i]?=some y->ao P w A e m.e [] y ((news.drop (i*e.sz)).take e.sz) (Fi i))/\(∀ b i,bg (List.length v) Fi b i<=Fv b i) /\
   (m.own=true->List.length v<=cap/\cap<=maxLen/\(xa=none->cap=0)/\∀ ad,xa=some ad->ad.off=0/\ad.spot=none/\je w ad.block (cap*e.sz,I5 e)/\∀ b i,ep ad.block 0 (cap*e.sz) b i+bg (List.length v) Fi b i<=Fv b i):=
 QH rfl hr
theorem Jh (h:Rel P C A X σ a w F) {s:Slot} {tv:Value} {G:FP} (hs:c8 P A σ a w tv s G) {mv:Bool} {e:Ty} {tx:TypeId} (Bd:(∃ e',P.underlying tx=some (.slice e'))\/P.underlying tx=some .string)
  {K:Md->List e.den->St->Option R} (hk:A6 σ s e mv K=some x) :
  ∃ (A':Cells) (σ':St) (F':Nat->FP) (me:Md) (y:List e.den) (news:List Value) (Fv:FP) (Fi:Nat->FP),K me y σ'=some x/\(∀ b i,A b i->A' b i)/\Rel P C A' (λb i=>X b i+Fv b i) σ' a w F'/\qS σ σ' /\
   Src P e.sz tx tv (List.length y) news w/\(∀ k,k<=List.length y->(Builtin.firstCells e.sz k tv).run P w=.ok (news.take (k*e.sz)).toArray w)/\(∀ (i:Nat) (z:e.den),y[i]?=some z->ao P w A' e me [] z ((news.drop (i*e.sz)).take e.sz) (Fi i))/\∀ b i,bg (List.length y) Fi b i<=Fv b i:=by
 unfold A6 at hk;split at hk
 ·rename_i s';obtain ⟨e1,hk⟩:=cy hk;injection e1 with e1;subst e1;obtain ⟨cs,h1,h2⟩:=hs;simp only[Ro] at h2;subst h2;have Ab:tv=.string ⟨List.toArray s'⟩:=h1;subst Ab;have hlen:(byteCells ⟨List.toArray s'⟩)=List.map (λ(b:UInt8)=>Value.int .u8 b.toNat) s':=by simp[byteCells]
  have nC:(⟨List.toArray s'⟩:ByteArray).size=List.length s':=rfl;refine ⟨A,σ,F,.leaf,s',byteCells ⟨List.toArray s'⟩,λ_ _=>0,λ_ _ _=>0,hk,λ_ _ h=>h,h,qS.refl σ,⟨Bd,λ_=>rfl,firstCells_string _ w,firstCells_string _ w.drew,by grind [Ty.sz],λu hu=>?_⟩,λk hk=>?_,λi z hz=>?_,λb i=>by grind [m_]⟩
  ·obtain ⟨_,_,rfl⟩:=eX.1 hu;rfl
  ·rw[hlen];have acm:((⟨List.toArray s'⟩:ByteArray).extract 0 k).data.toList=s'.take k:=by simp[ByteArray.data_extract]
   simp only[Builtin.firstCells,Sem.run_pure,Ty.sz,iR];simp_all
  ·have:((byteCells ⟨List.toArray s'⟩).drop (i*Ty.sz (.int .u8))).take (Ty.sz (.int .u8))=[Value.int .u8 z.toNat]:=by
    show ((byteCells ⟨List.toArray s'⟩).drop (i*1)).take 1=_;grind [List.take_one,List.head?_drop]
   exact this
 ·rename_i s' hns;obtain ⟨A',σ',F',m,v,cs,Fv,k1,k2,k3,k4,kr,k5,k6⟩:=um h hs hk;obtain ⟨xa,cap,news,Fi,r1,r2,r3,r4,r5,r6,r7,r8⟩:=En k6;rw[r1,eo _ _ rfl] at k5;subst k5
  have LQ:∀ ad,xa=some ad->∀ j u,news[j]?=some u->w.cell? (ad.add j)=some u:=λad e1 j u hu=>by
   obtain ⟨g1,g2⟩:=r3 ad e1;have hj:=(aR.1 hu).1
   have GQ:0 < cap:=by
    grind
   obtain ⟨b,off,sp⟩:=ad;have:=g1 GQ;simp only at this;subst this;rw[qF];exact vm (g2 j u hu) (r5 u (cD hu))
  refine ⟨A',σ',F',m.e,v,news,Fv,Fi,k1,k2,k3,kr,?_,?_,r6,r7⟩
  rotate_left
  ·intro k hk
   cases xa with
   | none=>
    simp_all [run_firstCells_none]
   | some ad=>
    grind [Nat.mul_le_mul_right,run_firstCells_some]
  cases xa with
  | none=>
   have h0:=r2.2 rfl;have hn:news=[]:=bS (by grind);subst hn;rw[h0];exact ⟨Bd,λ_=>rfl,run_firstCells_none w e.sz 0 0 cap,run_firstCells_none w.drew e.sz 0 0 cap,by simp,λu hu=>by cases hu⟩
  | some ad=>
   have hc:=LQ ad rfl;exact ⟨Bd,λ_=>rfl,run_firstCells_some w e.sz (List.length v) ad (List.length v) cap news r4 hc,run_firstCells_some w.drew e.sz (List.length v) ad (List.length v) cap news r4 (by simpa using hc),r4,r5⟩
theorem LZ {e:Ty} {me:Md} {v y:List e.den} {wZ news:List Value} {Fi Gi:Nat->FP} (hl:wZ.length=List.length v*e.sz)
  (h1:∀ (i:Nat) (z:e.den),v[i]?=some z->ao P w A e me [] z ((wZ.drop (i*e.sz)).take e.sz) (Fi i)) (h2:∀ (i:Nat) (z:e.den),y[i]?=some z->ao P w A e me [] z ((news.drop (i*e.sz)).take e.sz) (Gi i)) :
  ∀ (i:Nat) (z:e.den),(v++y)[i]?=some z->ao P w A e me [] z (((wZ++news).drop (i*e.sz)).take e.sz) (if i < List.length v then Fi i else Gi (i - List.length v)):=by
 intro i z hz;by_cases hi:i < List.length v
 ·rw[aM hi];rw[cS hi] at hz;have h6:i*e.sz+e.sz<=List.length v*e.sz:=by rw[<-eW];exact bH _ (by omega)
  grind
 grind [Nat.mul_le_mul_right,List.drop_append,List.drop_of_length_le,Nat.sub_mul]
theorem UW (n m:Nat) (Fi Gi:Nat->FP) (b i:Nat):bg (n+m) (λi=>if i < n then Fi i else Gi (i - n)) b i=bg n Fi b i+bg m Gi b i:=by
 rw[xM];congr 1
 all_goals simp_all [wH,aP]
theorem Ro.indep {A':Cells}:∀ (t:Ty) {v:t.den} {cs:List Value},t.flat=true->t.rW=true->Ro P w A t v cs->Ro P w A' t v cs:=by
 intro t
 induction t with
 | pair a b mX mO=>
  intro v cs hf hn h;simp only[Ty.flat,Ty.rW,aF] at hf hn;exact ⟨mX hf.1 hn.1 h.1,mO hf.2 hn.2 h.2⟩
 | arr n e ih=>
  intro v cs hf hn h;exact ⟨h.1,h.2.1,h.2.2.1,λi x hx=>ih hf hn (h.2.2.2 i x hx)⟩
 | aa e ih=>grind [Ty.flat]
 | ptr e ih=>grind [Ty.flat]
 | fn=>grind [Ty.rW]
 | map k v=>grind [Ty.flat]
 | _=>intro v cs hf hn h;exact h
theorem HR {A1 A2:Cells} {ml:St} {F2:Nat->FP} {t tx:Nat} {y z:Operand} (ho:o.op=.call { callee:=.builtin .append,args:=#[y,z],argTypes:=#[t,tx] }) {e:Ty} {el:Nat} (hu:P.underlying t=some (.slice el)) (sk:bi P e (.inl el)=true)
  {m me:Md} {v yv:List e.den} {cs news:List Value} {Fv Fw:FP} {Gi:Nat->FP} {K:St->Option R} (jE:m.own=true) (k5:a.eval y=dq (.aa e) cs) (k6:ao P w A1 (.aa e) m [] v cs Fv) (qU:v.length+yv.length<=cg)
  (q1:K (ml.bz o.dst (.own (.aa e) (.aa true (if me=m.e then me else ak e)) [] (v++yv)))=some x) (q2:∀ b i,A1 b i->A2 b i) (q3:Rel P C A2 (λb i=>0+Fv b i+Fw b i) ml a w F2)
  (q4:Src P e.sz tx (a.eval z) (List.length yv) news w) (q5:∀ (i:Nat) (z:e.den),yv[i]?=some z->ao P w A2 e me [] z ((news.drop (i*e.sz)).take e.sz) (Gi i)) (q6:∀ b i,bg (List.length yv) Gi b i<=Fw b i):o.wp P a w (Nx P C K x) Q:=by
 obtain ⟨inf,zv,i1,i2,i3,i4,i5,_⟩:=FY (nf sk);obtain ⟨xa,cap,wZ,Fi,r1,r2,r3,r4,r5,r6,r7,r8⟩:=En k6;obtain ⟨c1,c2,c3,c4⟩:=r8 jE;rw[r1,eo _ _ rfl] at k5;have r6':∀ (i:Nat) (z:e.den),v[i]?=some z->ao P w A2 e m.e [] z ((wZ.drop (i*e.sz)).take e.sz) (Fi i):=λi z hz=>ao.mono (P:=P) (A':=A2) q2 (λ_ _ _ _ h=>h) (λ_ _ h=>h) e (r6 i z hz) (λ_ _=>aL _) (λ_ _ _ _ h=>h)
 have BJ:∃ (A3:Cells) (X3:FP) (Hi:Nat->FP),Rel P C A3 X3 ml a w F2/\(∀ (i:Nat) (z:e.den),(v++yv)[i]?=some z->ao P w A3 e (if me=m.e then me else ak e) [] z (((wZ++news).drop (i*e.sz)).take e.sz) (Hi i)) /\
   (∀ b i,bg (List.length v+List.length yv) Hi b i<=X3 b i)/\∀ ad,xa=some ad->∀ b i,ep ad.block 0 (cap*e.sz) b i+bg (List.length v+List.length yv) Hi b i<=X3 b i:=by
  by_cases DV:me=m.e
  ·subst DV;refine ⟨A2,_,_,q3,by simp only[aI];exact LZ r4 r6' q5,λb i=>?_,λad lH b i=>?_⟩
   all_goals grind [UW]
  ·simp only[aP DV]
   obtain ⟨B,hB1,hB2,hB3⟩:∃ B:FP,(∀ b i,B b i+bg (List.length v) Fi b i<=Fv b i)/\(∀ ad,xa=some ad->∀ b i,ep ad.block 0 (cap*e.sz) b i=B b i)/\∀ b i,B b i<=1:=by
    cases xa with
    | none=>exact ⟨λ_ _=>0,λb i=>by grind,(λad e=>by cases e),λ_ _=>bD _⟩
    | some ad=>exact ⟨ep ad.block 0 (cap*e.sz),(c4 ad rfl).2.2.2,(λc_ e=>by grind),λb i=>by grind [ep]⟩
   obtain ⟨A3,rF⟩:∃ A3:Cells,∀ b i,A3 b i↔(A2 b i\/(1<=0+Fv b i+Fw b i/\B b i=0)):=⟨λb i=>A2 b i\/(1<=0+Fv b i+Fw b i/\B b i=0),λ_ _=>iH⟩
   refine ⟨A3,B,λ_ _ _=>0,q3.giveUp (λb i h=>(rF b i).2 (.inl h)) (λb i ha=>(rF b i).1 ha) (λb i=>by grind),?_,λb i=>by grind [m_],λad lH b i=>by grind [m_]⟩
   have wQ:∀ b i,(0+Fv b i+Fw b i)+bg ml.n F2 b i<=1:=λb i=>q3.pk b i
   have hv3:∀ (i:Nat) (z:e.den),v[i]?=some z->ao P w A3 e (ak e) [] z ((wZ.drop (i*e.sz)).take e.sz) (λ_ _=>0):=λi z hz=>Ro.rep _ _ (it _) (ao.wI (λb i h=>(rF b i).2 (.inl h)) e (r6' i z hz) λb k hp=>(rF b k).2 (.inr (by
    grind [dv])))
   have hy3:∀ (i:Nat) (z:e.den),yv[i]?=some z->ao P w A3 e (ak e) [] z ((news.drop (i*e.sz)).take e.sz) (λ_ _=>0):=λi z hz=>Ro.rep _ _ (it _) (ao.wI (λb i h=>(rF b i).2 (.inl h)) e (q5 i z hz) λb k hp=>(rF b k).2 (.inr (by
    grind [dv])))
   exact λi z hz=>by simpa using LZ (Fi:=λ_ _ _=>0) (Gi:=λ_ _ _=>0) r4 hv3 hy3 i z hz
 obtain ⟨A3,X3,Hi,n1,n2,n3,n4⟩:=BJ;have Ph:List.length (v++yv)=List.length v+List.length yv:=by simp
 by_cases CO:List.length v+List.length yv<=cap
 ·cases xa with
  | none=>
   have hc0:=c3 rfl;have WF:v=[]:=bS (by omega);have hy0:yv=[]:=bS (by omega);subst WF;subst hy0;have Ba:(Builtin.firstCells e.sz 0 (a.eval z)).run P w=.ok news.toArray w:=by have:=q4.cells;simpa using this
   have kO:(execOp a.eval o).run P w=.ok (.value (.slice none 0 cap)) w:=by
    rcases q4.kind with ⟨e',J0⟩ | J0 <;>
     simp[execOp,ho,resolve,invoke,builtin,Builtin.append_,k5,run_underlying hu,run_underlying J0,Go.sizeOf,typeInfo,i1,q4.len,i2,Ba]
   refine oA kO (pO n1 q1 (Fd:=λ_ _=>0) ⟨[.slice none 0 cap],(eo _ _ rfl).symm,?_⟩ (λ_ _=>bD _) (λ_ _ _ _ e=>by cases e));grind [ao,Md.own]
  | some ad=>
   obtain ⟨d1,d4,d2,d3⟩:=c4 ad rfl;obtain ⟨_,d5⟩:=r3 ad rfl;obtain ⟨b,off,sp⟩:=ad;simp only at d1 d2 d3 d4 d5;subst d1;subst d4;have n4':∀ b' i,ep b 0 (cap*e.sz) b' i+bg (List.length v+List.length yv) Hi b' i<=X3 b' i:=n4 _ rfl;have JY:=q4.newsLen;have Aj:List.length v*e.sz+news.length<=cap*e.sz:=by rw[JY,<- dL];exact bH _ CO
   have tR:∀ j,j < cap*e.sz->(w.cell? ⟨b,j,none⟩).isSome=true:=λj hj=>by
    obtain ⟨c,e',fr,w1,w2,w3⟩:=d2;grind [World.cell?]
   have kO:=run_append_room_src (P:=P) w t tx o.type el inf hu i1 b 0 (List.length v) cap (a.eval z) (List.length yv) news (by grind) CO (λj hj=>by grind) (λj hj=>by rw[i2,cB];exact d2.frozen (by omega));rw[i2,cB] at kO
   have QI:(execOp a.eval o).run P w=.ok (.value (.slice (some ⟨b,0,none⟩) (List.length v+List.length yv) cap)) (w.setCells b (List.length v*e.sz) news):=by
    simp_all [execOp,resolve,invoke,builtin]
   have gf:=rI (b:=b) (o:=List.length v*e.sz) news w (List.length v*e.sz)
   have hX1:∀ b' i,1<=ep b (List.length v*e.sz) news.length b' i->1<=ep b 0 (cap*e.sz) b' i:=λb' i hp=>by
    grind [ep]
   have Y8:=n1.world gf (λb' i hp=>by grind);refine oA QI (pO Y8 q1 (Fd:=X3) ⟨[.slice (some ⟨b,0,none⟩) (List.length v+List.length yv) cap],(eo _ _ rfl).symm,?_⟩ (λ_ _=>aL _) (λ_ _ _ _ e=>by cases e));simp only[ao,hole,bV,aJ,aO,Md.own,aI,Md.e];refine ⟨some ⟨b,0,none⟩,cap,by rw[Ph],by omega,c2,(λe=>by cases e),λc_ e'=>?_⟩
   injection e' with e';subst e';refine ⟨rfl,rfl,gf.xE _ _ d2,Hi,λb' i=>by grind,λi zz hz=>?_⟩
   have jj:=n2 i zz hz;have L4:i < List.length v+List.length yv:=by grind
   refine ⟨_,ao.length _ jj,?_,?_⟩
   ·
    have rJ:Has (w.setCells b (List.length v*e.sz) news) b 0 (wZ++news):=λj u hu=>by
     rw[cB];by_cases hj:j < wZ.length
     ·rw[cS hj] at hu;have hold:=d5 j u hu;rw[cB] at hold;refine gf.cell b j (by obtain ⟨c,e',fr,w1,_⟩:=d2;grind) ?_ u hold;grind [ep]
     ·rw[fO (by omega)] at hu;have:=Ae (w:=w) (b:=b) (o:=List.length v*e.sz) (L:=news) (λk hk=>tR _ (by omega)) q4.one _ u hu;grind
    intro j u hu;rw[cJ] at hu;split at hu
    ·rw[bZ] at hu;have:=rJ _ u hu;grind
    ·cases hu
   ·simp only[eO];refine ao.mono (P:=P) (λ_ _ h=>h) (λb' k ha u hu=>gf.cell b' k (n1.kN b' k (.inr ha)) ?_ u hu) gf.xE e jj (λ_ _=>aL _) (λb' k hp u hu=>gf.cell b' k ?_ ?_ u hu)
    ·rcases bM (ep b (List.length v*e.sz) news.length b' k) with h0 | h0
     ·exact h0
     ·exact absurd ha (n1.qb b' k (by grind))
    ·exact n1.kN b' k (.inl (by grind [dv]))
    ·rcases bM (ep b (List.length v*e.sz) news.length b' k) with h0 | h0
     ·exact h0
     ·have h1:=hX1 b' k h0;have h2:=n4' b' k;have h3:=dv Hi L4 b' k;have h4:=n1.pk b' k;omega
 ·
  have aaw:(Builtin.firstCells inf.size (List.length v) (.slice xa (List.length v) cap)).run P w.drew=.ok wZ.toArray w.drew:=by
   cases xa with
   | none=>
    simp_all [run_firstCells_none]
   | some ad=>
    obtain ⟨_,d4,_,_⟩:=c4 ad rfl;obtain ⟨_,d5⟩:=r3 ad rfl;obtain ⟨b,off,sp⟩:=ad;simp only at d4 d5;subst d4;exact run_firstCells_some w.drew inf.size (List.length v) ⟨b,off,none⟩ (List.length v) cap wZ (by grind) (λj u hu=>by rw[qF];exact vm (d5 j u hu) (r5 u (cD hu)))
  simp only[cg] at qU
  have kO:=run_append_grow_src (P:=P) w t tx o.type el inf zv hu i1 i4 xa (List.length v) cap wZ aaw (a.eval z) (List.length yv) news (by grind) (by omega) (by omega)
   (growslice_fits (by omega) (bL (Nat.mul_le_mul qU i3) (by decide)))
  have QI:(execOp a.eval o).run P w=.ok (.value (.slice (some ⟨w.heap.size,0,none⟩) (List.length v+List.length yv) (grownCap w (List.length v+List.length yv) cap el)))
    (w.drew.alloc (.cells ((wZ++news).toArray++Builtin.zeroCells zv.cells (grownCap w (List.length v+List.length yv) cap el - (List.length v+List.length yv))) el)):=by
   simp_all [execOp,resolve,invoke,builtin]
  have WE:=grownCap_ge w (List.length v+List.length yv) cap el;have hgm:=grownCap_le_maxLen w (List.length v+List.length yv) cap el (by grind [maxLen]);have JY:=q4.newsLen
  have oW:=FC n1.drew (K:=K) (x:=x) (d:=o.dst) (e:=e) (m:=if me=m.e then me else ak e) (v:=v++yv) (c:=(wZ++news).toArray++Builtin.zeroCells zv.cells (grownCap w (List.length v+List.length yv) cap el - (List.length v+List.length yv)))
   (cap:=grownCap w (List.length v+List.length yv) cap el) (el:=el) (fr:=(0,0)) (Fi:=Hi) (.inr (aL _)) q1
   (by
    rw[Array.size_append,size_zeroCells,i5,iD,bE,r4,JY,<- dL,<- dL]
    congr 1;omega) hgm (by grind)
   (λb i=>by grind) (λi zz hz=>by
    have jj:=n2 i zz hz;refine ⟨_,ao.length _ jj,λj u hu=>?_,ao.mono (P:=P) (w:=w) (w':=w.drew) (A:=A3) (A':=A3) (λ_ _ h=>h) (λ_ _ _ _ h=>h) (λb n hn=>hn) e jj (λ_ _=>aL _) (λ_ _ _ _ h=>h)⟩
    grind)
  rw[Ph] at oW;exact oA QI oW
theorem step_append (h:d_ P C A σ a w F) (kG:∀ i T,E.TI i=some T->bi P T (.inl i)=true) {t tx:Nat} {y z:Operand} (ho:o.op=.call { callee:=.builtin .append,args:=#[y,z],argTypes:=#[t,tx] }) (ba:dO P y=true/\dO P z=true)
  (Bd:(∃ e',P.underlying tx=some (.slice e'))\/P.underlying tx=some .string) {mv tf:Bool} {K:St->Option R} (hk:IY E σ t (d7 σ y) z mv tf o.dst K=some x):o.wp P a w (Nx P C K x) Q:=by
 unfold IY at hk;obtain ⟨T,hT,hk⟩:=gw hk;have jk:=kG _ _ hT;split at hk
 ·rename_i e;have hl:=jk;simp only[bi,aF] at hl;have h2:=hl.2;split at h2;rotate_left
  ·cases h2
  rename_i el hu;simp only[aF,dK] at h2;obtain ⟨nC,sk⟩:=h2;split at hk
  ·rename_i Cb;simp only[aF] at Cb;obtain ⟨_,Cb,Pu⟩:=Cb
   rcases fy h ba.2 with xG | ⟨xs,e'⟩
   rotate_left
   ·grind [A6,mV]
   obtain ⟨A0,σ0,F0,me,yv,news,Fw,Gi,q1,_,_,_,q4,_,q5,_⟩:=Jh h xG Bd hk
   rcases fy h ba.1 with hs | ⟨xs,e'⟩
   rotate_left
   ·grind [mV]
   obtain ⟨A1,pM,F1,m,v,cs,Fv,k1,k2,k3,k4,kr,k5,k6⟩:=um h hs q1;split at k1;rotate_left
   ·cases k1
   rename_i jE;split at k1;rotate_left
   ·cases k1
   rename_i qU
   exact HR (me:=ak e) (Fw:=λ_ _=>0) (Gi:=λ_ _ _=>0) ho hu sk jE k5 k6 qU (by grind) (λ_ _ h=>h) k3 q4
    (λi zz hz=>Ro.rep _ _ (it _) (Ro.indep e Cb Pu (ao.flat e Cb (q5 i zz hz)))) (λb i=>by grind [m_])
  rcases fy h ba.1 with hs | ⟨xs,e'⟩
  rotate_left
  ·grind [mV]
  obtain ⟨A1,pM,F1,m,v,cs,Fv,k1,k2,k3,k4,kr,k5,k6⟩:=um h hs hk;split at k1;rotate_left
  ·cases k1
  rename_i jE
  rcases fy k3 ba.2 with xG | ⟨xs,e'⟩
  rotate_left
  ·grind [A6,mV]
  obtain ⟨A2,ml,F2,me,yv,news,Fw,Gi,q1,q2,q3,qr,q4,_,q5,q6⟩:=Jh k3 xG Bd k1;split at q1;rotate_left
  ·cases q1
  rename_i qU;exact HR ho hu sk jE k5 k6 qU q1 q2 q3 q4 q5 q6
 ·cases hk
end
end OT
namespace OT
open Go
section
variable {P:Program} {C:Ctx} {A:Cells} {X:FP} {σ:St} {a:Act} {w:World} {F:Nat->FP} {R:Type} {x:R} {Q:Exit->Act->World->Prop} {o:Oper} {E:Env}
theorem KN (h:d_ P C A σ a w F) {f:Nat} {first cs:Array Operand} (ho:o.op=.makeFunc (.func f) first cs) (dc:(P.funcs[f]?).any (λfn=>fn.nfree == cs.size)=true) {K:St->Option R}
  (hk:(if first.size=0 then
   match cs.toList with
   | []=>K (σ.bz o.dst (.val .fn (f,0)))
   | [.tmp i]=>match σ.get i with
    | .box (.int .i64) _ _ n=>K (((σ.put i .dead).put i (.cp (.int .i64) n)).bz o.dst (.val .fn (f,n)))
    | _=>none
   | _=>none
  else none)=some x):Tk P o a w (Nx P C K x):=by
 simp only[Option.any_eq_true,beq_iff_eq] at dc;obtain ⟨fn,hf,hn⟩:=dc;split at hk
 ·rename_i h0;have L5:first=#[]:=gL h0
  subst L5;split at hk
  ·rename_i uG;have uG:cs=#[]:=by grind
   subst uG;refine im (v:=.func (.func f) #[] #[]) (by simp[execOp,ho,Instr.makeFunc]) (cm h hk ⟨[.func (.func f) #[] #[]],rfl,#[],rfl,fn,hf,.inl ⟨by simpa using hn,rfl⟩⟩ (λ_ _ _ _ e=>by cases e))
  ·rename_i i uG;have uG:cs=#[.tmp i]:=by grind
   subst uG;split at hk
   ·rename_i m H n hg
    have hi:i < σ.n:=by
     grind [mf]
    have hs:=h.iW i hi;rw[hg] at hs;obtain ⟨b,off,L,F1,s1,s2,s3,s4,s5,s6⟩:=hs;simp only[ao,Ro] at s6;subst s6;have h1:=h.put hi (s:=.dead) (v:=tmp a i) (Fd:=λ_ _=>0) (X':=F i) trivial (λb k=>by omega) (λ_ _ _ _ e=>by cases e);rw[rH] at h1;have hle:∀ b' i',ep b off 1 b' i'<=F i b' i':=λb' i'=>by grind
    have h2:=h1.giveUp (A1:=λb' i'=>A b' i'\/1<=ep b off 1 b' i') (X1:=λ_ _=>0) (λ_ _ h=>.inl h) (λb' i' ha=>ha.imp id λhp=>⟨by grind,rfl⟩) (λ_ _=>bD _);have tR:ce w b off=some (.int .i64 n):=s3 0 _ rfl;have hA:1<=ep b off 1 b off:=by simp[ep]
    have h3:=h2.put (d:=i) hi (s:=.cp (.int .i64) n) (v:=tmp a i) (Fd:=λ_ _=>0) (X':=λ_ _=>0)
     ⟨⟨b,off,none⟩,by rw[s1],rfl,[.int .i64 n],rfl,(λj u hu=>by
      grind),rfl⟩ (λb k=>by omega) (λ_ _ _ _ e=>by cases e)
    rw[rH] at h3;have ev:a.eval (.tmp i)=.pointer (some ⟨b,off,none⟩):=s1
    refine im (v:=.func (.func f) #[] #[.pointer (some ⟨b,off,none⟩)]) (by simp[execOp,ho,Instr.makeFunc,ev])
     (cm h3 hk ⟨[.func (.func f) #[] #[.pointer (some ⟨b,off,none⟩)]],rfl,_,rfl,fn,hf,.inr ⟨by simpa using hn,_,rfl,rfl,tR,.inr hA⟩⟩ (λ_ _ _ _ e=>by cases e))
   ·cases hk
  ·cases hk
 ·cases hk
theorem N8 (h:d_ P C A σ a w F) {y:Operand} (ho:o.op=.assign y) (ba:dO P y=true) {T:Nat} {mv:Bool} {K:St->Option R} (hk:IZ E σ T y mv o.dst K=some x):Tk P o a w (Nx P C K x):=by
 refine im (v:=a.eval y) (by simp[execOp,ho]) ?_;unfold IZ at hk;by_cases abl:∃ i xs,y=.tmp i/\σ.get i=.rT xs
 ·obtain ⟨i,xs,rfl,hg⟩:=abl;have e:d7 σ (.tmp i)=.rT xs:=by grind [d7]
  rw[e] at hk
  cases xs with
  | nil=>
   have hi:i < σ.n:=by
    grind [mf]
   have hs:=h.iW i hi;rw[hg] at hs;obtain ⟨vs,Fi,h1,h2,h3⟩:=hs;exact cm h hk ⟨vs,λ_ _ _=>0,h1,λb i=>by simp[bg],λj y hy=>by cases hy⟩ (λ_ _ _ _ e=>by cases e)
  | cons _ _=>cases hk
 rcases fy h ba with hs | ⟨xs,e⟩
 rotate_left
 ·exfalso
  cases y with
  | tmp i=>
   grind [d7]
  | const v=>simp only[d7] at e;unfold yw at e;grind
  | func f=>cases e
  | global g=>cases e
 split at hk
 ·grind [cm]
 ·rename_i hv;rw[hv] at hs;obtain ⟨t,hT,hk⟩:=gw hk;split at hk
  ·have hs:a.eval y=.slice none 0 0:=hs;rw[hs];refine cm h hk ⟨[.slice none 0 0],(eo _ _ rfl).symm,?_⟩ (λ_ _ _ _ e=>by cases e);grind [ao,hole,uK,Md.own]
  ·cases hk
 ·grind [cm]
 ·cases hk
 ·grind [um,Ad]
 ·grind [um,Ad]
 ·rename_i r p snap hv;rw[hv] at hs;split at hk
  ·rename_i t m H v hg;split at hk
   ·rename_i hc;simp only[aF,cC] at hc;split at hk
    ·rename_i i hd
     have hr:r < σ.n:=by
      grind [mf]
     have lT:=h.iW r hr;rw[hg] at lT;obtain ⟨b,off,L,F1,s1,s2,s3,s4,s5,s6⟩:=lT;obtain ⟨pl,b',o',g1,g2,g3,g4⟩:=hs.2 hc.1.1
     have iU:place σ a w r []=some ⟨t,H,rd w b off t.sz,some (b,off)⟩:=by
      unfold place;rw[hg,s1];rfl
     rw[iU] at g1;injection g1 with g1;subst g1;simp only[aS,bP] at g2;obtain ⟨rfl,rfl⟩:=g2;have h1:=h.put hr (s:=.dead) (v:=tmp a r) (Fd:=λ_ _=>0) (X':=F r) trivial (λb k=>by omega) (λ_ _ _ _ e=>by cases e);rw[rH] at h1;obtain ⟨bw,w1,w2⟩:=h.whole r t m H v hg (HG hc.2);rw[s1] at w1;injection w1 with w1;injection w1 with w1;injection w1 with w1 w3;subst w1;have:=pO (K:=K) (x:=x) (d:=some i) h1 hk (v:=a.eval y) (s:=.box t m H v) (Fd:=F r) ⟨b,off,L,F1,g3,s2,s3,s4,s5,s6⟩ (λb i=>aL _) (λt' m' H' v' e=>by grind);grind
    ·cases hk
   grind [cm]
  grind [cm]
 grind [cm,JT]
theorem rr {α:Type} (v y:List α) {lo n:Nat} (h:lo+n<=v.length) (hy:n<=y.length):(oo v lo n y).length=v.length:=by
 grind [oo]
theorem L6 {α:Type} (v y:List α) {lo n:Nat} (h:lo+n<=v.length) (hy:n<=y.length) (i:Nat):(oo v lo n y)[i]?=if lo<=i/\i < lo+n then y[i - lo]? else v[i]?:=by
 unfold oo;by_cases h1:i < lo
 all_goals grind
theorem J1 (h:d_ P C A σ a w F) {r:Nat} {p:Path} {e:Ty} {m:Md} {v y:List e.den} {news:List Value} {Gi:Nat->FP} {me:Md} {lo n:Nat} {K:St->Option R} (nQ:At σ r p (.aa e) m [] v) (jE:m.own=true) (hf:e.flat=true) (hn:lo+n<=List.length v) (hy:n<=List.length y)
  (hl:news.length=List.length y*e.sz) (qT:∀ u ∈ news,u.oneCell'=true) (sk:∀ (i:Nat) (z:e.den),y[i]?=some z->ao P w A e me [] z ((news.drop (i*e.sz)).take e.sz) (Gi i))
  (hk:vF σ r p (.aa e) m (oo v lo n y) (λσ'=>K { σ' with vr:=(σ.mN r wD).vr,az:=σ.az })=some x) :
  ∃ (xa:Option Addr) (cap:Nat) (ad:Option (Nat×Nat)) (w2:World) (A3:Cells) (σ':St) (F3:Nat->FP),place σ a w r p=some ⟨.aa e,[],[.slice xa (List.length v) cap],ad⟩/\K σ'=some x/\d_ P C A3 σ' a w2 F3 /\
   (xa=none->w2=w/\List.length v=0)/\∀ ad,xa=some ad->ad.off=0/\ad.spot=none/\(n=0->w2=w)/\(storeCells ⟨ad.block,lo*e.sz,none⟩ (news.take (n*e.sz))).run P w=.ok () w2:=by
 obtain ⟨hr,m2,H2,v2,d6,Ca,F2,q1,q2,q3,q4,q5,q6⟩:=B_ h hk;obtain ⟨_,e2,e3,e4⟩:=nQ.inj q1;subst e2;subst e3;have e4:=gK e4;subst e4;have jj:=q3;simp only[ao,hole,bV,aJ,aO,jE,aI] at q3;obtain ⟨xa,cap,rfl,c1,c2,c3,c4⟩:=q3;have Ph:=rr v y hn hy;have FW:∀ b i,F r b i<=1:=λb i=>by have:=h.pk b i;grind [dv]
 have fin:∀ (w2:World),Ext w w2 (λb i=>0+(F2 b i+k_ Ca (Ty.aa e).sz b i))->(∀ b o,Ca=some (b,o)->Has w2 b o [.slice xa (List.length v) cap])->ao P w2 A (.aa e) m [] (oo v lo n y) [.slice xa (List.length v) cap] F2 ->
   (∀ (i:Nat) (z:e.den),(oo v lo n y)[i]?=some z->∀ ad,xa=some ad->∃ L,L.length=e.sz/\Has w2 ad.block (ad.off+i*e.sz) L/\ao P w2 A e .leaf [] z L (λ_ _=>0)) ->
   ∃ (A3:Cells) (σ':St) (F3:Nat->FP),K σ'=some x/\d_ P C A3 σ' a w2 F3:=by
  intro w2 g1 g2 g3 g4;obtain ⟨A3,A_,Fr,n1,n2,n3,n4,n5⟩:=q6 w2 A _ F2 (λ_ _=>0) g1 (λ_ _ h=>h) (λ_ _ h=>.inl h) (λb i=>by omega) g2 (λ_=>rfl) g3;refine ⟨A3,_,_,n1,n5 wD (yc (h.l8 r)) (Ed (h.l8 r)) rfl λp' snap hb ba hlen=>?_⟩
  have h5:=GN (h.l8 r) hb ba;refine ⟨d9 p'+1,False,by omega,λ_=>.inl (by omega),λ_=>by omega,?_⟩
  intro q pl hq hp
  cases q with
  | nil=>
   simp only[bn,aS] at hp;subst hp;exact ⟨_,_,rfl,λ_=>rfl⟩
  | cons s q=>
   cases s with
   | idx i=>
    cases xa with
    | none=>grind [bn]
    | some ad=>
     simp only[bn,hole,bV,aJ,aO,eO] at hp ⊢;split at hp
     ·rename_i hi;rw[aM hi];have pj:i < (oo v lo n y).length:=by grind
      obtain ⟨L,l1,l2,l3⟩:=g4 i _ (aB pj) ad rfl;rw[fi l2 l1];obtain ⟨H',bu,h1,h2⟩:=A9 (A:=A) (m:=.leaf) (v:=(oo v lo n y)[i]) (F:=λ_ _=>0) q e l3 (.inr hf) hp;grind
     ·cases hp
   | _=>simp[bn] at hp
 cases xa with
 | none=>
  have h0:=c3 rfl;have WF:List.length v=0:=by omega
  grind [Ext.refl]
 | some ad=>
  obtain ⟨d1,d2,d3,Fi,d4,d5⟩:=c4 ad rfl;obtain ⟨b,off,sp⟩:=ad;simp only at d1 d2 d3 d4 d5;subst d1;subst d2;have hle:lo*e.sz+n*e.sz<=cap*e.sz:=by rw[<-dL];exact bH _ (by omega)
  have JY:(news.take (n*e.sz)).length=n*e.sz:=by
   grind [Nat.mul_le_mul_right]
  have tR:∀ j,j < cap*e.sz->(w.cell? ⟨b,j,none⟩).isSome=true:=λj hj=>by
   obtain ⟨c,e',fr,w1,w2,w3⟩:=d3;grind [World.cell?]
  have dc:=run_storeCells_cells (P:=P) b (lo*e.sz) (news.take (n*e.sz)) 0 w (λj hj=>by grind) (λj hj=>by rw[dW];exact d3.frozen (by omega)) (λu hu=>qT u (eE hu));rw[dW] at dc;have gf:=rI (b:=b) (o:=lo*e.sz) (news.take (n*e.sz)) w (lo*e.sz);rw[JY] at gf
  have I9:∀ b' i,ep b (lo*e.sz) (n*e.sz) b' i<=ep b 0 (cap*e.sz) b' i:=λb' i=>by
   grind [ep]
  have hA:∀ b' i,A b' i->∀ u,ce w b' i=some u->ce (w.setCells b (lo*e.sz) (news.take (n*e.sz))) b' i=some u:=λb' i ha u hu=>by
   refine gf.cell b' i (h.kN b' i (.inr ha)) ?_ u hu;rcases bM (ep b (lo*e.sz) (n*e.sz) b' i) with h0 | h0
   ·exact h0
   ·exact absurd ha (h.qb b' i (by grind [dv]))
  have abm:∀ (i:Nat) (z:e.den),(oo v lo n y)[i]?=some z->∃ L,L.length=e.sz/\Has (w.setCells b (lo*e.sz) (news.take (n*e.sz))) b (i*e.sz) L/\Ro P (w.setCells b (lo*e.sz) (news.take (n*e.sz))) A e z L:=by
   intro i z hz;rw[L6 v y hn hy] at hz;split at hz
   ·rename_i hi;have wM:=ao.flat _ hf (sk _ z hz);refine ⟨_,Ro.length _ wM,λj u hu=>?_,Ro.mono hA (λ_ _ h=>h) e wM⟩
    rw[cJ] at hu;split at hu
    ·rename_i hj;rw[bZ] at hu;have h6:(i - lo)*e.sz+e.sz<=n*e.sz:=by rw[<-eW];exact bH _ (by omega)
     have:=Ae (w:=w) (b:=b) (o:=lo*e.sz) (L:=news.take (n*e.sz)) (λk hk=>tR _ (by omega)) (λu hu=>qT u (eE hu)) ((i - lo)*e.sz+j) u (by grind);rw[<-this];have h7:i*e.sz=lo*e.sz+(i - lo)*e.sz:=by rw[<-dL];congr 1;omega
     congr 1;omega
    ·cases hu
   ·rename_i hi;obtain ⟨L,l1,l2,l3⟩:=d5 i z hz;have wM:=ao.flat _ hf l3;refine ⟨L,l1,λj u hu=>?_,Ro.mono hA (λ_ _ h=>h) e wM⟩
    refine gf.cell b _ (by obtain ⟨c,e',fr,w1,_⟩:=d3;grind) ?_ u (l2 j u hu);have hj:=(aR.1 hu).1;simp only[ep];rw[aP];rintro ⟨_,h8,h9⟩;rcases cK i lo with Y9 | Y9
    ·have h6:i*e.sz+e.sz<=lo*e.sz:=by rw[<-eW];exact bH _ (by omega)
     omega
    ·have h6:lo*e.sz+n*e.sz<=i*e.sz:=by rw[<-dL];exact bH _ (by omega)
     omega
  have FA:ao P (w.setCells b (lo*e.sz) (news.take (n*e.sz))) A (.aa e) m [] (oo v lo n y) [.slice (some ⟨b,0,none⟩) (List.length v) cap] F2:=by
   simp only[ao,hole,bV,aJ,aO,jE,aI];refine ⟨some ⟨b,0,none⟩,cap,by rw[Ph],by omega,c2,(λe=>by cases e),λc_ e'=>?_⟩
   injection e' with e';subst e';refine ⟨rfl,rfl,gf.xE _ _ d3,λ_ _ _=>0,λb' i=>by grind [m_],λi z hz=>?_⟩
   obtain ⟨L,l1,l2,l3⟩:=abm i z hz;grind [Ro.flat]
  have wV:∀ b' o',Ca=some (b',o')->Has (w.setCells b (lo*e.sz) (news.take (n*e.sz))) b' o' [.slice (some ⟨b,0,none⟩) (List.length v) cap]:=λb' o' ea j u hu=>by
   have h1:=(q5 b' o' ea).1 j u hu;have hj:=(aR.1 hu).1;have h2:=q4 b' (o'+j);have h3:=d4 b' (o'+j);have h4:=I9 b' (o'+j);have h5:=FW b' (o'+j);have h7:=dv F hr b' (o'+j)
   have h6:k_ Ca (Ty.aa e).sz b' (o'+j)=1:=by
    grind [k_,ep,Ty.sz]
   exact gf.cell _ _ (h.kN b' (o'+j) (.inl (by grind))) (by omega) u h1
  obtain ⟨A3,A_,F3,n1,n2⟩:=fin _ (gf.mono λb' i hz=>by
    grind) wV FA (λi z hz ad e=>by
    grind [Ro.flat])
  refine ⟨_,cap,Ca,_,A3,A_,F3,q2,n1,n2,(λe=>by cases e),λc_ e'=>?_⟩
  injection e' with e';subst e';refine ⟨rfl,rfl,λJZ=>?_,dc⟩
  subst JZ;simp[World.setCells]
theorem SW (h:d_ P C A σ a w F) (kG:∀ i T,E.TI i=some T->bi P T (.inl i)=true) {t tx:Nat} {y z:Operand} (ho:o.op=.call { callee:=.builtin .copy,args:=#[y,z],argTypes:=#[t,tx] }) (ba:dO P y=true/\dO P z=true)
  (Bd:(∃ e',P.underlying tx=some (.slice e'))\/P.underlying tx=some .string) {K:St->Option R} (hk:Qf E σ t y (d7 σ z) o.dst K=some x):o.wp P a w (Nx P C K x) Q:=by
 unfold Qf at hk;obtain ⟨T,hT,hk⟩:=gw hk;have jk:=kG _ _ hT;split at hk
 ·rename_i e;have hl:=jk;simp only[bi,aF] at hl;have h2:=hl.2;split at h2;rotate_left
  ·cases h2
  rename_i el hu;simp only[aF,dK] at h2;obtain ⟨nC,sk⟩:=h2;have Y_:=run_sizeOf (P:=P) (w:=w) sk;split at hk;rotate_left
  ·cases hk
  rename_i hf
  rcases fy h ba.2 with xG | ⟨xs,e'⟩
  rotate_left
  ·grind [A6,mV]
  obtain ⟨A2,ml,F2,me,yv,news,Fw,Gi,q1,q2,q3,qr,q4,q4',q5,q6⟩:=Jh h xG Bd hk;have h2:d_ P C A2 ml a w F2:=q3.less λ_ _=>bD _
  have run:∀ (xa:Option Addr) (n cap:Nat) (w2:World),a.eval y=.slice xa n cap->(match (generalizing:=false) xa with | none=>w2=w | some ad=>(storeCells ad (news.take (min (List.length yv) n*e.sz))).run P w=.ok () w2) ->
    (execOp a.eval o).run P w=.ok (.value (.int .i64 ((min (List.length yv) n:Nat):Int))) w2:=by
   intro xa n cap w2 hy dc;have WG:=q4' (min (List.length yv) n) (iP _ _)
   cases xa with
   | none=>
    simp only at dc;subst dc;simp[execOp,ho,resolve,invoke,builtin,Builtin.copy_,hy,run_underlying hu,q4.len,Y_,Nat.min_def] at WG ⊢;simp[WG,goInt]
   | some ad=>
    simp only at dc;simp[execOp,ho,resolve,invoke,builtin,Builtin.copy_,hy,run_underlying hu,q4.len,Y_,Nat.min_def] at WG dc ⊢;simp[WG,dc,goInt]
  rcases fy h2 ba.1 with hs | ⟨xs,e'⟩
  rotate_left
  ·grind
  split at q1
  ·rename_i r p snap lo hi hv;rw[hv] at hs;split at q1
   ·rename_i oW;obtain ⟨hr,t',m',H',v',bu,c_,F',h1,nQ,h3,h4,h5,h6⟩:=lA h2 q1;split at h1
    ·rename_i hc;simp only[aF,bG] at hc;obtain ⟨jE,hH⟩:=hc;subst hH;obtain ⟨e1,h1⟩:=cy h1;subst e1;obtain ⟨pl,e2,xa,n,cap,vM,cap',g1,g2,g3,g4,g5,g6,g7,g8,g9,g10,g11⟩:=hs.2 oW
     have hvn:n=List.length v':=by
      grind [ao,hole]
     obtain ⟨xb,Jd,Ca,w2,A3,A_,F3,c1,c2,c3,c4,c5⟩:=J1 h2 (K:=λσ'=>K (σ'.bz o.dst (.val (.int .i64) ((min (List.length yv) (hi - lo):Nat):Int)))) ⟨nQ⟩ jE hf (lo:=lo) (n:=min (List.length yv) (hi - lo)) (by omega) (iP _ _) q4.newsLen q4.one q5 h1;rw[c1] at g1;injection g1 with g1;subst g1;simp only[dH,Value.slice.injEq,eJ] at g3;obtain ⟨rfl,g3,rfl⟩:=g3;injection g2 with g2;subst g2;refine oA (run vM (hi - lo) cap' w2 g6 ?_) (cm c3 c2 ⟨[.int .i64 _],rfl,rfl⟩ (λ_ _ _ _ e=>by cases e))
     cases xb with
     | none=>grind
     | some ad=>
      obtain ⟨Za,k1,k2,k3,k4⟩:=g10 ad rfl;rw[k1];obtain ⟨j1,j2,j3,j4⟩:=c5 ad rfl;simp only;by_cases ax:lo < hi
      ·have:Za=⟨ad.block,lo*e.sz,none⟩:=by
        have h1:=k4 ax;obtain ⟨x1,x2,x3⟩:=Za;grind
       grind
      ·have JZ:min (List.length yv) (hi - lo)=0:=by omega
       rw[JZ,Nat.zero_mul,List.take_zero];rw[j3 JZ];rfl
    ·cases h1
   ·cases q1
  ·rename_i r p snap hv;rw[hv] at hs;split at q1
   ·rename_i oW;obtain ⟨hr,t',m',H',v',bu,c_,F',h1,nQ,h3,h4,h5,h6⟩:=lA h2 q1;split at h1
    ·rename_i hc;simp only[aF,bG] at hc;obtain ⟨jE,hH⟩:=hc;subst hH;obtain ⟨e1,h1⟩:=cy h1;subst e1;obtain ⟨pl,g1,g2,g3⟩:=hs.2 oW;obtain ⟨xb,Jd,Ca,w2,A3,A_,F3,c1,c2,c3,c4,c5⟩:=J1 h2 (K:=λσ'=>K (σ'.bz o.dst (.val (.int .i64) ((min (List.length yv) (List.length v'):Nat):Int)))) ⟨nQ⟩ jE hf (lo:=0) (n:=min (List.length yv) (List.length v')) (by omega) (iP _ _) q4.newsLen q4.one q5 h1;rw[c1] at g1;injection g1 with g1;subst g1;simp only[eo (.aa e) _ rfl] at g2;refine oA (run xb (List.length v') Jd w2 g2 ?_) (cm c3 c2 ⟨[.int .i64 _],rfl,rfl⟩ (λ_ _ _ _ e=>by cases e))
     cases xb with
     | none=>grind
     | some ad=>
      obtain ⟨j1,j2,j3,j4⟩:=c5 ad rfl;obtain ⟨b,off,sp⟩:=ad;grind
    ·cases h1
   ·cases q1
  ·cases q1
 ·cases hk
end
end OT
namespace OT
open Go
def kP (w:World):(t:Ty)->Md->List Path->List Value->FP
 | .pair a b,m,H,cs=>λx i=>kP w a m.l (H.filterMap vJ) (cs.take a.sz) x i+kP w b m.r (H.filterMap vK) (cs.drop a.sz) x i
 | .aa e,m,H,cs=>
  if hole H then λ_ _=>0 else if m.own then
   match cs with
   | [.slice (some ad) n cap]=>λx i=>ep ad.block 0 (cap*e.sz) x i+bg n (λj=>kP w e m.e (H.filterMap (lG j)) (rd w ad.block (j*e.sz) e.sz)) x i
   | _=>λ_ _=>0
  else λ_ _=>0
 | .ptr e,m,H,cs=>
  if hole H then λ_ _=>0 else if m.own then
   match cs with
   | [.pointer (some ad)]=>λx i=>ep ad.block 0 e.sz x i+kP w e m.e [] (rd w ad.block 0 e.sz) x i
   | _=>λ_ _=>0
  else λ_ _=>0
 | .map _ _,m,H,cs=>
  if hole H then λ_ _=>0 else if m.own then
   match cs with
   | [.map (some r)]=>ep r 0 1
   | _=>λ_ _=>0
  else λ_ _=>0
 | _,_,_,_=>λ_ _=>0
section
variable {P:Program} {w w1:World} {A:Cells}
theorem ao.fp:∀ (t:Ty) {m:Md} {H:List Path} {v:t.den} {cs:List Value} {F:FP},ao P w A t m H v cs F->ao P w A t m H v cs (kP w t m H cs)/\∀ b i,kP w t m H cs b i<=F b i:=by
 intro t
 induction t with
 | pair a b mX mO=>
  intro m H v cs F h;obtain ⟨h0,F1,F2,hs,h1,h2⟩:=h;obtain ⟨a1,a2⟩:=mX h1;obtain ⟨b1,b2⟩:=mO h2;exact ⟨⟨h0,_,_,λ_ _=>aL _,a1,b1⟩,λb i=>by grind [kP]⟩
 | aa e ih=>
  intro m H v cs F h;have h':=h;simp only[ao] at h;split at h
  ·simp_all [ao,kP]
  ·rename_i hh;split at h
   ·rename_i hm;obtain ⟨xa,cap,rfl,h1,h2,h3,h4⟩:=h
    cases xa with
    | none=>
     grind [kP,ao]
    | some ad=>
     obtain ⟨g1,g2,g3,Fi,g4,g5⟩:=h4 ad rfl
     have each:∀ (i:Nat) (x:e.den),v[i]?=some x->∃ L:List Value,L.length=e.sz/\Has w ad.block (i*e.sz) L/\ao P w A e m.e (H.filterMap (lG i)) x L (kP w e m.e (H.filterMap (lG i)) (rd w ad.block (i*e.sz) e.sz)) /\
       ∀ b k,kP w e m.e (H.filterMap (lG i)) (rd w ad.block (i*e.sz) e.sz) b k<=Fi i b k:=λi x hx=>by
      grind [fi]
     have hle:∀ b i,bg (List.length v) (λj=>kP w e m.e (H.filterMap (lG j)) (rd w ad.block (j*e.sz) e.sz)) b i<=bg (List.length v) Fi b i:=λb i=>I6 b i λj hj=>by
      obtain ⟨_,_,_,_,q⟩:=each j _ (aB hj);exact q b i
     refine ⟨?_,λb i=>by grind [kP]⟩
     simp only[ao,hh,hm,aI,aJ,aO];refine ⟨some ad,cap,rfl,h1,h2,h3,λc_ e'=>?_⟩
     injection e' with e';subst e';refine ⟨g1,g2,g3,λj=>kP w e m.e (H.filterMap (lG j)) (rd w ad.block (j*e.sz) e.sz),λb i=>by grind [kP],λi x hx=>?_⟩
     grind
   simp_all [ao,kP]
 | ptr e ih=>
  intro m H v cs F h;simp only[ao] at h;split at h
  ·simp_all [ao,kP]
  ·rename_i hh;split at h
   ·grind [kP,fi,ao]
   simp_all [ao,kP]
 | arr n e ih=>intro m H v cs F h;exact ⟨h,λ_ _=>bD _⟩
 | map k v=>
  intro m H x cs F h;simp only[ao] at h;split at h
  ·simp_all [ao,kP]
  ·rename_i hh;split at h
   ·rename_i hm;obtain ⟨h1,h2,r,uh,rfl,h4,h5,h6,h7⟩:=h;refine ⟨?_,λb i=>?_⟩
    ·simp only[ao,hh,hm,aI,aJ,aO];exact ⟨h1,h2,r,uh,rfl,h4,by simp[kP,hh,hm,ep],h6,h7⟩
    ·simp only[kP,hh,hm,aI,aJ,aO,ep];grind
   simp_all [ao,kP]
 | _=>intro m H v cs F h;exact ⟨h,λ_ _=>bD _⟩
theorem QJ:∀ (t:Ty) {m:Md} {H:List Path} {v:t.den} {cs:List Value} {F:FP},ao P w A t m H v cs F->(∀ b i,1<=F b i->∀ u,ce w b i=some u->ce w1 b i=some u)->kP w1 t m H cs=kP w t m H cs:=by
 intro t
 induction t with
 | pair a b mX mO=>
  intro m H v cs F h hF;obtain ⟨h0,F1,F2,hs,h1,h2⟩:=h;have e1:=mX h1 (λb i hp=>hF b i (by grind));have e2:=mO h2 (λb i hp=>hF b i (by grind));simp_all [kP]
 | aa e ih=>
  intro m H v cs F h hF;simp only[ao] at h;split at h
  ·simp_all [kP]
  ·rename_i hh;split at h
   ·rename_i hm;obtain ⟨xa,cap,rfl,h1,h2,h3,h4⟩:=h
    cases xa with
    | none=>simp only[kP]
    | some ad=>
     obtain ⟨g1,g2,g3,Fi,g4,g5⟩:=h4 ad rfl;simp only[kP,hh,hm,aI,aJ,aO];funext b i;congr 1;refine congrFun (congrFun (wH λj hj=>?_) b) i;obtain ⟨L,l1,l2,l3⟩:=g5 j _ (aB hj);have hle:j*e.sz+e.sz<=cap*e.sz:=by rw[<-eW];exact bH _ (by omega)
     have l2':Has w1 ad.block (j*e.sz) L:=λk u hu=>hF _ _ (by
      grind [ep]) u (l2 k u hu)
     grind [fi,dv]
   simp_all [kP]
 | ptr e ih=>
  intro m H v cs F h hF;simp only[ao] at h;split at h
  ·simp_all [kP]
  ·rename_i hh;split at h
   ·rename_i hm;obtain ⟨b0,rfl,h1,L,F1,h2,h3,h4,h5⟩:=h
    have Pv:Has w1 b0 0 L:=λk u hu=>hF _ _ (by
     grind [ep]) u (h3 k u hu)
    simp only[kP,hh,hm,aI,aJ,aO,fi h3 h2,fi Pv h2];rw[ih h5 (λb i hp=>hF b i (by grind))]
   simp_all [kP]
 | _=>intro m H v cs F h hF;rfl
theorem ao.indep {A':Cells}:∀ (t:Ty) {v:t.den} {cs:List Value} {F:FP},t.rW=true->ao P w A t (ai t) [] v cs F->ao P w A' t (ai t) [] v cs F:=by
 intro t
 induction t with
 | pair a b mX mO=>
  intro v cs F hn h;simp only[Ty.rW,aF] at hn;obtain ⟨h0,F1,F2,hs,h1,h2⟩:=h;exact ⟨h0,F1,F2,hs,mX hn.1 h1,mO hn.2 h2⟩
 | aa e ih=>
  intro v cs F hn h;simp only[ao,hole,bV,aJ,aO,ai,uK,Md.own,aI] at h ⊢;obtain ⟨xa,cap,h1,h2,h3,h4,h5⟩:=h;refine ⟨xa,cap,h1,h2,h3,h4,λad e'=>?_⟩
  obtain ⟨g1,g2,g3,Fi,g4,g5⟩:=h5 ad e';refine ⟨g1,g2,g3,Fi,g4,λi x hx=>?_⟩
  obtain ⟨L,l1,l2,l3⟩:=g5 i x hx;exact ⟨L,l1,l2,ih hn l3⟩
 | ptr e ih=>
  intro v cs F hn h;simp only[ao,hole,bV,aJ,aO,ai,uK,Md.own,aI] at h ⊢;obtain ⟨b,h1,h2,L,F1,h3,h4,h5,h6⟩:=h;exact ⟨b,h1,h2,L,F1,h3,h4,h5,ih hn h6⟩
 | arr n e ih=>
  intro v cs F hn h;exact ⟨h.1,Ro.indep _ (by have:=h.2.1;grind [Ty.flat]) hn h.2⟩
 | fn=>grind [Ty.rW]
 | map k v=>
  grind [Ty.rW,ao,uK,Md.own,Ro.indep]
 | _=>intro v cs F hn h;exact h
theorem ao.free {A':Cells} {t:Ty} {m:Md} {v:t.den} {cs:List Value} {F:FP} (ho:(t.flat||decide (m=ai t))=true) (hn:t.rW=true) (h:ao P w A t m [] v cs F):ao P w A' t m [] v cs F:=by
 grind [Ro.flat,Ro.indep,ao.flat,ao.indep]
def World.news (w w2:World):World:={ w2 with heap:=(w.heap.toList++w2.heap.toList.drop w.heap.size).toArray }
theorem J2 {w2:World} (h:w.heap.size<=w2.heap.size) (k:Nat):(World.news w w2).heap[k]?=if k < w.heap.size then w.heap[k]? else w2.heap[k]?:=by
 grind [World.news]
theorem yA {w2:World} (h:w.heap.size<=w2.heap.size):(World.news w w2).heap.size=w2.heap.size:=by grind [World.news]
theorem uT {w2:World} (h:w.heap.size<=w2.heap.size) {b:Nat} (hb:b < w.heap.size):(World.news w w2).heap[b]?=w.heap[b]?:=by grind [J2]
theorem CP {w2:World} (h:w.heap.size<=w2.heap.size) {b:Nat} (hb:w.heap.size<=b):(World.news w w2).heap[b]?=w2.heap[b]?:=by grind [J2]
theorem BK {w2:World} {b:Nat} (h:w2.heap[b]?=w.heap[b]?) (i:Nat):ce w2 b i=ce w b i:=zU h i
theorem yf {w2:World} {b:Nat} (h:w2.heap[b]?=w.heap[b]?) (i:Nat):w2.frozen? ⟨b,i,none⟩=w.frozen? ⟨b,i,none⟩:=by simp[World.frozen?,h]
theorem w7 {w2:World} {b:Nat} (h:w2.heap[b]?=w.heap[b]?) (n:Nat×Bool):je w b n↔je w2 b n:=by grind [je]
theorem je.lt {b:Nat} {n:Nat×Bool} (h:je w b n):b < w.heap.size:=by
 obtain ⟨c,e,fr,h1,_⟩:=h;grind
theorem GS {w2:World} {F:FP} (h:Ext w w2 F):Ext w (World.news w w2) (λ_ _=>0)/\Ext (World.news w w2) w2 F:=by
 have hs:=h.size
 refine ⟨⟨by grind [yA],λb i hb _ u hu=>by grind [BK,uT],λb n hn=>(w7 (uT hs hn.lt) n).1 hn,λb i hb=>yf (uT hs hb) i,h.os,h.tape,h.output,λb hb _=>uT hs hb,h.drawn⟩,
  ⟨by grind [yA],λb i hb hz u hu=>?_,λb n hn=>?_,λb i hb=>?_,rfl,rfl,rfl,λb hb hz=>?_,aL _⟩⟩
 ·by_cases Ak:b < w.heap.size
  ·rw[BK (uT hs Ak)] at hu;exact h.cell b i Ak hz u hu
  grind [BK,CP]
 ·by_cases Ak:b < w.heap.size
  ·exact h.xE b n ((w7 (uT hs Ak) n).2 hn)
  grind [w7,CP]
 ·by_cases Ak:b < w.heap.size
  ·rw[yf (uT hs Ak)];exact h.yP b i Ak
  grind [yf,CP]
 ·by_cases Ak:b < w.heap.size
  ·rw[uT hs Ak];exact h.obj b Ak hz
  grind [CP]
end
def ArgRel (P:Program) (w:World) (A:Cells) (ho:List Path->Bool) (pm:PM) (t:Ty) (v:t.den) (x:Value) (F:FP):Prop:=
 match pm with
 | .ro=>∃ cs,x=dq t cs/\Ro P w A t v cs
 | .fix f=>(∃ cs,x=dq t cs/\Ro P w A t v cs)/\∀ e:t=.fn,(e ▸ v:Ty.fn.den).1=f
 | .jV m _=>∃ b o L F1,x=.pointer (some ⟨b,o,none⟩)/\L.length=t.sz/\Has w b o L/\(∀ j,j < t.sz->w.frozen? ⟨b,o+j,none⟩=false)/\(∀ b' i,ep b o t.sz b' i+F1 b' i<=F b' i)/\ao P w A t m [] v L F1
 | .k8 m=>∃ cs,x=dq t cs/\ao P w A t m [] v cs F
 | .p6 m=>∃ H cs,ho H=true/\x=dq t cs/\ao P w A t m H v cs F
 | .sg m=>∃ b o L F1,x=.pointer (some ⟨b,o,none⟩)/\L.length=t.sz/\Has w b o L/\(∀ j,j < t.sz->w.frozen? ⟨b,o+j,none⟩=false)/\(∀ b' i,ep b o t.sz b' i+F1 b' i<=F b' i)/\ao P w A t m [] v L F1
def ph (P:Program) (w:World) (A:Cells) (ho:List Path->Bool):(ps:List (PM×Ty))->(bq (ps.map (·.2))).den->List Value->FP->Prop
 | [],_,xs,_=>xs=[]
 | (pm,t)::ps,v,xs,F=>∃ (x:Value) (SX:List Value) (F1 F2:FP),xs=x::SX/\(∀ b i,F1 b i+F2 b i<=F b i)/\ArgRel P w A ho pm t v.1 x F1/\ph P w A ho ps v.2 SX F2
abbrev L7:List Path->Bool:=λH=>H.isEmpty
theorem ph.none {P:Program} {w:World} {A:Cells} {ho:List Path->Bool} (hh:∀ H,ho H=true->H=[]):∀ (ps:List (PM×Ty)) {v:(bq (ps.map (·.2))).den} {xs:List Value} {F:FP},ph P w A ho ps v xs F->ph P w A L7 ps v xs F
 | [],_,_,_,h=>h
 | (pm,t)::ps,_,_,_,⟨x,SX,F1,F2,h1,h2,h3,h4⟩=>⟨x,SX,F1,F2,h1,h2,by
  cases pm with
  | p6 m=>obtain ⟨H,cs,g1,g2⟩:=h3;rw[hh H g1] at g2;exact ⟨[],cs,rfl,g2⟩
  | _=>exact h3,ph.none hh ps h4⟩
def pi (P:Program) (w:World) (A:Cells):(ps:List (PM×Ty))->(bq (ll ps)).den->List Value->FP->Prop
 | [],_,_,_=>True
 | (.ro,_)::ps,v,xs,F=>pi P w A ps v xs.tail F
 | (.fix _,_)::ps,v,xs,F=>pi P w A ps v xs.tail F
 | (.sg _,_)::ps,v,xs,F=>pi P w A ps v xs.tail F
 | (.p6 _,_)::ps,v,xs,F=>pi P w A ps v xs.tail F
 | (.jV _ m,t)::ps,v,xs,F=>∃ (F1 F2:FP),(∀ b i,F1 b i+F2 b i<=F b i)/\(∃ b o L F3,xs.head?=some (.pointer (some ⟨b,o,none⟩))/\L.length=t.sz/\Has w b o L/\(∀ b' i,ep b o t.sz b' i+F3 b' i<=F1 b' i)/\ao P w A t m [] v.1 L F3)/\pi P w A ps v.2 xs.tail F2
 | (.k8 m,t)::ps,v,xs,F=>∃ (F1 F2:FP),(∀ b i,F1 b i+F2 b i<=F b i)/\(∃ cs,xs.head?=some (dq t cs)/\ao P w A t m [] v.1 cs F1)/\pi P w A ps v.2 xs.tail F2
def oB (P:Program) (w:World) (A:Cells) (rs:List Hs) (rv:Value) (F:FP):Prop:=
 match rs with
 | []=>True
 | [x]=>∃ cs,rv=dq x.t cs/\ao P w A x.t x.m [] x.v cs F
 | xs=>∃ (vs:Array Value) (Fi:Nat->FP),rv=.tuple vs/\(∀ b i,bg xs.length Fi b i<=F b i)/\∀ j x,xs[j]?=some x->∃ v cs,vs[j]?=some v/\v=dq x.t cs/\ao P w A x.t x.m [] x.v cs (Fi j)
def Sound (P:Program) (f:FuncId) (g:uL):Prop:=
 ∀ (w:World) (A:Cells) (F0:FP) (v:(bq (g.ps.map (·.2))).den) (xs:List Value),ph P w A (g.FR v) g.ps v xs F0->(∀ b i,F0 b i<=1)->(∀ b i,1<=F0 b i->¬ A b i)->(∀ b i,1<=F0 b i\/A b i->b < w.heap.size)->vZ P w F0 ->
  ∀ out,g.F v=some out->Calls P f xs.toArray w λe w'=>∃ rv,e=.returned rv/\Ext w w' F0/\∃ (A':Cells) (G GR GM:FP),(∀ b i,A b i->A' b i)/\(∀ b i,A' b i->A b i\/1<=F0 b i\/w.heap.size<=b) /\
   (∀ b i,1<=G b i->1<=F0 b i\/w.heap.size<=b)/\(∀ b i,G b i<=1)/\(∀ b i,1<=G b i->¬ A' b i)/\(∀ b i,1<=G b i\/A' b i->b < w'.heap.size)/\(∀ b i,GR b i+GM b i<=G b i) /\
   oB P w' A' (lm g.rs out).1 rv GR/\pi P w' A' g.ps (lm g.rs out).2 xs GM
def ww (P:Program) (f:FuncId) (cap:Bool):Prop:=∃ fn,P.funcs[f]?=some fn/\(fn.name == "runtime.NumGoroutine")=false/\fn.body.isNone=false/\fn.nfree=(match cap with | true=>1 | false=>0)
end OT
namespace OT
open Go
section
variable {P:Program} {C:Ctx} {A:Cells} {X:FP} {σ:St} {a:Act} {w:World} {F:Nat->FP} {R:Type} {x:R}
theorem XI {K:St->Option R}:∀ (ps:List (PM×Ty)) (xs:List Operand) {σ:St} {A:Cells} {F:Nat->FP},d_ P C A σ a w F->sh σ ps xs K=some x ->
  ∃ (A':Cells) (σ':St) (F':Nat->FP),K σ'=some x/\(∀ b i,A b i->A' b i)/\d_ P C A' σ' a w F'/\σ'.n=σ.n:=by
 intro ps
 induction ps with
 | nil=>intro xs σ A F h hk;exact ⟨A,σ,F,by cases xs <;> exact hk,λ_ _ h=>h,h,rfl⟩
 | cons p ps ih=>
  intro xs σ A F h hk
  cases xs with
  | nil=>obtain ⟨pm,t⟩:=p;exact ⟨A,σ,F,by cases pm <;> exact hk,λ_ _ h=>h,h,rfl⟩
  | cons y xs=>
   obtain ⟨pm,t⟩:=p
   have fin:∀ {m' m:Md} {r:Nat} {p:Path},(if m'=m then sh σ ps xs K else wm σ r p m λσ=>sh σ ps xs K)=some x ->
     ∃ (A':Cells) (σ':St) (F':Nat->FP),K σ'=some x/\(∀ b i,A b i->A' b i)/\d_ P C A' σ' a w F'/\σ'.n=σ.n:=λhk=>by
    grind [N4]
   cases pm with
   | ro=>exact ih xs h hk
   | fix f=>exact ih xs h hk
   | jV m m'=>
    simp only[sh] at hk;split at hk
    ·split at hk
     ·obtain ⟨hr,t',m',H',v',bu,c_,F',h1,_⟩:=lA h hk;exact fin h1
     ·cases hk
    ·cases hk
   | sg m=>
    simp only[sh] at hk;split at hk
    ·split at hk
     ·obtain ⟨hr,t',m',H',v',bu,c_,F',h1,_⟩:=lA h hk;exact fin h1
     ·cases hk
    ·cases hk
   | k8 m=>
    simp only[sh] at hk;split at hk
    ·split at hk
     ·obtain ⟨hr,t',m',H',v',bu,c_,F',h1,_⟩:=lA h hk;exact fin h1
     ·cases hk
    ·cases hk
   | p6 m=>
    simp only[sh] at hk;split at hk
    ·split at hk
     ·obtain ⟨hr,t',m',H',v',bu,c_,F',h1,_⟩:=lA h hk;exact fin h1
     ·cases hk
    ·cases hk
theorem SY (h:d_ P C A σ a w F) {r:Nat} {t:Ty} {m:Md} {v:t.den} (hg:σ.get r=.box t m [] v):∃ (A':Cells) (F':Nat->FP),(∀ b i,A b i->A' b i)/\d_ P C A' ((σ.put r .dead).put r (.cp t v)) a w F'/\Ro P w A' (.ptr t) v [tmp a r]/\r < σ.n:=by
 have hi:r < σ.n:=by
  grind [mf]
 have hs:=h.iW r hi;rw[hg] at hs;obtain ⟨b,off,L,F1,s1,s2,s3,s4,s5,s6⟩:=hs;have h1:=h.put hi (s:=.dead) (v:=tmp a r) (Fd:=λ_ _=>0) (X':=F r) trivial (λb k=>by omega) (λ_ _ _ _ e=>by cases e);rw[rH] at h1;have h2:=h1.giveUp (A1:=λb' i'=>A b' i'\/1<=F r b' i') (X1:=λ_ _=>0) (λ_ _ h=>.inl h) (λb' i' ha=>ha.imp id λhp=>⟨hp,rfl⟩) (λ_ _=>bD _)
 have wW:Ro P w (λb' i'=>A b' i'\/1<=F r b' i') (.ptr t) v [tmp a r]:=
  ⟨⟨b,off,none⟩,by rw[s1],rfl,L,s2,(λj u hu=>⟨s3 j u hu,.inr (by
   grind [ep])⟩),ao.wI (λ_ _ h=>.inl h) t s6 (λb' i' hp=>.inr (by grind))⟩
 have h3:=h2.put (d:=r) hi (s:=.cp t v) (v:=tmp a r) (Fd:=λ_ _=>0) (X':=λ_ _=>0) wW (λb k=>by omega) (λ_ _ _ _ e=>by cases e);grind [rH]
theorem XJ (h:d_ P C A σ a w F) {i:Nat} (hi:i < σ.n) {t:Ty} {v:t.den} (wW:Ro P w A (.ptr t) v [tmp a i]):∃ F':Nat->FP,d_ P C A ((σ.put i .dead).put i (.cp t v)) a w F':=by
 have h1:=h.put hi (s:=.dead) (v:=tmp a i) (Fd:=λ_ _=>0) (X':=F i) trivial (λb k=>by omega) (λ_ _ _ _ e=>by cases e);rw[rH] at h1;have h2:=h1.giveUp (A1:=A) (X1:=λ_ _=>0) (λ_ _ h=>h) (λb' i' ha=>.inl ha) (λ_ _=>bD _);have h3:=h2.put (d:=i) hi (s:=.cp t v) (v:=tmp a i) (Fd:=λ_ _=>0) (X':=λ_ _=>0) wW (λb k=>by omega) (λ_ _ _ _ e=>by cases e);grind [rH]
theorem UX (h:d_ P C A σ a w F) {i r:Nat} {snap:List Nat} {t:Ty} {m:Md} {H:List Path} {v:t.den} (hi:i < σ.n) (hs:σ.get i=.ptr r [] snap) (ba:σ.ok r snap=true) (hg:σ.get r=.box t m H v):tmp a i=tmp a r:=by
 have h1:=h.iW i hi;rw[hs] at h1;obtain ⟨pl,b,o,p1,p2,p3,p4⟩:=h1.2 ba
 have hr:r < σ.n:=by
  grind [mf]
 have h2:=h.iW r hr;rw[hg] at h2;obtain ⟨b2,off,L,F1,s1,_⟩:=h2;grind [place,d8,bn]
theorem Zb {K:St->Option R}:∀ (ps:List (PM×Ty)) (xs:List Operand) {σ:St} {A:Cells} {F:Nat->FP},d_ P C A σ a w F->zR σ ps xs K=some x ->
  ∃ (A':Cells) (σ':St) (F':Nat->FP),K σ'=some x/\(∀ b i,A b i->A' b i)/\d_ P C A' σ' a w F'/\σ'.n=σ.n:=by
 intro ps
 induction ps with
 | nil=>intro xs σ A F h hk;exact ⟨A,σ,F,by cases xs <;> exact hk,λ_ _ h=>h,h,rfl⟩
 | cons p ps ih=>
  intro xs σ A F h hk
  cases xs with
  | nil=>obtain ⟨pm,t⟩:=p;exact ⟨A,σ,F,by cases pm <;> exact hk,λ_ _ h=>h,h,rfl⟩
  | cons y xs=>
   obtain ⟨pm,t⟩:=p
   have fin:∀ {r:Nat} {p:Path},(xL σ r p λσ=>zR σ ps xs K)=some x ->
     ∃ (A':Cells) (σ':St) (F':Nat->FP),K σ'=some x/\(∀ b i,A b i->A' b i)/\d_ P C A' σ' a w F'/\σ'.n=σ.n:=λhk=>by
    grind [yz]
   cases pm with
   | fix f=>exact ih xs h hk
   | jV m m'=>exact ih xs h hk
   | sg m=>exact ih xs h hk
   | k8 m=>exact ih xs h hk
   | p6 m=>exact ih xs h hk
   | ro=>
    simp only[zR] at hk;split at hk
    ·grind
    ·split at hk
     ·grind
     ·grind
     ·rename_i r p snap WD;split at hk
      ·rename_i ba;split at hk
       ·rename_i t m H v hg;split at hk
        ·rename_i hc;simp only[aF,bG] at hc;obtain ⟨hH,Aj⟩:=hc;subst hH;obtain ⟨A1,F1,FX,h3,h4,h5⟩:=SY h hg
         have go:∀ {ml:St} {F2:Nat->FP},d_ P C A1 ml a w F2->zR ml ps xs K=some x->ml.n=σ.n->∃ (A':Cells) (σ':St) (F':Nat->FP),K σ'=some x/\(∀ b i,A b i->A' b i)/\d_ P C A' σ' a w F'/\σ'.n=σ.n:=λh3 hk hn=>by
          grind
         cases y with
         | tmp i=>
          simp only[Yx] at hk;split at hk
          ·exact go h3 hk rfl
          ·rename_i HS;simp only[Bool.or_eq_false_iff,Bool.not_eq_false',Nat.blt_eq] at HS;obtain ⟨g1,g2⟩:=HS;have hi:i < σ.n:=g2;have Pi:i≠r:=λe=>by simp_all
           have hs:σ.get i=.ptr r [] snap:=by
            grind [d7]
           have he:=UX h hi hs ba hg;rw[<-he] at h4;obtain ⟨F3,h6⟩:=XJ h3 (i:=i) g2 h4;exact go h6 hk rfl
         | const c=>exact go h3 hk rfl
         | func f=>exact go h3 hk rfl
         | global g=>exact go h3 hk rfl
        ·cases hk
       ·cases hk
      ·cases hk
     grind
def AX (A:Cells) (F:Nat->FP) (n r0:Nat) (ow:Bool):Cells:=λb i=>A b i\/(ow=true/\∃ j,j < n/\j≠r0/\1<=F j b i)
def WH (P:Program) (A:Cells) (σ:St) (a:Act) (w:World) (F:Nat->FP) (ow:Bool) (pm:PM) (t:Ty) (v:t.den) (s:Slot) (tv:Value) (wp:Option (Nat×Path)):Prop:=
 match pm with
 | .ro=>wp=none/\∃ cs,tv=dq t cs/\Ro P w (λb i=>A b i\/(ow=true/\∃ r ∈ m9 s,r < σ.n/\1<=F r b i)) t v cs
 | .fix f=>wp=none/\(∃ cs,tv=dq t cs/\Ro P w A t v cs)/\∀ e:t=.fn,(e ▸ v:Ty.fn.den).1=f
 | .jV m _=>∃ r p snap b o cs,s=.ptr r p snap/\wp=some (r,p)/\At σ r p t m [] v/\tv=.pointer (some ⟨b,o,none⟩)/\place σ a w r p=some ⟨t,[],cs,some (b,o)⟩
 | .k8 m=>∃ r p snap cs ad,s=.ref r p snap/\wp=some (r,p)/\At σ r p t m [] v/\tv=dq t cs/\place σ a w r p=some ⟨t,[],cs,ad⟩
 | .p6 m=>∃ H r p snap cs ad,s=.ref r p snap/\wp=some (r,p)/\At σ r p t m H v/\tv=dq t cs/\place σ a w r p=some ⟨t,H,cs,ad⟩
 | .sg m=>∃ r p snap b o cs,s=.ptr r p snap/\wp=some (r,p)/\At σ r p t m [] v/\tv=.pointer (some ⟨b,o,none⟩)/\place σ a w r p=some ⟨t,[],cs,some (b,o)⟩
def Eo (P:Program) (A:Cells) (σ:St) (a:Act) (w:World) (F:Nat->FP) (ow:Bool):(ps:List (PM×Ty))->(bq (ps.map (·.2))).den->List Slot->List Value->List (Nat×Path)->Prop
 | [],_,ss,pV,ws=>ss=[]/\pV=[]/\ws=[]
 | (pm,t)::ps,v,ss,pV,ws=>∃ s SZ tv xQ wp Al,ss=s::SZ/\pV=tv::xQ/\ws=(match (generalizing:=false) wp with | some x=>x::Al | none=>Al)/\WH P A σ a w F ow pm t v.1 s tv wp/\Eo P A σ a w F ow ps v.2 SZ xQ Al
def we (P:Program) (A:Cells) (σ:St) (a:Act) (w:World):List Slot->List Value->Prop
 | [],[]=>True
 | s::ss,tv::pV=>(c8 P A σ a w tv s (λ_ _=>0)\/∃ xs,s=.rT xs)/\we P A σ a w ss pV
 | _,_=>False
theorem HT (h:d_ P C A σ a w F):∀ (xs:List Operand) {ss:List Slot} {pV:List Value},xs.all (dO P)=true->we P A σ a w ss pV->we P A σ a w (xs.map (d7 σ)++ss) (xs.map a.eval++pV)
 | [],_,_,_,h2=>h2
 | y::xs,_,_,ba,h2=>by
  simp only[dI,aF] at ba;exact ⟨fy h ba.1,HT h xs ba.2 h2⟩
theorem aax (h:d_ P C A σ a w F) {s:Slot} {tv:Value} {G:FP} (hs:c8 P A σ a w tv s G) {t:Ty} {K:t.den->Option R} (hk:Lu σ s t K=some x) :
  ∃ (v:t.den) (cs:List Value),K v=some x/\tv=dq t cs/\Ro P w A t v cs:=by
 cases s with
 | val t' v=>
  obtain ⟨e,hk⟩:=cy hk;subst e;obtain ⟨cs,h1,h2⟩:=hs;grind
 | cp t' v=>
  obtain ⟨e,hk⟩:=cy hk;subst e;exact ⟨v,[tv],hk,(eo _ _ rfl).symm,hs⟩
 | wC=>
  simp only[Lu] at hk;split at hk
  ·rename_i t e;have hs:tv=.slice none 0 0:=hs;subst hs;exact ⟨[],_,hk,(eo _ _ rfl).symm,none,0,rfl,aL _,λ_=>rfl,λad lH=>by cases lH⟩
  ·cases hk
 | ref r p snap=>
  simp only[Lu] at hk;split at hk
  ·rename_i ba;obtain ⟨hr,t',m',H',v',bu,c_,F',h1,h2,h3,h4,h5,h6⟩:=lA h hk;obtain ⟨pl,g1,g2,g3⟩:=hs.2 ba;grind [cy,ao.flat,ao.ro,it]
  ·cases hk
 | sub r p snap lo hi=>
  simp only[Lu] at hk;split at hk
  ·rename_i ba;obtain ⟨hr,t',m',H',v',bu,c_,F',h1,h2,h3,h4,h5,h6⟩:=lA h hk;obtain ⟨pl,e,xa,n,cap,vM,cap',g1,g2,g3,g4,g5,g6,g7,Pk,g8,g9,g10⟩:=hs.2 ba;rw[h3] at g1;injection g1 with g1;subst g1;simp only at g2 g3;subst g2;subst g3;split at h1
   ·rename_i hc;simp only[aF,bG,bI] at hc;obtain ⟨hH,hm⟩:=hc;subst hH;subst hm;obtain ⟨e',h1⟩:=cy h1;subst e';exact ⟨_,_,h1,by rw[eo _ _ rfl];exact g6,Ro.piece (ao.ro _ (it _) h4) g4 g5 g7 g8 g9⟩
   ·cases h1
  ·cases hk
 | _=>simp[Lu] at hk
theorem Zc (h:d_ P C A σ a w F) {ow:Bool} {pm:PM} {t:Ty} {s:Slot} {tv:Value} (hs:c8 P A σ a w tv s (λ_ _=>0)\/∃ xs,s=.rT xs) {K:t.den->Option (Nat×Path)->Option R} (hk:zQ σ ow pm t s K=some x) :
  ∃ v wp,K v wp=some x/\WH P A σ a w F ow pm t v s tv wp:=by
 rcases hs with hs | ⟨xs,rfl⟩
 rotate_left
 ·cases pm with
  | ro=>cases ow <;> simp[zQ,s_,Lu] at hk
  | _=>simp[zQ] at hk
 cases pm with
 | ro=>
  cases ow with
  | true=>
   simp only[zQ] at hk;have ax:=Eg h hk;obtain ⟨v,cs,h1,h2,h3⟩:=JS h hs hk;exact ⟨v,none,h1,rfl,cs,h2,Ro.mono (λ_ _ _ _ h=>h) (λb i ha=>ha.imp id λ⟨r,hr,hp⟩=>⟨rfl,r,hr,ax r hr,hp⟩) t h3⟩
  | false=>
   simp only[zQ] at hk;obtain ⟨v,cs,h1,h2,h3⟩:=aax h hs hk;exact ⟨v,none,h1,rfl,cs,h2,Ro.mono (λ_ _ _ _ h=>h) (λb i ha=>.inl ha) t h3⟩
 | fix f=>
  simp only[zQ] at hk;split at hk
  ·rename_i v;split at hk
   ·rename_i hf;obtain ⟨e,hk⟩:=cy hk;subst e;obtain ⟨cs,h1,h2⟩:=hs;exact ⟨v,none,hk,rfl,⟨cs,h1,h2⟩,λe=>by simpa using hf⟩
   ·cases hk
  ·cases hk
 | jV m m'=>
  simp only[zQ] at hk;split at hk
  ·rename_i r p snap;split at hk
   ·rename_i ba;obtain ⟨hr,t',m',H',v',bu,c_,F',h1,h2,h3,h4,h5,h6⟩:=lA h hk;obtain ⟨pl,b,o,g1,g2,g3,g4⟩:=hs.2 ba;rw[h3] at g1;injection g1 with g1;subst g1;simp only at g2;subst g2;split at h1
    ·rename_i hc;simp only[aF,bG,bI] at hc;obtain ⟨hH,hm⟩:=hc;subst hH;subst hm;obtain ⟨e,h1⟩:=cy h1;subst e;exact ⟨v',_,h1,r,p,snap,b,o,bu,rfl,rfl,⟨h2⟩,g3,h3⟩
    ·cases h1
   ·cases hk
  ·cases hk
 | sg m=>
  simp only[zQ] at hk;split at hk
  ·rename_i r p snap;split at hk
   ·rename_i ba;obtain ⟨hr,t',m',H',v',bu,c_,F',h1,h2,h3,h4,h5,h6⟩:=lA h hk;obtain ⟨pl,b,o,g1,g2,g3,g4⟩:=hs.2 ba;rw[h3] at g1;injection g1 with g1;subst g1;simp only at g2;subst g2;split at h1
    ·rename_i hc;simp only[aF,bG,bI] at hc;obtain ⟨hH,hm⟩:=hc;subst hH;subst hm;obtain ⟨e,h1⟩:=cy h1;subst e;exact ⟨v',_,h1,r,p,snap,b,o,bu,rfl,rfl,⟨h2⟩,g3,h3⟩
    ·cases h1
   ·cases hk
  ·cases hk
 | k8 m=>
  simp only[zQ] at hk;split at hk
  ·rename_i r p snap;split at hk
   ·rename_i ba;obtain ⟨hr,t',m',H',v',bu,c_,F',h1,h2,h3,h4,h5,h6⟩:=lA h hk;obtain ⟨pl,g1,g2,g3⟩:=hs.2 ba;rw[h3] at g1;injection g1 with g1;subst g1;split at h1
    ·rename_i hc;simp only[aF,bG,bI] at hc;obtain ⟨hH,hm⟩:=hc;subst hH;subst hm;obtain ⟨e,h1⟩:=cy h1;subst e;exact ⟨v',_,h1,r,p,snap,bu,c_,rfl,rfl,⟨h2⟩,g2,h3⟩
    ·cases h1
   ·cases hk
  ·cases hk
 | p6 m=>
  simp only[zQ] at hk;split at hk
  ·rename_i r p snap;split at hk
   ·rename_i ba;obtain ⟨hr,t',m',H',v',bu,c_,F',h1,h2,h3,h4,h5,h6⟩:=lA h hk;obtain ⟨pl,g1,g2,g3⟩:=hs.2 ba;rw[h3] at g1;injection g1 with g1;subst g1;split at h1
    ·rename_i hm;subst hm;obtain ⟨e,h1⟩:=cy h1;subst e;exact ⟨v',_,h1,H',r,p,snap,bu,c_,rfl,rfl,⟨h2⟩,g2,h3⟩
    ·cases h1
   ·cases hk
  ·cases hk
theorem XK (h:d_ P C A σ a w F) {ow:Bool}:∀ (ps:List (PM×Ty)) {ss:List Slot} {pV:List Value} {K:(bq (ps.map (·.2))).den->List (Nat×Path)->Option R},we P A σ a w ss pV->K1 σ ow ps ss K=some x ->
  ∃ v ws,K v ws=some x/\Eo P A σ a w F ow ps v ss pV ws:=by
 intro ps
 induction ps with
 | nil=>
  intro ss pV K hs hk
  cases ss with
  | nil=>
   cases pV with
   | nil=>exact ⟨(),[],hk,rfl,rfl,rfl⟩
   | cons _ _=>exact hs.elim
  | cons _ _=>cases hk
 | cons p ps ih=>
  intro ss pV K hs hk;obtain ⟨pm,t⟩:=p
  cases ss with
  | nil=>cases hk
  | cons s ss=>
   cases pV with
   | nil=>exact hs.elim
   | cons tv pV=>
    simp only[K1] at hk;obtain ⟨v,wp,h1,h2⟩:=Zc h hs.1 hk;obtain ⟨vs,ws,h3,h4⟩:=ih hs.2 h1;exact ⟨(v,vs),_,h3,s,ss,tv,pV,wp,ws,rfl,rfl,rfl,h2,h4⟩
theorem pX {ow:Bool} {A0:Cells} (hA:∀ b i,A b i->A0 b i) {r0:Nat} (hX:ow=true->∀ b i j,j < σ.n->j≠r0->1<=F j b i->A0 b i):∀ (ps:List (PM×Ty)) {v:(bq (ps.map (·.2))).den} {ss:List Slot} {pV:List Value},
  Eo P A σ a w F ow ps v ss pV []->(∀ r ∈ ss.flatMap m9,r < σ.n->r≠r0)->(∀ ho,ph P w A0 ho ps v pV (λ_ _=>0))/\(∀ (σ':St) (K:St->Option R) (out:(bq (ll ps)).den),si σ' ps [] out K=K σ'):=by
 intro ps
 induction ps with
 | nil=>intro v ss pV h hr;exact ⟨λ_=>h.2.1,λσ' K out=>rfl⟩
 | cons p ps ih=>
  intro v ss pV h hr;obtain ⟨pm,t⟩:=p;obtain ⟨s,SZ,tv,xQ,wp,Al,rfl,rfl,hw,mi,qu⟩:=h;have uG:∀ b i,A b i->∀ u,ce w b i=some u->ce w b i=some u:=λ_ _ _ _ h=>h
  cases wp with
  | some y=>cases hw
  | none=>
   have hw:[]=Al:=hw;subst hw;obtain ⟨i1,i2⟩:=ih qu (λr hm=>hr r (by grind))
   cases pm with
   | ro=>
    obtain ⟨_,cs,h1,h2⟩:=mi;refine ⟨λho=>⟨tv,xQ,λ_ _=>0,λ_ _=>0,rfl,λ_ _=>aL _,⟨cs,h1,Ro.mono (λ_ _ _ _ h=>h) (λb i ha=>?_) t h2⟩,i1 ho⟩,λσ' K out=>i2 σ' K out⟩
    grind
   | fix f=>
    obtain ⟨_,⟨cs,h1,h2⟩,h3⟩:=mi;exact ⟨λho=>⟨tv,xQ,λ_ _=>0,λ_ _=>0,rfl,λ_ _=>aL _,⟨⟨cs,h1,Ro.mono (λ_ _ _ _ h=>h) hA t h2⟩,h3⟩,i1 ho⟩,λσ' K out=>i2 σ' K out⟩
   | jV m m'=>obtain ⟨r,p,snap,b,o,cs,_,e,_⟩:=mi;cases e
   | sg m=>obtain ⟨r,p,snap,b,o,cs,_,e,_⟩:=mi;cases e
   | k8 m=>obtain ⟨r,p,snap,cs,ad,_,e,_⟩:=mi;cases e
   | p6 m=>obtain ⟨H,r,p,snap,cs,ad,_,e,_⟩:=mi;cases e
theorem XL {t:Ty} {cs bu:List Value} (h1:cs.length=t.sz) (h2:∀ x ∈ cs,x.oneCell'=true) (h3:bu.length=t.sz) (h4:∀ x ∈ bu,x.oneCell'=true) (h:dq t cs=dq t bu):cs=bu:=by
 grind [lu]
theorem QL {ow:Bool} {r:Nat} {p:Path}:∀ (ps:List (PM×Ty)) {v:(bq (ps.map (·.2))).den} {ss:List Slot} {pV:List Value},
  Eo P A σ a w F ow ps v ss pV [(r,p)]->(ss.flatMap m9).count r<=1 ->
  1<=(ss.flatMap m9).count r/\∃ (HU rt DX:Bool) (t:Ty) (m:Md) (H:List Path) (v1:t.den) (cs:List Value) (ad:Option (Nat×Nat)),((DX=false->H=[])/\(DX=true->Qg ps=true))/\At σ r p t m H v1/\place σ a w r p=some ⟨t,H,cs,ad⟩/\(rt=true->∃ b o,ad=some (b,o)) /\
   (ov ps=true->(t.flat||decide (m=ai t))=true/\t.rW=true) /\
   (∀ (A0:Cells) (F0 Fp:FP),(∀ b i,A b i->A0 b i)->(ow=true->∀ b i j,j < σ.n->j≠r->1<=F j b i->A0 b i)->ao P w A0 t m H v1 cs Fp ->
    (rt=true->∀ b o,ad=some (b,o)->Has w b o cs/\(∀ j,j < t.sz->w.frozen? ⟨b,o+j,none⟩=false)/\∀ b' i,ep b o t.sz b' i+Fp b' i<=F0 b' i)->(rt=false->∀ b i,Fp b i<=F0 b i)->∀ ho,(DX=true->ho H=true)->ph P w A0 ho ps v pV F0) /\
   (DX=true->HU=true/\rt=false/\∀ (σ':St) (K:St->Option R) (out:(bq (ll ps)).den),si σ' ps [(r,p)] out K=zg σ' r p K) /\
   (HU=true->DX=false->∀ (σ':St) (K:St->Option R) (out:(bq (ll ps)).den),si σ' ps [(r,p)] out K=match vF σ' r p t m t.zero (λ_=>some ()) with | some _=>K (σ'.put r .dead) | none=>none) /\
   (HU=false->∀ out:(bq (ll ps)).den,∃ (m2:Md) (o1:t.den),(ov ps=true->(t.flat||decide (m2=ai t))=true) /\
    (∀ (σ':St) (K:St->Option R),si σ' ps [(r,p)] out K=vF σ' r p t m2 o1 λxP=>K (match rt with | true=>xP | false=>{ xP with vr:=(σ'.mN r (ug (d9 p+1))).vr,az:=σ'.az })) /\
    ∀ (w':World) (A':Cells) (GM:FP),pi P w' A' ps out pV GM->∃ bu F3,ao P w' A' t m2 [] o1 bu F3/\(∀ b i,F3 b i<=GM b i)/\(rt=true->∀ b o,ad=some (b,o)->Has w' b o bu/\∀ b' i,ep b o t.sz b' i+F3 b' i<=GM b' i) /\
     (rt=false->dq t bu=dq t cs)):=by
 intro ps
 induction ps with
 | nil=>intro v ss pV h hc;cases h.2.2
 | cons p0 ps ih=>
  intro v ss pV h hc;obtain ⟨pm,t⟩:=p0;obtain ⟨s,SZ,tv,xQ,wp,Al,rfl,rfl,hw,mi,qu⟩:=h;simp only[dN,List.count_append] at hc ⊢
  cases pm with
  | ro=>
   obtain ⟨Am,cs,h1,h2⟩:=mi;subst Am;have hw:[(r,p)]=Al:=hw;subst hw;obtain ⟨c1,HU,rt,DX,t1,m1,H1,v1,qt,FS,q0,q1,q2,q3,q4,q5,q8,q7,q6⟩:=ih qu (by omega);refine ⟨by omega,HU,rt,DX,t1,m1,H1,v1,qt,FS,q0,q1,q2,q3,q4,λA0 F0 Fp a1 a2 a3 a4 a5 ho a6=>⟨tv,xQ,λ_ _=>0,F0,rfl,λb i=>by simp,⟨cs,h1,Ro.mono (λ_ _ _ _ h=>h) (λb i ha=>?_) t h2⟩,q5 A0 F0 Fp a1 a2 a3 a4 a5 ho a6⟩,λhV=>⟨(q8 hV).1,(q8 hV).2.1,λσ' K out=>(q8 hV).2.2 σ' K out⟩,λhE hV σ' K out=>q7 hE hV σ' K out,λhE out=>q6 hE out⟩
   rcases ha with ha | ⟨xH,r',hm,ax,hp⟩
   ·exact a1 b i ha
   ·refine a2 xH b i r' ax (λe=>?_) hp;subst e;have:=dF.2 hm;omega
  | fix f=>
   obtain ⟨Am,⟨cs,h1,h2⟩,h3⟩:=mi;subst Am;have hw:[(r,p)]=Al:=hw;subst hw;obtain ⟨c1,HU,rt,DX,t1,m1,H1,v1,qt,FS,q0,q1,q2,q3,q4,q5,q8,q7,q6⟩:=ih qu (by omega);exact ⟨by omega,HU,rt,DX,t1,m1,H1,v1,qt,FS,q0,q1,q2,q3,q4,λA0 F0 Fp a1 a2 a3 a4 a5 ho a6=>⟨tv,xQ,λ_ _=>0,F0,rfl,λb i=>by simp,⟨⟨cs,h1,Ro.mono (λ_ _ _ _ h=>h) a1 t h2⟩,h3⟩,q5 A0 F0 Fp a1 a2 a3 a4 a5 ho a6⟩,λhV=>⟨(q8 hV).1,(q8 hV).2.1,λσ' K out=>(q8 hV).2.2 σ' K out⟩,λhE hV σ' K out=>q7 hE hV σ' K out,λhE out=>q6 hE out⟩
  | sg m=>
   obtain ⟨r1,p1,snap,b,o,cs,rfl,Am,nQ,Ab,iU⟩:=mi;subst Am;have hw:[(r,p)]=(r1,p1)::Al:=hw;injection hw with w8 Be;injection w8 with w8 L8;subst w8;subst Be;subst L8;have HV:(m9 (.ptr r p snap)).count r=1:=by simp[m9]
   obtain ⟨n1,n2⟩:=pX (R:=R) (P:=P) (A0:=λb i=>True) (λ_ _ _=>trivial) (r0:=r) (λ_ _ _ _ _ _ _=>trivial) ps qu (λr' hm _ e=>by subst e;have:=dF.2 hm;omega);refine ⟨by omega,true,true,false,t,m,[],v.1,cs,some (b,o),⟨λ_=>rfl,λe=>by cases e⟩,nQ,iU,λ_=>⟨b,o,rfl⟩,λho=>?_,λA0 F0 Fp a1 a2 a3 a4 a5 ho _=>?_,(λe=>by cases e),λ_ _ σ' K out=>?_,λe=>by cases e⟩
   ·simp only[ov,aF] at ho;exact ho.1
   ·obtain ⟨b1,b2,b3⟩:=a4 rfl b o rfl;obtain ⟨k1,_⟩:=pX (R:=R) (P:=P) a1 (r0:=r) a2 ps qu (λr' hm _ e=>by subst e;have:=dF.2 hm;omega);exact ⟨tv,xQ,F0,λ_ _=>0,rfl,λb i=>aL _,⟨b,o,cs,Fp,Ab,ao.length _ a3,b1,b2,b3,a3⟩,k1 ho⟩
   ·show (match vF σ' r p t m t.zero (λ_=>some ()) with | some _=>si (σ'.put r .dead) ps [] out K | none=>none)=_;split
    ·exact n2 _ K out
    ·rfl
  | jV m m'=>
   obtain ⟨r1,p1,snap,b,o,cs,rfl,Am,nQ,Ab,iU⟩:=mi;subst Am;have hw:[(r,p)]=(r1,p1)::Al:=hw;injection hw with w8 Be;injection w8 with w8 L8;subst w8;subst Be;subst L8;have HV:(m9 (.ptr r p snap)).count r=1:=by simp[m9]
   obtain ⟨n1,n2⟩:=pX (R:=R) (P:=P) (A0:=λb i=>True) (λ_ _ _=>trivial) (r0:=r) (λ_ _ _ _ _ _ _=>trivial) ps qu (λr' hm _ e=>by subst e;have:=dF.2 hm;omega);refine ⟨by omega,false,true,false,t,m,[],v.1,cs,some (b,o),⟨λ_=>rfl,λe=>by cases e⟩,nQ,iU,λ_=>⟨b,o,rfl⟩,λho=>?_,λA0 F0 Fp a1 a2 a3 a4 a5 ho _=>?_,(λe=>by cases e),(λe=>by cases e),λ_ out=>⟨m',out.1,λho=>?_,λσ' K=>?_,λw' A' GM hm=>?_⟩⟩
   ·simp only[ov,aF] at ho;exact ho.1
   ·obtain ⟨b1,b2,b3⟩:=a4 rfl b o rfl;obtain ⟨k1,_⟩:=pX (R:=R) (P:=P) a1 (r0:=r) a2 ps qu (λr' hm _ e=>by subst e;have:=dF.2 hm;omega);exact ⟨tv,xQ,F0,λ_ _=>0,rfl,λb i=>aL _,⟨b,o,cs,Fp,Ab,ao.length _ a3,b1,b2,b3,a3⟩,k1 ho⟩
   ·simp only[ov,aF] at ho;exact ho.2.1
   ·show vF σ' r p t m' out.1 (λσ=>si σ ps [] out.2 K)=_;congr 1;funext xP;exact n2 xP K out.2
   ·obtain ⟨F1,F2,h1,⟨b',o',L,F3,h2,h3,h4,h5,h6⟩,h7⟩:=hm;simp only[List.head?_cons,aS,Ab,Value.pointer.injEq,Addr.mk.injEq,eJ] at h2;obtain ⟨rfl,rfl⟩:=h2;refine ⟨L,F3,h6,λb' i=>by have:=h5 b' i;have:=h1 b' i;omega,λ_ b2 o2 e=>?_,λe=>by cases e⟩
    simp only[aS,bP] at e;obtain ⟨rfl,rfl⟩:=e;exact ⟨h4,λb' i=>by have:=h5 b' i;have:=h1 b' i;omega⟩
  | k8 m=>
   obtain ⟨r1,p1,snap,cs,ad,rfl,Am,nQ,Ab,iU⟩:=mi;subst Am;have hw:[(r,p)]=(r1,p1)::Al:=hw;injection hw with w8 Be;injection w8 with w8 L8;subst w8;subst Be;subst L8;have HV:(m9 (.ref r p snap)).count r=1:=by simp[m9]
   obtain ⟨n1,n2⟩:=pX (R:=R) (P:=P) (A0:=λb i=>True) (λ_ _ _=>trivial) (r0:=r) (λ_ _ _ _ _ _ _=>trivial) ps qu (λr' hm _ e=>by subst e;have:=dF.2 hm;omega);refine ⟨by omega,false,false,false,t,m,[],v.1,cs,ad,⟨λ_=>rfl,λe=>by cases e⟩,nQ,iU,(λe=>by cases e),λho=>?_,λA0 F0 Fp a1 a2 a3 a4 a5 ho _=>?_,(λe=>by cases e),(λe=>by cases e),λ_ out=>⟨m,out.1,λho=>?_,λσ' K=>?_,λw' A' GM hm=>?_⟩⟩
   ·simp only[ov,aF] at ho;exact ho.1
   ·obtain ⟨k1,_⟩:=pX (R:=R) (P:=P) a1 (r0:=r) a2 ps qu (λr' hm _ e=>by subst e;have:=dF.2 hm;omega);exact ⟨tv,xQ,F0,λ_ _=>0,rfl,λb i=>aL _,⟨cs,Ab,a3.le (a5 rfl)⟩,k1 ho⟩
   ·simp only[ov,aF] at ho;exact ho.1.1
   ·show vF σ' r p t m out.1 (λxP=>si { xP with vr:=(σ'.mN r (ug (d9 p+1))).vr,az:=σ'.az } ps [] out.2 K)=_;congr 1;funext xP;exact n2 _ K out.2
   ·obtain ⟨F1,F2,h1,⟨bu,h2,h3⟩,h7⟩:=hm;simp only[List.head?_cons,aS,Ab] at h2;exact ⟨bu,F1,h3,λb' i=>by have:=h1 b' i;omega,(λe=>by cases e),λ_=>h2.symm⟩
  | p6 m=>
   obtain ⟨H,r1,p1,snap,cs,ad,rfl,Am,nQ,Ab,iU⟩:=mi;subst Am;have hw:[(r,p)]=(r1,p1)::Al:=hw;injection hw with w8 Be;injection w8 with w8 L8;subst w8;subst Be;subst L8;have HV:(m9 (.ref r p snap)).count r=1:=by simp[m9]
   obtain ⟨n1,n2⟩:=pX (R:=R) (P:=P) (A0:=λb i=>True) (λ_ _ _=>trivial) (r0:=r) (λ_ _ _ _ _ _ _=>trivial) ps qu (λr' hm _ e=>by subst e;have:=dF.2 hm;omega);refine ⟨by omega,true,false,true,t,m,H,v.1,cs,ad,⟨λe=>(by cases e),λ_=>rfl⟩,nQ,iU,(λe=>by cases e),λho=>?_,λA0 F0 Fp a1 a2 a3 a4 a5 ho a6=>?_,λ_=>⟨rfl,rfl,λσ' K out=>?_⟩,(λ_ e=>by cases e),λe=>by cases e⟩
   ·simp only[ov,aF] at ho;exact ho.1
   ·obtain ⟨k1,_⟩:=pX (R:=R) (P:=P) a1 (r0:=r) a2 ps qu (λr' hm _ e=>by subst e;have:=dF.2 hm;omega);exact ⟨tv,xQ,F0,λ_ _=>0,rfl,λb i=>aL _,⟨H,cs,a6 rfl,Ab,a3.le (a5 rfl)⟩,k1 ho⟩
   ·show zg σ' r p (λxP=>si xP ps [] out K)=_;congr 1;funext xP;exact n2 _ K out
theorem Cc {rs:List Hs} {rv:Value} {G:FP} (h:oB P w A rs rv G):c8 P A σ a w rv (vl rs) G/\∀ t m H v,vl rs=.box t m H v->∃ b,rv=.pointer (some ⟨b,0,none⟩)/\je w b (t.sz,false):=by
 match rs,h with
 | [],_=>exact ⟨trivial,λ_ _ _ _ e=>by cases e⟩
 | [x],h=>
  obtain ⟨cs,rfl,h2⟩:=h;exact FB h2
 | x::y::rs,h=>
  obtain ⟨vs,Fi,h1,h2,h3⟩:=h
  exact ⟨⟨vs,Fi,h1,h2,λj z hz=>by
   obtain ⟨v,cs,g1,g2,g3⟩:=h3 j z hz
   exact ⟨v,g1,.inr ⟨cs,g2,g3⟩⟩⟩,λ_ _ _ _ e=>by cases e⟩
theorem oB.free {A':Cells}:∀ {rs:List Hs} {rv:Value} {G:FP},(∀ x ∈ rs,(x.t.flat||decide (x.m=ai x.t))=true/\x.t.rW=true)->oB P w A rs rv G->oB P w A' rs rv G
 | [],_,_,_,_=>trivial
 | [x],_,_,ho,⟨cs,h1,h2⟩=>⟨cs,h1,ao.free (ho x (by simp)).1 (ho x (by simp)).2 h2⟩
 | x::y::rs,_,_,ho,⟨vs,Fi,h1,h2,h3⟩=>⟨vs,Fi,h1,h2,λj z hz=>by
  grind [ao.free]⟩
theorem yB:∀ (rs:List (Ty×Md)) {ts:List Ty} (out:(bq (rs.map (·.1)++ts)).den),zS rs=true->∀ x ∈ (lm rs out).1,(x.t.flat||decide (x.m=ai x.t))=true/\x.t.rW=true
 | [],_,_,_=>λx hx=>by cases hx
 | (t,m)::rs,_,out,h=>λx hx=>by
  simp only[zS,aF] at h;simp only[lm,bB] at hx;rcases hx with rfl | hx
  ·exact h.1
  ·exact yB rs out.2 h.2 x hx
theorem oB.mono {A':Cells} (hA:∀ b i,A b i->A' b i):∀ {rs:List Hs} {rv:Value} {G:FP},oB P w A rs rv G->oB P w A' rs rv G
 | [],_,_,_=>trivial
 | [x],_,_,⟨cs,h1,h2⟩=>⟨cs,h1,ao.mono hA (λ_ _ _ _ h=>h) (λ_ _ h=>h) _ h2 (λ_ _=>aL _) (λ_ _ _ _ h=>h)⟩
 | x::y::rs,_,_,⟨vs,Fi,h1,h2,h3⟩=>⟨vs,Fi,h1,h2,λj z hz=>by
  obtain ⟨v,cs,g1,g2,g3⟩:=h3 j z hz
  exact ⟨v,cs,g1,g2,ao.mono hA (λ_ _ _ _ h=>h) (λ_ _ h=>h) _ g3 (λ_ _=>aL _) (λ_ _ _ _ h=>h)⟩⟩
end
end OT
namespace OT
open Go
section
variable {P:Program} {C:Ctx} {A:Cells} {X:FP} {σ:St} {a:Act} {w:World} {F:Nat->FP} {R:Type} {x:R} {Q:Exit->Act->World->Prop} {o:Oper} {E:Env}
def zl (b:Bool) (n:Nat):Nat:=match b with
 | true=>n
 | false=>0
theorem UY {w2:World} {A2:Cells}:∀ (q:Path) (t:Ty) {m':Md} {v':t.den} {cs:List Value} {G':FP} {ad:Option (Nat×Nat)} {pl:Pl},ao P w2 A2 t m' [] v' cs G'->d9 q<=1->bn w q t [] cs ad=some pl ->
  ∃ H' bu,bn w2 q t [] cs ad=some ⟨pl.t,H',bu,pl.ad⟩/\(d9 q < 1->wJ pl.t=true->bu=pl.cs):=by
 intro q
 induction q with
 | nil=>
  intro t m' v' cs G' ad pl h2 hq hp;simp only[bn,aS] at hp;subst hp;exact ⟨_,_,rfl,λ_ _=>rfl⟩
 | cons s q ih=>
  intro t m' v' cs G' ad pl h2 hq hp
  cases t with
  | pair a b=>
   obtain ⟨h0,F1,F2,hs,r1,r2⟩:=h2
   cases s with
   | fst=>
    simp only[bn,h0,aO] at hp ⊢;exact ih a r1 (by simpa [d9] using hq) (by simpa using hp)
   | snd=>
    simp only[bn,h0,aO] at hp ⊢;exact ih b r2 (by simpa [d9] using hq) (by simpa using hp)
   | idx i=>simp[bn] at hp
   | qO i=>simp[bn] at hp
  | aa e=>
   cases s with
   | idx i=>
    obtain ⟨xa,cap,news,Fi,r1,r2,r3,r4,r5,r6,r7,r8⟩:=En h2;subst r1
    cases xa with
    | none=>grind [bn]
    | some c_=>
     simp only[bn,hole,bV,aJ,aO,eO] at hp ⊢;split at hp
     ·rename_i hi;rw[aM hi];have jj:=r6 i _ (aB hi);obtain ⟨g1,g2⟩:=r3 c_ rfl;have hl:=ao.length _ jj
      have hh:Has w2 c_.block (c_.off+i*e.sz) ((news.drop (i*e.sz)).take e.sz):=λj u hu=>by
       rw[cJ] at hu;split at hu
       ·rw[bZ] at hu;rw[cW];exact g2 _ u hu
       ·cases hu
      rw[fi hh hl];obtain ⟨H',bu,h1,h2⟩:=A9 (A:=λ_ _=>True) (m:=.leaf) (v:=v'[i]) (F:=λ_ _=>0) q e jj (.inl (by grind [d9])) hp;grind [d9]
     ·cases hp
   | _=>simp[bn] at hp
  | arr n e=>
   cases s with
   | fst=>simp[bn] at hp
   | snd=>simp[bn] at hp
   | idx i=>simp[bn] at hp
   | qO i=>
    obtain ⟨_,hf,hl,hlen,hr⟩:=h2;simp only[bn,cM,aI] at hp ⊢;split at hp
    ·rename_i hi;rw[aM hi];exact ih e (Ro.flat e (m:=.leaf) (λ_ _=>0) hf (hr i _ (aB (by grind)))) (by simpa [d9] using hq) hp
    ·cases hp
  | _=>grind [bn]
theorem S4 {t:Ty} {m':Md} {v':t.den} {cs:List Value} {G':FP} {w2:World} {A2:Cells} (ad:Option (Nat×Nat)) (h2:ao P w2 A2 t m' [] v' cs G'):rX 1 False w t [] cs ad w2 [] cs:=by
 intro q pl hq hp;grind [UY]
theorem L9 (h:d_ P C A σ a w F) {r:Nat} {ow:Bool} {b i:Nat} (ha:AX A F σ.n r ow b i):b < w.heap.size:=by
 rcases ha with ha | ⟨_,j,hj,_,hp⟩
 ·exact h.kN b i (.inr ha)
 ·exact h.kN b i (.inl (by grind [dv]))
def w9:List (PM×Ty)->Bool
 | []=>true
 | (.jV _ _,_)::_=>false
 | (.k8 _,_)::_=>false
 | (.sg _,_)::_=>false
 | (.p6 _,_)::_=>false
 | _::ps=>w9 ps
theorem vo {ow:Bool} {y:Nat×Path} {ws:List (Nat×Path)}:∀ (ps:List (PM×Ty)) {v:(bq (ps.map (·.2))).den} {ss:List Slot} {pV:List Value},w9 ps=true->Eo P A σ a w F ow ps v ss pV (y::ws)->False
 | [],_,_,_,_,h=>by cases h.2.2
 | (pm,t)::ps,_,_,_,hm,h=>by
  obtain ⟨s,SZ,tv,xQ,wp,Al,_,_,hw,mi,qu⟩:=h
  cases pm with
  | ro=>obtain ⟨Am,_⟩:=mi;subst Am;have hw:_=Al:=hw;subst hw;exact vo ps hm qu
  | fix f=>obtain ⟨Am,_⟩:=mi;subst Am;have hw:_=Al:=hw;subst hw;exact vo ps hm qu
  | jV m m'=>cases hm
  | k8 m=>cases hm
  | sg m=>cases hm
  | p6 m=>cases hm
theorem QM (h:d_ P C A σ a w F) {f:FuncId} {g:uL} (hs:Sound P f g) {ow:Bool} (xH:ow=true->(zS g.rs&&ov g.ps)=true) {r:Nat} {p:Path} {t:Ty} {m:Md} {v1:t.den} {cs:List Value} {ad:Option (Nat×Nat)} {rt:Bool} {v:(bq (g.ps.map (·.2))).den} {pV:List Value} {out:(bq (g.rs.map (·.1)++ll g.ps)).den} (hF:g.F v=some out)
  (b1:At σ r p t m [] v1) (b2:place σ a w r p=some ⟨t,[],cs,ad⟩) (b3:rt=true->∃ b o,ad=some (b,o))
  (b5 : ∀ (A0:Cells) (F0 Fp:FP),(∀ b i,A b i->A0 b i)->(ow=true->∀ b i j,j < σ.n->j≠r->1<=F j b i->A0 b i)->ao P w A0 t m [] v1 cs Fp ->
      (rt=true->∀ b o,ad=some (b,o)->Has w b o cs/\(∀ j,j < t.sz->w.frozen? ⟨b,o+j,none⟩=false)/\∀ b' i,ep b o t.sz b' i+Fp b' i<=F0 b' i)->(rt=false->∀ b i,Fp b i<=F0 b i)->ph P w A0 (g.FR v) g.ps v pV F0)
  {d:Option Tmp} {K:St->Option R} (q1:(match vF σ r p t m t.zero (λ_=>some ()) with | some _=>K ((σ.put r .dead).bz d (vl (lm g.rs out).1)) | none=>none)=some x) (UZ:w9 g.ps=true->False) :
  Calls P f pV.toArray w λe w'=>∃ rv,e=.returned rv/\Nx P C K x (a.put d rv) w'/\(w9 g.ps=true->Ext w w' (λ_ _=>0)):=by
 cases GI:vF σ r p t m t.zero (λ_=>some ()) with
 | none=>grind
 | some u=>
 rw[GI] at q1;simp only at q1;obtain ⟨hr,m2,H2,v2,d6,Ca,F2,s1,s2,s3,s4,s5,_⟩:=B_ h GI;obtain ⟨_,e3,e4,e5⟩:=b1.inj s1;subst e3;subst e4;have e5:=gK e5;subst e5;rw[b2] at s2;simp only[aS,Pl.mk.injEq,dQ] at s2;obtain ⟨rfl,rfl⟩:=s2;obtain ⟨Zd,fp2⟩:=ao.fp t s3
 obtain ⟨F0,FU⟩:∃ F0:FP,∀ b i,F0 b i=zl rt (k_ ad t.sz b i)+kP w t m [] cs b i:=⟨λb i=>zl rt (k_ ad t.sz b i)+kP w t m [] cs b i,λ_ _=>rfl⟩
 have abn:∀ b i,F0 b i<=k_ ad t.sz b i+kP w t m [] cs b i:=λb i=>by
  rw[FU];cases rt <;> simp[zl]
 have U0:∀ b i,F0 b i<=F r b i:=λb i=>by grind
 have qa:∀ b i,F r b i<=bg σ.n F b i:=λb i=>dv F hr b i;have wQ:∀ b i,bg σ.n F b i<=1:=λb i=>by have:=h.pk b i;omega
 have J3:∀ b i,A b i->AX A F σ.n r ow b i:=λb i h=>.inl h;have S5:∀ b i,1<=F r b i->b < w.heap.size:=λb i hp=>h.kN b i (.inl (by grind))
 have mC:=b5 (AX A F σ.n r ow) F0 (kP w t m [] cs) J3 (λxH b i j hj kF hp=>.inr ⟨xH,j,hj,kF,hp⟩)
  (ao.mono J3 (λ_ _ _ _ h=>h) (λ_ _ h=>h) t Zd (λ_ _=>aL _) (λ_ _ _ _ h=>h))
  (λhP b o e=>⟨(s5 b o e).1,(s5 b o e).2,λb' i=>by rw[FU,hP,e];exact aL _⟩) (λhP b i=>by grind)
 refine (hs w _ F0 v _ mC (λb i=>by grind) (λb i hp ha=>?_) (λb i hp=>?_) (h.CH λb i hp=>by grind) out hF).mono λe w' CQ=>?_
 ·have h1:=U0 b i;have h2:=qa b i
  rcases ha with ha | ⟨_,j,hj,kF,Ze⟩
  ·exact h.qb b i (by grind) ha
  grind [uN]
 ·rcases hp with hp | hp
  ·grind
  ·exact L9 h hp
 ·obtain ⟨rv,rfl,gf,A',G,GR,GM,g1,g2,g3,g4,g5,g6,g7,g8,g9⟩:=CQ;refine ⟨rv,rfl,?_⟩
  obtain ⟨x1,x2⟩:=GS gf
  obtain ⟨wx,A2,a1,a2,a3,a4,a6⟩:∃ wx A2:Cells,(∀ b i,A b i->wx b i)/\(∀ b i,wx b i->A b i\/(w.heap.size<=b/\b < w'.heap.size/\G b i=0))/\(∀ b i,wx b i->A2 b i)/\(∀ b i,A2 b i->wx b i\/(1<=F0 b i/\G b i=0)) /\
    oB P w' A2 (lm g.rs out).1 rv GR:=by
   cases ow with
   | true=>
    have ho:=xH rfl;simp only[aF] at ho;exact ⟨A,A,λ_ _ h=>h,λ_ _ h=>.inl h,λ_ _ h=>h,λ_ _ h=>.inl h,oB.free (yB g.rs out ho.1) g8⟩
   | false=>
    have oN:∀ b i,A' b i->G b i=0:=λb i ha=>by
     grind
    refine ⟨λb i=>A b i\/(w.heap.size<=b/\A' b i),A',λ_ _ h=>.inl h,λb i ha=>ha.imp id λ⟨h1,h2⟩=>⟨h1,g6 b i (.inr h2),oN b i h2⟩,λb i ha=>?_,λb i ha=>?_,g8⟩
    ·grind
    ·rcases g2 b i ha with (Zf | ⟨e,_⟩) | h0 | hn
     ·grind
     all_goals grind
  have U1:=yA gf.size;have h1:=h.put hr (s:=.dead) (v:=tmp a r) (Fd:=λ_ _=>0) (X':=F r) trivial (λb k=>by omega) (λ_ _ _ _ e=>by cases e);rw[rH] at h1;have F5:=h1.grow x1 (A1:=wx) (X1:=λb i=>if w.heap.size<=b then G b i else F r b i) a1 (λb i ha=>?_) (λb i=>?_);rotate_left
  ·grind
  ·grind
  have h3:=F5.world x2 (λb i hp=>by
   grind)
  have h4:=h3.giveUp (A1:=A2) (X1:=GR) a3 (λb i ha=>by
   grind) (λb i=>by
   grind)
  have uC:=Cc (σ:=σ.put r .dead) (a:=a) a6;exact ⟨pO h4 q1 uC.1 (λ_ _=>aL _) uC.2,λhm=>(UZ hm).elim⟩
theorem N9 (h:d_ P C A σ a w F) {f:FuncId} {g:uL} (hs:Sound P f g) {ow:Bool} (xH:ow=true->(zS g.rs&&ov g.ps)=true) {r:Nat} {p:Path} {t:Ty} {m:Md} {H:List Path} {v1:t.den} {cs:List Value} {ad:Option (Nat×Nat)} {rt:Bool} {v:(bq (g.ps.map (·.2))).den} {pV:List Value} {out:(bq (g.rs.map (·.1)++ll g.ps)).den} (hF:g.F v=some out)
  (b1:At σ r p t m H v1) (b2:place σ a w r p=some ⟨t,H,cs,ad⟩) (hP:rt=false)
  (b5 : ∀ (A0:Cells) (F0 Fp:FP),(∀ b i,A b i->A0 b i)->(ow=true->∀ b i j,j < σ.n->j≠r->1<=F j b i->A0 b i)->ao P w A0 t m H v1 cs Fp ->
      (rt=true->∀ b o,ad=some (b,o)->Has w b o cs/\(∀ j,j < t.sz->w.frozen? ⟨b,o+j,none⟩=false)/\∀ b' i,ep b o t.sz b' i+Fp b' i<=F0 b' i)->(rt=false->∀ b i,Fp b i<=F0 b i)->ph P w A0 (g.FR v) g.ps v pV F0)
  {d:Option Tmp} {K:St->Option R} (q1:zg σ r p (λσ=>K (σ.bz d (vl (lm g.rs out).1)))=some x) (UZ:w9 g.ps=true->False) :
  Calls P f pV.toArray w λe w'=>∃ rv,e=.returned rv/\Nx P C K x (a.put d rv) w'/\(w9 g.ps=true->Ext w w' (λ_ _=>0)):=by
 have hr:r < σ.n:=tP b2;obtain ⟨A1,pM,F1,qt,FS,F0,k1,k2,k3,k4,_,k5,k6,k7⟩:=LN h q1 b1;rw[b2] at k5;simp only[aS,Pl.mk.injEq,dQ] at k5;obtain ⟨rfl,rfl⟩:=k5;have qa:∀ b i,F r b i<=bg σ.n F b i:=λb i=>dv F hr b i;have wQ:∀ b i,bg σ.n F b i<=1:=λb i=>by have:=h.pk b i;omega
 have k3t:∀ b i,F0 b i+bg pM.n F1 b i<=1:=λb i=>by have h:=k3.pk b i;simpa using h
 have k3d:∀ b i,1<=F0 b i->¬ A1 b i:=λb i hp=>k3.qb b i (by grind);have k3b:∀ b i,1<=F0 b i\/A1 b i->b < w.heap.size:=λb i hp=>k3.kN b i (hp.imp (λhp=>by grind) id);have J3:∀ b i,A1 b i->AX A1 F σ.n r ow b i:=λb i h=>.inl h
 have mC:=b5 (AX A1 F σ.n r ow) F0 F0 (λb i h=>.inl (k2 b i h)) (λxH b i j hj kF hp=>.inr ⟨xH,j,hj,kF,hp⟩)
  (ao.mono (λb i h=>.inl (k2 b i h)) (λ_ _ _ _ h=>h) (λ_ _ h=>h) t k6 (λ_ _=>aL _) (λ_ _ _ _ h=>h))
  (λe=>by grind) (λ_ b i=>aL _)
 refine (hs w _ F0 v _ mC (λb i=>by grind) (λb i hp ha=>?_) (λb i hp=>?_) (k3.CH λb i hp=>by grind) out hF).mono λe w' CQ=>?_
 ·rcases ha with ha | ⟨_,j,hj,kF,Ze⟩
  all_goals grind [uN]
 ·rcases hp with hp | hp | ⟨_,j,hj,kF,Ze⟩
  ·grind
  ·grind
  ·exact h.kN b i (.inl (by grind [dv]))
 ·obtain ⟨rv,rfl,gf,A',G,GR,GM,g1,g2,g3,g4,g5,g6,g7,g8,g9⟩:=CQ;refine ⟨rv,rfl,?_⟩
  obtain ⟨x1,x2⟩:=GS gf
  obtain ⟨wx,A2,a1,a2,a3,a4,a6⟩:∃ wx A2:Cells,(∀ b i,A1 b i->wx b i)/\(∀ b i,wx b i->A1 b i\/(w.heap.size<=b/\b < w'.heap.size/\G b i=0))/\(∀ b i,wx b i->A2 b i)/\(∀ b i,A2 b i->wx b i\/(1<=F0 b i/\G b i=0)) /\
    oB P w' A2 (lm g.rs out).1 rv GR:=by
   cases ow with
   | true=>
    have ho:=xH rfl;simp only[aF] at ho;exact ⟨A1,A1,λ_ _ h=>h,λ_ _ h=>.inl h,λ_ _ h=>h,λ_ _ h=>.inl h,oB.free (yB g.rs out ho.1) g8⟩
   | false=>
    have oN:∀ b i,A' b i->G b i=0:=λb i ha=>by
     grind
    refine ⟨λb i=>A1 b i\/(w.heap.size<=b/\A' b i),A',λ_ _ h=>.inl h,λb i ha=>ha.imp id λ⟨h1,h2⟩=>⟨h1,g6 b i (.inr h2),oN b i h2⟩,λb i ha=>?_,λb i ha=>?_,g8⟩
    ·grind
    ·rcases g2 b i ha with (Zf | ⟨e,_⟩) | h0 | hn
     all_goals grind
  have U1:=yA gf.size;have F5:=k3.grow x1 (A1:=wx) (X1:=λb i=>if w.heap.size<=b then G b i else F0 b i) a1 (λb i ha=>?_) (λb i=>?_);rotate_left
  ·grind
  ·grind
  have h3:=F5.world x2 (λb i hp=>by
   grind)
  have h4:=h3.giveUp (A1:=A2) (X1:=GR) a3 (λb i ha=>by
   grind) (λb i=>by
   grind)
  have uC:=Cc (σ:=pM) (a:=a) a6;exact ⟨pO h4 k1 uC.1 (λ_ _=>aL _) uC.2,λhm=>(UZ hm).elim⟩
theorem S6 (h:d_ P C A σ a w F) {f:FuncId} {g:uL} (hs:Sound P f g) {ow:Bool} (xH:ow=true->(zS g.rs&&ov g.ps)=true) {xs:List Operand} {ex:List Slot} {F6:List Value} (ba:xs.all (dO P)=true)
  (hex:∀ (A':Cells) (σ':St),(∀ b i,A b i->A' b i)->we P A' σ' a w ex F6) {d:Option Tmp} {K:St->Option R} (hk:Hw g ow σ xs ex d K=some x) :
  Calls P f (xs.map a.eval++F6).toArray w λe w'=>∃ rv,e=.returned rv/\Nx P C K x (a.put d rv) w'/\(w9 g.ps=true->Ext w w' (λ_ _=>0)):=by
 unfold Hw at hk;obtain ⟨A1,pM,F1,k1,k2,k3,k4⟩:=XI g.ps xs h hk;have lT:=HT k3 xs ba (hex A1 pM k2);obtain ⟨v,ws,q1,q2⟩:=XK k3 g.ps lT k1;split at q1;rotate_left
 ·cases q1
 rename_i hc;simp only[aF,dK] at hc;obtain ⟨hlen,Ep⟩:=hc
 match ws,hlen with
 | [],_=>
  have q1:((g.F v).bind λout=>si pM g.ps [] (lm g.rs out).2 λσ=>K (σ.bz d (vl (lm g.rs out).1)))=some x:=by
   grind [UN]
  cases hF:g.F v with
  | none=>grind
  | some out=>
  rw[hF] at q1;simp only[aA] at q1;obtain ⟨n1,n2⟩:=pX (R:=R) (A0:=AX A1 F1 pM.n pM.n ow) (λb i h=>.inl h) (r0:=pM.n) (λxH b i j hj kF hp=>.inr ⟨xH,j,hj,kF,hp⟩) g.ps q2 (λr _ ax=>by omega);rw[n2] at q1;refine (hs w _ (λ_ _=>0) v _ (n1 _) (λ_ _=>bD _) (λb i hp=>by omega) (λb i hp=>?_) (k3.CH λb i hp=>by omega) out hF).mono λe w' CQ=>?_
  ·rcases hp with hp | hp
   ·omega
   ·exact L9 k3 hp
  ·obtain ⟨rv,rfl,gf,A',G,GR,GM,g1,g2,g3,g4,g5,g6,g7,g8,g9⟩:=CQ
   have hX:∀ b i,GR b i<=0\/(w.heap.size<=b/\b < w'.heap.size/\GR b i<=1):=λb i=>by
    grind
   refine ⟨rv,rfl,?_⟩
   cases ow with
   | true=>
    have ho:=xH rfl;simp only[aF] at ho;have F5:=k3.grow gf (A1:=A1) (X1:=GR) (λ_ _ h=>h) (λ_ _ h=>.inl h) hX;have uC:=Cc (σ:=pM) (a:=a) (oB.free (A':=A1) (yB g.rs out ho.1) g8);exact ⟨pO F5 q1 uC.1 (λ_ _=>aL _) uC.2,λ_=>gf⟩
   | false=>
    have F5:=k3.grow gf (A1:=A') (X1:=GR) (λb i ha=>g1 b i (.inl ha)) (λb i ha=>by
     rcases g2 b i ha with (Zf | ⟨e,_⟩) | h0 | hn
     all_goals grind) hX
    have uC:=Cc (σ:=pM) (a:=a) g8;exact ⟨pO F5 q1 uC.1 (λ_ _=>aL _) uC.2,λ_=>gf⟩
 | [(r,p)],_=>
  simp only[apart,aF,dK,eJ] at Ep;obtain ⟨_,HU,rt,DX,t,m,H,v1,cs,ad,b0,b1,b2,b3,b4,b5,b8,b7,b6⟩:=QL g.ps q2 Ep
  have q3:(DX=true->g.FR v H=true)/\((g.F v).bind λout=>si pM g.ps [(r,p)] (lm g.rs out).2 λσ=>K (σ.bz d (vl (lm g.rs out).1)))=some x:=by
   cases hv:Qg g.ps with
   | false=>
    rw[hv] at q1;exact ⟨λe=>(by grind),q1⟩
   | true=>
    rw[hv] at q1;simp only[UN] at q1;rw[b1.eq] at q1;grind
  obtain ⟨q0,q1⟩:=q3;replace b5:=λA0 F0 Fp a1 a2 a3 a4 a5=>b5 A0 F0 Fp a1 a2 a3 a4 a5 (g.FR v) q0
  cases hF:g.F v with
  | none=>grind
  | some out=>
  rw[hF] at q1;simp only[aA] at q1
  cases DX with
  | true=>
   obtain ⟨hE,hP,_⟩:=b8 rfl;subst hE;exact N9 k3 hs xH hF b1 b2 (b8 rfl).2.1 b5 (((b8 rfl).2.2 pM (λσ=>K (σ.bz d (vl (lm g.rs out).1))) (lm g.rs out).2).symm.trans q1) (λhm=>vo g.ps hm q2)
  | false=>
  obtain rfl:=b0.1 rfl
  cases HU with
  | true=>exact QM k3 hs xH hF b1 b2 b3 b5 ((b7 rfl rfl pM (λσ=>K (σ.bz d (vl (lm g.rs out).1))) (lm g.rs out).2).symm.trans q1) (λhm=>vo g.ps hm q2)
  | false=>
  obtain ⟨mo,o1,b6o,e1,e2⟩:=b6 rfl (lm g.rs out).2;rw[e1] at q1;have q1':=q1;obtain ⟨hr,m2,H2,v2,d6,Ca,F2,s1,s2,s3,s4,s5,_⟩:=B_ k3 q1;obtain ⟨_,e3,e4,e5⟩:=b1.inj s1;subst e3;subst e4;have e5:=gK e5;subst e5;rw[b2] at s2;simp only[aS,Pl.mk.injEq,dQ] at s2;obtain ⟨rfl,rfl⟩:=s2;obtain ⟨Zd,fp2⟩:=ao.fp t s3
  obtain ⟨F0,FU⟩:∃ F0:FP,∀ b i,F0 b i=zl rt (k_ ad t.sz b i)+kP w t m [] cs b i:=⟨λb i=>zl rt (k_ ad t.sz b i)+kP w t m [] cs b i,λ_ _=>rfl⟩
  have abn:∀ b i,F0 b i<=k_ ad t.sz b i+kP w t m [] cs b i:=λb i=>by
   rw[FU];cases rt <;> simp[zl]
  have U0:∀ b i,F0 b i<=F1 r b i:=λb i=>by grind
  have qa:∀ b i,F1 r b i<=bg pM.n F1 b i:=λb i=>dv F1 hr b i;have wQ:∀ b i,bg pM.n F1 b i<=1:=λb i=>by have:=k3.pk b i;omega
  have J3:∀ b i,A1 b i->AX A1 F1 pM.n r ow b i:=λb i h=>.inl h
  have mC:=b5 (AX A1 F1 pM.n r ow) F0 (kP w t m [] cs) J3 (λxH b i j hj kF hp=>.inr ⟨xH,j,hj,kF,hp⟩)
   (ao.mono J3 (λ_ _ _ _ h=>h) (λ_ _ h=>h) t Zd (λ_ _=>aL _) (λ_ _ _ _ h=>h))
   (λhP b o e=>⟨(s5 b o e).1,(s5 b o e).2,λb' i=>by rw[FU,hP,e];exact aL _⟩) (λhP b i=>by grind)
  refine (hs w _ F0 v _ mC (λb i=>by grind) (λb i hp ha=>?_) (λb i hp=>?_) (k3.CH λb i hp=>by grind) out hF).mono λe w' CQ=>?_
  ·have h1:=U0 b i;have h2:=qa b i
   rcases ha with ha | ⟨_,j,hj,kF,Ze⟩
   ·exact k3.qb b i (by grind) ha
   grind [uN]
  ·rcases hp with hp | hp
   ·exact k3.kN b i (.inl (by grind))
   ·exact L9 k3 hp
  ·obtain ⟨rv,rfl,gf,A',G,GR,GM,g1,g2,g3,g4,g5,g6,g7,g8,g9⟩:=CQ;refine ⟨rv,rfl,?_⟩
   obtain ⟨Zg,F3,t1,t2,t3,t4⟩:=e2 w' A' GM g9;obtain ⟨x1,x2⟩:=GS gf
   obtain ⟨wx,A2,a1,a2,a3,a4,a5,a6⟩:∃ wx A2:Cells,(∀ b i,A1 b i->wx b i)/\(∀ b i,wx b i->A1 b i\/(w.heap.size<=b/\b < w'.heap.size/\G b i=0))/\(∀ b i,wx b i->A2 b i)/\(∀ b i,A2 b i->wx b i\/(1<=F0 b i/\G b i=0)) /\
     ao P w' A2 t mo [] o1 Zg F3/\oB P w' A2 (lm g.rs out).1 rv GR:=by
    cases ow with
    | true=>
     have ho:=xH rfl;simp only[aF] at ho;exact ⟨A1,A1,λ_ _ h=>h,λ_ _ h=>.inl h,λ_ _ h=>h,λ_ _ h=>.inl h,ao.free (b6o ho.2) (b4 ho.2).2 t1,oB.free (yB g.rs out ho.1) g8⟩
    | false=>
     have oN:∀ b i,A' b i->G b i=0:=λb i ha=>by
      rcases bM (G b i) with h0 | h0
      ·exact h0
      grind
     refine ⟨λb i=>A1 b i\/(w.heap.size<=b/\A' b i),A',λ_ _ h=>.inl h,λb i ha=>ha.imp id λ⟨h1,h2⟩=>⟨h1,g6 b i (.inr h2),oN b i h2⟩,λb i ha=>?_,λb i ha=>?_,t1,g8⟩
     ·grind
     ·rcases g2 b i ha with (Zf | ⟨e,_⟩) | h0 | hn
      ·grind
      ·cases e
      ·grind
      grind
   have U1:=yA gf.size;have F5:=k3.grow x1 (A1:=wx) (X1:=λb i=>if w.heap.size<=b then G b i else 0) a1 (λb i ha=>?_) (λb i=>?_);rotate_left
   ·rcases a2 b i ha with ha | ⟨h1,h2,h3⟩
    ·exact .inl ha
    grind
   ·by_cases hb:w.heap.size<=b
    ·rw[aM hb];rcases bM (G b i) with h0 | h0
     ·left;omega
     grind
    grind
   obtain ⟨_,m4,H4,v4,Wl,ad4,F4,u1,u2,u3,u4,u5,u6⟩:=B_ F5 q1';obtain ⟨_,e3,e4,e5⟩:=b1.inj u1;subst e3;subst e4;have e5:=gK e5;subst e5;have S5:∀ b i,1<=F1 r b i->b < w.heap.size:=λb i hp=>k3.kN b i (.inl (by grind));have iU:=vL (σ':=pM) (a':=a) (w2:=World.news w w') (k3.iW r hr) rfl rfl (λb i ha u hu=>x1.cell b i (k3.kN b i (.inr ha)) rfl u hu) (λb i hp u hu=>x1.cell b i (S5 b i hp) rfl u hu) b2;rw[iU] at u2;simp only[aS,Pl.mk.injEq,dQ] at u2;obtain ⟨rfl,rfl⟩:=u2;have nc:kP (World.news w w') t m [] cs=kP w t m [] cs:=QJ t s3 (λb i hp u hu=>x1.cell b i (S5 b i (by grind)) rfl u hu);have hfp:∀ b i,kP w t m [] cs b i<=F4 b i:=λb i=>by have:=(ao.fp t u3).2 b i;rw[nc] at this;exact this
   have Sx:=ao.length _ t1;have hl:=ao.length _ s3;have uG:rt=false->Zg=cs:=λhP=>XL Sx (ao.one _ t1) hl (ao.one _ s3) (t4 hP)
   have HV:∀ b i,1<=k_ ad t.sz b i->F4 b i=0:=λb i hp=>by
    grind
   have acn:∀ b i,b < w.heap.size->1<=G b i->1<=k_ ad t.sz b i\/1<=F4 b i:=λb i hb hp=>by
    grind
   have aay:∀ b i,GR b i+F3 b i<=(if w.heap.size<=b then G b i else 0)+F4 b i:=λb i=>by
    have h7:=g7 b i;have h2:=t2 b i
    by_cases hb:w.heap.size<=b
    ·grind
    ·rw[aP hb];rcases bM (GR b i+F3 b i) with h0 | h0
     ·omega
     ·have h4:=g4 b i;rcases g3 b i (by omega) with h1 | h1
      ·rw[FU] at h1
       cases hP:rt with
       | true=>
        obtain ⟨b',o',lH⟩:=b3 hP;grind [k_]
       | false=>
        grind [zl]
      ·omega
   obtain ⟨A3,A_,Fr,n1,n2,n3,n4,n5⟩:=u6 w' A2 Zg F3 GR (x2.mono λb i hz=>by
     grind) a3 (λb i ha=>by
     rcases a4 b i ha with ha | ⟨h1,h2⟩
     ·exact .inl ha
     ·refine .inr ⟨?_,by grind⟩;have hb:b < w.heap.size:=S5 b i (by grind);rw[aP (by omega)];rw[FU] at h1
      cases hP:rt with
      | true=>
       obtain ⟨b',o',lH⟩:=b3 hP;grind [k_]
      | false=>
       grind [zl]) aay (λb o e=>by
     cases hP:rt with
     | true=>grind
     | false=>
      rw[uG hP];intro j u hu;have hj:=(aR.1 hu).1;have h9:k_ ad t.sz b (o+j)=1:=by grind [k_,ep]
      have h8:=HV b (o+j) (by omega);refine x2.cell b (o+j) ?_ ?_ u ((u5 b o e).1 j u hu)
      ·rw[U1];exact dB (S5 b (o+j) (by grind)) gf.size
      ·rw[FU,hP];have:=hfp b (o+j)
       simp only[zl,cB];omega) (λe=>by
     cases hP:rt with
     | true=>obtain ⟨b',o',lH⟩:=b3 hP;rw[e] at lH;cases lH
     | false=>exact uG hP) a5
   have uC:=Cc (σ:=A_) (a:=a) (oB.mono n2 a6)
   cases hP:rt with
   | true=>
    subst hP;exact ⟨pO n3 n1 uC.1 (λ_ _=>aL _) uC.2,λhm=>(vo g.ps hm q2).elim⟩
   | false=>
    subst hP;have hc:=uG rfl;subst hc
    have h5:=n5 (ug (d9 p+1)) (uQ _ (k3.l8 r)) (CI _ (k3.l8 r)) rfl (λp' snap hb ba hlen=>by
     have:=Ee (d9 p+1) (k3.l8 r) hb ba
     exact ⟨1,False,by omega,λ_=>.inl (by omega),λ_=>by omega,S4 ad a5⟩)
    have WI:=Cc (σ:={ A_ with vr:=(pM.mN r (ug (d9 p+1))).vr,az:=pM.az }) (a:=a) (oB.mono n2 a6);exact ⟨pO h5 n1 WI.1 (λ_ _=>aL _) WI.2,λhm=>(vo g.ps hm q2).elim⟩
 | _::_::_,hl=>simp at hl
theorem L_ (h:d_ P C A σ a w F) {f:FuncId} {g:uL} (hs:Sound P f g) {xs:List Operand} {ex:List Slot} {F6:List Value} (ba:xs.all (dO P)=true)
  (hex:∀ (A':Cells) (σ':St),(∀ b i,A b i->A' b i)->we P A' σ' a w ex F6) {d:Option Tmp} {K:St->Option R} (hk:CB g σ xs ex d K=some x) :
  Calls P f (xs.map a.eval++F6).toArray w λe w'=>∃ rv,e=.returned rv/\Nx P C K x (a.put d rv) w'/\(w9 g.ps=true->Ext w w' (λ_ _=>0)):=by
 unfold CB at hk;split at hk
 all_goals grind [S6,Zb]
theorem Er {f:FuncId} {cap:Bool} (he:ww P f cap) (args:Array Value):(callFunc f args).run P w=.ok (.enter f args) w:=by
 obtain ⟨fn,h1,h2,h3,_⟩:=he
 have WJ:fn.name ≠ "runtime.NumGoroutine" := by simpa using h2
 have Pv:fn.body≠none:=by grind
 simp_all [callFunc]
theorem N_ (h:d_ P C A σ a w F) {f:FuncId} {args:Array Operand} {ts:Array TypeId} (ho:o.op=.call { callee:=.value (.func f),args:=args,argTypes:=ts }) (ba:args.toList.all (dO P)=true) {g:uL} (hs:Sound P f g) (he:ww P f false)
  {K:St->Option R} (hk:CB g σ args.toList [] o.dst K=some x):o.wp P a w (λa' w'=>Nx P C K x a' w'/\(w9 g.ps=true->Ext w w' (λ_ _=>0))) Q:=by
 have kO:(execOp a.eval o).run P w=.ok (.enter f (args.map a.eval)) w:=by
  have e:a.eval (.func f)=.func (.func f) #[] #[]:=rfl;grind [execOp,resolve,Deferred.ofValue,invoke,Er]
 unfold Oper.wp;rw[kO,Oper.upon_enter];have hc:=L_ h hs (ex:=[]) (F6:=[]) ba (λ_ _ _=>trivial) hk;have:(args.toList.map a.eval++[]).toArray=args.map a.eval:=by grind
 rw[this] at hc;exact hc.mono λe w' ⟨rv,he,hn⟩=>by grind
theorem Oa (h:d_ P C A σ a w F) {i:Tmp} {args:Array Operand} {ts:Array TypeId} (ho:o.op=.call { callee:=.value (.tmp i),args:=args,argTypes:=ts }) (ba:args.toList.all (dO P)=true) {f:FuncId} {n:Int} (lT:Lw (σ.get i)=some (f,n)) {g:uL} (hs:Sound P f g) (he:ww P f g.cap)
  {K:St->Option R} (hk:CB g σ args.toList (match g.cap with | true=>[.cp (.int .i64) n] | false=>[]) o.dst K=some x):o.wp P a w (λa' w'=>Nx P C K x a' w'/\(w9 g.ps=true->Ext w w' (λ_ _=>0))) Q:=by
 have hi:i < σ.n:=by
  rcases cK i σ.n with hi | hi
  ·exact hi
  ·rw[mf (fZ.2 hi)] at lT;cases lT
 have hsi:=h.iW i hi;unfold Lw at lT;split at lT;rotate_left
 ·cases lT
 rename_i v hg;injection lT with hv;subst hv;rw[hg] at hsi;obtain ⟨cs,h1,yO,rfl,fn,h3,h4⟩:=hsi;have e:a.eval (.tmp i)=.func (.func f) #[] yO:=h1
 have kO:(execOp a.eval o).run P w=.ok (.enter f (args.map a.eval++yO)) w:=by
  grind [execOp,resolve,Deferred.ofValue,invoke,Er]
 unfold Oper.wp;rw[kO,Oper.upon_enter];obtain ⟨fn',f1,f2,f3,f4⟩:=he;rw[h3] at f1;injection f1 with f1;subst f1
 have hex:∃ F6:List Value,(args.toList.map a.eval++F6).toArray=args.map a.eval++yO/\∀ (A':Cells) (σ':St),(∀ b i,A b i->A' b i)->we P A' σ' a w (match g.cap with | true=>[.cp (.int .i64) n] | false=>[]) F6:=by
  rcases h4 with ⟨h4,rfl⟩ | ⟨h4,ad,rfl,h5,h6,h7⟩
  ·have:g.cap=false:=by grind
   rw[this];exact ⟨[],by grind,λ_ _ _=>trivial⟩
  ·have:g.cap=true:=by grind
   rw[this];refine ⟨[.pointer (some ad)],by grind,λA' σ' hA=>⟨.inl ⟨ad,rfl,h5,[.int .i64 n],rfl,(λj u hu=>?_),rfl⟩,trivial⟩⟩
   grind
 obtain ⟨F6,abo,hex⟩:=hex;have hc:=L_ h hs ba hex hk;rw[abo] at hc;exact hc.mono λe w' ⟨rv,he,hn⟩=>by grind
end
end OT
