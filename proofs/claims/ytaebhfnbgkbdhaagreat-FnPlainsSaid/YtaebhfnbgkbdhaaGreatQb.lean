/- The proof's parts, merged: Operations, first part.. No conditions but those that each states. -/
import Derived.Test.YtaebhfnbgkbdhaaGreatQa
import Derived.Laws.Slices
import Derived.Laws.Concat
import Derived.Laws.StructEq
import Derived.Laws.Cover3
import Derived.ChangeKeysEq
import Derived.Laws.MakeOwn
import Derived.Laws.IdiomStrings
import Derived.Laws.BytesArg
import Derived.Laws.Tables
import Derived.Great.BuildSlice
import Derived.Deep.AppendSrc
set_option linter.unusedVariables false
set_option linter.unusedSimpArgs false
namespace OT
open Go
section
variable {P:Program} {C:Ctx} {A:Cells} {X:FP} {σ:St} {a:Act} {w:World} {F:Nat->FP} {R:Type} {x:R} {Q:Exit->Act->World->Prop} {o:Oper} {E:Env}
def Nx (P:Program) (C:Ctx) {R:Type} (K:St->Option R) (x:R) (a:Act) (w:World):Prop:=∃ σ',K σ'=some x/\tM P C σ' a w
abbrev bn (P:Program) (C:Ctx) (A:Cells) (σ:St) (a:Act) (w:World) (F:Nat->FP):Prop:=Rel P C A (λ_ _=>0) σ a w F
theorem fI {v:Value} {w':World} {next:Act->World->Prop} (dD:(execOp a.eval o).run P w=.ok (.value v) w') (hn:next (a.put o.dst v) w'):o.wp P a w next Q:=by
 unfold Oper.wp;rw[dD];exact hn
theorem A8 {w':World} {next:Act->World->Prop} (dD:(execOp a.eval o).run P w=.ok .skip w') (hd:o.dst=none) (hn:next a w'):o.wp P a w next Q:=by
 unfold Oper.wp;rw[dD,Oper.upon,hd];exact hn
def reads:Op->Bool
 | .load .. | .convert ..=>true
 | _=>false
def jP (o:Oper) (w w':World):Prop:=reads o.op=true->Ext w w' (λ_ _=>0)
theorem jP.ext {o:Oper} {w w':World} (h:jP o w w') (hr:reads o.op=true):Ext w w' (λ_ _=>0):=h hr
def Tk (P:Program) (o:Oper) (a:Act) (w:World) (next:Act->World->Prop):Prop:=
 ∃ v,(∀ w',jP o w w'->(execOp a.eval o).run P w'=.ok (.value v) w')/\next (a.put o.dst v) w
theorem bU {v:Value} {next:Act->World->Prop} (dD:∀ w',jP o w w'->(execOp a.eval o).run P w'=.ok (.value v) w') (hn:next (a.put o.dst v) w):Tk P o a w next:=⟨v,dD,hn⟩
theorem Tk.wp {next:Act->World->Prop} (h:Tk P o a w next):o.wp P a w next Q:=by
 obtain ⟨v,h1,h2⟩:=h
 exact fI (h1 w λ_=>Ext.refl _ _) h2
theorem lJ {b i:Nat} {u:Value} (h:ce w b i=some u):b < w.heap.size:=by
 grind [ce,World.cell?]
theorem Has.ext {b o:Nat} {L:List Value} {w':World} (h:Has w b o L) (hw:Ext w w' (λ_ _=>0)):Has w' b o L:=λj u hu=>hw.cell b (o+j) (lJ (h j u hu)) rfl u (h j u hu)
theorem gu (h:Rel P C A X σ a w F) {K:St->Option R} {d:Option Tmp} {s:Slot} {v:Value} {Fd:FP} (hk:K (σ.aH d s)=some x) (hs:aW P A σ a w v s Fd) (ht:∀ b i,Fd b i<=X b i)
  (JG:∀ t m H v',s=.box t m H v'->∃ b,v=.pointer (some ⟨b,0,none⟩)/\cr w b (t.sz,false)):Nx P C K x (a.put d v) w:=by
 obtain ⟨F',hF⟩:=h.aH d (X':=λ_ _=>0) hs (λb i=>by grind) JG
 exact ⟨_,hk,A,F',hF⟩
theorem aP (h:Rel P C A X σ a w F) {K:St->Option R} {d:Option Tmp} {s:Slot} {v:Value} (hk:K (σ.aH d s)=some x) (hs:aW P A σ a w v s (λ_ _=>0))
  (hb:∀ t m H v',s≠.box t m H v'):Nx P C K x (a.put d v) w:=
 gu h hk hs (λ_ _=>Nat.zero_le _) (λt m H v' e=>absurd e (hb t m H v'))
theorem pP (h:Rel P C A X σ a w F) {K:St->Option R} {d:Option Tmp} {t:Ty} {m:Md} {v:t.den} {cs:List Value} {Fd:FP} (hk:K (σ.aH d (laid t m v))=some x) (hr:af P w A t m [] v cs Fd) (ht:∀ b i,Fd b i<=X b i) :
  Nx P C K x (a.put d (aZ t cs)) w:=
 gu h hk (uR (σ:=σ) (a:=a) hr).1 ht (uR (σ:=σ) (a:=a) hr).2
theorem bM {t:Nat} {K:Ty->Option R} (h:gF E t K=some x):∃ T,E.TI t=some T/\K T=some x:=by
 grind [gF]
theorem wW {s:Slot} {K:Bool->Option R} {tv:Value} {G:FP} (hs:aW P A σ a w tv s G) (h:wG s K=some x):∃ b,tv=.bool b/\K b=some x:=by
 unfold wG at h
 split at h
 ·rename_i b;obtain ⟨cs,h1,h2⟩:=hs;simp only[Ro] at h2;subst h2;exact ⟨b,by rw[h1];rfl,h⟩
 ·cases h
theorem lZ {s:Slot} {K:Int->Option R} {tv:Value} {G:FP} (hs:aW P A σ a w tv s G) (h:lP s K=some x):∃ k n,tv=.int k n/\K n=some x:=by
 unfold lP at h
 split at h
 ·rename_i k n;obtain ⟨cs,h1,h2⟩:=hs;simp only[Ro] at h2;subst h2;exact ⟨k,_,by rw[h1];rfl,h⟩
 ·cases h
theorem sk (h:Rel P C A X σ a w F) {r:Nat} {p:Path} {pl:Pl} (hp:place σ a w r p=some pl):iz σ a w (aZ pl.t pl.cs) r p (kZ σ r p pl.t):=by
 have h5:=h.ei r
 refine ⟨?_,λ_=>⟨_,hp,rfl,?_⟩⟩
 ·unfold kZ
  split
  ·intro j y hj;grind
  ·intro j y hj;grind
  ·exact Below.refl _
 ·unfold kZ
  split
  ·rename_i e he;left;exact ⟨by rw[he];rfl,by grind⟩
  ·rename_i k v he;left;exact ⟨by rw[he];rfl,by grind⟩
  grind
theorem zh (σ:St) (y:Operand) (t:Ty) (m:Md) (H:List Path) (v:t.den):bi σ y≠.box t m H v:=by
 intro e
 cases y with
 | tmp i=>grind [bi]
 | const v=>simp only[bi] at e;unfold jJ at e;grind
 | func f=>cases e
 | global g=>cases e
theorem Gj (h:bn P C A σ a w F) {y:Operand} (ho:o.op=.move y) (ap:bh P y=true) {K:St->Option R} (hk:Ef σ y o.dst K=some x):Tk P o a w (Nx P C K x):=by
 refine bU (v:=a.eval y) (by simp[execOp,ho]) ?_
 unfold Ef at hk
 have hs:=bE h ap
 split at hk
 ·rename_i xs i hx
  have hi:i < σ.n:=by
   grind [bi,ep]
  have hg:σ.get i=.iK xs:=by
   grind [bi]
  have iM:=h.cj i hi
  rw[hg] at iM
  have h2:=h.put hi (s:=.dead) (v:=tmp a i) (Fd:=λ_ _=>0) (X':=λb k=>F i b k) trivial (λb k=>by omega) (λt m H v e=>by cases e)
  rw[iA] at h2
  refine gu h2 hk (Fd:=F i) ?_ (λb i=>Nat.le_refl _) (λt m H v e=>by cases e)
  obtain ⟨vs,Fi,h3,h4,h5⟩:=iM
  exact ⟨vs,Fi,h3,h4,h5⟩
 all_goals grind [aP,zh]
theorem Gk (h:bn P C A σ a w F) {c y z:Operand} (ho:o.op=.pick c y z) (ap:bh P c=true/\bh P y=true/\bh P z=true) {K:St->Option R}
  (hk:(wG (bi σ c) λc=>match bi σ (bif c then y else z) with
   | .val .bool b=>K (σ.aH o.dst (.val .bool b))
   | _=>none)=some x):Tk P o a w (Nx P C K x):=by
 have hc:=bE h ap.1
 rcases hc with hc | ⟨xs,e⟩
 ·obtain ⟨b,hb,hk⟩:=wW hc hk
  have SO:∀ y':Operand,bh P y'=true->(match bi σ y' with
   | .val .bool b=>K (σ.aH o.dst (.val .bool b))
   | _=>none)=some x->Nx P C K x (a.put o.dst (a.eval y')) w:=λy' hy hk=>by
   grind [bE,aP]
  cases b <;> simp_all [bU,execOp,asBool]
 ·rw[e] at hk;cases hk
theorem Gl (h:bn P C A σ a w F) (dZ:∀ i T,E.TI i=some T->aq P T (.inl i)=true) {t:Nat} {y:Operand} (ho:o.op=.load t y) (ap:bh P y=true) {K:St->Option R}
  {mv:Bool} (hk:rV E σ t (bi σ y) mv o.dst K=some x):Tk P o a w (Nx P C K x):=by
 unfold rV at hk
 obtain ⟨T,hT,hk⟩:=bM hk
 have cI:=dZ _ _ hT
 have run:∀ b off L,a.eval y=.pointer (some ⟨b,off,none⟩)->Has w b off L->L.length=T.sz->(∀ u ∈ L,u.oneCell'=true)->∀ w',jP o w w'->(execOp a.eval o).run P w'=.ok (.value (aZ T L)) w':=λb off L hy hL hl g_ w' ju=>by
  have ju:=ju (by rw[ho];rfl)
  simp[execOp,ho,hy,Instr.loadAt,Instr.sureAddr,nN cI (hL.ext ju) hl g_]
 rcases bE h ap with hs | ⟨xs,e⟩
 rotate_left
 ·grind
 split at hk
 ·rename_i t' v hv
  rw[hv] at hs
  split at hk
  ·rename_i e;subst e
   obtain ⟨⟨b,off,sp⟩,h1,h2,L,h3,h4,h5⟩:=hs
   simp only[List.cons.injEq,and_true] at h1
   simp only at h2;subst h2
   exact bU (run b off L h1 (λj u hu=>(h4 j u hu).1) h3 (Ro.one _ h5)) (aP h hk ⟨L,rfl,h5⟩ (λ_ _ _ _ e=>by cases e))
  ·cases hk
 ·rename_i r p snap hv
  rw[hv] at hs
  split at hk
  ·rename_i fW
   obtain ⟨hr,t',m',H',v',aJ,aY,F',h1,h2,h3,h4,h5,h6⟩:=d7 h hk
   obtain ⟨pl,b,off,g1,g2,g3,g4⟩:=hs.2 fW
   rw[h3] at g1
   injection g1 with g1
   subst g1
   simp only at g2
   subst g2
   split at h1
   ·rename_i e;subst e
    refine bU (run b off aJ g3 (h6 b off rfl) (af.length _ h4) (af.one _ h4)) ?_
    split at h1
    ·rename_i hf
     split at h1
     ·exact aP h h1 ⟨aJ,rfl,af.flat _ hf h4⟩ (λ_ _ _ _ e=>by cases e)
     ·cases h1
    ·split at h1
     ·rename_i hm
      split at h1
      ·rename_i hH
       have hH:=List.isEmpty_iff.1 hH;subst hH;subst hm
       cases mv with
       | false=>exact aP h h1 ⟨aJ,rfl,af.ro _ (bQ _) h4⟩ (λ_ _ _ _ e=>by cases e)
       | true=>exact aP h h1 (sk h h3) (λ_ _ _ _ e=>by cases e)
      ·cases h1
     ·cases mv with
      | false=>exact aP h h1 (sk h h3) (λ_ _ _ _ e=>by cases e)
      | true=>
       simp only at h1
       split at h1
       ·rename_i hH
        have hH:=List.isEmpty_iff.1 hH;subst hH
        obtain ⟨A2,ez,F2,bf,rC,Fv,k1,k2,k3,k4,k5,k6,k7⟩:=yt h h1 ⟨h2⟩
        rw[h3] at k6
        simp only[Option.some.injEq,Pl.mk.injEq,true_and] at k6
        obtain ⟨rfl,rfl⟩:=k6
        have hl:=uR (σ:=ez) (a:=a) (af.mono k2 (λ_ _ _ _ h=>h) (λ_ _ h=>h) _ k7 (λ_ _=>Nat.le_refl _) (λ_ _ _ _ h=>h))
        exact gu k3 k1 hl.1 (λb i=>by omega) hl.2
       ·cases h1
   ·cases h1
  ·cases hk
 ·cases hk
theorem Et (h:bn P C A σ a w F) (dZ:∀ i T,E.TI i=some T->aq P T (.inl i)=true) {t:Nat} {y:Operand} (ho:o.op=.load t y) (ap:bh P y=true) {K:St->Option R}
  {mv fr:Bool} (hk:wH E σ t y mv fr o.dst K=some x):Tk P o a w (Nx P C K x):=by
 unfold wH at hk
 grind [Gl,og]
theorem Eu {b o b' i:Nat} {v u:Value} (ci:¬ (b=b'/\o=i)) (h:ce w b' i=some u):ce (w.setCell ⟨b,o,none⟩ v) b' i=some u:=by
 by_cases hb:b=b'
 ·subst hb
  cases hh:w.heap[b]? with
  | none=>grind [ce,World.cell?]
  | some ob=>
   cases ob <;> simp_all [World.setCell,Array.getElem?_modify,ce,World.cell?]
 grind [World.setCell,sa]
theorem fX {b o:Nat}:∀ (L:List Value) (w:World) (o:Nat),Ext w (w.setCells b o L) (bk b o L.length)
 | [],w,o=>Ext.refl _ _
 | v::L,w,o=>by
  have ih:=fX (b:=b) (o:=o+1) L (w.setCell ⟨b,o,none⟩ v) (o+1)
  have h1:Ext w (w.setCell ⟨b,o,none⟩ v) (bk b o (L.length+1)):=by
   refine ⟨by simp,λb' i hb hz u hu=>?_,λb' n hn=>?_,λb' i hb=>by simp,rfl,rfl,rfl,λb' hb hz=>?_,Nat.le_refl _⟩
   ·grind [Eu,bk]
   ·obtain ⟨c,e,fr,h1,h2,h3⟩:=hn
    by_cases Du:b=b'
    ·subst Du
     exact ⟨c.setIfInBounds o v,e,fr,by grind [World.setCell],by simp[h2],h3⟩
    ·exact ⟨c,e,fr,by grind [World.setCell],h2,h3⟩
   ·have ci:b≠b':=λe=>by
     subst e
     have:=hz o
     grind [bk]
    grind [World.setCell]
  exact h1.trans ih λb' i hb hz=>by
   grind [bk]
theorem mE {w:World} {b o:Nat} {L:List Value} (h:∀ j,j < L.length->(w.cell? ⟨b,o+j,none⟩).isSome=true) (g_:∀ u ∈ L,u.oneCell'=true):Has (w.setCells b o L) b o L:=by
 intro j u hu
 grind [yn,World.cell?_setCells_in]
theorem Ev (h:bn P C A σ a w F) (dZ:∀ i T,E.TI i=some T->aq P T (.inl i)=true) {t:Nat} {y z:Operand} (ho:o.op=.store t y z) (hd:o.dst=none) (ap:bh P y=true/\bh P z=true) {mv:Bool} {K:St->Option R}
  (hk:AB E σ t (bi σ y) (bi σ z) mv K=some x):o.wp P a w (Nx P C K x) Q:=by
 unfold AB at hk
 obtain ⟨T,hT,hk⟩:=bM hk
 have cI:=dZ _ _ hT
 rcases bE h ap.1 with hs | ⟨xs,e⟩
 rotate_left
 ·grind
 split at hk
 ·rename_i r p snap hv
  rw[hv] at hs
  split at hk
  ·rename_i fW
   split at hk
   ·obtain ⟨pl,b,off,g1,g2,g3,g4⟩:=hs.2 fW
    rcases bE h ap.2 with hz | ⟨xs,e⟩
    rotate_left
    ·grind [ew]
    obtain ⟨A',σ',F',m,v,cs,Fv,k1,k2,k3,k4,kr,k5,k6⟩:=kj h hz hk
    obtain ⟨hr,m2,H2,v2,bf,rC,F2,q1,q2,q3,q4,q5,q6⟩:=rB k3 k1
    have de:rC=some (b,off):=by
     unfold place at g1 q2
     cases hR:bl w (tmp a r) (σ'.get r) with
     | none=>grind
     | some R1=>
      rw[hR] at q2
      obtain ⟨H0,oR⟩:=kr w (tmp a r) r R1 hR
      rw[oR] at g1
      have:=(NS p R1.t g1 q2).2.2
      grind
    subst de
    obtain ⟨qU,hY⟩:=q5 b off rfl
    have hl:=af.length _ k6
    have of:=af.length _ q3
    have g_:=af.one _ k6
    have N0:=af.one _ q3
    have A9:∀ j,j < cs.length->(w.cell? ⟨b,off+j,none⟩).isSome=true:=λj hj=>by
     rw[lc (qU j _ (List.getElem?_eq_getElem (by omega))) (N0 _ (List.getElem_mem _))];rfl
    have bs:=run_storeCells_cells (P:=P) b off cs 0 w (by simpa using A9) (λj hj=>by grind) g_
    have OL:(aZ T cs).cells.toList=cs:=dB hl g_
    have fk:(aZ T cs).cells.size=T.sz:=by grind
    have dD:(execOp a.eval o).run P w=.ok .skip (w.setCells b off cs):=by
     simp[execOp,ho,g3,k5,Instr.storeAt,Instr.sureAddr,storeVar,run_sizeOf cI,fk,OL,bs]
    refine A8 dD hd ?_
    have cH:af P (w.setCells b off cs) A' T m [] v cs Fv:=by
     refine af.mono (λ_ _ h=>h) (λb' i ha u hu=>?_) (fX (b:=b) (o:=off) cs w off).lW _ k6 (λ_ _=>Nat.le_refl _) (λb' i hp u hu=>?_)
     ·refine (fX (b:=b) (o:=off) cs w off).cell b' i (k3.dC b' i (.inr ha)) ?_ u hu
      have h1:=q4 b' i;have h2:=a_ F' hr b' i
      rcases Nat.eq_zero_or_pos (dL (some (b,off)) T.sz b' i) with h0 | h0
      ·rw[hl];exact h0
      ·exact absurd ha (k3.gI b' i (by omega))
     ·have h1:=q4 b' i;have h2:=a_ F' hr b' i;have h3:=k3.ge b' i
      refine (fX (b:=b) (o:=off) cs w off).cell b' i (k3.dC b' i (.inl (by omega))) ?_ u hu
      grind [dL]
    have bH:Ext w (w.setCells b off cs) (λb' i=>(0+Fv b' i)+(F2 b' i+dL (some (b,off)) T.sz b' i)):=(fX (b:=b) (o:=off) cs w off).mono λb' i hz=>by
     grind [dL]
    obtain ⟨A3,qv,Fr,n1,n2,n3,_⟩:=q6 (w.setCells b off cs) A' cs Fv (λ_ _=>0) bH (λ_ _ h=>h) (λ_ _ h=>.inl h) (λb i=>by omega) (λb' o' e=>by
      grind [mE]) (λe=>by cases e) cH
    exact ⟨qv,n1,A3,_,n3⟩
   ·cases hk
  ·cases hk
 ·cases hk
end
end OT
set_option linter.unusedVariables false
set_option linter.unusedSimpArgs false
namespace OT
open Go
section
variable {P:Program} {w:World} {A:Cells}
theorem Ew:∀ (p q:Path) (t:Ty) {H:List Path} {cs:List Value} {ad:Option (Nat×Nat)},aC w (p++q) t H cs ad=(aC w p t H cs ad).bind λpl=>aC w q pl.t pl.H pl.cs pl.ad:=by
 intro p
 induction p with
 | nil=>intro q t H cs ad;rfl
 | cons s p ih=>
  intro q t H cs ad
  cases t with
  | pair a b=>
   cases s <;> grind [aC]
  | aa e=>
   cases s with
   | idx i=>
    simp only[List.cons_append,aC]
    split
    ·rfl
    ·split
     all_goals grind
   | _=>simp[aC]
  | arr n e=>
   cases s <;> grind [aC]
  | _=>grind [aC]
theorem vT:∀ (p:Path) (t:Ty) {H:List Path} {cs:List Value} {ad:Option (Nat×Nat)} {pl:Pl},aC w p t H cs ad=some pl->qQ p t=some pl.t:=by
 intro p
 induction p with
 | nil=>intro t H cs ad pl h;simp only[aC,Option.some.injEq] at h;subst h;rfl
 | cons s p ih=>
  intro t H cs ad pl h
  cases t with
  | pair a b=>
   cases s with
   | fst=>simp only[aC] at h;split at h;cases h;exact ih a h
   | snd=>simp only[aC] at h;split at h;cases h;exact ih b h
   | _=>simp[aC] at h
  | aa e=>
   cases s with
   | idx i=>
    simp only[aC] at h
    split at h
    ·cases h
    ·split at h
     ·split at h
      ·exact ih e h
      ·cases h
     ·cases h
   | _=>simp[aC] at h
  | arr n e=>
   cases s with
   | hO i=>
    simp only[aC] at h
    split at h
    ·split at h
     ·exact ih e h
     ·cases h
    ·cases h
   | _=>simp[aC] at h
  | _=>grind [aC]
theorem KR:∀ (q:Path) (t:Ty) {m:Md} {H:List Path} {v:t.den} {cs:List Value} {F:FP} {ad:Option (Nat×Nat)} {pl:Pl},af P w A t m H v cs F->aC w q t H cs ad=some pl ->
  ∃ (m':Md) (v':pl.t.den) (F':FP),af P w A pl.t m' pl.H v' pl.cs F':=by
 intro q
 induction q with
 | nil=>grind [aC]
 | cons s q ih=>
  intro t m H v cs F ad pl hr h
  cases t with
  | pair a b=>
   obtain ⟨h0,F1,F2,hs,h1,h2⟩:=hr
   cases s <;> grind [aC]
  | aa e=>
   cases s with
   | idx i=>
    simp only[af] at hr
    simp only[aC] at h
    split at h
    ·cases h
    ·rename_i hh
     rw[if_neg hh] at hr
     split at hr
     ·obtain ⟨a,cap,rfl,h2,h3,h4,h5⟩:=hr
      cases a with
      | none=>cases h
      | some bR=>
       obtain ⟨g1,g2,g3,Fi,g4,g5⟩:=h5 bR rfl
       simp only at h
       split at h
       ·rename_i hi
        obtain ⟨L,hl,hL,cH⟩:=g5 i _ (List.getElem?_eq_getElem hi)
        rw[g1,Nat.zero_add,bB hL hl] at h
        grind
       ·cases h
     ·obtain ⟨rfl,jt,a,cap,rfl,h2,h3,h4⟩:=hr
      cases a with
      | none=>cases h
      | some bR=>
       simp only at h
       split at h
       ·rename_i hi
        obtain ⟨L,hl,hL,cH⟩:=(h4 bR rfl).2 i _ (List.getElem?_eq_getElem hi)
        rw[bB (λj u hu=>(hL j u hu).1) hl] at h
        exact ih e (Ro.rep e (λ_ _=>0) jt cH) h
       ·cases h
   | _=>simp[aC] at h
  | arr n e=>
   cases s with
   | hO i=>
    obtain ⟨rfl,hf,hl,hlen,hr⟩:=hr
    simp only[aC,List.isEmpty_nil,if_true] at h
    split at h
    ·rename_i hi
     exact ih e (Ro.flat e (m:=.leaf) (λ_ _=>0) hf (hr i _ (List.getElem?_eq_getElem (by grind)))) h
    ·cases h
   | _=>simp[aC] at h
  | _=>grind [aC]
def dn:Nat->Ty->Nat
 | j+1,.pair a b=>a.sz+dn j b
 | _,_=>0
theorem CD (ad:Option (Nat×Nat)):bZ ad 0=ad:=by simp_all [bZ]
theorem Ey (ad:Option (Nat×Nat)) (j k:Nat):bZ (bZ ad j) k=bZ ad (j+k):=by cases ad <;> simp[bZ,Nat.add_assoc]
theorem Dv:∀ (j:Nat) (S:Ty) {t':Ty} {m:Md} {H:List Path} {v:S.den} {cs:List Value} {F:FP} {ad:Option (Nat×Nat)},af P w A S m H v cs F->kA j S=some t' ->
  ∃ H',aC w (fD j) S H cs ad=some ⟨t',H',(cs.drop (dn j S)).take t'.sz,bZ ad (dn j S)⟩:=by
 intro j
 induction j with
 | zero=>
  intro S t' m H v cs F ad hr h
  cases S with
  | pair a b=>
   injection h with h;subst h
   obtain ⟨h0,F1,F2,hs,h1,h2⟩:=hr
   simp_all [fD,aC,dn,CD]
  | _=>cases h
 | succ j ih=>
  intro S t' m H v cs F ad hr h
  cases S with
  | pair a b=>
   obtain ⟨h0,F1,F2,hs,h1,h2⟩:=hr
   obtain ⟨H',e⟩:=ih b (ad:=bZ ad a.sz) h2 h
   grind [fD,aC,dn,List.drop_drop,Ey]
  | _=>cases h
theorem Il:∀ (j:Nat) (T:Ty) {t:Ty},qQ (fD j) T=some t->∃ t2,kA j T=some t2:=by
 intro j
 induction j with
 | zero=>intro T t h;cases T <;> first | exact ⟨_,rfl⟩ | grind [fD,qQ]
 | succ j ih=>intro T t h;cases T <;> first | (simp[fD,qQ] at h;done) | exact ih _ (by simpa [fD,qQ] using h)
theorem Dw:∀ (j:Nat) (S:Ty) {t':Ty} {fs:List Field} {off:Nat},aq P S (.inr (fs,off))=true->kA j S=some t' ->
  ∃ f,fs[j]?=some f/\f.offset=off+dn j S/\aq P t' (.inl f.type)=true/\1<=t'.sz:=by
 intro j
 induction j with
 | zero=>
  intro S t' fs off hl h
  cases S with
  | pair a b=>
   injection h with h;subst h
   cases fs <;> simp_all [aq,dn]
  | _=>cases h
 | succ j ih=>
  intro S t' fs off hl h
  cases S with
  | pair a b=>
   cases fs with
   | nil=>simp[aq] at hl
   | cons f r=>
    simp only[aq,Bool.and_eq_true,Nat.beq_eq,Nat.ble_eq] at hl
    obtain ⟨f',h1,h2,h3⟩:=ih b hl.2 h
    grind [dn]
  | _=>cases h
theorem wX {j:Nat} {S t':Ty} {i:TypeId} (hl:aq P S (.inl i)=true) (h:kA j S=some t') :
  ∃ fs f,P.underlying i=some (.struct fs)/\fs[j]?=some f/\f.offset=dn j S/\aq P t' (.inl f.type)=true/\1<=t'.sz:=by
 cases S with
 | pair a b=>
  simp only[aq,Bool.and_eq_true] at hl
  have h2:=hl.2
  split at h2
  ·rename_i fs hu
   split at h2
   ·rename_i f r wY
    have h3:aq P (.pair a b) (.inr (f::r,0))=true:=by
     grind [aq]
    grind [Dw]
   ·cases h2
  ·cases h2
 | _=>cases j <;> cases h
theorem kM {t:Ty} {i:TypeId} (h:aq P t (.inl i)=true) {cs:Array Value} {off:Nat} (hl:((cs.toList.drop off).take t.sz).length=t.sz):(part i cs off).run P w=.ok (aZ t ((cs.toList.drop off).take t.sz)) w:=by
 unfold part
 simp only[Sem.run_bind,zg h,Result.andThen_ok]
 cases ht:isAgg t with
 | true=>
  simp only[if_true,Sem.run_bind,run_sizeOf h,Result.andThen_ok,Sem.run_pure,aZ,ht]
  congr 2
  grind
 | false=>
  simp_all [A7,List.take_one,aZ]
end
section
variable {P:Program} {C:Ctx} {A:Cells} {X:FP} {σ:St} {a:Act} {w:World} {F:Nat->FP} {R:Type} {x:R} {Q:Exit->Act->World->Prop} {o:Oper} {E:Env}
theorem zi (h:Rel P C A X σ a w F) {r:Nat} {p:Path} {pl:Pl} (hp:place σ a w r p=some pl):∃ (m':Md) (v':pl.t.den) (F':FP),af P w A pl.t m' pl.H v' pl.cs F':=by
 have aE:=jO hp
 unfold place at hp
 cases hR:bl w (tmp a r) (σ.get r) with
 | none=>grind
 | some R0=>
  rw[hR] at hp
  obtain ⟨m0,v0,F1,q1,q2,q3,_⟩:=my (h.cj r aE) hR
  grind [KR]
theorem jD (r:Nat) (p q:Path):place σ a w r (p++q)=(place σ a w r p).bind λpl=>aC w q pl.t pl.H pl.cs pl.ad:=by
 unfold place
 cases bl w (tmp a r) (σ.get r) <;> grind [Ew]
theorem wZ {r:Nat} {p:Path} {pl:Pl} (hp:place σ a w r p=some pl):vN σ r p=some pl.t:=by
 unfold place at hp
 unfold vN AA
 cases hg:σ.get r with
 | own t m H v=>grind [bl,vT]
 | box t m H v=>
  rw[hg] at hp
  simp only[bl] at hp
  grind [vT]
 | _=>grind [bl]
theorem Im (p:Path) (j:Nat):bm (p++fD j)=bm p:=by
 induction p with
 | nil=>induction j <;> grind [fD,bm]
 | cons s p ih=>cases s <;> simp only[List.cons_append,bm,ih]
theorem zj {A':Cells}:∀ (j:Nat) (S:Ty) {v:S.den} {K:(t':Ty)->t'.den->Option R} {cs:List Value},Ec j S v K=some x->Ro P w A' S v cs ->
  ∃ t' v',kA j S=some t'/\K t' v'=some x/\Ro P w A' t' v' ((cs.drop (dn j S)).take t'.sz):=by
 intro j
 induction j with
 | zero=>
  intro S v K cs h hr
  cases S with
  | pair a b=>exact ⟨a,v.1,rfl,h,by simp only[dn,List.drop_zero];exact hr.1⟩
  | _=>cases h
 | succ j ih=>
  intro S v K cs h hr
  cases S with
  | pair a b=>
   obtain ⟨t',v',h1,h2,h3⟩:=ih b (v:=v.2) h hr.2
   exact ⟨t',v',h1,h2,by grind [dn,List.drop_drop]⟩
  | _=>cases h
theorem z8 (h:bn P C A σ a w F) {y:Operand} (ho:o.op=.nilCheck y) (ap:bh P y=true) {K:St->Option R}
  (hk:(match bi σ y with
  | .ptr r p snap=>if σ.ok r snap then K (σ.aH o.dst (.ptr r p snap)) else none
  | .cp t v=>K (σ.aH o.dst (.cp t v))
  | .val .fn f=>K (σ.aH o.dst (.val .fn f))
  | _=>none)=some x):Tk P o a w (Nx P C K x):=by
 rcases bE h ap with hs | ⟨xs,e⟩
 rotate_left
 ·grind
 split at hk
 ·rename_i r p snap hv
  rw[hv] at hs
  split at hk
  ·rename_i fW
   obtain ⟨pl,b,off,g1,g2,g3,g4⟩:=hs.2 fW
   exact bU (v:=a.eval y) (by simp[execOp,ho,g3]) (aP h hk hs (λ_ _ _ _ e=>by cases e))
  ·cases hk
 ·rename_i t v hv
  rw[hv] at hs
  obtain ⟨ad,h1,_⟩:=id hs
  simp only[List.cons.injEq,and_true] at h1
  exact bU (v:=a.eval y) (by simp[execOp,ho,h1]) (aP h hk hs (λ_ _ _ _ e=>by cases e))
 ·rename_i f hv
  rw[hv] at hs
  obtain ⟨cs,h1,qS,h2,_⟩:=id hs
  subst h2
  exact bU (v:=a.eval y) (by simp[execOp,ho,h1,aZ,isAgg]) (aP h hk hs (λ_ _ _ _ e=>by cases e))
 ·cases hk
theorem yw (h:bn P C A σ a w F) (dZ:∀ i T,E.TI i=some T->aq P T (.inl i)=true) {S:Nat} {y:Operand} {j:Nat} (ho:o.op=.fieldAddr S y j) (ap:bh P y=true) {K:St->Option R}
  (hk:rW E σ S (bi σ y) j o.dst K=some x):Tk P o a w (Nx P C K x):=by
 unfold rW at hk
 obtain ⟨T,hT,hk⟩:=bM hk
 have cI:=dZ _ _ hT
 have run:∀ t' b off,kA j T=some t'->a.eval y=.pointer (some ⟨b,off,none⟩)->∀ w',jP o w w'->(execOp a.eval o).run P w'=.ok (.value (.pointer (some ⟨b,off+dn j T,none⟩))) w':=λt' b off ht hy w' _=>by
  obtain ⟨fs,f,h1,h2,h3,h4,h5⟩:=wX cI ht
  have fk:=run_sizeOf (P:=P) (w:=w') h4
  have ci:¬ t'.sz=0:=by omega
  simp_all [execOp,Instr.fieldAt,Instr.sureAddr,run_underlying,fieldPlace,g0]
 rcases bE h ap with hs | ⟨xs,e⟩
 rotate_left
 ·grind
 split at hk
 ·rename_i t' v hv
  rw[hv] at hs
  split at hk
  ·rename_i e;subst e
   obtain ⟨⟨b,off,sp⟩,h1,h2,L,h3,h4,h5⟩:=hs
   simp only[List.cons.injEq,and_true] at h1
   simp only at h2;subst h2
   obtain ⟨t2,v2,q1,q2,q3⟩:=zj j t' hk h5
   refine bU (run t2 b off q1 h1) (aP h q2 ⟨_,rfl,rfl,_,Ro.length _ q3,λk u hu=>?_,q3⟩ (λ_ _ _ _ e=>by cases e))
   grind
  ·cases hk
 ·rename_i r p snap hv
  rw[hv] at hs
  split at hk
  ·rename_i fW
   split at hk
   ·rename_i pQ
    split at hk
    ·rename_i hf
     obtain ⟨pl,b,off,g1,g2,g3,g4⟩:=hs.2 fW
     rw[wZ g1] at pQ
     injection pQ with pQ
     obtain ⟨t',rD⟩:=Option.isSome_iff_exists.1 hf
     refine bU (run t' b off rD g3) (aP h hk ⟨hs.1,λ_=>?_⟩ (λ_ _ _ _ e=>by cases e))
     obtain ⟨m',v',F',cH⟩:=zi h g1
     obtain ⟨tp,Hp,L7,JN⟩:=pl
     simp only at pQ g2 cH
     subst pQ
     obtain ⟨H',e⟩:=Dv (ad:=JN) j tp cH rD
     grind [bZ,Im,jD]
    ·cases hk
   ·cases hk
  ·cases hk
 ·cases hk
theorem Ez (h:bn P C A σ a w F) (dZ:∀ i T,E.TI i=some T->aq P T (.inl i)=true) {S:Nat} {y:Operand} {j:Nat} (ho:o.op=.field S y j) (ap:bh P y=true) {K:St->Option R}
  (hk:ye E σ S (bi σ y) j o.dst K=some x):Tk P o a w (Nx P C K x):=by
 unfold ye at hk
 obtain ⟨T,hT,hk⟩:=bM hk
 have cI:=dZ _ _ hT
 have run:∀ t' cs,kA j T=some t'->a.eval y=aZ T cs->((cs.drop (dn j T)).take t'.sz).length=t'.sz->∀ w',jP o w w'->(execOp a.eval o).run P w'=.ok (.value (aZ t' ((cs.drop (dn j T)).take t'.sz))) w':=λt' cs ht hy hl w' _=>by
  obtain ⟨fs,f,h1,h2,h3,h4,h5⟩:=wX cI ht
  have S6:aZ T cs=.agg cs.toArray:=by cases T <;> first | rfl | (cases j <;> cases ht)
  have:=kM (P:=P) (w:=w') h4 (cs:=cs.toArray) (off:=dn j T) (by simpa using hl)
  simp_all [execOp,Instr.field,run_underlying,asAgg]
 rcases bE h ap with hs | ⟨xs,e⟩
 rotate_left
 ·grind
 split at hk
 ·rename_i t' v hv
  rw[hv] at hs
  split at hk
  ·rename_i e;subst e
   obtain ⟨cs,h1,h2⟩:=hs
   obtain ⟨t2,v2,q1,q2,q3⟩:=zj j t' hk h2
   exact bU (run t2 cs q1 h1 (Ro.length _ q3)) (aP h q2 ⟨_,rfl,q3⟩ (λ_ _ _ _ e=>by cases e))
  ·cases hk
 ·rename_i r p snap hv
  rw[hv] at hs
  split at hk
  ·rename_i fW
   split at hk
   ·rename_i pQ
    obtain ⟨hr,t',m',H',v',aJ,aY,F',h1,h2,h3,h4,h5,h6⟩:=d7 h hk
    obtain ⟨pl,g1,g2,g3⟩:=hs.2 fW
    rw[wZ g1] at pQ
    injection pQ with pQ
    obtain ⟨m0,v0,F0,cH⟩:=zi h g1
    obtain ⟨tp,Hp,L7,JN⟩:=pl
    simp only at pQ g2 cH
    subst pQ
    have hf:∃ t2,kA j tp=some t2:=by
     have h7:=h3
     rw[jD,g1] at h7
     exact Il j tp (vT _ _ h7)
    obtain ⟨t2,OM⟩:=hf
    obtain ⟨H2,e⟩:=Dv (ad:=JN) j tp cH OM
    have de:place σ a w r (p++fD j)=some ⟨t2,H2,(L7.drop (dn j tp)).take t2.sz,bZ JN (dn j tp)⟩:=by grind [jD]
    rw[de] at h3
    injection h3 with h3
    simp only[Pl.mk.injEq] at h3
    obtain ⟨rfl,rfl,rfl,rfl⟩:=h3
    refine bU (run t2 L7 OM g2 (af.length _ h4)) ?_
    split at h1
    ·rename_i hc
     split at h1
     ·rename_i hH
      have hH:=List.isEmpty_iff.1 hH;subst hH
      refine aP h h1 ⟨_,rfl,?_⟩ (λ_ _ _ _ e=>by cases e)
      grind [af.flat,af.ro,bQ]
     ·cases h1
    ·exact aP h h1 (sk h de) (λ_ _ _ _ e=>by cases e)
   ·cases hk
  ·cases hk
 ·cases hk
end
end OT
set_option linter.unusedVariables false
set_option linter.unusedSimpArgs false
namespace OT
open Go
section
variable {P:Program} {C:Ctx} {A:Cells} {X:FP} {σ:St} {a:Act} {w:World} {F:Nat->FP} {R:Type} {x:R} {Q:Exit->Act->World->Prop} {o:Oper} {E:Env}
theorem vU {n:Int} {len:Nat} {K:Nat->Option R} (h:FR n len K=some x):0<=n/\n < (len:Int)/\K n.toNat=some x:=by
 grind [FR]
theorem bind_some {α:Type} {o:Option α} {K:α->Option R} (h:o.bind K=some x):∃ y,o=some y/\K y=some x:=by
 cases o <;> grind
theorem kx {e:Ty} {i:TypeId} (h:aq P (.aa e) (.inl i)=true):∃ el,P.underlying i=some (.slice el)/\1<=e.sz/\aq P e (.inl el)=true:=by
 grind [aq,Nat.ble_eq]
theorem Dx {n:Nat} {e:Ty} {i:TypeId} (h:aq P (.arr n e) (.inl i)=true):∃ el,P.underlying i=some (.array n el)/\1<=e.sz/\aq P e (.inl el)=true:=by
 grind [aq,Nat.ble_eq,Nat.beq_eq]
theorem eP {i:TypeId} (h:aq P .str (.inl i)=true):P.underlying i=some .string:=by
 grind [aq]
theorem gT {k:IntKind} {i:TypeId} (h:aq P (.int k) (.inl i)=true):P.underlying i=some (.int k):=by
 grind [aq]
theorem CE (p q:Path):bm (p++q)=bm p+bm q:=by
 induction p with
 | nil=>simp[bm]
 | cons s p ih=>cases s <;> simp only[List.cons_append,bm,ih] <;> omega
theorem w9 (h:Rel P C A X σ a w F) {r:Nat} {p:Path} {pl:Pl} {b off:Nat} (hp:place σ a w r p=some pl) (di:pl.ad=some (b,off)):rA σ a w (.pointer (some ⟨b,off,none⟩)) r p (lV σ r p):=by
 have h5:=h.ei r
 refine ⟨?_,λ_=>⟨pl,b,off,hp,di,rfl,by grind [lV]⟩⟩
 unfold lV
 intro j y hj;grind
theorem yx (h:bn P C A σ a w F) (dZ:∀ i T,E.TI i=some T->aq P T (.inl i)=true) {t:Nat} {y z:Operand} (ho:o.op=.indexAddr t y z) (ap:bh P y=true/\bh P z=true) {K:St->Option R}
  (hk:rX E σ t (bi σ y) (bi σ z) o.dst K=some x):Tk P o a w (Nx P C K x):=by
 unfold rX at hk
 obtain ⟨T,hT,hk⟩:=bM hk
 have cI:=dZ _ _ hT
 rcases bE h ap.2 with hz | ⟨xs,e⟩
 rotate_left
 ·rw[e] at hk;cases hk
 obtain ⟨kz,n,Dy,hk⟩:=lZ hz hk
 have tN:∀ e ad len cap,T=.aa e->a.eval y=.slice (some ad) len cap->ad.spot=none->0<=n->n < (len:Int)->∀ w',jP o w w'->(execOp a.eval o).run P w'=.ok (.value (.pointer (some ⟨ad.block,ad.off+n.toNat*e.sz,none⟩))) w':=λe ad len cap iP hy i7 h0 h1 w' _=>by
  subst iP
  obtain ⟨el,hu,_,hle⟩:=kx cI
  obtain ⟨b,off,sp⟩:=ad
  simp only at i7;subst i7
  have fk:=run_sizeOf (P:=P) (w:=w') hle
  simp[execOp,ho,hy,Dy,Instr.indexAt,asIntOf,run_underlying hu,h0,h1,fk,g0]
 have L8:∀ m e b off,T=.arr m e->a.eval y=.pointer (some ⟨b,off,none⟩)->0<=n->n < (m:Int)->∀ w',jP o w w'->(execOp a.eval o).run P w'=.ok (.value (.pointer (some ⟨b,off+n.toNat*e.sz,none⟩))) w':=λm e b off iP hy h0 h1 w' _=>by
  subst iP
  obtain ⟨el,hu,_,hle⟩:=Dx cI
  have fk:=run_sizeOf (P:=P) (w:=w') hle
  simp[execOp,ho,hy,Dy,Instr.indexAt,asIntOf,run_underlying hu,h0,h1,fk,g0,Instr.sureAddr]
 have QS:∀ (e:Ty) (v:List e.den) (tv:Value) (yv:e.den),T=.aa e->a.eval y=tv->Ro P w A (.aa e) v [tv]->0<=n->v[n.toNat]?=some yv->K (σ.aH o.dst (.cp e yv))=some x->Tk P o a w (Nx P C K x):=λe v tv yv iP hy kL h0 tO hk=>by
  obtain ⟨xa,cap,h1,h2,h3,h4⟩:=kL
  simp only[List.cons.injEq,and_true] at h1
  subst h1
  have aE:=(List.getElem?_eq_some_iff.1 tO).1
  cases xa with
  | none=>grind
  | some ad=>
   obtain ⟨g1,g2⟩:=h4 ad rfl
   obtain ⟨L,l1,l2,l3⟩:=g2 _ _ tO
   exact bU (tN e ad _ cap iP hy (g1 (by omega)) h0 (by omega)) (aP h hk ⟨_,rfl,rfl,L,l1,l2,l3⟩ (λ_ _ _ _ e=>by cases e))
 rcases bE h ap.1 with hs | ⟨xs,e⟩
 rotate_left
 ·grind
 split at hk
 ·rename_i e v hv
  rw[hv] at hs
  split at hk
  ·rename_i iP
   split at hk
   ·rename_i h0
    obtain ⟨yv,tO,hk⟩:=bind_some hk
    obtain ⟨cs,h1,h2⟩:=hs
    have hl:=Ro.length _ h2
    match cs,hl with
    | [tv],_=>exact QS e v tv yv iP (by rw[h1,bp _ _ rfl]) h2 h0 tO hk
   ·cases hk
  ·cases hk
 ·rename_i m e v hv
  rw[hv] at hs
  split at hk
  ·rename_i iP
   split at hk
   ·rename_i h0
    obtain ⟨yv,tO,hk⟩:=bind_some hk
    obtain ⟨⟨b,off,sp⟩,h1,h2,L,h3,h4,h5⟩:=hs
    simp only[List.cons.injEq,and_true] at h1
    simp only at h2;subst h2
    obtain ⟨q1,q2,q3,q4⟩:=h5
    have aE:n.toNat < m:=q2 ▸ (List.getElem?_eq_some_iff.1 tO).1
    have kL:=q4 _ _ tO
    refine bU (L8 m e b off iP h1 h0 (by omega)) (aP h hk ⟨_,rfl,rfl,_,Ro.length _ kL,λk u hu=>?_,kL⟩ (λ_ _ _ _ e=>by cases e))
    grind
   ·cases hk
  ·cases hk
 ·rename_i r p snap hv
  rw[hv] at hs
  split at hk
  ·rename_i fW
   obtain ⟨hr,t',m',H',v',aJ,aY,F',h1,h2,h3,h4,h5,h6⟩:=d7 h hk
   obtain ⟨pl,g1,g2,g3⟩:=hs.2 fW
   rw[h3] at g1
   injection g1 with g1
   subst g1
   simp only at g2
   split at h1
   ·cases h1
   ·rename_i hH
    have hH:hole H'=false:=Bool.eq_false_iff.2 hH
    split at h1
    ·rename_i iP
     split at h1
     ·rename_i e Dz
      have hl:=af.length _ h4
      split at h1
      ·rename_i cz
       obtain ⟨i0,i1,h1⟩:=vU h1
       have cH:=h4
       simp only[af,hH,Bool.false_eq_true,if_false,cz,if_true] at cH
       obtain ⟨xa,cap,rfl,q2,q3,q4,q5⟩:=cH
       cases xa with
       | none=>grind
       | some bR=>
        obtain ⟨r1,r2,r3,Fi,r4,r5⟩:=q5 bR rfl
        rw[bp _ _ rfl] at g2
        have aE:n.toNat < List.length Dz:=by omega
        refine bU (tN e bR _ cap iP.symm g2 r2 i0 i1) (aP h h1 (w9 (pl:=⟨e,H'.filterMap (dA n.toNat),rd w bR.block (bR.off+n.toNat*e.sz) e.sz,some (bR.block,bR.off+n.toNat*e.sz)⟩) h ?_ rfl) (λ_ _ _ _ e=>by cases e))
        grind [jD,aC]
      ·rename_i cz
       split at h1
       ·rename_i h0
        obtain ⟨yv,tO,h1⟩:=bind_some h1
        have cH:=h4
        simp only[af,hH,Bool.false_eq_true,if_false,cz] at cH
        match aJ,hl with
        | [tv],_=>
         rw[bp _ _ rfl] at g2
         grind
       ·cases h1
     ·cases h1
    ·cases h1
  ·cases hk
 ·rename_i r p snap lo hi hv
  rw[hv] at hs
  split at hk
  ·rename_i fW
   obtain ⟨hr,t',m',H',v',aJ,aY,F',h1,h2,h3,h4,h5,h6⟩:=d7 h hk
   obtain ⟨pl,e,xa,len,cap,lG,cap',g1,g2,g3,g4,g5,g6,g7,Dr,g8,g9,g10⟩:=hs.2 fW
   rw[h3] at g1
   injection g1 with g1
   subst g1
   simp only at g2 g3
   subst g2;subst g3
   split at h1
   ·cases h1
   ·rename_i hH
    have hH:hole H'=false:=Bool.eq_false_iff.2 hH
    split at h1
    ·rename_i iP
     obtain ⟨i0,i1,h1⟩:=vU h1
     have pL:∃ bR,xa=some bR/\bR.spot=none:=by
      simp only[af,hH,Bool.false_eq_true,if_false] at h4
      cases xa with
      | none=>
       split at h4
       ·grind
       ·obtain ⟨_,_,L9,yy,q1,q2,q3,_⟩:=h4
        grind
      | some bR=>
       refine ⟨bR,rfl,?_⟩
       split at h4
       ·grind
       ·obtain ⟨_,_,L9,yy,q1,q2,q3,q4⟩:=h4
        grind
     obtain ⟨bR,rfl,i7⟩:=pL
     obtain ⟨vh,e1,e2,e3,e4⟩:=g9 bR rfl
     subst e1
     have e4:=e4 (by omega)
     refine bU (tN e vh _ cap' iP.symm g6 (e2.trans i7) i0 i1) ?_
     have A_:(⟨vh.block,vh.off+n.toNat*e.sz,none⟩:Addr)=⟨bR.block,bR.off+(lo+n.toNat)*e.sz,none⟩:=by
      grind
     rw[A_]
     have aE:lo+n.toNat < len:=by omega
     refine aP h h1 (w9 (pl:=⟨e,H'.filterMap (dA (lo+n.toNat)),rd w bR.block (bR.off+(lo+n.toNat)*e.sz) e.sz,some (bR.block,bR.off+(lo+n.toNat)*e.sz)⟩) h ?_ rfl) (λ_ _ _ _ e=>by cases e)
     grind [jD,aC]
    ·cases h1
  ·cases hk
 ·rename_i r p snap hv
  rw[hv] at hs
  split at hk
  ·rename_i fW
   obtain ⟨hr,t',m',H',v',aJ,aY,F',h1,h2,h3,h4,h5,h6⟩:=d7 h hk
   obtain ⟨pl,b,off,g1,g2,g3,g4⟩:=hs.2 fW
   rw[h3] at g1
   injection g1 with g1
   subst g1
   simp only at g2
   subst g2
   split at h1
   ·rename_i iP
    split at h1
    ·rename_i m e Dz
     obtain ⟨i0,i1,h1⟩:=vU h1
     obtain ⟨hH,hf,hl,hlen,kL⟩:=h4
     subst hH
     have aE:n.toNat < m:=by omega
     refine bU (L8 m e b off iP.symm g3 i0 (by omega)) (aP h h1 ⟨hs.1,λ_=>⟨⟨e,[],(aJ.drop (n.toNat*e.sz)).take e.sz,some (b,off+n.toNat*e.sz)⟩,b,off+n.toNat*e.sz,?_,rfl,rfl,?_⟩⟩ (λ_ _ _ _ e=>by cases e))
     ·grind [jD,aC,bZ]
     ·rw[CE];exact g4
    ·cases h1
   ·cases h1
  ·cases hk
 ·cases hk
end
end OT
set_option linter.unusedVariables false
set_option linter.unusedSimpArgs false
namespace OT
open Go
section
variable {P:Program} {C:Ctx} {A:Cells} {X:FP} {σ:St} {a:Act} {w:World} {F:Nat->FP} {R:Type} {x:R} {Q:Exit->Act->World->Prop} {o:Oper} {E:Env}
theorem Gm (s:List UInt8) (n:Nat):(⟨s.toArray⟩:ByteArray)[n]?=s[n]?:=by
 by_cases h:n < s.length
 ·have h1:n < (⟨s.toArray⟩:ByteArray).size:=by simpa [ByteArray.size] using h
  rw[getElem?_pos _ n h1,List.getElem?_eq_getElem h]
  rfl
 grind [ByteArray.size]
theorem EA (h:bn P C A σ a w F) (dZ:∀ i T,E.TI i=some T->aq P T (.inl i)=true) {t:Nat} {y z:Operand} (ho:o.op=.index t y z) (ap:bh P y=true/\bh P z=true) {K:St->Option R}
  (hk:AC E σ t (bi σ y) (bi σ z) o.dst K=some x):Tk P o a w (Nx P C K x):=by
 unfold AC at hk
 have DA:=bM hk
 clear hk
 obtain ⟨T,hT,fg⟩:=DA
 have cI:=dZ _ _ hT
 rcases bE h ap.2 with hz | ⟨xs,e⟩
 rotate_left
 ·rw[e] at fg;cases fg
 have QT:=lZ hz fg
 clear fg
 obtain ⟨kz,n,Dy,hk⟩:=QT
 rcases bE h ap.1 with hs | ⟨xs,e⟩
 rotate_left
 ·grind
 split at hk
 ·rename_i s hv
  rw[hv] at hs
  split at hk
  ·rename_i iP;subst iP
   split at hk
   ·rename_i h0
    obtain ⟨c,hc,hk⟩:=bind_some hk
    obtain ⟨cs,h1,h2⟩:=hs
    simp only[Ro] at h2;subst h2
    have hb:=Gm s n.toNat
    rw[hc] at hb
    refine bU (v:=.int .u8 c.toNat) ?_ (aP h hk ⟨[_],rfl,rfl⟩ (λ_ _ _ _ e=>by cases e))
    simp[execOp,ho,h1,aZ,isAgg,Dy,Instr.index,asIntOf,run_underlying (eP cI),h0,hb]
   ·cases hk
  ·cases hk
 ·rename_i m e v hv
  rw[hv] at hs
  split at hk
  ·rename_i iP;subst iP
   split at hk
   ·rename_i h0
    obtain ⟨yv,tO,hk⟩:=bind_some hk
    obtain ⟨cs,h1,h2⟩:=hs
    obtain ⟨q1,q2,q3,q4⟩:=id h2
    obtain ⟨el,hu,_,hle⟩:=Dx cI
    have aE:n.toNat < m:=q2 ▸ (List.getElem?_eq_some_iff.1 tO).1
    have sf:n < (m:Int):=by omega
    have kL:=q4 _ _ tO
    refine bU (v:=aZ e ((cs.drop (n.toNat*e.sz)).take e.sz)) (λw' _=>?_) (aP h hk ⟨_,rfl,kL⟩ (λ_ _ _ _ e=>by cases e))
    have hp:=kM (P:=P) (w:=w') hle (cs:=cs.toArray) (off:=n.toNat*e.sz) (by grind [Ro.length])
    simp only[List.toList_toArray] at hp
    have fk:=run_sizeOf (P:=P) (w:=w') hle
    simp_all [execOp,aZ,isAgg,Instr.index,asIntOf,run_underlying]
   ·cases hk
  ·cases hk
 ·cases hk
theorem pR {t:Ty} {m:Md} {H:List Path} {e:Ty} {v:List e.den} {cs:List Value} {G:FP} (h:af P w A (.aa e) m H v cs G) (hH:hole H=false) :
  ∃ xa cap,cs=[.slice xa (List.length v) cap]/\List.length v<=cap/\(xa=none->List.length v=0):=by
 simp only[af,hH,Bool.false_eq_true,if_false] at h
 split at h
 ·grind
 ·obtain ⟨_,_,xa,cap,q1,q2,q3,q4⟩:=h
  grind
theorem pS {t:Nat} {y:Operand} (ho:o.op=.call { callee:=.builtin .len,args:=#[y],argTypes:=#[t] }) :
  (execOp a.eval o).run P w=((Builtin.len_ #[t] o.type #[a.eval y]).run P w).andThen λv w'=>.ok (.value v) w':=by
 simp_all [execOp,resolve,invoke,builtin]
theorem In (h:bn P C A σ a w F) (dZ:∀ i T,E.TI i=some T->aq P T (.inl i)=true) {t:Nat} {y:Operand} (ho:o.op=.call { callee:=.builtin .len,args:=#[y],argTypes:=#[t] }) (ap:bh P y=true) {K:St->Option R}
  (hk:Ie E σ t (bi σ y) (λn=>K (σ.aH o.dst (.val (.int .i64) (n:Int))))=some x):Tk P o a w (Nx P C K x):=by
 unfold Ie at hk
 obtain ⟨T,hT,hk⟩:=bM hk
 have cI:=dZ _ _ hT
 rcases bE h ap with hs | ⟨xs,e⟩
 rotate_left
 ·grind
 have fin:∀ n:Nat,K (σ.aH o.dst (.val (.int .i64) (n:Int)))=some x->Nx P C K x (a.put o.dst (.int .i64 (n:Int))) w:=λn hk=>aP h hk ⟨[_],rfl,rfl⟩ (λ_ _ _ _ e=>by cases e)
 split at hk
 ·split at hk
  ·rename_i s hv
   rw[hv] at hs
   obtain ⟨cs,h1,h2⟩:=hs
   simp only[Ro] at h2;subst h2
   refine bU (v:=.int .i64 (s.length:Int)) (λw' _=>?_) (fin _ hk)
   have e:a.eval y=.string ⟨List.toArray s⟩:=h1
   have e2:(⟨List.toArray s⟩:ByteArray).size=s.length:=rfl
   rw[pS ho,e]
   unfold Builtin.len_
   simp only[List.getElem?_toArray,List.getElem?_cons_zero,Sem.run_bind,run_underlying (eP cI),Result.andThen_ok,Sem.run_pure,goInt,e2]
  ·cases hk
 ·rename_i e
  obtain ⟨el,hu,_,hle⟩:=kx cI
  have run:∀ xa n cap,a.eval y=.slice xa n cap->∀ w',jP o w w'->(execOp a.eval o).run P w'=.ok (.value (.int .i64 (n:Int))) w':=λxa n cap hy w' _=>by
   rw[pS ho]
   simp[Builtin.len_,hy,run_underlying hu,goInt]
  split at hk
  ·rename_i e' v hv
   rw[hv] at hs
   obtain ⟨cs,h1,xa,cap,h2,_⟩:=hs
   subst h2
   exact bU (run xa _ cap h1) (fin _ hk)
  ·rename_i hv
   rw[hv] at hs
   exact bU (run none 0 0 hs) (fin _ hk)
  ·rename_i r p snap hv
   rw[hv] at hs
   split at hk
   ·rename_i fW
    obtain ⟨hr,t',m',H',v',aJ,aY,F',h1,h2,h3,h4,h5,h6⟩:=d7 h hk
    obtain ⟨pl,g1,g2,g3⟩:=hs.2 fW
    rw[h3] at g1
    injection g1 with g1
    subst g1
    simp only at g2
    split at h1
    ·cases h1
    ·rename_i hH
     have hH:hole H'=false:=Bool.eq_false_iff.2 hH
     split at h1
     ·rename_i e' Dz
      obtain ⟨xa,cap,q1,q2,q3⟩:=pR (t:=.unit) h4 hH
      subst q1
      exact bU (run xa _ cap g2) (fin _ h1)
     ·cases h1
   ·cases hk
  ·rename_i r p snap lo hi hv
   rw[hv] at hs
   split at hk
   ·rename_i fW
    obtain ⟨pl,e',xa,len,cap,lG,cap',g1,g2,g3,g4,g5,g6,g7,Dr,g8,g9,g10⟩:=hs.2 fW
    grind [bU]
   ·cases hk
  ·cases hk
 ·cases hk
theorem Gn {len cap:Nat} {lo hi:Option Operand} {K:Nat->Nat->Option R} (hJ:len<=cap) (A6:∀ y,lo=some y->aW P A σ a w (a.eval y) (bi σ y) (λ_ _=>0)) (QU:∀ y,hi=some y->aW P A σ a w (a.eval y) (bi σ y) (λ_ _=>0))
  (hk:kw len (lo.map (bi σ)) (hi.map (bi σ)) K=some x):∃ l h,l<=h/\h<=len/\K l h=some x/\(∀ w',(Instr.sliceBounds true len cap (lo.map a.eval) (hi.map a.eval) none).run P w'=.ok (l,h,cap) w') /\
   (len=cap->∀ w',(Instr.sliceBounds false len cap (lo.map a.eval) (hi.map a.eval) none).run P w'=.ok (l,h,cap) w'):=by
 have dC:∀ (k:IntKind) (i:Int) (y:Nat) code,0<=i->i<=(y:Int)->∀ w',(Instr.sliceBound (.int k i) y code).run P w'=.ok i.toNat w':=λk i y code h0 h1 w'=>run_sliceBound w' k i y code h0 h1
 have two:∀ (Gp kg:Option Value) (l h:Nat),(Gp=none/\l=0\/∃ k n,Gp=some (.int k n)/\0<=n/\n<=(h:Int)/\l=n.toNat)->(kg=none/\h=len\/∃ k n,kg=some (.int k n)/\0<=n/\n<=(len:Int)/\h=n.toNat) ->
   (∀ w',(Instr.sliceBounds true len cap Gp kg none).run P w'=.ok (l,h,cap) w')/\(len=cap->∀ w',(Instr.sliceBounds false len cap Gp kg none).run P w'=.ok (l,h,cap) w'):=λGp kg l h h1 h2=>by
  rcases h2 with ⟨rfl,rfl⟩ | ⟨k2,n2,rfl,b1,b2,rfl⟩
  ·rcases h1 with ⟨rfl,rfl⟩ | ⟨k1,n1,rfl,J,a2,rfl⟩
   ·simp_all [Instr.sliceBounds]
   ·exact ⟨by simp_all [Instr.sliceBounds],λ_=>by simp_all [Instr.sliceBounds]⟩
  ·have c1:=dC k2 n2 cap .sliceAcap b1 (by omega)
   have c2:=dC k2 n2 cap .sliceAlen b1 (by omega)
   rcases h1 with ⟨rfl,rfl⟩ | ⟨k1,n1,rfl,J,a2,rfl⟩
   all_goals simp_all [Instr.sliceBounds]
 unfold kw at hk
 cases lo with
 | none=>
  cases hi <;> grind [lZ]
 | some yl=>
  cases hi <;> grind [lZ]
theorem z9 (s:List UInt8) (l h:Nat) (hl:l<=h) (hh:h<=s.length):(⟨s.toArray⟩:ByteArray).extract l h=⟨((s.take h).drop l).toArray⟩:=by
 apply ByteArray.ext
 grind [ByteArray.data_extract]
theorem EB (h:bn P C A σ a w F) (dZ:∀ i T,E.TI i=some T->aq P T (.inl i)=true) {t:Nat} {y:Operand} {lo hi:Option Operand} (ho:o.op=.slice t y lo hi none)
  (ap:bh P y=true/\(∀ z,lo=some z->bh P z=true)/\(∀ z,hi=some z->bh P z=true)) {K:St->Option R}
  (hk:AD E σ t (bi σ y) (lo.map (bi σ)) (hi.map (bi σ)) o.dst K=some x):Tk P o a w (Nx P C K x):=by
 unfold AD at hk
 have DA:=bM hk
 clear hk
 obtain ⟨T,hT,hk⟩:=DA
 have cI:=dZ _ _ hT
 have JO:∀ z,bh P z=true->(∀ xs,bi σ z≠.iK xs)->aW P A σ a w (a.eval z) (bi σ z) (λ_ _=>0):=λz hz hn=>by
  grind [bE]
 have bound:∀ (len cap:Nat) (K':Nat->Nat->Option R),len<=cap->kw len (lo.map (bi σ)) (hi.map (bi σ)) K'=some x->∃ l h,l<=h/\h<=len/\K' l h=some x/\(∀ w',(Instr.sliceBounds true len cap (lo.map a.eval) (hi.map a.eval) none).run P w'=.ok (l,h,cap) w') /\
   (len=cap->∀ w',(Instr.sliceBounds false len cap (lo.map a.eval) (hi.map a.eval) none).run P w'=.ok (l,h,cap) w'):=λlen cap K' hc hb=>by
  refine Gn hc (λz hz=>JO z (ap.2.1 z hz) λxs e=>?_) (λz hz=>JO z (ap.2.2 z hz) λxs e=>?_) hb
  ·subst hz
   unfold kw at hb
   grind [lP]
  ·subst hz
   unfold kw at hb
   cases lo with
   | none=>grind [lP]
   | some yl=>
    simp only[Option.map_some,e] at hb
    unfold lP at hb
    grind
 have tN:∀ e xa len cap l h,T=.aa e->a.eval y=.slice xa len cap->l<=cap->(∀ ad,xa=some ad->0 < cap->ad.spot=none)->(∀ w',(Instr.sliceBounds true len cap (lo.map a.eval) (hi.map a.eval) none).run P w'=.ok (l,h,cap) w') ->
   ∀ w',jP o w w'->(execOp a.eval o).run P w'=.ok (.value (.slice (if cap=l then xa else xa.map λad=>⟨ad.block,ad.off+l*e.sz,none⟩) (h - l) (cap - l))) w':=λe xa len cap l h iP hy ON i7 hb w' _=>by
  have hb:=hb w'
  subst iP
  obtain ⟨el,hu,_,hle⟩:=kx cI
  have fk:=run_sizeOf (P:=P) (w:=w') hle
  unfold execOp
  simp only[ho,Option.map_none,Instr.sliceAt,Instr.slice,Sem.run_bind,run_underlying hu,Result.andThen_ok,hy,hb,fk,Sem.run_pure]
  by_cases rE:cap=l
  ·simp[rE]
  ·congr 4
   cases xa with
   | none=>rfl
   | some ad=>
    obtain ⟨b,off,sp⟩:=ad
    grind [g0]
 have addr:∀ (xa:Option Addr) (cap l h n:Nat) (e:Ty),l<=h->h<=n->n<=cap->(∀ ad,xa=some ad->0 < cap->ad.spot=none) ->
   (xa=none->(if cap=l then xa else xa.map λad=>⟨ad.block,ad.off+l*e.sz,none⟩)=none) /\
   (∀ ad,xa=some ad->∃ aY,(if cap=l then xa else xa.map λad=>⟨ad.block,ad.off+l*e.sz,none⟩)=some aY/\aY.spot=ad.spot/\aY.block=ad.block/\(l < h->aY.off=ad.off+l*e.sz)) /\
   (l=0->(if cap=l then xa else xa.map λad=>(⟨ad.block,ad.off+l*e.sz,none⟩:Addr))=xa):=λxa cap l h n e h1 h2 h3 i7=>by
  refine ⟨λe=>by grind,λad e=>?_,λe0=>?_⟩
  ·grind
  ·subst e0
   split
   ·rfl
   ·cases xa with
    | none=>rfl
    | some ad=>
     obtain ⟨b,off,sp⟩:=ad
     grind
 have JP:∀ {e:Ty} {v:List e.den} {m:Md} {H:List Path} {xa n cap} {G:FP},af P w A (.aa e) m H v [.slice xa n cap] G->hole H=false->∀ ad,xa=some ad->0 < cap->ad.spot=none:=λ{e v m H xa n cap G} cH hH ad Gg vV=>by
  simp only[af,hH,Bool.false_eq_true,if_false] at cH
  split at cH
  ·grind
  ·obtain ⟨_,_,L9,yy,q1,q2,q3,q4⟩:=cH
   grind
 rcases bE h ap.1 with hs | ⟨xs,e⟩
 rotate_left
 ·grind
 split at hk
 ·rename_i s hv
  rw[hv] at hs
  split at hk
  ·rename_i iP
   have JQ:=cI
   rw[iP] at JQ
   obtain ⟨l,h',b1,b2,hk,b3,b4⟩:=bound s.length s.length _ (Nat.le_refl _) hk
   obtain ⟨cs,h1,h2⟩:=hs
   simp only[Ro] at h2;subst h2
   have e1:a.eval y=.string ⟨List.toArray s⟩:=h1
   have e2:(⟨List.toArray s⟩:ByteArray).size=s.length:=rfl
   refine bU (v:=.string ⟨((s.take h').drop l).toArray⟩) (λw' _=>?_) (aP h hk ⟨[_],rfl,rfl⟩ (λ_ _ _ _ e=>by cases e))
   unfold execOp
   simp only[ho,Option.map_none,Instr.sliceAt,Instr.slice,Sem.run_bind,run_underlying (eP JQ),Result.andThen_ok,e1,Option.isSome_none,Bool.false_eq_true,if_false,e2,b4 rfl w',Sem.run_pure,z9 s l h' b1 b2]
  ·cases hk
 ·rename_i e v hv
  rw[hv] at hs
  split at hk
  ·rename_i iP
   obtain ⟨cs,h1,h2⟩:=hs
   obtain ⟨xa,cap,q1,q2,q3,q4⟩:=id h2
   subst q1
   rw[bp _ _ rfl] at h1
   obtain ⟨l,h',b1,b2,hk,b3,_⟩:=bound (List.length v) cap _ q2 hk
   obtain ⟨r1,r2,r3⟩:=addr xa cap l h' _ e b1 b2 q2 (λad e=>(q4 ad e).1)
   exact bU (tN e xa _ cap l h' iP h1 (by omega) (λad e=>(q4 ad e).1) b3) (aP h hk ⟨_,(bp (.aa e) _ rfl).symm,Ro.piece h2 b1 b2 (by omega) r1 r2⟩ (λ_ _ _ _ e=>by cases e))
  ·cases hk
 ·rename_i r p snap hv
  rw[hv] at hs
  split at hk
  ·rename_i fW
   obtain ⟨hr,t',m',H',v',aJ,aY,F',h1,h2,h3,h4,h5,h6⟩:=d7 h hk
   obtain ⟨pl,g1,g2,g3⟩:=hs.2 fW
   rw[h3] at g1
   injection g1 with g1
   subst g1
   simp only at g2 g3
   split at h1
   ·cases h1
   ·rename_i hH
    have hH:hole H'=false:=Bool.eq_false_iff.2 hH
    split at h1
    ·rename_i iP
     split at h1
     ·rename_i e Dz
      obtain ⟨xa,cap,q1,q2,q3⟩:=pR (t:=.unit) h4 hH
      subst q1
      rw[bp _ _ rfl] at g2
      have i7:=JP h4 hH
      split at h1
      ·obtain ⟨l,h',b1,b2,h1,b3,_⟩:=bound (List.length Dz) cap _ q2 h1
       obtain ⟨r1,r2,r3⟩:=addr xa cap l h' _ e b1 b2 q2 i7
       refine bU (tN e xa _ cap l h' iP.symm g2 (by omega) i7 b3) (aP h h1 ⟨hs.1,λ_=>⟨_,e,xa,_,cap,_,cap - l,h3,rfl,rfl,b1,b2,rfl,by omega,r3,r1,r2,?_⟩⟩ (λ_ _ _ _ e=>by cases e))
       grind
      ·rename_i cz
       obtain ⟨l,h',b1,b2,h1,b3,_⟩:=bound (List.length Dz) cap _ q2 h1
       obtain ⟨r1,r2,r3⟩:=addr xa cap l h' _ e b1 b2 q2 i7
       simp only[af,hH,Bool.false_eq_true,if_false,cz] at h4
       exact bU (tN e xa _ cap l h' iP.symm g2 (by omega) i7 b3) (aP h h1 ⟨_,(bp (.aa e) _ rfl).symm,Ro.piece h4.2.2 b1 b2 (by omega) r1 r2⟩ (λ_ _ _ _ e=>by cases e))
     ·cases h1
    ·cases h1
  ·cases hk
 ·rename_i r p snap l0 h0 hv
  rw[hv] at hs
  split at hk
  ·rename_i fW
   obtain ⟨hr,t',m',H',v',aJ,aY,F',h1,h2,h3,h4,h5,h6⟩:=d7 h hk
   obtain ⟨pl,e,xa,n,cap,lG,cap',g1,g2,g3,g4,g5,g6,g7,Dr,g8,g9,g10⟩:=hs.2 fW
   have Tq:=g1
   rw[h3] at g1
   injection g1 with g1
   subst g1
   simp only at g2 g3
   subst g2;subst g3
   split at h1
   ·cases h1
   ·rename_i hH
    have hH:hole H'=false:=Bool.eq_false_iff.2 hH
    split at h1
    ·rename_i iP
     obtain ⟨L9,yy,q1,q2,q3⟩:=pR (t:=.unit) h4 hH
     simp only[List.cons.injEq,Value.slice.injEq,and_true] at q1
     obtain ⟨rfl,rfl,rfl⟩:=q1
     have i7:=JP h4 hH
     have L_:∀ ad,lG=some ad->0 < cap'->ad.spot=none:=λad e' vV=>by
      cases Gg:xa <;> grind
     obtain ⟨l,h',b1,b2,h1,b3,_⟩:=bound (h0 - l0) cap' _ (by omega) h1
     obtain ⟨r1,r2,r3⟩:=addr lG cap' l h' _ e b1 b2 (by omega) L_
     refine bU (tN e lG _ cap' l h' iP.symm g6 (by omega) L_ b3) (aP h h1 ⟨hs.1,λ_=>⟨⟨.aa e,H',[.slice xa (List.length v') cap],aY⟩,e,xa,List.length v',cap,(if cap'=l then lG else lG.map λad=>⟨ad.block,ad.off+l*e.sz,none⟩),cap' - l,h3,rfl,rfl,by omega,by omega,?_,by omega,λe0=>?_,λe'=>?_,λad e'=>?_,g10⟩⟩ (λ_ _ _ _ e=>by cases e))
     ·grind
     ·grind
     ·grind
     grind
    ·cases h1
  ·cases hk
 ·cases hk
end
end OT
set_option linter.unusedVariables false
set_option linter.unusedSimpArgs false
namespace OT
open Go
theorem iU (k:IntKind) (n:Int):gd k (sZ k n)=k.wrap n:=by
 cases k <;> first | rfl | skip
 show ((UInt8.ofNat (n % 2 ^ 8).toNat).toNat:Int)=_
 grind [UInt8.toNat_ofNat',IntKind.wrap,IntKind.bits,IntKind.signed]
theorem yz (k:IntKind) (n:Int) (h:k=.u8->0<=n/\n < 256):gd k (JA k n)=n:=by
 cases k <;> first | rfl | skip
 obtain ⟨h1,h2⟩:=h rfl
 show ((UInt8.ofNat (n % 2 ^ 8).toNat).toNat:Int)=_
 rw[UInt8.toNat_ofNat']
 omega
theorem Gq (v:rt .u8):0<=gd .u8 v/\gd .u8 v < 256:=by
 have:UInt8.toNat v < 256:=UInt8.toNat_lt v
 show 0<=((UInt8.toNat v:Nat):Int)/\((UInt8.toNat v:Nat):Int) < 256
 omega
section
variable {P:Program} {C:Ctx} {A:Cells} {X:FP} {σ:St} {a:Act} {w:World} {F:Nat->FP} {R:Type} {x:R} {Q:Exit->Act->World->Prop} {o:Oper} {E:Env}
theorem KS {op:BinOp} {k k':IntKind} {na nb:Int} {K:(t:Ty)->t.den->Option R} (hk:AF op k na nb K=some x) (ta:k=k'\/op=.shl\/op=.shr) (hu:k=.u8->0<=na/\na < 256) (OO:k'=.u8->0<=nb/\nb < 256) (T:TypeId) :
  ∃ t v tv,K t v=some x/\Ro P w A t v [tv]/\isAgg t=false/\∀ w:World,(binOp op T (.int k na) (.int k' nb)).run P w=.ok tv w:=by
 have same:op≠.shl->op≠.shr->k=k':=λh1 h2=>by grind
 unfold AF at hk
 split at hk
 ·have:=same (by simp) (by simp);subst this
  exact ⟨_,_,.int k (k.wrap (na+nb)),hk,by simp only[Ro,iU],rfl,λw=>by simp[Go.binOp,Op.intArith]⟩
 ·have:=same (by simp) (by simp);subst this
  exact ⟨_,_,.int k (k.wrap (na - nb)),hk,by simp only[Ro,iU],rfl,λw=>by simp[Go.binOp,Op.intArith]⟩
 ·have:=same (by simp) (by simp);subst this
  exact ⟨_,_,.int k (k.wrap (na*nb)),hk,by simp only[Ro,iU],rfl,λw=>by simp[Go.binOp,Op.intArith]⟩
 ·have:=same (by simp) (by simp);subst this
  split at hk
  ·cases hk
  ·rename_i Ma
   exact ⟨_,_,.int k (k.wrap (na.tdiv nb)),hk,by simp only[Ro,iU],rfl,λw=>by simp[Go.binOp,Op.intDiv,Ma]⟩
 ·have:=same (by simp) (by simp);subst this
  split at hk
  ·cases hk
  ·rename_i Ma
   refine ⟨_,_,.int k (na.tmod nb),hk,?_,rfl,λw=>by simp[Go.binOp,Op.intDiv,Ma]⟩
   simp only[Ro]
   rw[yz k _ (λe=>?_)]
   have h1:=hu e;have h2:=OO e
   have:=Int.tmod_nonneg nb h1.1
   have h3:na.tmod nb < nb:=Int.tmod_lt_of_pos na (by omega)
   omega
 ·have:=same (by simp) (by simp);subst this
  exact ⟨_,_,.int k (k.wrap ((BitVec.ofInt k.bits na &&& BitVec.ofInt k.bits nb).toNat:Int)),hk,by simp only[Ro,iU],rfl,λw=>by grind [Go.binOp,Op.intBits,Sem.run_pure]⟩
 ·have:=same (by simp) (by simp);subst this
  exact ⟨_,_,.int k (k.wrap ((BitVec.ofInt k.bits na ||| BitVec.ofInt k.bits nb).toNat:Int)),hk,by simp only[Ro,iU],rfl,λw=>by grind [Go.binOp,Op.intBits,Sem.run_pure]⟩
 ·have:=same (by simp) (by simp);subst this
  exact ⟨_,_,.int k (k.wrap ((BitVec.ofInt k.bits na ^^^ BitVec.ofInt k.bits nb).toNat:Int)),hk,by simp only[Ro,iU],rfl,λw=>by grind [Go.binOp,Op.intBits,Sem.run_pure]⟩
 ·split at hk
  ·cases hk
  ·rename_i hn
   exact ⟨_,_,.int k (k.wrap (na*2 ^ (min nb.toNat k.bits))),hk,by simp only[Ro,iU],rfl,λw=>by simp[Go.binOp,Op.shift,hn]⟩
 ·split at hk
  ·cases hk
  ·rename_i hn
   refine ⟨_,_,.int k (na.fdiv (2 ^ (min nb.toNat k.bits))),hk,?_,rfl,λw=>by simp[Go.binOp,Op.shift,hn]⟩
   simp only[Ro]
   rw[yz k _ (λe=>?_)]
   have h1:=hu e
   have hp:(0:Int) < 2 ^ (min nb.toNat k.bits):=Int.pow_pos (by omega)
   rw[Int.fdiv_eq_ediv_of_nonneg _ (by omega)]
   have h2:=Int.ediv_nonneg h1.1 (Int.le_of_lt hp)
   have h3:=Int.ediv_le_self (2 ^ (min nb.toNat k.bits)) h1.1
   omega
 ·have:=same (by simp) (by simp);subst this
  exact ⟨.bool,decide (na=nb),_,hk,rfl,rfl,λw=>by simp[Go.binOp,Op.intCmp];rfl⟩
 ·have:=same (by simp) (by simp);subst this
  exact ⟨.bool,!decide (na=nb),_,hk,rfl,rfl,λw=>by simp[Go.binOp,Op.intCmp,bne];rfl⟩
 ·have:=same (by simp) (by simp);subst this
  exact ⟨.bool,decide (na < nb),_,hk,rfl,rfl,λw=>by simp[Go.binOp,Op.intCmp]⟩
 ·have:=same (by simp) (by simp);subst this
  exact ⟨.bool,decide (na<=nb),_,hk,rfl,rfl,λw=>by simp[Go.binOp,Op.intCmp]⟩
 ·have:=same (by simp) (by simp);subst this
  exact ⟨.bool,decide (nb < na),_,hk,rfl,rfl,λw=>by simp[Go.binOp,Op.intCmp]⟩
 ·have:=same (by simp) (by simp);subst this
  exact ⟨.bool,decide (nb<=na),_,hk,rfl,rfl,λw=>by simp[Go.binOp,Op.intCmp]⟩
 ·cases hk
theorem KU {op:BinOp} {s t:List UInt8} {K:(t:Ty)->t.den->Option R} (hk:If op s t K=some x) (T:TypeId) :
  ∃ ty v tv,K ty v=some x/\Ro P w A ty v [tv]/\isAgg ty=false/\∀ w:World,(binOp op T (.string ⟨s.toArray⟩) (.string ⟨t.toArray⟩)).run P w=.ok tv w:=by
 have h0:∀ w:World,(binOp op T (.string ⟨s.toArray⟩) (.string ⟨t.toArray⟩)).run P w=(Op.stringOp op ⟨s.toArray⟩ ⟨t.toArray⟩).run P w:=λw=>by cases op <;> rfl
 simp only[h0]
 unfold If at hk
 split at hk
 ·split at hk
  ·rename_i hc
   refine ⟨.str,s++t,.string ⟨(s++t).toArray⟩,hk,rfl,rfl,λw=>?_⟩
   grind [run_string_add_sum,ByteArray.size,bV,ByteArray.mk_append_mk]
  ·cases hk
 ·exact ⟨.bool,decide (s=t),_,hk,rfl,rfl,λw=>by simp[Op.stringOp];grind⟩
 ·exact ⟨.bool,!decide (s=t),_,hk,rfl,rfl,λw=>by simp[Op.stringOp];grind⟩
 ·cases hk
theorem pt {tv:Value} {s:List UInt8} {G:FP} (h:aW P A σ a w tv (.val .str s) G):tv=.string ⟨s.toArray⟩:=by
 obtain ⟨cs,h1,h2⟩:=h
 simp only[Ro] at h2
 subst h2
 exact h1
theorem pu {tv:Value} {k:IntKind} {n:rt k} {G:FP} (h:aW P A σ a w tv (.val (.int k) n) G):tv=.int k (gd k n):=by
 obtain ⟨cs,h1,h2⟩:=h
 simp only[Ro] at h2
 subst h2
 exact h1
theorem Ba {tv:Value} {b:Bool} {G:FP} (h:aW P A σ a w tv (.val .bool b) G):tv=.bool b:=by
 obtain ⟨cs,h1,h2⟩:=h
 simp only[Ro] at h2
 subst h2
 exact h1
theorem Gr (h:bn P C A σ a w F) {op:UnOp} {t:Nat} {y:Operand} (ho:o.op=.unOp op t y) (ap:bh P y=true) {K:St->Option R}
  (hk:(match op,bi σ y with
  | .not,.val .bool b=>K (σ.aH o.dst (.val .bool (!b)))
  | .neg,.val (.int k) n=>K (σ.aH o.dst (.val (.int k) (sZ k (0 - gd k n))))
  | _,_=>none)=some x):Tk P o a w (Nx P C K x):=by
 rcases bE h ap with hs | ⟨xs,e⟩
 rotate_left
 ·grind
 split at hk
 ·rename_i b ho hv
  rw[hv] at hs
  have e:=Ba hs
  exact bU (v:=.bool (!b)) (by simp[execOp,ho,e,Op.unary]) (aP h hk ⟨[_],rfl,rfl⟩ (λ_ _ _ _ e=>by cases e))
 ·rename_i k n ho hv
  rw[hv] at hs
  have e:=pu hs
  exact bU (v:=.int k (k.wrap (0 - gd k n))) (by simp[execOp,ho,e,Op.unary,Op.intArith]) (aP h hk ⟨[_],rfl,by simp only[Ro,iU]⟩ (λ_ _ _ _ e=>by cases e))
 ·cases hk
end
end OT
set_option linter.unusedVariables false
set_option linter.unusedSimpArgs false
namespace OT
open Go
section
variable {P:Program} {w:World} {A:Cells}
theorem JR:∀ (t:Ty),(∀ (i:TypeId) (d:Nat) (v1 v2:t.den) (gU bf:List Value),aq P t (.inl i)=true->iN P t (.inl i)=true->dep t<=d->Ro P w A t v1 gU->Ro P w A t v2 bf->(Op.equalIn d i (aZ t gU) (aZ t bf)).run P w=.ok (t.eq v1 v2) w) /\
  (∀ (fs:List Field) (off d:Nat) (v1 v2:t.den) (xs ys:Array Value),aq P t (.inr (fs,off))=true->iN P t (.inr fs)=true->dep t<=d+1->Ro P w A t v1 (xs.toList.drop off)->Ro P w A t v2 (ys.toList.drop off)->(Op.eqFields d xs ys fs).run P w=.ok (t.eq v1 v2) w):=by
 intro t
 induction t with
 | int k=>
  refine ⟨λi d v1 v2 gU bf hl he hd h1 h2=>?_,λfs off d v1 v2 xs ys hl=>by simp[aq] at hl⟩
  simp only[Ro] at h1 h2
  subst h1;subst h2
  cases d with
  | zero=>simp[dep] at hd
  | succ d=>
   rw[bp _ _ rfl,bp _ _ rfl,run_equalIn_int w d i k k _ _ (gT hl)]
   congr 1
   cases k with
   | u8=>exact Bool.eq_iff_iff.2 (by simp only[gd,Ty.eq,beq_iff_eq];constructor;(intro h;exact UInt8.toNat_inj.1 (by omega));grind)
   | _=>grind [gd,Ty.eq]
 | bool=>
  refine ⟨λi d v1 v2 gU bf hl he hd h1 h2=>?_,λfs off d v1 v2 xs ys hl=>by simp[aq] at hl⟩
  simp only[Ro] at h1 h2
  subst h1;subst h2
  have hu:P.underlying i=some .bool:=by
   grind [aq]
  cases d with
  | zero=>simp[dep] at hd
  | succ d=>rw[bp _ _ rfl,bp _ _ rfl,run_equalIn_bool' w d i _ _ hu];rfl
 | str=>
  refine ⟨λi d v1 v2 gU bf hl he hd h1 h2=>?_,λfs off d v1 v2 xs ys hl=>by simp[aq] at hl⟩
  simp only[Ro] at h1 h2
  subst h1;subst h2
  cases d with
  | zero=>simp[dep] at hd
  | succ d=>
   rw[bp _ _ rfl,bp _ _ rfl,run_equalIn_string w d i _ _ (eP hl),ByteArray.toList_mk,ByteArray.toList_mk]
   grind [Ty.eq]
 | unit=>
  refine ⟨λi d v1 v2 gU bf hl he hd h1 h2=>?_,λfs off d v1 v2 xs ys hl he hd h1 h2=>?_⟩
  ·simp only[Ro] at h1 h2
   subst h1;subst h2
   simp only[aq,Bool.and_eq_true] at hl
   have h3:=hl.2
   split at h3
   ·rename_i fs hu
    have hf:P.fieldsOf i=fs:=by simp[Program.fieldsOf,hu]
    cases d with
    | zero=>simp[dep] at hd
    | succ d=>
     have yA:fs.toList=[]:=List.isEmpty_iff.1 h3
     simp only[iN,Bool.not_eq_true'] at he
     show (Op.equalIn (d+1) i (.agg #[]) (.agg #[])).run P w=_
     rw[run_equalIn_struct w d i _ _ (by grind) he,hf,yA]
     rfl
   ·cases h3
  ·simp only[aq,List.isEmpty_iff] at hl
   subst hl
   rfl
 | pair a b eI ey=>
  have second:∀ (fs:List Field) (off d:Nat) (v1 v2:(Ty.pair a b).den) (xs ys:Array Value),aq P (.pair a b) (.inr (fs,off))=true->iN P (.pair a b) (.inr fs)=true->dep (.pair a b)<=d+1->Ro P w A (.pair a b) v1 (xs.toList.drop off)->Ro P w A (.pair a b) v2 (ys.toList.drop off)->(Op.eqFields d xs ys fs).run P w=.ok ((Ty.pair a b).eq v1 v2) w:=by
   intro fs off d v1 v2 xs ys hl he hd h1 h2
   cases fs with
   | nil=>simp[aq] at hl
   | cons f r=>
    simp only[aq,Bool.and_eq_true,Nat.beq_eq,Nat.ble_eq] at hl
    simp only[iN,Bool.and_eq_true,bne_iff_ne,ne_eq] at he
    simp only[dep] at hd
    obtain ⟨Gs,Gt⟩:=h1
    obtain ⟨OP,OQ⟩:=h2
    have p1:=kM (P:=P) (w:=w) hl.1.2 (cs:=xs) (off:=off) (Ro.length _ Gs)
    have p2:=kM (P:=P) (w:=w) hl.1.2 (cs:=ys) (off:=off) (Ro.length _ OP)
    have e1:=eI.1 f.type d v1.1 v2.1 _ _ hl.1.2 he.1.2 (by omega) Gs OP
    rw[List.drop_drop] at Gt OQ
    have e2:=ey.2 r (off+a.sz) d v1.2 v2.2 xs ys hl.2 he.2 (by omega) Gt OQ
    simp only[Op.eqFields,ne_eq,he.1.1,not_false_eq_true,if_true,Sem.run_bind,hl.1.1.1,p1,p2,e1,Result.andThen_ok]
    cases hq:a.eq v1.1 v2.1 <;> simp_all [Ty.eq]
  refine ⟨λi d v1 v2 gU bf hl he hd h1 h2=>?_,second⟩
  simp only[aq,Bool.and_eq_true] at hl
  simp only[iN,Bool.and_eq_true,Bool.not_eq_true'] at he
  have h3:=hl.2
  have h4:=he.2
  split at h3
  ·rename_i fs hu
   rw[hu] at h4
   simp only at h4
   have hf:P.fieldsOf i=fs:=by simp[Program.fieldsOf,hu]
   split at h3
   ·rename_i f r wY
    rw[wY] at h4
    simp only at h4
    cases d with
    | zero=>grind [dep]
    | succ d=>
     show (Op.equalIn (d+1) i (.agg gU.toArray) (.agg bf.toArray)).run P w=_
     rw[run_equalIn_struct w d i _ _ (by grind) he.1,hf,wY]
     refine second (f::r) 0 d v1 v2 _ _ ?_ ?_ hd (by simpa using h1) (by simpa using h2)
     all_goals grind [aq,iN]
   ·cases h3
  ·cases h3
 | arr n e ih=>
  refine ⟨λi d v1 v2 gU bf hl he hd h1 h2=>?_,λfs off d v1 v2 xs ys hl=>by simp[aq] at hl⟩
  simp only[aq,Bool.and_eq_true] at hl
  have h3:=hl.2
  simp only[iN] at he
  split at h3
  ·rename_i n' el hu
   simp only[Bool.and_eq_true,Nat.beq_eq,Nat.ble_eq] at h3
   obtain ⟨⟨rfl,_⟩,hle⟩:=h3
   rw[hu] at he
   simp only at he
   obtain ⟨inf,i1,i2,_⟩:=dM (ej hle)
   have fk:P.cellsOf el=e.sz:=by grind [Program.cellsOf]
   obtain ⟨_,l1,_,r1⟩:=h1
   obtain ⟨_,l2,_,r2⟩:=h2
   cases d with
   | zero=>simp[dep] at hd
   | succ d=>
    simp only[dep] at hd
    have key:∀ (m j:Nat),j+m=n->(Op.eqItems d el e.sz gU.toArray bf.toArray (List.range' j m)).run P w=.ok (((List.drop j v1).zip (List.drop j v2)).all λp=>e.eq p.1 p.2) w:=by
     intro m
     induction m with
     | zero=>
      intro j hj
      rw[List.drop_of_length_le (by omega)]
      rfl
     | succ m Mb=>
      intro j hj
      have g1:=List.getElem?_eq_getElem (l:=v1) (i:=j) (by omega)
      have g2:=List.getElem?_eq_getElem (l:=v2) (i:=j) (by omega)
      have J:=r1 j _ g1
      have a2:=r2 j _ g2
      have p1:=kM (P:=P) (w:=w) hle (cs:=gU.toArray) (off:=j*e.sz) (Ro.length _ J)
      have p2:=kM (P:=P) (w:=w) hle (cs:=bf.toArray) (off:=j*e.sz) (Ro.length _ a2)
      have e1:=ih.1 el d _ _ _ _ hle he (by omega) J a2
      rw[List.range'_succ,List.drop_eq_getElem_cons (l:=v1) (i:=j) (by omega),List.drop_eq_getElem_cons (l:=v2) (i:=j) (by omega)]
      simp only[Op.eqItems,Sem.run_bind,p1,p2,e1,Result.andThen_ok,List.zip_cons_cons,List.all_cons]
      cases hq:e.eq v1[j] v2[j] with
      | true=>grind
      | false=>simp
    show (Op.equalIn (d+1) i (.agg gU.toArray) (.agg bf.toArray)).run P w=_
    rw[run_equalIn_array w d _ _ hu i1,fk,List.range_eq_range']
    exact key n 0 (by omega)
  ·cases h3
 | _=>grind [iN]
end
section
variable {P:Program} {C:Ctx} {A:Cells} {X:FP} {σ:St} {a:Act} {w:World} {F:Nat->FP} {R:Type} {x:R} {Q:Exit->Act->World->Prop} {o:Oper} {E:Env}
def JS (P:Program) (E:Env):Prop:=∀ i T,E.TI i=some T->T.fA=true->isAgg T=true->iN P T (.inl i)=true/\P.eqGuardType P.depth i=false/\dep T<=10000
theorem sn {op:BinOp} {t:TypeId} {y z:Operand} {u v:Value} (h:¬ (∃ p q,u=.agg p/\v=.agg q)) (h2:u≠.nilIface):(eqGuard op t y z u v).run P w=.ok () w:=by
 simp_all [eqGuard]
theorem Ro.fA {w':World} {A':Cells}:∀ (t:Ty) {v:t.den} {cs:List Value},t.fA=true->Ro P w A t v cs->Ro P w' A' t v cs:=by
 intro t
 induction t with
 | pair a b eI ey=>
  intro v cs hq h
  simp only[Ty.fA,Bool.and_eq_true] at hq
  exact ⟨eI hq.1 h.1,ey hq.2 h.2⟩
 | arr n e ih=>intro v cs hq h;exact ⟨h.1,h.2.1,h.2.2.1,λi x hx=>ih hq (h.2.2.2 i x hx)⟩
 | aa e ih=>grind [Ty.fA]
 | ptr e ih=>grind [Ty.fA]
 | fn=>grind [Ty.fA]
 | map k v=>grind [Ty.fA]
 | _=>intro v cs hq h;exact h
theorem EC (h:bn P C A σ a w F) (dZ:∀ i T,E.TI i=some T->aq P T (.inl i)=true) (heq:JS P E) {op:BinOp} {t t2:Nat} {y z:Operand} (ho:o.op=.binOp op t y z t2) (ap:bh P y=true/\bh P z=true) {K:St->Option R}
  (hk:AG E t op (bi σ y) (bi σ z) (λt v=>K (σ.aH o.dst (.val t v)))=some x):Tk P o a w (Nx P C K x):=by
 rcases bE h ap.1 with hy | ⟨xs,e⟩
 rotate_left
 ·grind [AG]
 rcases bE h ap.2 with hz | ⟨xs,e⟩
 rotate_left
 ·grind [AG]
 have fin:∀ (ty:Ty) (v:ty.den) (tv:Value),K (σ.aH o.dst (.val ty v))=some x->Ro P w A ty v [tv]->isAgg ty=false->(∀ w',jP o w w'->(eqGuard op t y z (a.eval y) (a.eval z)).run P w'=.ok () w')->(∀ w',jP o w w'->(binOp op t (a.eval y) (a.eval z)).run P w'=.ok tv w')->Tk P o a w (Nx P C K x):=λty v tv hk hr ha hg hb=>by
  refine bU (v:=tv) (λw' ju=>?_) (aP h hk ⟨[tv],(bp ty tv ha).symm,hr⟩ (λ_ _ _ _ e=>by cases e))
  grind [execOp,Sem.run_bind,Result.andThen_ok,Sem.run_pure]
 unfold AG at hk
 split at hk
 ·rename_i k n1 k' n2 Bb Bc
  rw[Bb] at hy
  rw[Bc] at hz
  have e1:=pu hy
  have e2:=pu hz
  have hg:∀ w',jP o w w'->(eqGuard op t y z (a.eval y) (a.eval z)).run P w'=.ok () w':=λw' _=>by grind [sn]
  have ta:(k=k'\/op=.shl\/op=.shr)/\AF op k (gd k n1) (gd k' n2) (λt v=>K (σ.aH o.dst (.val t v)))=some x:=by
   grind
  obtain ⟨ty,v,tv,q1,q2,q3,q4⟩:=KS (P:=P) (A:=A) (w:=w) ta.2 ta.1 (λe=>by subst e;exact Gq n1) (λe=>by subst e;exact Gq n2) t
  grind
 ·rename_i s1 s2 Bb Bc
  rw[Bb] at hy
  rw[Bc] at hz
  have e1:=pt hy
  have e2:=pt hz
  have hg:∀ w',jP o w w'->(eqGuard op t y z (a.eval y) (a.eval z)).run P w'=.ok () w':=λw' _=>by grind [sn]
  obtain ⟨ty,v,tv,q1,q2,q3,q4⟩:=KU (P:=P) (A:=A) (w:=w) hk t
  grind
 ·rename_i ty v1 QV v2 Tr QW Bb Bc
  rw[Bb] at hy
  rw[Bc] at hz
  have main:∀ (e:ty=QV) (hq:ty.fA=true) (hT:E.TI t=some ty) (w':World),jP o w w'->(eqGuard op t y z (a.eval y) (a.eval z)).run P w'=.ok () w'/\(∀ b,b=ty.eq v1 (e ▸ v2)->(op=.eql->(binOp op t (a.eval y) (a.eval z)).run P w'=.ok (.bool b) w')/\(op=.neq->(binOp op t (a.eval y) (a.eval z)).run P w'=.ok (.bool (!b)) w')):=λe hq hT w' ju=>by
   subst e
   obtain ⟨gU,e1,r1⟩:=hy
   obtain ⟨bf,e2,r2⟩:=hz
   have r1:=Ro.fA (w':=w') (A':=A) _ hq r1
   have r2:=Ro.fA (w':=w') (A':=A) _ hq r2
   have cI:=dZ _ _ hT
   cases QX:isAgg ty with
   | true=>
    obtain ⟨q1,q2,q3⟩:=heq _ _ hT hq QX
    have S7:=(JR (P:=P) (w:=w') (A:=A) ty).1 t 10000 v1 v2 gU bf cI q1 q3 r1 r2
    simp_all [aZ,run_eqGuard_agg,run_eql_struct,run_neq_struct]
   | false=>
    cases ty with
    | int k=>grind
    | str=>grind
    | bool=>
     simp only[Ro] at r1 r2
     subst r1;subst r2
     rw[bp _ _ rfl] at e1 e2
     have hu:P.underlying t=some .bool:=by
      grind [aq]
     rw[e1,e2]
     refine ⟨sn (by grind) (by grind),λb hb=>⟨λh=>?_,λh=>?_⟩⟩
     ·subst h;subst hb
      have:=run_equalIn_bool' (P:=P) w' 9999 t v1 v2 hu
      simp only[Go.binOp,Op.equal,Op.maxDepth,Sem.run_bind,this,Result.andThen_ok,Sem.run_pure];rfl
     ·subst h;subst hb
      have:=run_equalIn_bool' (P:=P) w' 9999 t v1 v2 hu
      simp only[Go.binOp,Op.equal,Op.maxDepth,Sem.run_bind,this,Result.andThen_ok,Sem.run_pure];rfl
    | _=>grind [Ty.fA,isAgg]
  split at hk
  ·split at hk
   ·rename_i hq
    obtain ⟨T,hT,hk⟩:=bM hk
    split at hk
    ·rename_i e;subst e
     obtain ⟨e,hk⟩:=aV hk
     have m:=main e.symm hq hT
     subst e
     exact fin .bool _ _ hk rfl rfl (λw' ju=>(m w' ju).1) (λw' ju=>((m w' ju).2 _ rfl).1 rfl)
    ·cases hk
   ·cases hk
  ·split at hk
   ·rename_i hq
    obtain ⟨T,hT,hk⟩:=bM hk
    split at hk
    ·rename_i e;subst e
     obtain ⟨e,hk⟩:=aV hk
     have m:=main e.symm hq hT
     subst e
     exact fin .bool _ _ hk rfl rfl (λw' ju=>(m w' ju).1) (λw' ju=>((m w' ju).2 _ rfl).2 rfl)
    ·cases hk
   ·cases hk
  ·cases hk
 ·rename_i e v Bb Bc
  rw[Bb] at hy
  rw[Bc] at hz
  obtain ⟨T,hT,hk⟩:=bM hk
  split at hk
  ·rename_i eT
   subst eT
   obtain ⟨te,hu⟩:∃ te,P.underlying t=some (.slice te):=by
    grind [aq]
   obtain ⟨cs,h1,a0,cap,h2,h3,h4,h5⟩:=hy
   subst h2
   rw[bp _ _ rfl] at h1
   have OR:a.eval z=.slice none 0 0:=hz
   have hg:∀ w',jP o w w'->(eqGuard op t y z (a.eval y) (a.eval z)).run P w'=.ok () w':=λw' _=>by grind [sn]
   have key:∀ (b:Bool),qR v (K (σ.aH o.dst (.val .bool b))) (K (σ.aH o.dst (.val .bool !b)))=some x->K (σ.aH o.dst (.val .bool (if a0.isNone then b else !b)))=some x:=λb hb=>by
    cases v with
    | nil=>
     grind [qR,both]
    | cons y v=>
     have:a0.isNone=false:=by
      cases a0 <;> grind
     rw[this]
     exact hb
   unfold LG at hk
   split at hk
   ·refine fin .bool _ (.bool a0.isNone) (key true hk) ?_ rfl hg λw' _=>?_
    ·cases a0 <;> rfl
    grind [run_equal_slice_nil,Go.binOp,Sem.run_bind,Result.andThen_ok,Sem.run_pure]
   ·refine fin .bool _ (.bool !a0.isNone) (key false hk) ?_ rfl hg λw' _=>?_
    ·cases a0 <;> rfl
    grind [run_neq_slice_nil]
   ·cases hk
  ·cases hk
 ·cases hk
end
end OT
set_option linter.unusedVariables false
set_option linter.unusedSimpArgs false
namespace OT
open Go
section
variable {P:Program} {C:Ctx} {A:Cells} {X:FP} {σ:St} {a:Act} {w:World} {F:Nat->FP} {R:Type} {x:R} {Q:Exit->Act->World->Prop} {o:Oper} {E:Env}
theorem fJ (w:World) (ob:Obj):Ext w (w.alloc ob) (λ_ _=>0):=by
 refine ⟨by simp,λb i hb _ u hu=>?_,λb n hn=>?_,λb i hb=>World.frozen?_alloc_old w ob _ (by simp;omega),rfl,rfl,rfl,λb hb _=>?_,Nat.le_refl _⟩
 ·grind [sa,World.alloc]
 ·obtain ⟨c,e,fr,h1,h2,h3⟩:=hn
  refine ⟨c,e,fr,?_,h2,h3⟩
  grind [World.alloc]
 grind [World.alloc]
theorem vW (w:World):Ext w w.drew (λ_ _=>0):=⟨Nat.le_refl _,λ_ _ _ _ _ h=>h,λ_ _ h=>h,λ_ _ _=>rfl,rfl,rfl,rfl,λ_ _ _=>rfl,Nat.le_succ _⟩
theorem qw (w:World) (c:Array Value) (e:TypeId) (fr:Nat×Nat) (u:Bool) (hY:(u=true/\c.size<=fr.1)\/fr.2<=fr.1):cr (w.alloc (.cells c e fr)) w.heap.size (c.size,u):=
 ⟨c,e,fr,heap_alloc_new w _,rfl,λi hi=>by grind,λhu=>by grind⟩
theorem oh (w:World) (c:Array Value) (e:TypeId) (fr:Nat×Nat) {k:Nat} {L:List Value} (hL:∀ j u,L[j]?=some u->c[k+j]?=some u) (g_:∀ u ∈ L,u.oneCell'=true):Has (w.alloc (.cells c e fr)) w.heap.size k L:=by
 intro j u hu
 grind [yn,World.cell?,heap_alloc_new]
theorem Rel.alloc (h:Rel P C A X σ a w F) (c:Array Value) (e:TypeId) (fr:Nat×Nat):Rel P C A (λb i=>X b i+bk w.heap.size 0 c.size b i) σ a (w.alloc (.cells c e fr)) F:=by
 refine h.grow (fJ w _) (λ_ _ h=>h) (λ_ _ h=>.inl h) (λb i=>?_)
 by_cases hb:b=w.heap.size
 ·subst hb
  right
  have hx:X w.heap.size i=0:=by
   rcases Nat.eq_zero_or_pos (X w.heap.size i) with h0 | h0
   ·exact h0
   ·have:=h.dC w.heap.size i (.inl (by omega));omega
  exact ⟨Nat.le_refl _,by simp,by grind [bk]⟩
 grind [bk]
theorem Rel.drew (h:Rel P C A X σ a w F):Rel P C A X σ a w.drew F:=h.grow (vW w) (λ_ _ h=>h) (λ_ _ h=>.inl h) (λ_ _=>.inl (Nat.le_refl _))
theorem af.alloc (h:Rel P C A X σ a w F) {t:Ty} {m:Md} {H:List Path} {v:t.den} {cs:List Value} {G:FP} (hr:af P w A t m H v cs G) (hG:∀ b i,1<=G b i->b < w.heap.size) {w':World} (hw:Ext w w' (λ_ _=>0)):af P w' A t m H v cs G:=
 af.mono (λ_ _ h=>h) (λb i ha u hu=>hw.cell b i (h.dC b i (.inr ha)) rfl u hu) hw.lW t hr (λ_ _=>Nat.le_refl _) (λb i hp u hu=>hw.cell b i (hG b i hp) rfl u hu)
theorem DB (h:Rel P C A X σ a w F) {K:St->Option R} {d:Option Tmp} {t:Ty} {m:Md} {v:t.den} {cs:List Value} {Fv:FP} (e:TypeId) (hk:K (σ.aH d (.box t m [] v))=some x)
  (hr:af P w A t m [] v cs Fv) (hX:∀ b i,Fv b i<=X b i):∃ A' F',Rel P C A' (λ_ _=>0) (σ.aH d (.box t m [] v)) (a.put d (.pointer (some ⟨w.heap.size,0,none⟩))) (w.alloc (.cells cs.toArray e)) F':=by
 have hl:=af.length t hr
 have h1:=h.alloc cs.toArray e (0,0)
 have cz:=qw w cs.toArray e (0,0) false (.inr (Nat.le_refl _))
 simp only[List.size_toArray,hl] at cz h1
 have oQ:=af.alloc h hr (λb i hp=>h.dC b i (.inl (by grind))) (fJ w (.cells cs.toArray e))
 obtain ⟨F',hF⟩:=h1.aH d (s:=.box t m [] v) (v:=.pointer (some ⟨w.heap.size,0,none⟩)) (Fd:=λb i=>bk w.heap.size 0 t.sz b i+Fv b i) (X':=λ_ _=>0)
  ⟨w.heap.size,0,cs,Fv,rfl,hl,oh w cs.toArray e (0,0) (λj u hu=>by simpa using hu) (af.one _ hr),λj hj=>by simp_all,λ_ _=>Nat.le_refl _,oQ⟩
  (λb i=>by grind) (λt' m' H' v' e'=>by grind)
 grind
theorem jQ:∀ (t:Ty),t.lu=true->∃ L,zc t=some L:=by
 intro t
 induction t <;> grind [Ty.lu,zc]
theorem Gu (h:bn P C A σ a w F) (dZ:∀ i T,E.TI i=some T->aq P T (.inl i)=true) {t:Nat} (ho:o.op=.alloc t) {K:St->Option R}
  (hk:(gF E t λT=>if T.lu then K (σ.aH o.dst (.box T (av T) [] T.zero)) else none)=some x):o.wp P a w (λa' w'=>Nx P C K x a' w'/\Ext w w' (λ_ _=>0)) Q:=by
 obtain ⟨T,hT,hk⟩:=bM hk
 split at hk
 ·rename_i vn
  have cI:=dZ _ _ hT
  obtain ⟨L,hL⟩:=jQ T vn
  obtain ⟨z,Bd,Gw⟩:=oM (P:=P) (w:=w) cI hL
  obtain ⟨r1,r2,r3⟩:=o3 (P:=P) (w:=w) (A:=A) T hL cI
  refine fI (v:=.pointer (some ⟨w.heap.size,0,none⟩)) (w':=w.alloc (.cells L.toArray t)) ?_ ?_
  ·have:z.cells=L.toArray:=by grind
   simp_all [execOp,Instr.alloc,newVar,newRow]
  ·obtain ⟨A',F',hF⟩:=DB h t hk r1 (λ_ _=>Nat.le_refl _)
   exact ⟨⟨_,hk,A',F',hF⟩,fJ w _⟩
 ·cases hk
end
end OT
set_option linter.unusedVariables false
set_option linter.unusedSimpArgs false
namespace OT
open Go
section
variable {P:Program} {C:Ctx} {A:Cells} {X:FP} {σ:St} {a:Act} {w:World} {F:Nat->FP} {R:Type} {x:R} {Q:Exit->Act->World->Prop} {o:Oper} {E:Env}
theorem uS (h:Rel P C A X σ a w F) {K:St->Option R} {d:Option Tmp} {e:Ty} {m:Md} {v:List e.den} {c:Array Value} {cap:Nat} {el:TypeId} {fr:Nat×Nat} {Fi:Nat->FP} (hY:(vO e=true/\c.size<=fr.1)\/fr.2<=fr.1)
  (hk:K (σ.aH d (.own (.aa e) (.aa true m) [] v))=some x) (hc:c.size=cap*e.sz) (hJ:cap<=maxLen) (hv:List.length v<=cap) (hX:∀ b i,ao (List.length v) Fi b i<=X b i)
  (jE:∀ (i:Nat) (y:e.den),v[i]?=some y->∃ L:List Value,L.length=e.sz/\(∀ j u,L[j]?=some u->c[i*e.sz+j]?=some u)/\af P w A e m [] y L (Fi i)) :
  Nx P C K x (a.put d (.slice (some ⟨w.heap.size,0,none⟩) (List.length v) cap)) (w.alloc (.cells c el fr)):=by
 have h1:=h.alloc c el fr
 have cz:=qw w c el fr (vO e) hY
 rw[hc] at cz h1
 refine gu h1 hk (Fd:=λb i=>bk w.heap.size 0 (cap*e.sz) b i+ao (List.length v) Fi b i) ⟨_,(bp (.aa e) _ rfl).symm,?_⟩ (λb i=>by grind) (λ_ _ _ _ e=>by cases e)
 simp only[af,hole,List.any_nil,Bool.false_eq_true,if_false,Md.own,if_true,Md.e]
 refine ⟨_,cap,rfl,hv,hJ,(λe=>by cases e),λad di=>?_⟩
 injection di with di;subst di
 refine ⟨rfl,rfl,cz,Fi,λ_ _=>Nat.le_refl _,λi y hy=>?_⟩
 obtain ⟨L,l1,l2,l3⟩:=jE i y hy
 have hi:=(List.getElem?_eq_some_iff.1 hy).1
 refine ⟨L,l1,oh w c el fr l2 (af.one _ l3),?_⟩
 simp only[List.filterMap_nil]
 exact af.alloc h l3 (λb k hp=>h.dC b k (.inl (by grind [a_]))) (fJ w _)
theorem z_ (h:bn P C A σ a w F) (dZ:∀ i T,E.TI i=some T->aq P T (.inl i)=true) {t:Nat} {y z:Operand} (ho:o.op=.makeSlice t y z) (ap:bh P y=true/\bh P z=true) {K:St->Option R}
  (hk:(gF E t λt=>match t with
  | .aa e=>lP (bi σ y) λn=>lP (bi σ z) λc=>
   if e.lu then (if 0<=n/\n<=c/\c<=(bV:Int) then K (σ.aH o.dst (.own (.aa e) (av (.aa e)) [] (List.replicate n.toNat e.zero))) else none) else none
  | _=>none)=some x):o.wp P a w (λa' w'=>Nx P C K x a' w'/\Ext w w' (λ_ _=>0)) Q:=by
 obtain ⟨T,hT,hk⟩:=bM hk
 have cI:=dZ _ _ hT
 split at hk
 ·rename_i e
  rcases bE h ap.1 with hy | ⟨xs,e'⟩
  rotate_left
  ·rw[e'] at hk;cases hk
  obtain ⟨k1,n,hn,hk⟩:=lZ hy hk
  rcases bE h ap.2 with hz | ⟨xs,e'⟩
  rotate_left
  ·rw[e'] at hk;cases hk
  obtain ⟨k2,c,hc,hk⟩:=lZ hz hk
  split at hk
  ·rename_i vn
   split at hk
   ·rename_i hb
    obtain ⟨el,hu,fk,hle⟩:=kx cI
    obtain ⟨inf,i1,i2,i3,i4⟩:=dM (ej hle)
    obtain ⟨L,hL⟩:=jQ e vn
    obtain ⟨zv,z1,z2⟩:=i4 L hL
    obtain ⟨r1,r2,r3⟩:=o3 (P:=P) (w:=w) (A:=A) e hL hle
    have Mc:(inf.bytes:Int)*c<=281474976710656:=by
     have h1:(inf.bytes:Int)<=512:=by omega
     have h2:(inf.bytes:Int)*c<=512*c:=Int.mul_le_mul_of_nonneg_right h1 (by omega)
     grind [bV]
    have dD:=run_make (P:=P) w t el inf zv hu i1 z1 k1 k2 n c hb.1 hb.2.1 Mc (by grind [bV])
    have Ts:zv.cells.size=e.sz:=by grind
    have hlen:List.length (List.replicate n.toNat e.zero)=n.toNat:=by simp
    refine fI (v:=.slice (some ⟨w.heap.size,0,none⟩) n.toNat c.toNat) (w':=w.alloc (.cells (madeCells zv.cells (c.toNat*inf.size)) el)) ?_ ?_
    ·grind [execOp,Sem.run_bind,Result.andThen_ok,Sem.run_pure]
    ·refine ⟨?_,fJ w _⟩
     have pT:=uS h (K:=K) (d:=o.dst) (v:=List.replicate n.toNat e.zero) (c:=madeCells zv.cells (c.toNat*inf.size)) (cap:=c.toNat) (el:=el) (fr:=(0,0)) (m:=av e) (Fi:=λ_ _ _=>0) (.inr (Nat.le_refl _)) hk
      (by rw[size_madeCells,i2]) (by grind [bV,maxLen]) (by grind) (λb i=>by grind [eH])
      (λi y hy=>by
       have hi:i < n.toNat:=by grind
       have hy:y=e.zero:=by grind
       subst hy
       refine ⟨L,r3,λj u hu=>?_,r1⟩
       have hj:j < e.sz:=r3 ▸ (List.getElem?_eq_some_iff.1 hu).1
       have aE:i*e.sz+j < c.toNat*e.sz:=by
        have:(i+1)*e.sz<=c.toNat*e.sz:=Nat.mul_le_mul_right _ (by omega)
        grind
       grind [Nat.mul_comm,Nat.mul_add_mod,Nat.mod_eq_of_lt,madeCells])
     grind
   ·cases hk
  ·cases hk
 ·cases hk
theorem Be (h:bn P C A σ a w F) (dZ:∀ i T,E.TI i=some T->aq P T (.inl i)=true) {s t:Nat} {y:Operand} (ho:o.op=.convert s t y) (ap:bh P y=true) (DC:∀ T,E.TI t=some T->T.flat=true) {K:St->Option R}
  (hk:rY E σ s t (bi σ y) o.dst K=some x):Tk P o a w (Nx P C K x):=by
 unfold rY at hk
 obtain ⟨S,hS,hk⟩:=bM hk
 obtain ⟨T,hT,hk⟩:=bM hk
 have pK:=dZ _ _ hS
 have pU:=dZ _ _ hT
 rcases bE h ap with hs | ⟨xs,e⟩
 rotate_left
 ·grind [jw]
 split at hk
 ·rename_i k
  split at hk
  ·rename_i k' n hv
   rw[hv] at hs
   have e:=pu hs
   split at hk
   ·rename_i JT
    obtain ⟨dS,hd,_⟩:=oZ pK
    refine bU (v:=.int k (k.wrap (gd k' n))) (λw' _=>?_) (aP h hk ⟨[_],rfl,by simp only[Ro,iU]⟩ (λ_ _ _ _ e=>by cases e))
    unfold execOp
    simp only[ho,e,Sem.run_bind]
    have:(convert s t (.int k' (gd k' n))).run P w'=.ok (.int k (k.wrap (gd k' n))) w':=by
     unfold convert
     simp only[Sem.run_bind,run_underlying hd,run_underlying (gT pU),Result.andThen_ok]
     cases dS <;> rfl
    simp_all
   ·cases hk
  ·cases hk
 ·split at hk
  ·split at hk
   ·rename_i b hv
    rw[hv] at hs
    have e:=pt hs
    refine bU (v:=.string ⟨List.toArray b⟩) (λw' _=>?_) (aP h hk ⟨[_],rfl,rfl⟩ (λ_ _ _ _ e=>by cases e))
    unfold execOp
    have:(convert s t (.string ⟨List.toArray b⟩)).run P w'=.ok (.string ⟨List.toArray b⟩) w':=by
     unfold convert
     simp only[Sem.run_bind,run_underlying (eP pK),run_underlying (eP pU),Result.andThen_ok]
     rfl
    simp_all
   ·cases hk
  ·obtain ⟨v,cs,hk,h1,h2⟩:=Ds h hs hk
   obtain ⟨el,hu,_,hle⟩:=kx pK
   obtain ⟨xa,cap,q1,q2,q3,q4⟩:=h2
   subst q1
   rw[bp _ _ rfl] at h1
   have v8:List UInt8:=v
   have dD:∀ w',jP o w w'->(convert s t (a.eval y)).run P w'=.ok (.string ⟨List.toArray v⟩) w':=λw' ju=>by
    have ju:=ju (by rw[ho];rfl)
    rw[h1]
    cases xa with
    | none=>
     have:v=[]:=List.eq_nil_of_length_eq_zero (q3 rfl)
     subst this
     exact run_convert_bytes_nil w' s el hu (gT hle) _ _ t (eP pU)
    | some ad=>
     obtain ⟨g1,g2⟩:=q4 _ rfl
     refine run_convert_bytes_back w' s t el _ cap v hu (gT hle) (eP pU) λj hj=>?_
     obtain ⟨L,l1,l2,l3⟩:=g2 j _ (List.getElem?_eq_getElem hj)
     simp only[Ro] at l3
     subst l3
     have:=(l2 0 _ rfl).1
     obtain ⟨b,off,sp⟩:=ad
     have i7:=g1 (by omega)
     simp only at i7
     subst i7
     rw[g0]
     simp only[Ty.sz,Nat.mul_one,Nat.add_zero] at this
     exact lc (ju.cell _ _ (lJ this) rfl _ this) rfl
   refine bU (v:=.string ⟨List.toArray v⟩) (λw' ju=>?_) (aP h hk ⟨[_],rfl,rfl⟩ (λ_ _ _ _ e=>by cases e))
   grind [execOp,Sem.run_bind,Result.andThen_ok,Sem.run_pure]
  ·cases hk
 all_goals grind [Ty.flat]
theorem w_ (h:bn P C A σ a w F) (dZ:∀ i T,E.TI i=some T->aq P T (.inl i)=true) {s t:Nat} {y:Operand} (ho:o.op=.convert s t y) (ap:bh P y=true) (DC:∀ T,E.TI t=some T->T.flat=true) (xd:(match bi σ y with | .val (.int _) _=>true | .val .str _=>true | .val (.aa (.int .u8)) _=>true | _=>false)=true) {K:St->Option R}
  (hk:rY E σ s t (bi σ y) o.dst K=some x) :
  ∃ v,(∀ w',(∀ b i,A b i->∀ u,ce w b i=some u->ce w' b i=some u)->(execOp a.eval o).run P w'=.ok (.value v) w')/\Nx P C K x (a.put o.dst v) w:=by
 unfold rY at hk
 obtain ⟨S,hS,hk⟩:=bM hk
 obtain ⟨T,hT,hk⟩:=bM hk
 have pK:=dZ _ _ hS
 have pU:=dZ _ _ hT
 rcases bE h ap with hs | ⟨xs,e⟩
 rotate_left
 ·grind
 split at hk
 ·rename_i k
  split at hk
  ·rename_i k' n hv
   rw[hv] at hs
   have e:=pu hs
   split at hk
   ·rename_i JT
    obtain ⟨dS,hd,_⟩:=oZ pK
    refine ⟨.int k (k.wrap (gd k' n)),(λw' _=>?_),aP h hk ⟨[_],rfl,by simp only[Ro,iU]⟩ (λ_ _ _ _ e=>by cases e)⟩
    unfold execOp
    simp only[ho,e,Sem.run_bind]
    have:(convert s t (.int k' (gd k' n))).run P w'=.ok (.int k (k.wrap (gd k' n))) w':=by
     unfold convert
     simp only[Sem.run_bind,run_underlying hd,run_underlying (gT pU),Result.andThen_ok]
     cases dS <;> rfl
    simp_all
   ·cases hk
  ·cases hk
 ·split at hk
  ·split at hk
   ·rename_i b hv
    rw[hv] at hs
    have e:=pt hs
    refine ⟨.string ⟨List.toArray b⟩,(λw' _=>?_),aP h hk ⟨[_],rfl,rfl⟩ (λ_ _ _ _ e=>by cases e)⟩
    unfold execOp
    have:(convert s t (.string ⟨List.toArray b⟩)).run P w'=.ok (.string ⟨List.toArray b⟩) w':=by
     unfold convert
     simp only[Sem.run_bind,run_underlying (eP pK),run_underlying (eP pU),Result.andThen_ok]
     rfl
    simp_all
   ·cases hk
  ·have Gx:∃ v',bi σ y=.val (.aa (.int .u8)) v':=by
    grind [jw,cS]
   obtain ⟨v,hv⟩:=Gx
   rw[hv] at hs hk
   simp only[jw] at hk
   obtain ⟨_,hk⟩:=aV hk
   obtain ⟨cs,h1,h2⟩:=hs
   obtain ⟨el,hu,_,hle⟩:=kx pK
   obtain ⟨xa,cap,q1,q2,q3,q4⟩:=h2
   subst q1
   rw[bp _ _ rfl] at h1
   have v8:List UInt8:=v
   have dD:∀ w',(∀ b i,A b i->∀ u,ce w b i=some u->ce w' b i=some u)->(convert s t (a.eval y)).run P w'=.ok (.string ⟨List.toArray v⟩) w':=λw' ju=>by
    rw[h1]
    cases xa with
    | none=>
     have:v=[]:=List.eq_nil_of_length_eq_zero (q3 rfl)
     subst this
     exact run_convert_bytes_nil w' s el hu (gT hle) _ _ t (eP pU)
    | some ad=>
     obtain ⟨g1,g2⟩:=q4 _ rfl
     refine run_convert_bytes_back w' s t el _ cap v hu (gT hle) (eP pU) λj hj=>?_
     obtain ⟨L,l1,l2,l3⟩:=g2 j _ (List.getElem?_eq_getElem hj)
     simp only[Ro] at l3
     subst l3
     have of:=l2 0 _ rfl
     obtain ⟨b,off,sp⟩:=ad
     have i7:=g1 (by omega)
     simp only at i7
     subst i7
     rw[g0]
     simp only[Ty.sz,Nat.mul_one,Nat.add_zero] at of
     exact lc (ju _ _ of.2 _ of.1) rfl
   refine ⟨.string ⟨List.toArray v⟩,(λw' ju=>?_),aP h hk ⟨[_],rfl,rfl⟩ (λ_ _ _ _ e=>by cases e)⟩
   grind [execOp,Sem.run_bind,Result.andThen_ok,Sem.run_pure]
  ·cases hk
 all_goals grind [Ty.flat]
theorem CF (h:bn P C A σ a w F) (dZ:∀ i T,E.TI i=some T->aq P T (.inl i)=true) {s t:Nat} {y:Operand} (ho:o.op=.convert s t y) (ap:bh P y=true) {K:St->Option R}
  (hk:rY E σ s t (bi σ y) o.dst K=some x):o.wp P a w (λa' w'=>Nx P C K x a' w'/\Ext w w' (λ_ _=>0)) Q:=by
 unfold rY at hk
 obtain ⟨S,hS,hk⟩:=bM hk
 obtain ⟨T,hT,hk⟩:=bM hk
 have pK:=dZ _ _ hS
 have pU:=dZ _ _ hT
 rcases bE h ap with hs | ⟨xs,e⟩
 rotate_left
 ·grind [jw]
 split at hk
 ·rename_i k
  split at hk
  ·rename_i k' n hv
   rw[hv] at hs
   have e:=pu hs
   split at hk
   ·rename_i JT
    obtain ⟨dS,hd,_⟩:=oZ pK
    refine fI (v:=.int k (k.wrap (gd k' n))) (w':=w) ?_ ⟨aP h hk ⟨[_],rfl,by simp only[Ro,iU]⟩ (λ_ _ _ _ e=>by cases e),Ext.refl _ _⟩
    unfold execOp
    simp only[ho,e,Sem.run_bind]
    have:(convert s t (.int k' (gd k' n))).run P w=.ok (.int k (k.wrap (gd k' n))) w:=by
     unfold convert
     simp only[Sem.run_bind,run_underlying hd,run_underlying (gT pU),Result.andThen_ok]
     cases dS <;> rfl
    simp_all
   ·cases hk
  ·cases hk
 ·split at hk
  ·split at hk
   ·rename_i b hv
    rw[hv] at hs
    have e:=pt hs
    refine fI (v:=.string ⟨List.toArray b⟩) (w':=w) ?_ ⟨aP h hk ⟨[_],rfl,rfl⟩ (λ_ _ _ _ e=>by cases e),Ext.refl _ _⟩
    unfold execOp
    have:(convert s t (.string ⟨List.toArray b⟩)).run P w=.ok (.string ⟨List.toArray b⟩) w:=by
     unfold convert
     simp only[Sem.run_bind,run_underlying (eP pK),run_underlying (eP pU),Result.andThen_ok]
     rfl
    simp_all
   ·cases hk
  ·obtain ⟨v,cs,hk,h1,h2⟩:=Ds h hs hk
   obtain ⟨el,hu,_,hle⟩:=kx pK
   obtain ⟨xa,cap,q1,q2,q3,q4⟩:=h2
   subst q1
   rw[bp _ _ rfl] at h1
   have v8:List UInt8:=v
   have dD:(convert s t (a.eval y)).run P w=.ok (.string ⟨List.toArray v⟩) w:=by
    rw[h1]
    cases xa with
    | none=>
     have:v=[]:=List.eq_nil_of_length_eq_zero (q3 rfl)
     subst this
     exact run_convert_bytes_nil w s el hu (gT hle) _ _ t (eP pU)
    | some ad=>
     obtain ⟨g1,g2⟩:=q4 _ rfl
     refine run_convert_bytes_back w s t el _ cap v hu (gT hle) (eP pU) λj hj=>?_
     obtain ⟨L,l1,l2,l3⟩:=g2 j _ (List.getElem?_eq_getElem hj)
     simp only[Ro] at l3
     subst l3
     have:=(l2 0 _ rfl).1
     obtain ⟨b,off,sp⟩:=ad
     have i7:=g1 (by omega)
     simp only at i7
     subst i7
     rw[g0]
     simp only[Ty.sz,Nat.mul_one,Nat.add_zero] at this
     exact lc (this) rfl
   refine fI (v:=.string ⟨List.toArray v⟩) (w':=w) ?_ ⟨aP h hk ⟨[_],rfl,rfl⟩ (λ_ _ _ _ e=>by cases e),Ext.refl _ _⟩
   grind [execOp,Sem.run_bind,Result.andThen_ok,Sem.run_pure]
  ·cases hk
 ·split at hk
  ·rename_i b hv
   rw[hv] at hs
   have e:=pt hs
   split at hk
   ·rename_i JT
    rw[JT] at pK
    split at hk
    rotate_left
    ·cases hk
    rename_i hJ
    obtain ⟨el,hu,_,hle⟩:=kx pU
    have dD:=run_bytes_of_string (P:=P) w s t el ⟨List.toArray b⟩ (eP pK) hu (gT hle)
    have hlen:(⟨List.toArray b⟩:ByteArray).size=List.length b:=rfl
    have JU:=grownCap_ge w (List.length b) 0 el
    have AT:=grownCap_le_maxLen w (List.length b) 0 el (by grind [bV,maxLen])
    rw[hlen] at dD
    have fk:(bytesRow ⟨List.toArray b⟩ (grownCap w (List.length b) 0 el)).size=grownCap w (List.length b) 0 el:=by
     grind [bytesRow]
    refine fI ?_ ⟨uS (h.drew) (K:=K) (d:=o.dst) (e:=.int .u8) (v:=b) (m:=.leaf) (Fi:=λ_ _ _=>0) (cap:=grownCap w (List.length b) 0 el) (el:=el) (fr:=((bytesRow ⟨List.toArray b⟩ (grownCap w (List.length b) 0 el)).size,(bytesRow ⟨List.toArray b⟩ (grownCap w (List.length b) 0 el)).size+1)) (c:=bytesRow ⟨List.toArray b⟩ (grownCap w (List.length b) 0 el)) (.inl ⟨rfl,Nat.le_refl _⟩) hk
     (by grind [Ty.sz]) AT JU (λb i=>by grind [eH]) (λi y hy=>?_),(vW w).trans (fJ w.drew _) (λ_ _ _ _=>rfl)⟩
    ·simp_all [execOp]
    ·have hi:=(List.getElem?_eq_some_iff.1 hy).1
     have hb:=bytesRow_at ⟨List.toArray b⟩ (grownCap w (List.length b) 0 el) i (by simpa using hi)
     refine ⟨[.int .u8 (UInt8.toNat y)],rfl,λj u hu=>?_,rfl⟩
     grind [Ty.sz]
   ·cases hk
  ·cases hk
 ·cases hk
end
end OT
set_option linter.unusedVariables false
set_option linter.unusedSimpArgs false
namespace OT
open Go
section
variable {P:Program} {C:Ctx} {A:Cells} {X:FP} {σ:St} {a:Act} {w:World} {F:Nat->FP} {R:Type} {x:R} {Q:Exit->Act->World->Prop} {o:Oper} {E:Env}
theorem Bf (h:bn P C A σ a w F) {i j:Nat} (ho:o.op=.extract (.tmp i) j) {K:St->Option R}
  (hk:(match σ.get i with
   | .iK xs=>match xs[j]? with
    | some x=>if x.t=.unit then none else K ((σ.put i (.iK (xs.set j ⟨.unit,.leaf,()⟩))).aH o.dst (laid x.t x.m x.v))
    | none=>none
   | _=>none)=some x):Tk P o a w (Nx P C K x):=by
 split at hk
 ·rename_i xs hg
  split at hk
  ·rename_i y hy
   split at hk
   ·cases hk
   ·rename_i Tt
    have hi:i < σ.n:=by
     grind [ep]
    have hs:=h.cj i hi
    rw[hg] at hs
    obtain ⟨vs,Fi,h1,h2,h3⟩:=hs
    obtain ⟨v,h4,h5⟩:=h3 j y hy
    rcases h5 with h5 | ⟨cs,h6,h7⟩
    ·grind
    have hj:=(List.getElem?_eq_some_iff.1 hy).1
    have qV:=h.put hi (s:=.iK (xs.set j ⟨.unit,.leaf,()⟩)) (v:=tmp a i) (Fd:=ao xs.length (bL Fi j λ_ _=>0)) (X':=Fi j)
     ⟨vs,bL Fi j λ_ _=>0,h1,λb k=>by grind,λk y' vj=>by
      rw[List.getElem?_set] at vj
      split at vj
      ·rename_i e;subst e
       injection vj with vj;subst vj;exact ⟨v,h4,.inl rfl⟩
      grind [bL]⟩
     (λb k=>by grind [jM]) (λt m H v e=>by cases e)
    rw[iA] at qV
    refine bU (v:=v) ?_ ?_
    ·unfold execOp
     have e:a.eval (.tmp i)=.tuple vs:=h1
     simp_all [Instr.extract]
    grind [pP]
  ·cases hk
 ·cases hk
theorem Rel.PX (h:Rel P C A X σ a w F) {d n:Nat} (hd:∀ R,bl w (tmp a d) (σ.get d)=some R->aZ R.t R.cs=C.args.getD n undef):Rel P C A X { σ with aA:=(d,n,true)::σ.aA } a w F:=by
 have ff:nx σ a w { σ with aA:=(d,n,true)::σ.aA } a w:=λr p snap hb=>⟨hb,λap=>⟨ap,λhl pl de=>⟨pl.H,pl.cs,de,λ_=>rfl⟩⟩⟩
 refine ⟨h.size,h.defers,λi hi=>aW.eM ff (λ_ _ h=>h) (λ_ _ _ _ h=>h) (λ_ _ h=>h) (λ_ _ _=>⟨λ_ h=>h,rfl⟩) (h.cj i hi),λd r p snap hm=>iz.eM ff (h.gh d r p snap hm),h.ge,h.gI,h.dC,h.ei,h.ext,h.own,h.a0,h.J,λj k hm=>?_,λr t m H v hg hl=>h.whole r t m H v hg λk hm=>hl k (List.mem_cons_of_mem _ hm),λj k hm R hR=>?_,h.mw⟩
 ·rcases List.mem_cons.1 hm with e | hm
  ·grind
  ·exact h.fN j k hm
 ·rcases List.mem_cons.1 hm with e | hm
  ·injection e with e1 e2;injection e2 with e2 e3
   subst e1;subst e2
   exact hd R hR
  ·exact h.e9 j k hm R hR
theorem ED {l:List (Nat×Nat×Bool)} {i n:Nat} (h:wF l i=some n):(i,n,true) ∈ l:=by
 induction l <;> grind [wF,Nat.beq_eq]
theorem KV (h:bn P C A σ a w F) {t:Nat} {y:Operand} (ho:o.op=.box t y) (ap:bh P y=true) {mv:Bool} {K:St->Option R}
  (hk:(gF E t λt=>ew σ (bi σ y) mv t λm v σ'=>K (AI σ y o.dst (σ'.aH o.dst (.box t m [] v))))=some x):o.wp P a w (λa' w'=>Nx P C K x a' w'/\Ext w w' (λ_ _=>0)) Q:=by
 obtain ⟨T,hT,hk⟩:=bM hk
 rcases bE h ap with hs | ⟨xs,e⟩
 rotate_left
 ·grind [ew]
 have Me:=hk
 obtain ⟨A',σ',F',m,v,cs,Fv,k1,k2,k3,k4,kr,k5,k6⟩:=kj h hs hk
 have hl:=af.length _ k6
 have g_:=af.one _ k6
 have OL:(aZ T cs).cells=cs.toArray:=by grind [dB]
 obtain ⟨A2,F2,hF⟩:=DB k3 (K:=λs=>some s) (x:=σ'.aH o.dst (.box T m [] v)) (d:=o.dst) t rfl k6 (λb i=>by omega)
 refine fI (v:=.pointer (some ⟨w.heap.size,0,none⟩)) (w':=w.alloc (.cells cs.toArray t)) ?_ ?_
 ·simp_all [execOp,Instr.box,newVar,newRow]
 ·refine ⟨⟨_,k1,A2,F2,?_⟩,fJ w _⟩
  clear hk
  unfold AI
  split
  ·rename_i i d hd
   split
   ·rename_i t0 m0 H0 v0 hg
    split
    ·rename_i n hn
     rw[hd] at hF ⊢
     refine Rel.PX hF λR hR=>?_
     have eQ:=h.e9 i n (ED hn) ⟨t0,H0,(tmp a i).cells.toList,none⟩ (by rw[hg];rfl)
     have dZ:tmp a i=aZ T cs:=k5
     have tc:t0=T:=by
      simp only[bi,hg] at Me
      grind [ew,gp,mh,fB,aV]
     subst tc
     simp only[dZ,dB hl g_] at eQ
     simp only[St.aH,ny] at hR
     split at hR
     ·rename_i hc
      have QY:tmp (a.put (some d) (.pointer (some ⟨w.heap.size,0,none⟩))) d=.pointer (some ⟨w.heap.size,0,none⟩):=by
       rw[fH,if_pos ⟨rfl,by rw[h.size,<- k4];exact hc.2⟩]
      rw[QY] at hR
      simp only[bl,Option.some.injEq] at hR
      subst hR
      have hh:=oh w cs.toArray t (0,0) (k:=0) (L:=cs) (λj u hu=>by simpa using hu) g_
      grind [bB]
     ·rename_i hc
      have JU:σ'.n<=d:=by
       grind
      rw[ep (Nat.not_lt.2 JU)] at hR;cases hR
    ·exact hF
   ·exact hF
  ·exact hF
end
end OT
set_option linter.unusedVariables false
set_option linter.unusedSimpArgs false
namespace OT
open Go
section
variable {P:Program} {C:Ctx} {A:Cells} {X:FP} {σ:St} {a:Act} {w:World} {F:Nat->FP} {R:Type} {x:R} {Q:Exit->Act->World->Prop} {o:Oper} {E:Env}
theorem Rel.giveUp (h:Rel P C A X σ a w F) {A1:Cells} {X1:FP} (hA:∀ b i,A b i->A1 b i) (tK:∀ b i,A1 b i->A b i\/(1<=X b i/\X1 b i=0)) (hX:∀ b i,X1 b i<=X b i):Rel P C A1 X1 σ a w F:=by
 have ff:nx σ a w σ a w:=λr p snap hb=>⟨hb,λap=>⟨ap,λhl pl de=>⟨pl.H,pl.cs,de,λ_=>rfl⟩⟩⟩
 refine ⟨h.size,h.defers,λi hi=>aW.eM ff hA (λ_ _ _ _ h=>h) (λ_ _ h=>h) (λ_ _ _=>⟨λ_ h=>h,rfl⟩) (h.cj i hi),h.gh,λb i=>by have:=h.ge b i;grind,
  λb i hp ha=>?_,λb i hp=>?_,h.ei,h.ext,λb i hp=>h.own b i (by grind),λb i ha=>hA b i (h.a0 b i ha),λb i ha=>?_,h.fN,h.whole,h.e9,h.mw⟩
 ·rcases tK b i ha with ha | ha
  ·exact h.gI b i (by grind) ha
  ·have:=h.ge b i;omega
 ·rcases hp with hp | ha
  ·exact h.dC b i (.inl (by grind))
  ·rcases tK b i ha with ha | ha
   ·exact h.dC b i (.inr ha)
   ·exact h.dC b i (.inl (by omega))
 ·rcases tK b i ha with ha | ha
  ·exact h.J b i ha
  ·exact .inr (h.own b i (by omega))
theorem Gy {off:Nat} {l cs:List Value} (h:off+l.length<=cs.length) :
  ((l.toArray.zipIdx).foldl (λcs (x:Value×Nat)=>cs.setIfInBounds (off+x.2) x.1) cs.toArray)=(cs.take off++l++cs.drop (off+l.length)).toArray:=by
 obtain ⟨h1,h2⟩:=Great.foldl_set off l 0 cs.toArray
 have e:(l.toArray.zipIdx).foldl (λcs (x:Value×Nat)=>cs.setIfInBounds (off+x.2) x.1) cs.toArray=(l.zipIdx 0).foldl (λcs (x:Value×Nat)=>cs.setIfInBounds (off+x.2) x.1) cs.toArray:=by simp
 rw[e]
 apply Array.ext_getElem?
 grind
theorem qx {pl:Nat->Option (Nat×Nat)} {j off sz:Nat} (hp:pl j=some (off,sz)) {t:Ty} {l cs:List Value} (hl:l.length=sz) (h1:(aZ t l).cells.toList=l) (h:off+sz<=cs.length) (rest:List (Nat×Value)) :
  Instr.fill pl cs.toArray ((j,aZ t l)::rest)=Instr.fill pl (cs.take off++l++cs.drop (off+sz)).toArray rest:=by
 have hc:(aZ t l).cells=l.toArray:=Array.ext' (by simpa using h1)
 grind [Instr.fill,Gy]
theorem Gz:∀ (n:Nat) (t:Ty) {t':Ty} {m m':Md} {v:t.den} {y:t'.den} {cs ys:List Value} {G H:FP} {K:Md->t.den->Option R},af P w A t m [] v cs G->af P w A t' m' [] y ys H ->
  tq n t m v t' m' y K=some x->∃ m2 v2,K m2 v2=some x/\af P w A t m2 [] v2 (cs.take (dn n t)++ys++cs.drop (dn n t+t'.sz)) (λb i=>G b i+H b i)/\dn n t+t'.sz<=cs.length:=by
 intro n
 induction n with
 | zero=>
  intro t t' m m' v y cs ys G H K hr hy hk
  cases t with
  | pair a b=>
   simp only[tq] at hk
   obtain ⟨e,hk⟩:=aV hk;subst e
   have hl:=af.length _ hr
   have QZ:=af.length _ hy
   obtain ⟨h0,F1,F2,hs,h1,h2⟩:=hr
   refine ⟨_,_,hk,⟨rfl,H,F2,λb i=>by grind,?_,?_⟩,?_⟩
   all_goals simp_all [dn,Md.l,Md.r,Ty.sz]
  | _=>cases hk
 | succ n ih=>
  intro t t' m m' v y cs ys G H K hr hy hk
  cases t with
  | pair a b=>
   simp only[tq] at hk
   have hl:=af.length _ hr
   obtain ⟨h0,F1,F2,hs,h1,h2⟩:=hr
   obtain ⟨m2,v2,k1,k2,k3⟩:=ih b h2 hy hk
   simp only[List.length_drop] at k3
   simp only[Ty.sz] at hl
   refine ⟨_,_,k1,⟨rfl,F1,λb i=>F2 b i+H b i,λb i=>by grind,?_,?_⟩,?_⟩
   ·simp only[dn,List.filterMap_nil,Md.l]
    have:(cs.take (a.sz+dn n b)++ys++cs.drop (a.sz+dn n b+t'.sz)).take a.sz=cs.take a.sz:=by
     simp_all [List.take_append_of_le_length,List.take_take]
    rw[this];exact h1
   ·simp only[dn,List.filterMap_nil,Md.r]
    have:(cs.take (a.sz+dn n b)++ys++cs.drop (a.sz+dn n b+t'.sz)).drop a.sz=(cs.drop a.sz).take (dn n b)++ys++(cs.drop a.sz).drop (dn n b+t'.sz):=by
     rw[List.append_assoc,List.drop_append_of_le_length (by simp;omega),List.drop_take,List.drop_drop,List.append_assoc]
     rw[show a.sz+dn n b - a.sz=dn n b by omega,show a.sz+(dn n b+t'.sz)=a.sz+dn n b+t'.sz by omega]
    grind
   ·simp only[dn];omega
  | _=>cases hk
theorem Bg {α β:Type} (g:α->Option β):∀ (l:List α) (ps:List β),l.mapM g=some ps->∀ (j:Nat) (f:α),l[j]?=some f->ps[j]?=g f
 | [],ps,h,j,f,hf=>by cases hf
 | y::l,ps,h,j,f,hf=>by
  simp only[List.mapM_cons,Option.bind_eq_bind,Option.pure_def] at h
  cases hy:g y with
  | none=>simp[hy] at h
  | some z=>
   cases hr:l.mapM g with
   | none=>grind
   | some r=>
    simp only[hy,hr,Option.bind_some,Option.some.injEq] at h
    subst h
    cases j with
    | zero=>grind
    | succ j=>exact Bg g l r hr j f hf
theorem EE:∀ (t:Ty) {fs:List Field} {off:Nat},aq P t (.inr (fs,off))=true->∃ ps,fs.mapM (λf=>(P.info? f.type).map λi=>(f.offset,i.size))=some ps:=by
 intro t
 induction t with
 | unit=>
  simp_all [aq]
 | pair a b eI ey=>
  intro fs off h
  cases fs with
  | nil=>simp_all
  | cons f r=>
   simp only[aq,Bool.and_eq_true] at h
   obtain ⟨ps,mF⟩:=ey h.2
   obtain ⟨inf,hi,_⟩:=dM (ej h.1.2)
   grind
 | _=>grind [aq]
theorem Aa {T:Ty} {i:TypeId} (hl:aq P T (.inl i)=true) {j:Nat} {t':Ty} (hj:kA j T=some t') :
  ∃ fs ps,P.underlying i=some (.struct fs)/\fs.toList.mapM (λf=>(P.info? f.type).map λi=>(f.offset,i.size))=some ps/\∀ j t',kA j T=some t'->ps.toArray[j]?=some (dn j T,t'.sz):=by
 cases T with
 | pair a b=>
  have OS:=hl
  simp only[aq,Bool.and_eq_true] at hl
  have h2:=hl.2
  split at h2
  ·rename_i fs hu
   split at h2
   ·rename_i f r wY
    have h3:aq P (.pair a b) (.inr (f::r,0))=true:=by
     grind [aq]
    obtain ⟨ps,mF⟩:=EE _ h3
    refine ⟨fs,ps,hu,by grind,λj t' hj=>?_⟩
    obtain ⟨f',q1,q2,q3,q4⟩:=Dw j (.pair a b) h3 hj
    have:=Bg _ _ _ mF j f' q1
    obtain ⟨inf,hi,hs,_⟩:=dM (ej q3)
    grind
   ·cases h2
  ·cases h2
 | _=>cases j <;> cases hj
theorem GA {T:Ty} {fz:Nat->Bool} {pl:Nat->Option (Nat×Nat)} (de:∀ j t',kA j T=some t'->pl j=some (dn j T,t'.sz)) {K:Md->T.den->St->Option R} :
  ∀ (ps:List (Nat×Operand)) {n:Nat} {σ:St} {A:Cells} {X:FP} {F:Nat->FP} {m:Md} {v:T.den} {cs:List Value},ps.all (λp=>bh P p.2)=true->Rel P C A X σ a w F->af P w A T m [] v cs X ->
   tr E σ T fz ps n m v K=some x->∃ A' σ' F' m' v' aJ X',K m' v' σ'=some x/\Rel P C A' X' σ' a w F'/\af P w A' T m' [] v' aJ X'/\Instr.fill pl cs.toArray (ps.map λp=>(p.1,a.eval p.2))=some aJ.toArray:=by
 intro ps
 induction ps with
 | nil=>intro n σ A X F m v cs ap h hr hk;exact ⟨A,σ,F,m,v,cs,X,hk,h,hr,rfl⟩
 | cons p ps ih=>
  intro n σ A X F m v cs ap h hr hk
  obtain ⟨j,y⟩:=p
  simp only[List.all_cons,Bool.and_eq_true] at ap
  simp only[tr] at hk
  split at hk
  ·rename_i t' rD
   rcases bE h ap.1 with hs | ⟨xs,e⟩
   rotate_left
   ·grind [ew]
   obtain ⟨A1,fT,F1,m1,v1,gU,Fv,k1,k2,k3,k4,kr,k5,k6⟩:=kj h hs hk
   have oQ:=af.mono (P:=P) (A':=A1) k2 (λ_ _ _ _ h=>h) (λ_ _ h=>h) T hr (λ_ _=>Nat.le_refl _) (λ_ _ _ _ h=>h)
   obtain ⟨m2,v2,q1,q2,q3⟩:=Gz j T oQ k6 k1
   obtain ⟨A',σ',F',m',v',aJ,X',g1,g2,g3,g4⟩:=ih ap.2 k3 q2 q1
   refine ⟨A',σ',F',m',v',aJ,X',g1,g2,g3,?_⟩
   rw[List.map_cons,k5,qx (de j t' rD) (af.length _ k6) (dB (af.length _ k6) (af.one _ k6)) q3]
   exact g4
  ·cases hk
theorem KW {n j:Nat} {e:Ty} {v:List e.den} {y:e.den} {cs ys:List Value} (h:Ro P w A (.arr n e) v cs) (hy:Ro P w A e y ys) (hj:j < v.length) :
  Ro P w A (.arr n e) (v.set j y) (cs.take (j*e.sz)++ys++cs.drop (j*e.sz+e.sz))/\j*e.sz+e.sz<=cs.length:=by
 obtain ⟨h1,h2,h3,h4⟩:=h
 have QZ:=Ro.length _ hy
 have hle:j*e.sz+e.sz<=cs.length:=by
  rw[h3,<- Nat.succ_mul];exact Nat.mul_le_mul_right _ (by omega)
 refine ⟨⟨h1,by simpa using h2,by grind,λi z hz=>?_⟩,hle⟩
 rw[List.getElem?_set] at hz
 split at hz
 ·grind
 ·rename_i ci
  have h5:=h4 i z hz
  have:((cs.take (j*e.sz)++ys++cs.drop (j*e.sz+e.sz)).drop (i*e.sz)).take e.sz=(cs.drop (i*e.sz)).take e.sz:=by
   rcases Nat.lt_or_ge i j with gG | gG
   ·have h6:i*e.sz+e.sz<=j*e.sz:=by rw[<-Nat.succ_mul];exact Nat.mul_le_mul_right _ (by omega)
    grind [List.drop_take]
   ·have h6:j*e.sz+e.sz<=i*e.sz:=by rw[<-Nat.succ_mul];exact Nat.mul_le_mul_right _ (by omega)
    have h7:(cs.take (j*e.sz)++ys).length=j*e.sz+e.sz:=by grind
    rw[List.drop_append,h7,List.drop_of_length_le (by omega),List.nil_append,List.drop_drop]
    congr 2;omega
  grind
theorem KX {n0:Nat} {e:Ty} {fz:Nat->Bool} (hf:e.flat=true) {K:List e.den->St->Option R} :
  ∀ (ps:List (Nat×Operand)) {n:Nat} {σ:St} {A:Cells} {F:Nat->FP} {v:List e.den} {cs:List Value},ps.all (λp=>bh P p.2)=true->bn P C A σ a w F->Ro P w A (.arr n0 e) v cs ->
   AE σ e fz ps n v K=some x->∃ A' σ' F' v' aJ,K v' σ'=some x/\bn P C A' σ' a w F'/\Ro P w A' (.arr n0 e) v' aJ/\Instr.fill (λi=>some (i*e.sz,e.sz)) cs.toArray (ps.map λp=>(p.1,a.eval p.2))=some aJ.toArray:=by
 intro ps
 induction ps with
 | nil=>intro n σ A F v cs ap h hr hk;exact ⟨A,σ,F,v,cs,hk,h,hr,rfl⟩
 | cons p ps ih=>
  intro n σ A F v cs ap h hr hk
  obtain ⟨j,y⟩:=p
  simp only[List.all_cons,Bool.and_eq_true] at ap
  simp only[AE] at hk
  rcases bE h ap.1 with hs | ⟨xs,e⟩
  rotate_left
  ·grind [ew]
  obtain ⟨A1,fT,F1,m1,v1,gU,Fv,k1,k2,k3,k4,kr,k5,k6⟩:=kj h hs hk
  split at k1
  ·rename_i hj
   have oQ:Ro P w A1 (.arr n0 e) v cs:=Ro.mono (λ_ _ _ _ h=>h) k2 _ hr
   obtain ⟨q1,q2⟩:=KW oQ (af.flat _ hf k6) hj
   obtain ⟨A',σ',F',v',aJ,g1,g2,g3,g4⟩:=ih ap.2 (k3.less (X':=λ_ _=>0) λ_ _=>Nat.zero_le _) q1 k1
   refine ⟨A',σ',F',v',aJ,g1,g2,g3,?_⟩
   rw[List.map_cons,k5,qx (pl:=λi=>some (i*e.sz,e.sz)) rfl (af.length _ k6) (dB (af.length _ k6) (af.one _ k6)) q2]
   exact g4
  ·cases k1
theorem EF (h:bn P C A σ a w F) (dZ:∀ i T,E.TI i=some T->aq P T (.inl i)=true) {t:Nat} {ps:Array (Nat×Operand)} {fz:Nat->Bool} (ho:o.op=.build t ps) (ap:ps.toList.all (λp=>bh P p.2)=true) {K:St->Option R}
  (hk:(gF E t λt=>match t with
  | .arr n e=>if e.lu then AE σ e fz ps.toList 0 (Ty.arr n e).zero λv σ=>K (σ.aH o.dst (laid (.arr n e) (av (.arr n e)) v)) else none
  | .pair t1 t2=>if (Ty.pair t1 t2).lu then tr E σ (.pair t1 t2) fz ps.toList 0 (av (.pair t1 t2)) (Ty.pair t1 t2).zero λm v σ=>K (σ.aH o.dst (laid (.pair t1 t2) m v)) else none
  | _=>none)=some x):Tk P o a w (Nx P C K x):=by
 obtain ⟨T,hT,hk⟩:=bM hk
 have cI:=dZ _ _ hT
 have run:∀ (cells:Array Value),P.built t (ps.map λ(i,x)=>(i,a.eval x)).toList=some cells->∀ w',jP o w w'->(execOp a.eval o).run P w'=.ok (.value (.agg cells)) w':=λcells hc w' _=>by
  simp_all [execOp,run_build]
 have mF:(ps.map λ(i,x)=>(i,a.eval x)).toList=ps.toList.map λp=>(p.1,a.eval p.2):=by simp
 rw[mF] at run
 split at hk
 ·rename_i n e
  split at hk
  ·rename_i hz
   have so:e.flat=true:=by
    grind [aq]
   obtain ⟨L,hL⟩:=jQ (.arr n e) (by simpa [Ty.lu] using hz)
   obtain ⟨r1,r2,r3⟩:=o3 (P:=P) (w:=w) (A:=A) _ hL cI
   obtain ⟨inf,i1,i2,i3,i4⟩:=dM (ej cI)
   obtain ⟨z,z1,z2⟩:=i4 L hL
   obtain ⟨A',σ',F',v',aJ,g1,g2,g3,g4⟩:=KX so ps.toList ap h r2 hk
   have hu:∃ el ie,P.underlying t=some (.array n el)/\P.info? el=some ie/\ie.size=e.sz:=by
    have hl:=cI
    simp only[aq,Bool.and_eq_true] at hl
    have h2:=hl.2
    split at h2
    ·rename_i n' el hu
     simp only[Bool.and_eq_true,Nat.beq_eq] at h2
     obtain ⟨ie,j1,j2,_⟩:=dM (ej h2.2)
     grind
    ·cases h2
   obtain ⟨el,ie,u1,u2,u3⟩:=hu
   have OR:z.cells=L.toArray:=Array.ext' (by simpa using z2)
   have e1:aZ (.arr n e) aJ=.agg aJ.toArray:=rfl
   refine bU (v:=aZ (.arr n e) aJ) (run _ ?_) ?_
   ·grind [Program.built]
   ·exact pP g2 g1 (Ro.flat _ (λ_ _=>0) (by grind [Ty.flat]) g3) (λ_ _=>Nat.le_refl _)
  ·cases hk
 ·rename_i t1 t2
  split at hk
  ·rename_i hz
   obtain ⟨L,hL⟩:=jQ (.pair t1 t2) hz
   obtain ⟨r1,r2,r3⟩:=o3 (P:=P) (w:=w) (A:=A) _ hL cI
   obtain ⟨inf,i1,i2,i3,i4⟩:=dM (ej cI)
   obtain ⟨z,z1,z2⟩:=i4 L hL
   have OR:z.cells=L.toArray:=Array.ext' (by simpa using z2)
   obtain ⟨fs,Q4,u1,u2,u3⟩:=Aa cI (j:=0) rfl
   obtain ⟨A',σ',F',m',v',aJ,X',g1,g2,g3,g4⟩:=GA (pl:=λj=>Q4.toArray[j]?) u3 ps.toList ap h r1 hk
   refine bU (v:=aZ (.pair t1 t2) aJ) (run _ ?_) (pP g2 g1 g3 (λ_ _=>Nat.le_refl _))
   grind [Program.built]
  ·cases hk
 ·cases hk
theorem KY {e:Ty} {fz:Nat->Bool} (fk:1<=e.sz) {K:Md->List e.den->St->Option R} :
  ∀ (ps:List (Nat×Operand)) {n:Nat} {σ:St} {A:Cells} {X:FP} {F:Nat->FP} {m:Md} {v:List e.den} {L Z:List Value} {Fi:Nat->FP},ps.all (λp=>bh P p.2)=true->Rel P C A X σ a w F ->
   List.length v=n->L.length=n*e.sz->Z.length=ps.length*e.sz->(∀ b i,ao n Fi b i<=X b i)->(∀ (i:Nat) (y:e.den),v[i]?=some y->af P w A e m [] y ((L.drop (i*e.sz)).take e.sz) (Fi i)) ->
   tt σ e fz ps n m v K=some x->∃ (A':Cells) (σ':St) (F':Nat->FP) (m':Md) (v':List e.den) (L':List Value) (X':FP) (xe:Nat->FP),K m' v' σ'=some x/\Rel P C A' X' σ' a w F'/\List.length v'=n+ps.length/\L'.length=(n+ps.length)*e.sz/\(∀ b i,ao (n+ps.length) xe b i<=X' b i) /\
    (∀ (i:Nat) (y:e.den),v'[i]?=some y->af P w A' e m' [] y ((L'.drop (i*e.sz)).take e.sz) (xe i))/\Instr.fill (λi=>some (i*e.sz,e.sz)) (L++Z).toArray (ps.map λp=>(p.1,a.eval p.2))=some L'.toArray:=by
 intro ps
 induction ps with
 | nil=>
  intro n σ A X F m v L Z Fi ap h hv hL hZ hX hr hk
  have:Z=[]:=by simpa using hZ
  subst this
  exact ⟨A,σ,F,m,v,L,X,Fi,hk,h,hv,hL,hX,hr,by simp[Instr.fill]⟩
 | cons p ps ih=>
  intro n σ A X F m v L Z Fi ap h hv hL hZ hX hr hk
  obtain ⟨j,y⟩:=p
  simp only[List.all_cons,Bool.and_eq_true] at ap
  simp only[tt] at hk
  split at hk
  ·rename_i hj
   have hj:j=n:=by simpa using hj
   subst hj
   rcases bE h ap.1 with hs | ⟨xs,e⟩
   rotate_left
   ·grind [ew]
   obtain ⟨A1,fT,F1,m1,v1,gU,Fv,k1,k2,k3,k4,kr,k5,k6⟩:=kj h hs hk
   have nt:=af.length _ k6
   have GB:Z.length=e.sz+ps.length*e.sz:=by grind
   have OU:∀ {A2:Cells} {X2:FP} {m2:Md} {Bh:Nat->FP},Rel P C A2 X2 fT a w F1->(∀ b i,ao (j+1) Bh b i<=X2 b i)->(∀ (i:Nat) (y:e.den),v[i]?=some y->af P w A2 e m2 [] y ((L.drop (i*e.sz)).take e.sz) (Bh i)) ->
     af P w A2 e m2 [] v1 gU (Bh j)->tt fT e fz ps (j+1) m2 (v++[v1]) K=some x ->
     ∃ (A':Cells) (σ':St) (F':Nat->FP) (m':Md) (v':List e.den) (L':List Value) (X':FP) (xe:Nat->FP),K m' v' σ'=some x/\Rel P C A' X' σ' a w F'/\List.length v'=j+(ps.length+1)/\L'.length=(j+(ps.length+1))*e.sz/\(∀ b i,ao (j+(ps.length+1)) xe b i<=X' b i) /\
      (∀ (i:Nat) (y:e.den),v'[i]?=some y->af P w A' e m' [] y ((L'.drop (i*e.sz)).take e.sz) (xe i))/\Instr.fill (λi=>some (i*e.sz,e.sz)) (L++Z).toArray ((j,a.eval y)::ps.map λp=>(p.1,a.eval p.2))=some L'.toArray:=by
    intro A2 X2 m2 Bh h2 Q5 oc rF fg
    obtain ⟨A',σ',F',m',v',L',X',xe,g1,g2,g3,g4,g5,g6,g7⟩:=ih (L:=L++gU) (Z:=Z.drop e.sz) (Fi:=Bh) ap.2 h2 (by simp[hv]) (by grind) (by simp[GB]) Q5 (λi z hz=>by
     by_cases hi:i=j
     ·grind
     ·have aE:i < j:=by
       grind
      rw[List.getElem?_append_left (by omega)] at hz
      have h6:i*e.sz+e.sz<=j*e.sz:=by rw[<-Nat.succ_mul];exact Nat.mul_le_mul_right _ (by omega)
      grind) fg
    refine ⟨A',σ',F',m',v',L',X',xe,g1,g2,by omega,by grind,λb i=>by grind,g6,?_⟩
    rw[k5,qx (pl:=λi=>some (i*e.sz,e.sz)) rfl nt (dB nt (af.one _ k6)) (by simp[hL,GB])]
    grind [List.drop_append,List.drop_of_length_le,Nat.add_sub_cancel_left]
   have oQ:∀ (i:Nat) (y:e.den),v[i]?=some y->af P w A1 e m [] y ((L.drop (i*e.sz)).take e.sz) (Fi i):=λi y hy=>af.mono (P:=P) (A':=A1) k2 (λ_ _ _ _ h=>h) (λ_ _ h=>h) e (hr i y hy) (λ_ _=>Nat.le_refl _) (λ_ _ _ _ h=>h)
   split at k1
   ·rename_i hm
    subst hm
    refine OU (Bh:=bL Fi j Fv) k3 (λb i=>?_) (λi y hy=>?_) (by grind [bL]) k1
    ·have h1:=kG j 1 (bL Fi j Fv) b i
     have h2:ao j (bL Fi j Fv) b i=ao j Fi b i:=by rw[AP Fi (Nat.le_refl j)]
     have h3:ao 1 (λk=>bL Fi j Fv (j+k)) b i=Fv b i:=by simp[ao,bL]
     grind
    grind [bL]
   ·
    have kL:∃ A2:Cells,(∀ b i,A1 b i->A2 b i)/\Rel P C A2 (λ_ _=>0) fT a w F1/\Ro P w A2 e v1 gU/\∀ (i:Nat) (y:e.den),v[i]?=some y->Ro P w A2 e y ((L.drop (i*e.sz)).take e.sz):=by
     refine ⟨λb i=>A1 b i\/1<=X b i+Fv b i,λ_ _ h=>.inl h,k3.giveUp (λ_ _ h=>.inl h) (λb i ha=>ha.imp id λhp=>⟨hp,rfl⟩) (λ_ _=>Nat.zero_le _),af.mr (λ_ _ h=>.inl h) e k6 (λb i hp=>.inr (by omega)),λi y hy=>?_⟩
     grind [af.mr,a_]
    obtain ⟨A2,J,a2,a3,a4⟩:=kL
    exact OU (Bh:=λ_ _ _=>0) a2 (λb i=>by grind [eH]) (λi y hy=>Ro.rep _ _ (bQ _) (a4 i y hy)) (Ro.rep _ _ (bQ _) a3) k1
  ·cases hk
theorem yB (h:bn P C A σ a w F) (dZ:∀ i T,E.TI i=some T->aq P T (.inl i)=true) {t n:Nat} {ps:Array (Nat×Operand)} {fz:Nat->Bool} (ho:o.op=.buildSlice t n ps) (ap:ps.toList.all (λp=>bh P p.2)=true) {K:St->Option R}
  (hk:(gF E t λt=>match t with
  | .aa e=>if Nat.beq n ps.size&&e.lu&&Nat.ble (n*e.sz) 16777216 then tt σ e fz ps.toList 0 (av e) [] λm v σ=>K (σ.aH o.dst (.own (.aa e) (.aa true m) [] v)) else none
  | _=>none)=some x):o.wp P a w (λa' w'=>Nx P C K x a' w'/\Ext w w' (λ_ _=>0)) Q:=by
 obtain ⟨T,hT,hk⟩:=bM hk
 have cI:=dZ _ _ hT
 split at hk
 ·rename_i e
  split at hk
  ·rename_i hc
   simp only[Bool.and_eq_true,Nat.beq_eq,Nat.ble_eq] at hc
   obtain ⟨⟨hn,hz⟩,hJ⟩:=hc
   have hl:=cI
   simp only[aq,Bool.and_eq_true] at hl
   have h2:=hl.2
   split at h2
   ·rename_i el hu
    simp only[Bool.and_eq_true,Nat.ble_eq] at h2
    obtain ⟨fk,jE⟩:=h2
    obtain ⟨Lz,GC⟩:=jQ e hz
    obtain ⟨r1,r2,r3⟩:=o3 (P:=P) (w:=w) (A:=A) _ GC jE
    obtain ⟨inf,i1,i2,i3,i4⟩:=dM (ej jE)
    obtain ⟨z,z1,z2⟩:=i4 Lz GC
    have Q6:z.cells.size=e.sz:=by grind
    obtain ⟨A',σ',F',m',v',L',X',xe,g1,g2,g3,g4,g5,g6,g7⟩:=KY (P:=P) fk ps.toList (n:=0) (L:=[]) (Z:=((Array.range (n*e.sz)).map (z.cells[· % z.cells.size]!)).toList) (Fi:=λ_ _ _=>0) (m:=av e) ap h rfl (by simp) (by simp[hn]) (λb i=>by grind [eH]) (λi y hy=>by cases hy) hk
    simp only[List.nil_append,Array.toArray_toList] at g7
    simp only[Nat.zero_add] at g3 g4 g5
    have mG:ps.toList.length=n:=by simpa using hn.symm
    rw[mG] at g3 g4 g5
    have dD:(execOp a.eval o).run P w=.ok (.value (.slice (some ⟨w.heap.size,0,none⟩) n n)) (w.alloc (.cells L'.toArray el)):=by
     by_cases td:n*e.sz=0
     ·have:n=0:=by rcases Nat.mul_eq_zero.1 td with h | h <;> omega
      subst this
      have mF:ps=#[]:=by grind
      subst mF
      have Dm:L'=[]:=by simpa using g4
      subst Dm
      simp[execOp,ho,Instr.buildSlice,run_underlying hu,Go.sizeOf,typeInfo,i1,Instr.fill,newRow,show Array.range 0=#[] from rfl]
     simp_all [run_buildSlice,execOp]
    refine fI (w':=w.alloc (.cells L'.toArray el)) dD ?_
    have fW:=uS g2 (K:=K) (x:=x) (d:=o.dst) (e:=e) (m:=m') (v:=v') (c:=L'.toArray) (cap:=n) (el:=el) (fr:=(0,0)) (Fi:=xe) (.inr (Nat.le_refl _)) g1 (by simp[g4]) (by simp only[maxLen];have:=Nat.le_mul_of_pos_right n fk;omega) (by omega)
     (λb i=>by grind) (λi y hy=>⟨(L'.drop (i*e.sz)).take e.sz,af.length _ (g6 i y hy),(λj u hu=>by
      grind),g6 i y hy⟩)
    grind [fJ]
   ·cases h2
  ·cases hk
 ·cases hk
end
end OT
set_option linter.unusedVariables false
set_option linter.unusedSimpArgs false
namespace OT
open Go
section
variable {P:Program} {C:Ctx} {A:Cells} {X:FP} {σ:St} {a:Act} {w:World} {F:Nat->FP} {R:Type} {x:R} {Q:Exit->Act->World->Prop} {o:Oper} {E:Env}
theorem Rel.world (h:Rel P C A X σ a w F) {w1:World} {G:FP} (hw:Ext w w1 G) (hG:∀ b i,1<=G b i->1<=X b i):Rel P C A X σ a w1 F:=by
 have jA:∀ b i,A b i->∀ u,ce w b i=some u->ce w1 b i=some u:=λb i ha u hu=>by
  refine hw.cell b i (h.dC b i (.inr ha)) ?_ u hu
  rcases Nat.eq_zero_or_pos (G b i) with h0 | h0
  ·exact h0
  ·exact absurd ha (h.gI b i (by grind))
 have tJ:∀ j,j < σ.n->∀ b i,1<=F j b i->(∀ u,ce w b i=some u->ce w1 b i=some u)/\w1.frozen? ⟨b,i,none⟩=w.frozen? ⟨b,i,none⟩:=λj hj b i hp=>by
  have hs:=a_ F hj b i
  have hb:=h.dC b i (.inl (by omega))
  refine ⟨λu hu=>hw.cell b i hb ?_ u hu,hw.oK b i hb⟩
  rcases Nat.eq_zero_or_pos (G b i) with h0 | h0
  ·exact h0
  ·have:=hG b i h0;have:=h.ge b i;omega
 have ff:nx σ a w σ a w1:=λr p snap hb=>⟨hb,λap=>⟨ap,λhl pl de=>⟨pl.H,pl.cs,by
  have aE:=jO de
  exact lF (h.cj r aE) rfl rfl jA (λb i hp=>(tJ r aE b i hp).1) de,λ_=>rfl⟩⟩⟩
 refine ⟨h.size,h.defers,λi hi=>aW.eM ff (λ_ _ h=>h) jA hw.lW (tJ i hi) (h.cj i hi),λd r p snap hm=>iz.eM ff (h.gh d r p snap hm),h.ge,h.gI,λb i hp=>Nat.lt_of_lt_of_le (h.dC b i hp) hw.size,
  h.ei,h.ext.trans hw (λb i hb hz=>?_),h.own,h.a0,h.J,h.fN,λr t m H v hg hl=>?_,λj k hm R' gf=>?_,h.mw⟩
 ·rcases Nat.eq_zero_or_pos (G b i) with h0 | h0
  ·exact h0
  ·rcases h.own b i (by grind) with h1 | h1 <;> omega
 ·obtain ⟨b,h1,h2⟩:=h.whole r t m H v hg hl
  exact ⟨b,h1,hw.lW _ _ h2⟩
 ·rcases Nat.lt_or_ge j σ.n with hj | hj
  ·have iM:=h.cj j hj
   cases oR:bl w (tmp a j) (σ.get j) with
   | none=>exfalso;cases hg:σ.get j <;> rw[hg] at oR gf <;> simp only[bl] at oR gf <;> first | grind | grind | grind
   | some R0=>
    rw[mz iM (λb i hp=>(tJ j hj b i hp).1) oR] at gf
    injection gf with gf
    subst gf
    exact h.e9 j k hm _ oR
  ·rw[ep (Nat.not_lt.2 hj)] at gf;cases gf
theorem xf {b o sz:Nat} {n:Nat} (h:∀ i,i < n->∃ L:List Value,L.length=sz/\Has w b (o+i*sz) L):Has w b o (rd w b o (n*sz))/\∀ i L,i < n->L.length=sz->Has w b (o+i*sz) L->((rd w b o (n*sz)).drop (i*sz)).take sz=L:=by
 have uT:∀ j,j < n*sz->(ce w b (o+j)).isSome=true:=λj hj=>by
  have fk:0 < sz:=by grind
  have hi:j / sz < n:=Nat.div_lt_of_lt_mul (by grind)
  obtain ⟨L,h1,h2⟩:=h _ hi
  have hm:j % sz < L.length:=by simp_all [Nat.mod_lt]
  have:=h2 (j % sz) _ (List.getElem?_eq_getElem hm)
  grind [Nat.div_add_mod]
 refine ⟨λj u hu=>?_,λi L hi hl hL=>?_⟩
 ·have hj:=(List.getElem?_eq_some_iff.1 hu).1
  rw[n_] at hj
  unfold rd at hu
  rw[List.getElem?_map,List.getElem?_range hj] at hu
  simp only[Option.map_some,Option.some.injEq] at hu
  obtain ⟨u',OO⟩:=Option.isSome_iff_exists.1 (uT j hj)
  grind
 ·have h6:i*sz+sz<=n*sz:=by rw[<-Nat.succ_mul];exact Nat.mul_le_mul_right _ (by omega)
  apply List.ext_getElem?
  intro j
  rw[List.getElem?_take,List.getElem?_drop]
  by_cases hj:j < sz
  ·rw[if_pos hj]
   unfold rd
   rw[List.getElem?_map,List.getElem?_range (by omega)]
   have:=hL j L[j] (List.getElem?_eq_getElem (by omega))
   grind
  grind
theorem xg {e:Ty} {m:Md} {H:List Path} (hH:hole H=false) {v:List e.den} {cs:List Value} {Fv:FP} (hr:af P w A (.aa e) m H v cs Fv) :
  ∃ xa cap news Fi,cs=[.slice xa (List.length v) cap]/\(List.length v<=cap/\(xa=none->List.length v=0))/\(∀ ad,xa=some ad->(0 < cap->ad.spot=none)/\Has w ad.block ad.off news)/\news.length=List.length v*e.sz/\(∀ u ∈ news,u.oneCell'=true) /\
   (∀ (i:Nat) (y:e.den),v[i]?=some y->af P w A e m.e (H.filterMap (dA i)) y ((news.drop (i*e.sz)).take e.sz) (Fi i))/\(∀ b i,ao (List.length v) Fi b i<=Fv b i) /\
   (m.own=true->List.length v<=cap/\cap<=maxLen/\(xa=none->cap=0)/\∀ ad,xa=some ad->ad.off=0/\ad.spot=none/\cr w ad.block (cap*e.sz,vO e)/\∀ b i,bk ad.block 0 (cap*e.sz) b i+ao (List.length v) Fi b i<=Fv b i):=by
 have g_:∀ (news:List Value) (Fi:Nat->FP),news.length=List.length v*e.sz->(∀ (i:Nat) (y:e.den),v[i]?=some y->af P w A e m.e (H.filterMap (dA i)) y ((news.drop (i*e.sz)).take e.sz) (Fi i))->∀ u ∈ news,u.oneCell'=true:=by
  intro news Fi hl jE u hu
  obtain ⟨j,hj,rfl⟩:=List.mem_iff_getElem.1 hu
  have fk:0 < e.sz:=by grind
  have hi:j / e.sz < List.length v:=Nat.div_lt_of_lt_mul (by grind)
  have h1:=af.one _ (jE _ _ (List.getElem?_eq_getElem hi))
  refine h1 _ (List.mem_of_getElem? (i:=j % e.sz) ?_)
  grind [Nat.mod_lt,Nat.div_add_mod]
 simp only[af,hH,Bool.false_eq_true,if_false] at hr
 split at hr
 ·rename_i cz
  obtain ⟨xa,cap,rfl,h1,h2,h3,h4⟩:=hr
  cases xa with
  | none=>
   have hJ:=h3 rfl
   have JV:List.length v=0:=by omega
   have hv:v=[]:=List.eq_nil_of_length_eq_zero JV
   subst hv
   exact ⟨none,cap,[],λ_ _ _=>0,rfl,⟨Nat.zero_le _,λ_=>rfl⟩,(λad e=>by cases e),by simp,(λu hu=>by cases hu),(λi y hy=>by cases hy),λb i=>by grind [eH],λ_=>⟨h1,h2,h3,λad e=>by cases e⟩⟩
  | some ad=>
   obtain ⟨g1,g2,g3,Fi,g4,g5⟩:=h4 ad rfl
   have hp:∀ i,i < List.length v->∃ L:List Value,L.length=e.sz/\Has w ad.block (0+i*e.sz) L:=λi hi=>by
    obtain ⟨L,l1,l2,_⟩:=g5 i _ (List.getElem?_eq_getElem hi)
    grind
   obtain ⟨p1,p2⟩:=xf hp
   have jE:∀ (i:Nat) (y:e.den),v[i]?=some y->af P w A e m.e (H.filterMap (dA i)) y (((rd w ad.block 0 (List.length v*e.sz)).drop (i*e.sz)).take e.sz) (Fi i):=λi y hy=>by
    grind
   refine ⟨some ad,cap,rd w ad.block 0 (List.length v*e.sz),Fi,rfl,⟨h1,(λe=>by cases e)⟩,λaY e=>?_,n_ _ _ _ _,g_ _ _ (n_ _ _ _ _) jE,jE,λb i=>by grind,λ_=>⟨h1,h2,h3,λaY e=>?_⟩⟩
   all_goals grind
 ·rename_i cz
  obtain ⟨rfl,jt,xa,cap,rfl,h1,h2,h3⟩:=hr
  cases xa with
  | none=>
   have hv:v=[]:=List.eq_nil_of_length_eq_zero (h2 rfl)
   subst hv
   exact ⟨none,cap,[],λ_ _ _=>0,rfl,⟨Nat.zero_le _,λ_=>rfl⟩,(λad e=>by cases e),by simp,(λu hu=>by cases hu),(λi y hy=>by cases hy),(λb i=>by grind [eH]),λh=>absurd h cz⟩
  | some ad=>
   obtain ⟨g1,g2⟩:=h3 ad rfl
   have hp:∀ i,i < List.length v->∃ L:List Value,L.length=e.sz/\Has w ad.block (ad.off+i*e.sz) L:=λi hi=>by
    obtain ⟨L,l1,l2,_⟩:=g2 i _ (List.getElem?_eq_getElem hi)
    exact ⟨L,l1,λj u hu=>(l2 j u hu).1⟩
   obtain ⟨p1,p2⟩:=xf hp
   have jE:∀ (i:Nat) (y:e.den),v[i]?=some y->af P w A e m.e (([]:List Path).filterMap (dA i)) y (((rd w ad.block ad.off (List.length v*e.sz)).drop (i*e.sz)).take e.sz) (λ_ _=>0):=λi y hy=>by
    obtain ⟨L,l1,l2,l3⟩:=g2 i y hy
    rw[p2 i L (List.getElem?_eq_some_iff.1 hy).1 l1 (λj u hu=>(l2 j u hu).1)]
    grind [Ro.rep]
   refine ⟨some ad,cap,rd w ad.block ad.off (List.length v*e.sz),λ_ _ _=>0,rfl,⟨h1,(λe=>by cases e)⟩,λaY e=>?_,n_ _ _ _ _,g_ _ _ (n_ _ _ _ _) jE,jE,(λb i=>by grind [eH]),λh=>absurd h cz⟩
   grind
theorem tP {e:Ty} {m:Md} {v:List e.den} {cs:List Value} {Fv:FP} (hr:af P w A (.aa e) m [] v cs Fv) :
  ∃ xa cap news Fi,cs=[.slice xa (List.length v) cap]/\(List.length v<=cap/\(xa=none->List.length v=0))/\(∀ ad,xa=some ad->(0 < cap->ad.spot=none)/\Has w ad.block ad.off news)/\news.length=List.length v*e.sz/\(∀ u ∈ news,u.oneCell'=true) /\
   (∀ (i:Nat) (y:e.den),v[i]?=some y->af P w A e m.e [] y ((news.drop (i*e.sz)).take e.sz) (Fi i))/\(∀ b i,ao (List.length v) Fi b i<=Fv b i) /\
   (m.own=true->List.length v<=cap/\cap<=maxLen/\(xa=none->cap=0)/\∀ ad,xa=some ad->ad.off=0/\ad.spot=none/\cr w ad.block (cap*e.sz,vO e)/\∀ b i,bk ad.block 0 (cap*e.sz) b i+ao (List.length v) Fi b i<=Fv b i):=
 xg rfl hr
theorem yC (h:Rel P C A X σ a w F) {s:Slot} {tv:Value} {G:FP} (hs:aW P A σ a w tv s G) {mv:Bool} {e:Ty} {tx:TypeId} (qy:(∃ e',P.underlying tx=some (.slice e'))\/P.underlying tx=some .string)
  {K:Md->List e.den->St->Option R} (hk:qs σ s e mv K=some x) :
  ∃ (A':Cells) (σ':St) (F':Nat->FP) (me:Md) (y:List e.den) (news:List Value) (Fv:FP) (Fi:Nat->FP),K me y σ'=some x/\(∀ b i,A b i->A' b i)/\Rel P C A' (λb i=>X b i+Fv b i) σ' a w F'/\ii σ σ' /\
   Src P e.sz tx tv (List.length y) news w/\(∀ k,k<=List.length y->(Builtin.firstCells e.sz k tv).run P w=.ok (news.take (k*e.sz)).toArray w)/\(∀ (i:Nat) (z:e.den),y[i]?=some z->af P w A' e me [] z ((news.drop (i*e.sz)).take e.sz) (Fi i))/\∀ b i,ao (List.length y) Fi b i<=Fv b i:=by
 unfold qs at hk
 split at hk
 ·rename_i s'
  obtain ⟨e1,hk⟩:=aV hk
  injection e1 with e1
  subst e1
  obtain ⟨cs,h1,h2⟩:=hs
  simp only[Ro] at h2
  subst h2
  have pO:tv=.string ⟨List.toArray s'⟩:=h1
  subst pO
  have hlen:(byteCells ⟨List.toArray s'⟩)=List.map (λ(b:UInt8)=>Value.int .u8 b.toNat) s':=by simp[byteCells]
  have fk:(⟨List.toArray s'⟩:ByteArray).size=List.length s':=rfl
  refine ⟨A,σ,F,.leaf,s',byteCells ⟨List.toArray s'⟩,λ_ _=>0,λ_ _ _=>0,hk,λ_ _ h=>h,h,ii.refl σ,⟨qy,λ_=>rfl,firstCells_string _ w,firstCells_string _ w.drew,by grind [Ty.sz],λu hu=>?_⟩,λk hk=>?_,λi z hz=>?_,λb i=>by grind [eH]⟩
  ·obtain ⟨_,_,rfl⟩:=List.mem_map.1 hu;rfl
  ·rw[hlen]
   have S8:((⟨List.toArray s'⟩:ByteArray).extract 0 k).data.toList=s'.take k:=by simp[ByteArray.data_extract]
   simp only[Builtin.firstCells,Sem.run_pure,Ty.sz,Nat.mul_one]
   simp_all
  ·have:((byteCells ⟨List.toArray s'⟩).drop (i*Ty.sz (.int .u8))).take (Ty.sz (.int .u8))=[Value.int .u8 z.toNat]:=by
    show ((byteCells ⟨List.toArray s'⟩).drop (i*1)).take 1=_
    grind [List.take_one,List.head?_drop]
   exact this
 ·rename_i s' QW
  obtain ⟨A',σ',F',m,v,cs,Fv,k1,k2,k3,k4,kr,k5,k6⟩:=kj h hs hk
  obtain ⟨xa,cap,news,Fi,r1,r2,r3,r4,r5,r6,r7,r8⟩:=tP k6
  rw[r1,bp _ _ rfl] at k5
  subst k5
  have A9:∀ ad,xa=some ad->∀ j u,news[j]?=some u->w.cell? (ad.add j)=some u:=λad e1 j u hu=>by
   obtain ⟨g1,g2⟩:=r3 ad e1
   have hj:=(List.getElem?_eq_some_iff.1 hu).1
   have vV:0 < cap:=by
    grind
   obtain ⟨b,off,sp⟩:=ad
   have:=g1 vV
   simp only at this
   subst this
   rw[g0]
   exact lc (g2 j u hu) (r5 u (List.mem_of_getElem? hu))
  refine ⟨A',σ',F',m.e,v,news,Fv,Fi,k1,k2,k3,kr,?_,?_,r6,r7⟩
  rotate_left
  ·intro k hk
   cases xa with
   | none=>
    simp_all [run_firstCells_none]
   | some ad=>
    grind [Nat.mul_le_mul_right,run_firstCells_some]
  cases xa with
  | none=>
   have h0:=r2.2 rfl
   have hn:news=[]:=List.eq_nil_of_length_eq_zero (by grind)
   subst hn
   rw[h0]
   exact ⟨qy,λ_=>rfl,run_firstCells_none w e.sz 0 0 cap,run_firstCells_none w.drew e.sz 0 0 cap,by simp,λu hu=>by cases hu⟩
  | some ad=>
   have hc:=A9 ad rfl
   exact ⟨qy,λ_=>rfl,run_firstCells_some w e.sz (List.length v) ad (List.length v) cap news r4 hc,run_firstCells_some w.drew e.sz (List.length v) ad (List.length v) cap news r4 (by simpa using hc),r4,r5⟩
theorem vX {e:Ty} {me:Md} {v y:List e.den} {hK news:List Value} {Fi Gi:Nat->FP} (hl:hK.length=List.length v*e.sz)
  (h1:∀ (i:Nat) (z:e.den),v[i]?=some z->af P w A e me [] z ((hK.drop (i*e.sz)).take e.sz) (Fi i)) (h2:∀ (i:Nat) (z:e.den),y[i]?=some z->af P w A e me [] z ((news.drop (i*e.sz)).take e.sz) (Gi i)) :
  ∀ (i:Nat) (z:e.den),(v++y)[i]?=some z->af P w A e me [] z (((hK++news).drop (i*e.sz)).take e.sz) (if i < List.length v then Fi i else Gi (i - List.length v)):=by
 intro i z hz
 by_cases hi:i < List.length v
 ·rw[if_pos hi]
  rw[List.getElem?_append_left hi] at hz
  have h6:i*e.sz+e.sz<=List.length v*e.sz:=by rw[<-Nat.succ_mul];exact Nat.mul_le_mul_right _ (by omega)
  grind
 grind [Nat.mul_le_mul_right,List.drop_append,List.drop_of_length_le,Nat.sub_mul]
theorem Bi (n m:Nat) (Fi Gi:Nat->FP) (b i:Nat):ao (n+m) (λi=>if i < n then Fi i else Gi (i - n)) b i=ao n Fi b i+ao m Gi b i:=by
 rw[kG]
 congr 1
 all_goals simp_all [mq,if_neg]
theorem Ro.indep {A':Cells}:∀ (t:Ty) {v:t.den} {cs:List Value},t.flat=true->t.gE=true->Ro P w A t v cs->Ro P w A' t v cs:=by
 intro t
 induction t with
 | pair a b eI ey=>
  intro v cs hf hn h
  simp only[Ty.flat,Ty.gE,Bool.and_eq_true] at hf hn
  exact ⟨eI hf.1 hn.1 h.1,ey hf.2 hn.2 h.2⟩
 | arr n e ih=>
  intro v cs hf hn h
  exact ⟨h.1,h.2.1,h.2.2.1,λi x hx=>ih hf hn (h.2.2.2 i x hx)⟩
 | aa e ih=>grind [Ty.flat]
 | ptr e ih=>grind [Ty.flat]
 | fn=>grind [Ty.gE]
 | map k v=>grind [Ty.flat]
 | _=>intro v cs hf hn h;exact h
theorem xh {A1 A2:Cells} {ez:St} {F2:Nat->FP} {t tx:Nat} {y z:Operand} (ho:o.op=.call { callee:=.builtin .append,args:=#[y,z],argTypes:=#[t,tx] }) {e:Ty} {el:Nat} (hu:P.underlying t=some (.slice el)) (jE:aq P e (.inl el)=true)
  {m me:Md} {v yv:List e.den} {cs news:List Value} {Fv Fw:FP} {Gi:Nat->FP} {K:St->Option R} (cz:m.own=true) (k5:a.eval y=aZ (.aa e) cs) (k6:af P w A1 (.aa e) m [] v cs Fv) (hJ:v.length+yv.length<=bV)
  (q1:K (ez.aH o.dst (.own (.aa e) (.aa true (if me=m.e then me else ah e)) [] (v++yv)))=some x) (q2:∀ b i,A1 b i->A2 b i) (q3:Rel P C A2 (λb i=>0+Fv b i+Fw b i) ez a w F2)
  (q4:Src P e.sz tx (a.eval z) (List.length yv) news w) (q5:∀ (i:Nat) (z:e.den),yv[i]?=some z->af P w A2 e me [] z ((news.drop (i*e.sz)).take e.sz) (Gi i)) (q6:∀ b i,ao (List.length yv) Gi b i<=Fw b i):o.wp P a w (Nx P C K x) Q:=by
 obtain ⟨inf,zv,i1,i2,i3,i4,i5,_⟩:=nM (ej jE)
 obtain ⟨xa,cap,hK,Fi,r1,r2,r3,r4,r5,r6,r7,r8⟩:=tP k6
 obtain ⟨c1,c2,c3,c4⟩:=r8 cz
 rw[r1,bp _ _ rfl] at k5
 have OV:∀ (i:Nat) (z:e.den),v[i]?=some z->af P w A2 e m.e [] z ((hK.drop (i*e.sz)).take e.sz) (Fi i):=λi z hz=>af.mono (P:=P) (A':=A2) q2 (λ_ _ _ _ h=>h) (λ_ _ h=>h) e (r6 i z hz) (λ_ _=>Nat.le_refl _) (λ_ _ _ _ h=>h)
 have qW:∃ (A3:Cells) (X3:FP) (Hi:Nat->FP),Rel P C A3 X3 ez a w F2/\(∀ (i:Nat) (z:e.den),(v++yv)[i]?=some z->af P w A3 e (if me=m.e then me else ah e) [] z (((hK++news).drop (i*e.sz)).take e.sz) (Hi i)) /\
   (∀ b i,ao (List.length v+List.length yv) Hi b i<=X3 b i)/\∀ ad,xa=some ad->∀ b i,bk ad.block 0 (cap*e.sz) b i+ao (List.length v+List.length yv) Hi b i<=X3 b i:=by
  by_cases ns:me=m.e
  ·subst ns
   refine ⟨A2,_,_,q3,by simp only[if_true];exact vX r4 OV q5,λb i=>?_,λad di b i=>?_⟩
   all_goals grind [Bi]
  ·simp only[if_neg ns]
   obtain ⟨B,Tu,Tv,Tw⟩:∃ B:FP,(∀ b i,B b i+ao (List.length v) Fi b i<=Fv b i)/\(∀ ad,xa=some ad->∀ b i,bk ad.block 0 (cap*e.sz) b i=B b i)/\∀ b i,B b i<=1:=by
    cases xa with
    | none=>exact ⟨λ_ _=>0,λb i=>by grind,(λad e=>by cases e),λ_ _=>Nat.zero_le _⟩
    | some ad=>exact ⟨bk ad.block 0 (cap*e.sz),(c4 ad rfl).2.2.2,(λaY e=>by grind),λb i=>by grind [bk]⟩
   obtain ⟨A3,iy⟩:∃ A3:Cells,∀ b i,A3 b i↔(A2 b i\/(1<=0+Fv b i+Fw b i/\B b i=0)):=⟨λb i=>A2 b i\/(1<=0+Fv b i+Fw b i/\B b i=0),λ_ _=>Iff.rfl⟩
   refine ⟨A3,B,λ_ _ _=>0,q3.giveUp (λb i h=>(iy b i).2 (.inl h)) (λb i ha=>(iy b i).1 ha) (λb i=>by grind),?_,λb i=>by grind [eH],λad di b i=>by grind [eH]⟩
   have mA:∀ b i,(0+Fv b i+Fw b i)+ao ez.n F2 b i<=1:=λb i=>q3.ge b i
   have Q7:∀ (i:Nat) (z:e.den),v[i]?=some z->af P w A3 e (ah e) [] z ((hK.drop (i*e.sz)).take e.sz) (λ_ _=>0):=λi z hz=>Ro.rep _ _ (bQ _) (af.mr (λb i h=>(iy b i).2 (.inl h)) e (OV i z hz) λb k hp=>(iy b k).2 (.inr (by
    grind [a_])))
   have Q8:∀ (i:Nat) (z:e.den),yv[i]?=some z->af P w A3 e (ah e) [] z ((news.drop (i*e.sz)).take e.sz) (λ_ _=>0):=λi z hz=>Ro.rep _ _ (bQ _) (af.mr (λb i h=>(iy b i).2 (.inl h)) e (q5 i z hz) λb k hp=>(iy b k).2 (.inr (by
    grind [a_])))
   exact λi z hz=>by simpa using vX (Fi:=λ_ _ _=>0) (Gi:=λ_ _ _=>0) r4 Q7 Q8 i z hz
 obtain ⟨A3,X3,Hi,n1,n2,n3,n4⟩:=qW
 have Gc:List.length (v++yv)=List.length v+List.length yv:=by simp
 by_cases lK:List.length v+List.length yv<=cap
 ·cases xa with
  | none=>
   have oS:=c3 rfl
   have JV:v=[]:=List.eq_nil_of_length_eq_zero (by omega)
   have Q9:yv=[]:=List.eq_nil_of_length_eq_zero (by omega)
   subst JV;subst Q9
   have rE:(Builtin.firstCells e.sz 0 (a.eval z)).run P w=.ok news.toArray w:=by have:=q4.cells;simpa using this
   have dD:(execOp a.eval o).run P w=.ok (.value (.slice none 0 cap)) w:=by
    rcases q4.kind with ⟨e',DD⟩ | DD <;>
     simp[execOp,ho,resolve,invoke,builtin,Builtin.append_,k5,run_underlying hu,run_underlying DD,Go.sizeOf,typeInfo,i1,q4.len,i2,rE]
   refine fI dD (gu n1 q1 (Fd:=λ_ _=>0) ⟨[.slice none 0 cap],(bp _ _ rfl).symm,?_⟩ (λ_ _=>Nat.zero_le _) (λ_ _ _ _ e=>by cases e))
   grind [af,Md.own]
  | some ad=>
   obtain ⟨d1,d4,d2,d3⟩:=c4 ad rfl
   obtain ⟨_,d5⟩:=r3 ad rfl
   obtain ⟨b,off,sp⟩:=ad
   simp only at d1 d2 d3 d4 d5
   subst d1;subst d4
   have Q_:∀ b' i,bk b 0 (cap*e.sz) b' i+ao (List.length v+List.length yv) Hi b' i<=X3 b' i:=n4 _ rfl
   have mG:=q4.newsLen
   have tQ:List.length v*e.sz+news.length<=cap*e.sz:=by rw[mG,<- Nat.add_mul];exact Nat.mul_le_mul_right _ lK
   have mH:∀ j,j < cap*e.sz->(w.cell? ⟨b,j,none⟩).isSome=true:=λj hj=>by
    obtain ⟨c,e',fr,w1,w2,w3⟩:=d2
    grind [World.cell?]
   have dD:=run_append_room_src (P:=P) w t tx o.type el inf hu i1 b 0 (List.length v) cap (a.eval z) (List.length yv) news (by grind) lK (λj hj=>by grind) (λj hj=>by rw[i2,Nat.zero_add];exact d2.frozen (by omega))
   rw[i2,Nat.zero_add] at dD
   have EG:(execOp a.eval o).run P w=.ok (.value (.slice (some ⟨b,0,none⟩) (List.length v+List.length yv) cap)) (w.setCells b (List.length v*e.sz) news):=by
    simp_all [execOp,resolve,invoke,builtin]
   have bH:=fX (b:=b) (o:=List.length v*e.sz) news w (List.length v*e.sz)
   have Ra:∀ b' i,1<=bk b (List.length v*e.sz) news.length b' i->1<=bk b 0 (cap*e.sz) b' i:=λb' i hp=>by
    grind [bk]
   have JW:=n1.world bH (λb' i hp=>by grind)
   refine fI EG (gu JW q1 (Fd:=X3) ⟨[.slice (some ⟨b,0,none⟩) (List.length v+List.length yv) cap],(bp _ _ rfl).symm,?_⟩ (λ_ _=>Nat.le_refl _) (λ_ _ _ _ e=>by cases e))
   simp only[af,hole,List.any_nil,Bool.false_eq_true,if_false,Md.own,if_true,Md.e]
   refine ⟨some ⟨b,0,none⟩,cap,by rw[Gc],by omega,c2,(λe=>by cases e),λaY e'=>?_⟩
   injection e' with e';subst e'
   refine ⟨rfl,rfl,bH.lW _ _ d2,Hi,λb' i=>by grind,λi zz hz=>?_⟩
   have cH:=n2 i zz hz
   have Bj:i < List.length v+List.length yv:=by grind
   refine ⟨_,af.length _ cH,?_,?_⟩
   ·
    have iR:Has (w.setCells b (List.length v*e.sz) news) b 0 (hK++news):=λj u hu=>by
     rw[Nat.zero_add]
     by_cases hj:j < hK.length
     ·rw[List.getElem?_append_left hj] at hu
      have hold:=d5 j u hu
      rw[Nat.zero_add] at hold
      refine bH.cell b j (by obtain ⟨c,e',fr,w1,_⟩:=d2;grind) ?_ u hold
      grind [bk]
     ·rw[List.getElem?_append_right (by omega)] at hu
      have:=mE (w:=w) (b:=b) (o:=List.length v*e.sz) (L:=news) (λk hk=>mH _ (by omega)) q4.one _ u hu
      grind
    intro j u hu
    rw[List.getElem?_take] at hu
    split at hu
    ·rw[List.getElem?_drop] at hu
     have:=iR _ u hu
     grind
    ·cases hu
   ·simp only[List.filterMap_nil]
    refine af.mono (P:=P) (λ_ _ h=>h) (λb' k ha u hu=>bH.cell b' k (n1.dC b' k (.inr ha)) ?_ u hu) bH.lW e cH (λ_ _=>Nat.le_refl _) (λb' k hp u hu=>bH.cell b' k ?_ ?_ u hu)
    ·rcases Nat.eq_zero_or_pos (bk b (List.length v*e.sz) news.length b' k) with h0 | h0
     ·exact h0
     ·exact absurd ha (n1.gI b' k (by grind))
    ·exact n1.dC b' k (.inl (by grind [a_]))
    ·rcases Nat.eq_zero_or_pos (bk b (List.length v*e.sz) news.length b' k) with h0 | h0
     ·exact h0
     ·have h1:=Ra b' k h0;have h2:=Q_ b' k;have h3:=a_ Hi Bj b' k;have h4:=n1.ge b' k;omega
 ·
  have N1:(Builtin.firstCells inf.size (List.length v) (.slice xa (List.length v) cap)).run P w.drew=.ok hK.toArray w.drew:=by
   cases xa with
   | none=>
    simp_all [run_firstCells_none]
   | some ad=>
    obtain ⟨_,d4,_,_⟩:=c4 ad rfl
    obtain ⟨_,d5⟩:=r3 ad rfl
    obtain ⟨b,off,sp⟩:=ad
    simp only at d4 d5
    subst d4
    exact run_firstCells_some w.drew inf.size (List.length v) ⟨b,off,none⟩ (List.length v) cap hK (by grind) (λj u hu=>by rw[g0];exact lc (d5 j u hu) (r5 u (List.mem_of_getElem? hu)))
  simp only[bV] at hJ
  have dD:=run_append_grow_src (P:=P) w t tx o.type el inf zv hu i1 i4 xa (List.length v) cap hK N1 (a.eval z) (List.length yv) news (by grind) (by omega) (by omega)
   (growslice_fits (by omega) (Nat.le_trans (Nat.mul_le_mul hJ i3) (by decide)))
  have EG:(execOp a.eval o).run P w=.ok (.value (.slice (some ⟨w.heap.size,0,none⟩) (List.length v+List.length yv) (grownCap w (List.length v+List.length yv) cap el)))
    (w.drew.alloc (.cells ((hK++news).toArray++Builtin.zeroCells zv.cells (grownCap w (List.length v+List.length yv) cap el - (List.length v+List.length yv))) el)):=by
   simp_all [execOp,resolve,invoke,builtin]
  have JU:=grownCap_ge w (List.length v+List.length yv) cap el
  have Rb:=grownCap_le_maxLen w (List.length v+List.length yv) cap el (by grind [maxLen])
  have mG:=q4.newsLen
  have fW:=uS n1.drew (K:=K) (x:=x) (d:=o.dst) (e:=e) (m:=if me=m.e then me else ah e) (v:=v++yv) (c:=(hK++news).toArray++Builtin.zeroCells zv.cells (grownCap w (List.length v+List.length yv) cap el - (List.length v+List.length yv)))
   (cap:=grownCap w (List.length v+List.length yv) cap el) (el:=el) (fr:=(0,0)) (Fi:=Hi) (.inr (Nat.le_refl _)) q1
   (by
    rw[Array.size_append,size_zeroCells,i5,List.size_toArray,List.length_append,r4,mG,<- Nat.add_mul,<- Nat.add_mul]
    congr 1;omega) Rb (by grind)
   (λb i=>by grind) (λi zz hz=>by
    have cH:=n2 i zz hz
    refine ⟨_,af.length _ cH,λj u hu=>?_,af.mono (P:=P) (w:=w) (w':=w.drew) (A:=A3) (A':=A3) (λ_ _ h=>h) (λ_ _ _ _ h=>h) (λb n hn=>hn) e cH (λ_ _=>Nat.le_refl _) (λ_ _ _ _ h=>h)⟩
    grind)
  rw[Gc] at fW
  exact fI EG fW
theorem step_append (h:bn P C A σ a w F) (dZ:∀ i T,E.TI i=some T->aq P T (.inl i)=true) {t tx:Nat} {y z:Operand} (ho:o.op=.call { callee:=.builtin .append,args:=#[y,z],argTypes:=#[t,tx] }) (ap:bh P y=true/\bh P z=true)
  (qy:(∃ e',P.underlying tx=some (.slice e'))\/P.underlying tx=some .string) {mv tf:Bool} {K:St->Option R} (hk:yf E σ t (bi σ y) z mv tf o.dst K=some x):o.wp P a w (Nx P C K x) Q:=by
 unfold yf at hk
 obtain ⟨T,hT,hk⟩:=bM hk
 have cI:=dZ _ _ hT
 split at hk
 ·rename_i e
  have hl:=cI
  simp only[aq,Bool.and_eq_true] at hl
  have h2:=hl.2
  split at h2
  rotate_left
  ·cases h2
  rename_i el hu
  simp only[Bool.and_eq_true,Nat.ble_eq] at h2
  obtain ⟨fk,jE⟩:=h2
  split at hk
  ·rename_i pV
   simp only[Bool.and_eq_true] at pV
   obtain ⟨_,pV,DC⟩:=pV
   rcases bE h ap.2 with ol | ⟨xs,e'⟩
   rotate_left
   ·grind [qs,ew]
   obtain ⟨A0,Tz,F0,me,yv,news,Fw,Gi,q1,_,_,_,q4,_,q5,_⟩:=yC h ol qy hk
   rcases bE h ap.1 with hs | ⟨xs,e'⟩
   rotate_left
   ·grind [ew]
   obtain ⟨A1,fT,F1,m,v,cs,Fv,k1,k2,k3,k4,kr,k5,k6⟩:=kj h hs q1
   split at k1
   rotate_left
   ·cases k1
   rename_i cz
   split at k1
   rotate_left
   ·cases k1
   rename_i hJ
   exact xh (me:=ah e) (Fw:=λ_ _=>0) (Gi:=λ_ _ _=>0) ho hu jE cz k5 k6 hJ (by grind) (λ_ _ h=>h) k3 q4
    (λi zz hz=>Ro.rep _ _ (bQ _) (Ro.indep e pV DC (af.flat e pV (q5 i zz hz)))) (λb i=>by grind [eH])
  rcases bE h ap.1 with hs | ⟨xs,e'⟩
  rotate_left
  ·grind [ew]
  obtain ⟨A1,fT,F1,m,v,cs,Fv,k1,k2,k3,k4,kr,k5,k6⟩:=kj h hs hk
  split at k1
  rotate_left
  ·cases k1
  rename_i cz
  rcases bE k3 ap.2 with ol | ⟨xs,e'⟩
  rotate_left
  ·grind [qs,ew]
  obtain ⟨A2,ez,F2,me,yv,news,Fw,Gi,q1,q2,q3,qr,q4,_,q5,q6⟩:=yC k3 ol qy k1
  split at q1
  rotate_left
  ·cases q1
  rename_i hJ
  exact xh ho hu jE cz k5 k6 hJ q1 q2 q3 q4 q5 q6
 ·cases hk
end
end OT
set_option linter.unusedVariables false
set_option linter.unusedSimpArgs false
namespace OT
open Go
section
variable {P:Program} {C:Ctx} {A:Cells} {X:FP} {σ:St} {a:Act} {w:World} {F:Nat->FP} {R:Type} {x:R} {Q:Exit->Act->World->Prop} {o:Oper} {E:Env}
theorem Ab (h:bn P C A σ a w F) {f:Nat} {first cs:Array Operand} (ho:o.op=.makeFunc (.func f) first cs) (bs:(P.funcs[f]?).any (λfn=>fn.nfree == cs.size)=true) {K:St->Option R}
  (hk:(if first.size=0 then
   match cs.toList with
   | []=>K (σ.aH o.dst (.val .fn (f,0)))
   | [.tmp i]=>match σ.get i with
    | .box (.int .i64) _ _ n=>K (((σ.put i .dead).put i (.cp (.int .i64) n)).aH o.dst (.val .fn (f,n)))
    | _=>none
   | _=>none
  else none)=some x):Tk P o a w (Nx P C K x):=by
 simp only[Option.any_eq_true,beq_iff_eq] at bs
 obtain ⟨fn,hf,hn⟩:=bs
 split at hk
 ·rename_i h0
  have Bk:first=#[]:=Array.eq_empty_of_size_eq_zero h0
  subst Bk
  split at hk
  ·rename_i fj
   have fj:cs=#[]:=by grind
   subst fj
   refine bU (v:=.func (.func f) #[] #[]) (by simp[execOp,ho,Instr.makeFunc]) (aP h hk ⟨[.func (.func f) #[] #[]],rfl,#[],rfl,fn,hf,.inl ⟨by simpa using hn,rfl⟩⟩ (λ_ _ _ _ e=>by cases e))
  ·rename_i i fj
   have fj:cs=#[.tmp i]:=by grind
   subst fj
   split at hk
   ·rename_i m H n hg
    have hi:i < σ.n:=by
     grind [ep]
    have hs:=h.cj i hi
    rw[hg] at hs
    obtain ⟨b,off,L,F1,s1,s2,s3,s4,s5,s6⟩:=hs
    simp only[af,Ro] at s6
    subst s6
    have h1:=h.put hi (s:=.dead) (v:=tmp a i) (Fd:=λ_ _=>0) (X':=F i) trivial (λb k=>by omega) (λ_ _ _ _ e=>by cases e)
    rw[iA] at h1
    have hle:∀ b' i',bk b off 1 b' i'<=F i b' i':=λb' i'=>by grind
    have h2:=h1.giveUp (A1:=λb' i'=>A b' i'\/1<=bk b off 1 b' i') (X1:=λ_ _=>0) (λ_ _ h=>.inl h) (λb' i' ha=>ha.imp id λhp=>⟨by grind,rfl⟩) (λ_ _=>Nat.zero_le _)
    have mH:ce w b off=some (.int .i64 n):=s3 0 _ rfl
    have hA:1<=bk b off 1 b off:=by simp[bk]
    have h3:=h2.put (d:=i) hi (s:=.cp (.int .i64) n) (v:=tmp a i) (Fd:=λ_ _=>0) (X':=λ_ _=>0)
     ⟨⟨b,off,none⟩,by rw[s1],rfl,[.int .i64 n],rfl,(λj u hu=>by
      grind),rfl⟩ (λb k=>by omega) (λ_ _ _ _ e=>by cases e)
    rw[iA] at h3
    have ev:a.eval (.tmp i)=.pointer (some ⟨b,off,none⟩):=s1
    refine bU (v:=.func (.func f) #[] #[.pointer (some ⟨b,off,none⟩)]) (by simp[execOp,ho,Instr.makeFunc,ev])
     (aP h3 hk ⟨[.func (.func f) #[] #[.pointer (some ⟨b,off,none⟩)]],rfl,_,rfl,fn,hf,.inr ⟨by simpa using hn,_,rfl,rfl,mH,.inr hA⟩⟩ (λ_ _ _ _ e=>by cases e))
   ·cases hk
  ·cases hk
 ·cases hk
theorem CG (h:bn P C A σ a w F) {y:Operand} (ho:o.op=.assign y) (ap:bh P y=true) {T:Nat} {mv:Bool} {K:St->Option R} (hk:yg E σ T y mv o.dst K=some x):Tk P o a w (Nx P C K x):=by
 refine bU (v:=a.eval y) (by simp[execOp,ho]) ?_
 unfold yg at hk
 by_cases PY:∃ i xs,y=.tmp i/\σ.get i=.iK xs
 ·obtain ⟨i,xs,rfl,hg⟩:=PY
  have e:bi σ (.tmp i)=.iK xs:=by grind [bi]
  rw[e] at hk
  cases xs with
  | nil=>
   have hi:i < σ.n:=by
    grind [ep]
   have hs:=h.cj i hi
   rw[hg] at hs
   obtain ⟨vs,Fi,h1,h2,h3⟩:=hs
   exact aP h hk ⟨vs,λ_ _ _=>0,h1,λb i=>by simp[ao],λj y hy=>by cases hy⟩ (λ_ _ _ _ e=>by cases e)
  | cons _ _=>cases hk
 rcases bE h ap with hs | ⟨xs,e⟩
 rotate_left
 ·exfalso
  cases y with
  | tmp i=>
   grind [bi]
  | const v=>simp only[bi] at e;unfold jJ at e;grind
  | func f=>cases e
  | global g=>cases e
 split at hk
 ·grind [aP]
 ·rename_i hv
  rw[hv] at hs
  obtain ⟨t,hT,hk⟩:=bM hk
  split at hk
  ·have hs:a.eval y=.slice none 0 0:=hs
   rw[hs]
   refine aP h hk ⟨[.slice none 0 0],(bp _ _ rfl).symm,?_⟩ (λ_ _ _ _ e=>by cases e)
   grind [af,hole,ly,Md.own]
  ·cases hk
 ·grind [aP]
 ·cases hk
 ·grind [kj,pP]
 ·grind [kj,pP]
 ·rename_i r p snap hv
  rw[hv] at hs
  split at hk
  ·rename_i t m H v hg
   split at hk
   ·rename_i hc
    simp only[Bool.and_eq_true,Bool.not_eq_true'] at hc
    split at hk
    ·rename_i i hd
     have hr:r < σ.n:=by
      grind [ep]
     have iM:=h.cj r hr
     rw[hg] at iM
     obtain ⟨b,off,L,F1,s1,s2,s3,s4,s5,s6⟩:=iM
     obtain ⟨pl,b',o',g1,g2,g3,g4⟩:=hs.2 hc.1.1
     have de:place σ a w r []=some ⟨t,H,rd w b off t.sz,some (b,off)⟩:=by
      unfold place;rw[hg,s1];rfl
     rw[de] at g1
     injection g1 with g1
     subst g1
     simp only[Option.some.injEq,Prod.mk.injEq] at g2
     obtain ⟨rfl,rfl⟩:=g2
     have h1:=h.put hr (s:=.dead) (v:=tmp a r) (Fd:=λ_ _=>0) (X':=F r) trivial (λb k=>by omega) (λ_ _ _ _ e=>by cases e)
     rw[iA] at h1
     obtain ⟨bw,w1,w2⟩:=h.whole r t m H v hg (wV hc.2)
     rw[s1] at w1
     injection w1 with w1;injection w1 with w1;injection w1 with w1 w3
     subst w1
     have:=gu (K:=K) (x:=x) (d:=some i) h1 hk (v:=a.eval y) (s:=.box t m H v) (Fd:=F r) ⟨b,off,L,F1,g3,s2,s3,s4,s5,s6⟩ (λb i=>Nat.le_refl _) (λt' m' H' v' e=>by grind)
     grind
    ·cases hk
   grind [aP]
  grind [aP]
 grind [aP,zh]
theorem CH {α:Type} (v y:List α) {lo n:Nat} (h:lo+n<=v.length) (hy:n<=y.length):(lA v lo n y).length=v.length:=by
 grind [lA]
theorem Ip {α:Type} (v y:List α) {lo n:Nat} (h:lo+n<=v.length) (hy:n<=y.length) (i:Nat):(lA v lo n y)[i]?=if lo<=i/\i < lo+n then y[i - lo]? else v[i]?:=by
 unfold lA
 by_cases h1:i < lo
 all_goals grind
theorem zk (h:bn P C A σ a w F) {r:Nat} {p:Path} {e:Ty} {m:Md} {v y:List e.den} {news:List Value} {Gi:Nat->FP} {me:Md} {lo n:Nat} {K:St->Option R} (dw:At σ r p (.aa e) m [] v) (cz:m.own=true) (hf:e.flat=true) (hn:lo+n<=List.length v) (hy:n<=List.length y)
  (hl:news.length=List.length y*e.sz) (g_:∀ u ∈ news,u.oneCell'=true) (jE:∀ (i:Nat) (z:e.den),y[i]?=some z->af P w A e me [] z ((news.drop (i*e.sz)).take e.sz) (Gi i))
  (hk:lz σ r p (.aa e) m (lA v lo n y) (λσ'=>K { σ' with vr:=(σ.eJ r mg).vr,aA:=σ.aA })=some x) :
  ∃ (xa:Option Addr) (cap:Nat) (ad:Option (Nat×Nat)) (w2:World) (A3:Cells) (σ':St) (F3:Nat->FP),place σ a w r p=some ⟨.aa e,[],[.slice xa (List.length v) cap],ad⟩/\K σ'=some x/\bn P C A3 σ' a w2 F3 /\
   (xa=none->w2=w/\List.length v=0)/\∀ ad,xa=some ad->ad.off=0/\ad.spot=none/\(n=0->w2=w)/\(storeCells ⟨ad.block,lo*e.sz,none⟩ (news.take (n*e.sz))).run P w=.ok () w2:=by
 obtain ⟨hr,m2,H2,v2,bf,rC,F2,q1,q2,q3,q4,q5,q6⟩:=rB h hk
 obtain ⟨_,e2,e3,e4⟩:=dw.inj q1
 subst e2;subst e3
 have e4:=eq_of_heq e4
 subst e4
 have cH:=q3
 simp only[af,hole,List.any_nil,Bool.false_eq_true,if_false,cz,if_true] at q3
 obtain ⟨xa,cap,rfl,c1,c2,c3,c4⟩:=q3
 have Gc:=CH v y hn hy
 have vm:∀ b i,F r b i<=1:=λb i=>by have:=h.ge b i;grind [a_]
 have fin:∀ (w2:World),Ext w w2 (λb i=>0+(F2 b i+dL rC (Ty.aa e).sz b i))->(∀ b o,rC=some (b,o)->Has w2 b o [.slice xa (List.length v) cap])->af P w2 A (.aa e) m [] (lA v lo n y) [.slice xa (List.length v) cap] F2 ->
   (∀ (i:Nat) (z:e.den),(lA v lo n y)[i]?=some z->∀ ad,xa=some ad->∃ L,L.length=e.sz/\Has w2 ad.block (ad.off+i*e.sz) L/\af P w2 A e .leaf [] z L (λ_ _=>0)) ->
   ∃ (A3:Cells) (σ':St) (F3:Nat->FP),K σ'=some x/\bn P C A3 σ' a w2 F3:=by
  intro w2 g1 g2 g3 g4
  obtain ⟨A3,qv,Fr,n1,n2,n3,n4,n5⟩:=q6 w2 A _ F2 (λ_ _=>0) g1 (λ_ _ h=>h) (λ_ _ h=>.inl h) (λb i=>by omega) g2 (λ_=>rfl) g3
  refine ⟨A3,_,_,n1,n5 mg (nK (h.ei r)) (tH (h.ei r)) rfl λp' snap hb ap hlen=>?_⟩
  have h5:=vS (h.ei r) hb ap
  refine ⟨bm p'+1,False,by omega,λ_=>.inl (by omega),λ_=>by omega,?_⟩
  intro q pl hq hp
  cases q with
  | nil=>
   simp only[aC,Option.some.injEq] at hp
   subst hp
   exact ⟨_,_,rfl,λ_=>rfl⟩
  | cons s q=>
   cases s with
   | idx i=>
    cases xa with
    | none=>grind [aC]
    | some ad=>
     simp only[aC,hole,List.any_nil,Bool.false_eq_true,if_false,List.filterMap_nil] at hp ⊢
     split at hp
     ·rename_i hi
      rw[if_pos hi]
      have kg:i < (lA v lo n y).length:=by grind
      obtain ⟨L,l1,l2,l3⟩:=g4 i _ (List.getElem?_eq_getElem kg) ad rfl
      rw[bB l2 l1]
      obtain ⟨H',aJ,h1,h2⟩:=qu (A:=A) (m:=.leaf) (v:=(lA v lo n y)[i]) (F:=λ_ _=>0) q e l3 (.inr hf) hp
      grind
     ·cases hp
   | _=>simp[aC] at hp
 cases xa with
 | none=>
  have h0:=c3 rfl
  have JV:List.length v=0:=by omega
  grind [Ext.refl]
 | some ad=>
  obtain ⟨d1,d2,d3,Fi,d4,d5⟩:=c4 ad rfl
  obtain ⟨b,off,sp⟩:=ad
  simp only at d1 d2 d3 d4 d5
  subst d1;subst d2
  have hle:lo*e.sz+n*e.sz<=cap*e.sz:=by rw[<-Nat.add_mul];exact Nat.mul_le_mul_right _ (by omega)
  have mG:(news.take (n*e.sz)).length=n*e.sz:=by
   grind [Nat.mul_le_mul_right]
  have mH:∀ j,j < cap*e.sz->(w.cell? ⟨b,j,none⟩).isSome=true:=λj hj=>by
   obtain ⟨c,e',fr,w1,w2,w3⟩:=d3
   grind [World.cell?]
  have bs:=run_storeCells_cells (P:=P) b (lo*e.sz) (news.take (n*e.sz)) 0 w (λj hj=>by grind) (λj hj=>by rw[Nat.add_zero];exact d3.frozen (by omega)) (λu hu=>g_ u (List.mem_of_mem_take hu))
  rw[Nat.add_zero] at bs
  have bH:=fX (b:=b) (o:=lo*e.sz) (news.take (n*e.sz)) w (lo*e.sz)
  rw[mG] at bH
  have se:∀ b' i,bk b (lo*e.sz) (n*e.sz) b' i<=bk b 0 (cap*e.sz) b' i:=λb' i=>by
   grind [bk]
  have hA:∀ b' i,A b' i->∀ u,ce w b' i=some u->ce (w.setCells b (lo*e.sz) (news.take (n*e.sz))) b' i=some u:=λb' i ha u hu=>by
   refine bH.cell b' i (h.dC b' i (.inr ha)) ?_ u hu
   rcases Nat.eq_zero_or_pos (bk b (lo*e.sz) (n*e.sz) b' i) with h0 | h0
   ·exact h0
   ·exact absurd ha (h.gI b' i (by grind [a_]))
  have PZ:∀ (i:Nat) (z:e.den),(lA v lo n y)[i]?=some z->∃ L,L.length=e.sz/\Has (w.setCells b (lo*e.sz) (news.take (n*e.sz))) b (i*e.sz) L/\Ro P (w.setCells b (lo*e.sz) (news.take (n*e.sz))) A e z L:=by
   intro i z hz
   rw[Ip v y hn hy] at hz
   split at hz
   ·rename_i hi
    have oQ:=af.flat _ hf (jE _ z hz)
    refine ⟨_,Ro.length _ oQ,λj u hu=>?_,Ro.mono hA (λ_ _ h=>h) e oQ⟩
    rw[List.getElem?_take] at hu
    split at hu
    ·rename_i hj
     rw[List.getElem?_drop] at hu
     have h6:(i - lo)*e.sz+e.sz<=n*e.sz:=by rw[<-Nat.succ_mul];exact Nat.mul_le_mul_right _ (by omega)
     have:=mE (w:=w) (b:=b) (o:=lo*e.sz) (L:=news.take (n*e.sz)) (λk hk=>mH _ (by omega)) (λu hu=>g_ u (List.mem_of_mem_take hu)) ((i - lo)*e.sz+j) u (by grind)
     rw[<-this]
     have h7:i*e.sz=lo*e.sz+(i - lo)*e.sz:=by rw[<-Nat.add_mul];congr 1;omega
     congr 1;omega
    ·cases hu
   ·rename_i hi
    obtain ⟨L,l1,l2,l3⟩:=d5 i z hz
    have oQ:=af.flat _ hf l3
    refine ⟨L,l1,λj u hu=>?_,Ro.mono hA (λ_ _ h=>h) e oQ⟩
    refine bH.cell b _ (by obtain ⟨c,e',fr,w1,_⟩:=d3;grind) ?_ u (l2 j u hu)
    have hj:=(List.getElem?_eq_some_iff.1 hu).1
    simp only[bk]
    rw[if_neg]
    rintro ⟨_,h8,h9⟩
    rcases Nat.lt_or_ge i lo with Bl | Bl
    ·have h6:i*e.sz+e.sz<=lo*e.sz:=by rw[<-Nat.succ_mul];exact Nat.mul_le_mul_right _ (by omega)
     omega
    ·have h6:lo*e.sz+n*e.sz<=i*e.sz:=by rw[<-Nat.add_mul];exact Nat.mul_le_mul_right _ (by omega)
     omega
  have uQ:af P (w.setCells b (lo*e.sz) (news.take (n*e.sz))) A (.aa e) m [] (lA v lo n y) [.slice (some ⟨b,0,none⟩) (List.length v) cap] F2:=by
   simp only[af,hole,List.any_nil,Bool.false_eq_true,if_false,cz,if_true]
   refine ⟨some ⟨b,0,none⟩,cap,by rw[Gc],by omega,c2,(λe=>by cases e),λaY e'=>?_⟩
   injection e' with e';subst e'
   refine ⟨rfl,rfl,bH.lW _ _ d3,λ_ _ _=>0,λb' i=>by grind [eH],λi z hz=>?_⟩
   obtain ⟨L,l1,l2,l3⟩:=PZ i z hz
   grind [Ro.flat]
  have qU:∀ b' o',rC=some (b',o')->Has (w.setCells b (lo*e.sz) (news.take (n*e.sz))) b' o' [.slice (some ⟨b,0,none⟩) (List.length v) cap]:=λb' o' ea j u hu=>by
   have h1:=(q5 b' o' ea).1 j u hu
   have hj:=(List.getElem?_eq_some_iff.1 hu).1
   have h2:=q4 b' (o'+j);have h3:=d4 b' (o'+j);have h4:=se b' (o'+j);have h5:=vm b' (o'+j);have h7:=a_ F hr b' (o'+j)
   have h6:dL rC (Ty.aa e).sz b' (o'+j)=1:=by
    grind [dL,bk,Ty.sz]
   exact bH.cell _ _ (h.dC b' (o'+j) (.inl (by grind))) (by omega) u h1
  obtain ⟨A3,qv,F3,n1,n2⟩:=fin _ (bH.mono λb' i hz=>by
    grind) qU uQ (λi z hz ad e=>by
    grind [Ro.flat])
  refine ⟨_,cap,rC,_,A3,qv,F3,q2,n1,n2,(λe=>by cases e),λaY e'=>?_⟩
  injection e' with e';subst e'
  refine ⟨rfl,rfl,λtd=>?_,bs⟩
  subst td
  simp[World.setCells]
theorem GD (h:bn P C A σ a w F) (dZ:∀ i T,E.TI i=some T->aq P T (.inl i)=true) {t tx:Nat} {y z:Operand} (ho:o.op=.call { callee:=.builtin .copy,args:=#[y,z],argTypes:=#[t,tx] }) (ap:bh P y=true/\bh P z=true)
  (qy:(∃ e',P.underlying tx=some (.slice e'))\/P.underlying tx=some .string) {K:St->Option R} (hk:Ed E σ t y (bi σ z) o.dst K=some x):o.wp P a w (Nx P C K x) Q:=by
 unfold Ed at hk
 obtain ⟨T,hT,hk⟩:=bM hk
 have cI:=dZ _ _ hT
 split at hk
 ·rename_i e
  have hl:=cI
  simp only[aq,Bool.and_eq_true] at hl
  have h2:=hl.2
  split at h2
  rotate_left
  ·cases h2
  rename_i el hu
  simp only[Bool.and_eq_true,Nat.ble_eq] at h2
  obtain ⟨fk,jE⟩:=h2
  have Mf:=run_sizeOf (P:=P) (w:=w) jE
  split at hk
  rotate_left
  ·cases hk
  rename_i hf
  rcases bE h ap.2 with ol | ⟨xs,e'⟩
  rotate_left
  ·grind [qs,ew]
  obtain ⟨A2,ez,F2,me,yv,news,Fw,Gi,q1,q2,q3,qr,q4,Rc,q5,q6⟩:=yC h ol qy hk
  have h2:bn P C A2 ez a w F2:=q3.less λ_ _=>Nat.zero_le _
  have run:∀ (xa:Option Addr) (n cap:Nat) (w2:World),a.eval y=.slice xa n cap->(match (generalizing:=false) xa with | none=>w2=w | some ad=>(storeCells ad (news.take (min (List.length yv) n*e.sz))).run P w=.ok () w2) ->
    (execOp a.eval o).run P w=.ok (.value (.int .i64 ((min (List.length yv) n:Nat):Int))) w2:=by
   intro xa n cap w2 hy bs
   have JX:=Rc (min (List.length yv) n) (Nat.min_le_left _ _)
   cases xa with
   | none=>
    simp only at bs
    subst bs
    simp[execOp,ho,resolve,invoke,builtin,Builtin.copy_,hy,run_underlying hu,q4.len,Mf,Nat.min_def] at JX ⊢
    simp[JX,goInt]
   | some ad=>
    simp only at bs
    simp[execOp,ho,resolve,invoke,builtin,Builtin.copy_,hy,run_underlying hu,q4.len,Mf,Nat.min_def] at JX bs ⊢
    simp[JX,bs,goInt]
  rcases bE h2 ap.1 with hs | ⟨xs,e'⟩
  rotate_left
  ·grind
  split at q1
  ·rename_i r p snap lo hi hv
   rw[hv] at hs
   split at q1
   ·rename_i fW
    obtain ⟨hr,t',m',H',v',aJ,aY,F',h1,dw,h3,h4,h5,h6⟩:=d7 h2 q1
    split at h1
    ·rename_i hc
     simp only[Bool.and_eq_true,List.isEmpty_iff] at hc
     obtain ⟨cz,hH⟩:=hc
     subst hH
     obtain ⟨e1,h1⟩:=aV h1
     subst e1
     obtain ⟨pl,e2,xa,n,cap,lG,cap',g1,g2,g3,g4,g5,g6,g7,g8,g9,g10,g11⟩:=hs.2 fW
     have TA:n=List.length v':=by
      grind [af,hole]
     obtain ⟨xb,yy,rC,w2,A3,qv,F3,c1,c2,c3,c4,c5⟩:=zk h2 (K:=λσ'=>K (σ'.aH o.dst (.val (.int .i64) ((min (List.length yv) (hi - lo):Nat):Int)))) ⟨dw⟩ cz hf (lo:=lo) (n:=min (List.length yv) (hi - lo)) (by omega) (Nat.min_le_left _ _) q4.newsLen q4.one q5 h1
     rw[c1] at g1
     injection g1 with g1
     subst g1
     simp only[List.cons.injEq,Value.slice.injEq,and_true] at g3
     obtain ⟨rfl,g3,rfl⟩:=g3
     injection g2 with g2
     subst g2
     refine fI (run lG (hi - lo) cap' w2 g6 ?_) (aP c3 c2 ⟨[.int .i64 _],rfl,rfl⟩ (λ_ _ _ _ e=>by cases e))
     cases xb with
     | none=>grind
     | some ad=>
      obtain ⟨Mg,k1,k2,k3,k4⟩:=g10 ad rfl
      rw[k1]
      obtain ⟨j1,j2,j3,j4⟩:=c5 ad rfl
      simp only
      by_cases aE:lo < hi
      ·have:Mg=⟨ad.block,lo*e.sz,none⟩:=by
        have h1:=k4 aE
        obtain ⟨x1,x2,x3⟩:=Mg
        grind
       grind
      ·have td:min (List.length yv) (hi - lo)=0:=by omega
       rw[td,Nat.zero_mul,List.take_zero]
       rw[j3 td];rfl
    ·cases h1
   ·cases q1
  ·rename_i r p snap hv
   rw[hv] at hs
   split at q1
   ·rename_i fW
    obtain ⟨hr,t',m',H',v',aJ,aY,F',h1,dw,h3,h4,h5,h6⟩:=d7 h2 q1
    split at h1
    ·rename_i hc
     simp only[Bool.and_eq_true,List.isEmpty_iff] at hc
     obtain ⟨cz,hH⟩:=hc
     subst hH
     obtain ⟨e1,h1⟩:=aV h1
     subst e1
     obtain ⟨pl,g1,g2,g3⟩:=hs.2 fW
     obtain ⟨xb,yy,rC,w2,A3,qv,F3,c1,c2,c3,c4,c5⟩:=zk h2 (K:=λσ'=>K (σ'.aH o.dst (.val (.int .i64) ((min (List.length yv) (List.length v'):Nat):Int)))) ⟨dw⟩ cz hf (lo:=0) (n:=min (List.length yv) (List.length v')) (by omega) (Nat.min_le_left _ _) q4.newsLen q4.one q5 h1
     rw[c1] at g1
     injection g1 with g1
     subst g1
     simp only[bp (.aa e) _ rfl] at g2
     refine fI (run xb (List.length v') yy w2 g2 ?_) (aP c3 c2 ⟨[.int .i64 _],rfl,rfl⟩ (λ_ _ _ _ e=>by cases e))
     cases xb with
     | none=>grind
     | some ad=>
      obtain ⟨j1,j2,j3,j4⟩:=c5 ad rfl
      obtain ⟨b,off,sp⟩:=ad
      grind
    ·cases h1
   ·cases q1
  ·cases q1
 ·cases hk
end
end OT
set_option linter.unusedVariables false
set_option linter.unusedSimpArgs false
namespace OT
open Go
def dE (w:World):(t:Ty)->Md->List Path->List Value->FP
 | .pair a b,m,H,cs=>λx i=>dE w a m.l (H.filterMap lD) (cs.take a.sz) x i+dE w b m.r (H.filterMap lE) (cs.drop a.sz) x i
 | .aa e,m,H,cs=>
  if hole H then λ_ _=>0 else if m.own then
   match cs with
   | [.slice (some ad) n cap]=>λx i=>bk ad.block 0 (cap*e.sz) x i+ao n (λj=>dE w e m.e (H.filterMap (dA j)) (rd w ad.block (j*e.sz) e.sz)) x i
   | _=>λ_ _=>0
  else λ_ _=>0
 | .ptr e,m,H,cs=>
  if hole H then λ_ _=>0 else if m.own then
   match cs with
   | [.pointer (some ad)]=>λx i=>bk ad.block 0 e.sz x i+dE w e m.e [] (rd w ad.block 0 e.sz) x i
   | _=>λ_ _=>0
  else λ_ _=>0
 | .map _ _,m,H,cs=>
  if hole H then λ_ _=>0 else if m.own then
   match cs with
   | [.map (some r)]=>bk r 0 1
   | _=>λ_ _=>0
  else λ_ _=>0
 | _,_,_,_=>λ_ _=>0
section
variable {P:Program} {w w1:World} {A:Cells}
theorem af.fp:∀ (t:Ty) {m:Md} {H:List Path} {v:t.den} {cs:List Value} {F:FP},af P w A t m H v cs F->af P w A t m H v cs (dE w t m H cs)/\∀ b i,dE w t m H cs b i<=F b i:=by
 intro t
 induction t with
 | pair a b eI ey=>
  intro m H v cs F h
  obtain ⟨h0,F1,F2,hs,h1,h2⟩:=h
  obtain ⟨J,a2⟩:=eI h1
  obtain ⟨b1,b2⟩:=ey h2
  exact ⟨⟨h0,_,_,λ_ _=>Nat.le_refl _,J,b1⟩,λb i=>by grind [dE]⟩
 | aa e ih=>
  intro m H v cs F h
  have h':=h
  simp only[af] at h
  split at h
  ·simp_all [af,dE]
  ·rename_i hh
   split at h
   ·rename_i hm
    obtain ⟨xa,cap,rfl,h1,h2,h3,h4⟩:=h
    cases xa with
    | none=>
     grind [dE,af]
    | some ad=>
     obtain ⟨g1,g2,g3,Fi,g4,g5⟩:=h4 ad rfl
     have each:∀ (i:Nat) (x:e.den),v[i]?=some x->∃ L:List Value,L.length=e.sz/\Has w ad.block (i*e.sz) L/\af P w A e m.e (H.filterMap (dA i)) x L (dE w e m.e (H.filterMap (dA i)) (rd w ad.block (i*e.sz) e.sz)) /\
       ∀ b k,dE w e m.e (H.filterMap (dA i)) (rd w ad.block (i*e.sz) e.sz) b k<=Fi i b k:=λi x hx=>by
      grind [bB]
     have hle:∀ b i,ao (List.length v) (λj=>dE w e m.e (H.filterMap (dA j)) (rd w ad.block (j*e.sz) e.sz)) b i<=ao (List.length v) Fi b i:=λb i=>yo b i λj hj=>by
      obtain ⟨_,_,_,_,q⟩:=each j _ (List.getElem?_eq_getElem hj)
      exact q b i
     refine ⟨?_,λb i=>by grind [dE]⟩
     simp only[af,hh,hm,if_true,Bool.false_eq_true,if_false]
     refine ⟨some ad,cap,rfl,h1,h2,h3,λaY e'=>?_⟩
     injection e' with e';subst e'
     refine ⟨g1,g2,g3,λj=>dE w e m.e (H.filterMap (dA j)) (rd w ad.block (j*e.sz) e.sz),λb i=>by grind [dE],λi x hx=>?_⟩
     grind
   simp_all [af,dE]
 | ptr e ih=>
  intro m H v cs F h
  simp only[af] at h
  split at h
  ·simp_all [af,dE]
  ·rename_i hh
   split at h
   ·grind [dE,bB,af]
   simp_all [af,dE]
 | arr n e ih=>intro m H v cs F h;exact ⟨h,λ_ _=>Nat.zero_le _⟩
 | map k v=>
  intro m H x cs F h
  simp only[af] at h
  split at h
  ·simp_all [af,dE]
  ·rename_i hh
   split at h
   ·rename_i hm
    obtain ⟨h1,h2,r,ka,rfl,h4,h5,h6,h7⟩:=h
    refine ⟨?_,λb i=>?_⟩
    ·simp only[af,hh,hm,if_true,Bool.false_eq_true,if_false]
     exact ⟨h1,h2,r,ka,rfl,h4,by simp[dE,hh,hm,bk],h6,h7⟩
    ·simp only[dE,hh,hm,if_true,Bool.false_eq_true,if_false,bk]
     grind
   simp_all [af,dE]
 | _=>intro m H v cs F h;exact ⟨h,λ_ _=>Nat.zero_le _⟩
theorem EH:∀ (t:Ty) {m:Md} {H:List Path} {v:t.den} {cs:List Value} {F:FP},af P w A t m H v cs F->(∀ b i,1<=F b i->∀ u,ce w b i=some u->ce w1 b i=some u)->dE w1 t m H cs=dE w t m H cs:=by
 intro t
 induction t with
 | pair a b eI ey=>
  intro m H v cs F h hF
  obtain ⟨h0,F1,F2,hs,h1,h2⟩:=h
  have e1:=eI h1 (λb i hp=>hF b i (by grind))
  have e2:=ey h2 (λb i hp=>hF b i (by grind))
  simp_all [dE]
 | aa e ih=>
  intro m H v cs F h hF
  simp only[af] at h
  split at h
  ·simp_all [dE]
  ·rename_i hh
   split at h
   ·rename_i hm
    obtain ⟨xa,cap,rfl,h1,h2,h3,h4⟩:=h
    cases xa with
    | none=>simp only[dE]
    | some ad=>
     obtain ⟨g1,g2,g3,Fi,g4,g5⟩:=h4 ad rfl
     simp only[dE,hh,hm,if_true,Bool.false_eq_true,if_false]
     funext b i
     congr 1
     refine congrFun (congrFun (mq λj hj=>?_) b) i
     obtain ⟨L,l1,l2,l3⟩:=g5 j _ (List.getElem?_eq_getElem hj)
     have hle:j*e.sz+e.sz<=cap*e.sz:=by rw[<-Nat.succ_mul];exact Nat.mul_le_mul_right _ (by omega)
     have TB:Has w1 ad.block (j*e.sz) L:=λk u hu=>hF _ _ (by
      grind [bk]) u (l2 k u hu)
     grind [bB,a_]
   simp_all [dE]
 | ptr e ih=>
  intro m H v cs F h hF
  simp only[af] at h
  split at h
  ·simp_all [dE]
  ·rename_i hh
   split at h
   ·rename_i hm
    obtain ⟨b0,rfl,h1,L,F1,h2,h3,h4,h5⟩:=h
    have OW:Has w1 b0 0 L:=λk u hu=>hF _ _ (by
     grind [bk]) u (h3 k u hu)
    simp only[dE,hh,hm,if_true,Bool.false_eq_true,if_false,bB h3 h2,bB OW h2]
    rw[ih h5 (λb i hp=>hF b i (by grind))]
   simp_all [dE]
 | _=>intro m H v cs F h hF;rfl
theorem af.indep {A':Cells}:∀ (t:Ty) {v:t.den} {cs:List Value} {F:FP},t.gE=true->af P w A t (av t) [] v cs F->af P w A' t (av t) [] v cs F:=by
 intro t
 induction t with
 | pair a b eI ey=>
  intro v cs F hn h
  simp only[Ty.gE,Bool.and_eq_true] at hn
  obtain ⟨h0,F1,F2,hs,h1,h2⟩:=h
  exact ⟨h0,F1,F2,hs,eI hn.1 h1,ey hn.2 h2⟩
 | aa e ih=>
  intro v cs F hn h
  simp only[af,hole,List.any_nil,Bool.false_eq_true,if_false,av,ly,Md.own,if_true] at h ⊢
  obtain ⟨xa,cap,h1,h2,h3,h4,h5⟩:=h
  refine ⟨xa,cap,h1,h2,h3,h4,λad e'=>?_⟩
  obtain ⟨g1,g2,g3,Fi,g4,g5⟩:=h5 ad e'
  refine ⟨g1,g2,g3,Fi,g4,λi x hx=>?_⟩
  obtain ⟨L,l1,l2,l3⟩:=g5 i x hx
  exact ⟨L,l1,l2,ih hn l3⟩
 | ptr e ih=>
  intro v cs F hn h
  simp only[af,hole,List.any_nil,Bool.false_eq_true,if_false,av,ly,Md.own,if_true] at h ⊢
  obtain ⟨b,h1,h2,L,F1,h3,h4,h5,h6⟩:=h
  exact ⟨b,h1,h2,L,F1,h3,h4,h5,ih hn h6⟩
 | arr n e ih=>
  intro v cs F hn h
  exact ⟨h.1,Ro.indep _ (by have:=h.2.1;grind [Ty.flat]) hn h.2⟩
 | fn=>grind [Ty.gE]
 | map k v=>
  grind [Ty.gE,af,ly,Md.own,Ro.indep]
 | _=>intro v cs F hn h;exact h
theorem af.free {A':Cells} {t:Ty} {m:Md} {v:t.den} {cs:List Value} {F:FP} (ho:(t.flat||decide (m=av t))=true) (hn:t.gE=true) (h:af P w A t m [] v cs F):af P w A' t m [] v cs F:=by
 grind [Ro.flat,Ro.indep,af.flat,af.indep]
def World.news (w w2:World):World:={ w2 with heap:=(w.heap.toList++w2.heap.toList.drop w.heap.size).toArray }
theorem zl {w2:World} (h:w.heap.size<=w2.heap.size) (k:Nat):(World.news w w2).heap[k]?=if k < w.heap.size then w.heap[k]? else w2.heap[k]?:=by
 grind [World.news]
theorem om {w2:World} (h:w.heap.size<=w2.heap.size):(World.news w w2).heap.size=w2.heap.size:=by grind [World.news]
theorem kN {w2:World} (h:w.heap.size<=w2.heap.size) {b:Nat} (hb:b < w.heap.size):(World.news w w2).heap[b]?=w.heap[b]?:=by grind [zl]
theorem sq {w2:World} (h:w.heap.size<=w2.heap.size) {b:Nat} (hb:w.heap.size<=b):(World.news w w2).heap[b]?=w2.heap[b]?:=by grind [zl]
theorem qX {w2:World} {b:Nat} (h:w2.heap[b]?=w.heap[b]?) (i:Nat):ce w2 b i=ce w b i:=sa h i
theorem qY {w2:World} {b:Nat} (h:w2.heap[b]?=w.heap[b]?) (i:Nat):w2.frozen? ⟨b,i,none⟩=w.frozen? ⟨b,i,none⟩:=by simp[World.frozen?,h]
theorem pW {w2:World} {b:Nat} (h:w2.heap[b]?=w.heap[b]?) (n:Nat×Bool):cr w b n↔cr w2 b n:=by grind [cr]
theorem cr.lt {b:Nat} {n:Nat×Bool} (h:cr w b n):b < w.heap.size:=by
 obtain ⟨c,e,fr,h1,_⟩:=h;grind
theorem vY {w2:World} {F:FP} (h:Ext w w2 F):Ext w (World.news w w2) (λ_ _=>0)/\Ext (World.news w w2) w2 F:=by
 have hs:=h.size
 refine ⟨⟨by grind [om],λb i hb _ u hu=>by grind [qX,kN],λb n hn=>(pW (kN hs hn.lt) n).1 hn,λb i hb=>qY (kN hs hb) i,h.os,h.tape,h.output,λb hb _=>kN hs hb,h.drawn⟩,
  ⟨by grind [om],λb i hb hz u hu=>?_,λb n hn=>?_,λb i hb=>?_,rfl,rfl,rfl,λb hb hz=>?_,Nat.le_refl _⟩⟩
 ·by_cases vo:b < w.heap.size
  ·rw[qX (kN hs vo)] at hu
   exact h.cell b i vo hz u hu
  grind [qX,sq]
 ·by_cases vo:b < w.heap.size
  ·exact h.lW b n ((pW (kN hs vo) n).2 hn)
  grind [pW,sq]
 ·by_cases vo:b < w.heap.size
  ·rw[qY (kN hs vo)];exact h.oK b i vo
  grind [qY,sq]
 ·by_cases vo:b < w.heap.size
  ·rw[kN hs vo];exact h.obj b vo hz
  grind [sq]
end
def ArgRel (P:Program) (w:World) (A:Cells) (ho:List Path->Bool) (pm:PM) (t:Ty) (v:t.den) (x:Value) (F:FP):Prop:=
 match pm with
 | .ro=>∃ cs,x=aZ t cs/\Ro P w A t v cs
 | .fix f=>(∃ cs,x=aZ t cs/\Ro P w A t v cs)/\∀ e:t=.fn,(e ▸ v:Ty.fn.den).1=f
 | .dt m _=>∃ b o L F1,x=.pointer (some ⟨b,o,none⟩)/\L.length=t.sz/\Has w b o L/\(∀ j,j < t.sz->w.frozen? ⟨b,o+j,none⟩=false)/\(∀ b' i,bk b o t.sz b' i+F1 b' i<=F b' i)/\af P w A t m [] v L F1
 | .fC m=>∃ cs,x=aZ t cs/\af P w A t m [] v cs F
 | .fi m=>∃ H cs,ho H=true/\x=aZ t cs/\af P w A t m H v cs F
 | .iW m=>∃ b o L F1,x=.pointer (some ⟨b,o,none⟩)/\L.length=t.sz/\Has w b o L/\(∀ j,j < t.sz->w.frozen? ⟨b,o+j,none⟩=false)/\(∀ b' i,bk b o t.sz b' i+F1 b' i<=F b' i)/\af P w A t m [] v L F1
def gv (P:Program) (w:World) (A:Cells) (ho:List Path->Bool):(ps:List (PM×Ty))->(ba (ps.map (·.2))).den->List Value->FP->Prop
 | [],_,xs,_=>xs=[]
 | (pm,t)::ps,v,xs,F=>∃ (x:Value) (GE:List Value) (F1 F2:FP),xs=x::GE/\(∀ b i,F1 b i+F2 b i<=F b i)/\ArgRel P w A ho pm t v.1 x F1/\gv P w A ho ps v.2 GE F2
abbrev DE:List Path->Bool:=λH=>H.isEmpty
theorem gv.none {P:Program} {w:World} {A:Cells} {ho:List Path->Bool} (hh:∀ H,ho H=true->H=[]):∀ (ps:List (PM×Ty)) {v:(ba (ps.map (·.2))).den} {xs:List Value} {F:FP},gv P w A ho ps v xs F->gv P w A DE ps v xs F
 | [],_,_,_,h=>h
 | (pm,t)::ps,_,_,_,⟨x,GE,F1,F2,h1,h2,h3,h4⟩=>⟨x,GE,F1,F2,h1,h2,by
  cases pm with
  | fi m=>obtain ⟨H,cs,g1,g2⟩:=h3;rw[hh H g1] at g2;exact ⟨[],cs,rfl,g2⟩
  | _=>exact h3,gv.none hh ps h4⟩
def gc (P:Program) (w:World) (A:Cells):(ps:List (PM×Ty))->(ba (dT ps)).den->List Value->FP->Prop
 | [],_,_,_=>True
 | (.ro,_)::ps,v,xs,F=>gc P w A ps v xs.tail F
 | (.fix _,_)::ps,v,xs,F=>gc P w A ps v xs.tail F
 | (.iW _,_)::ps,v,xs,F=>gc P w A ps v xs.tail F
 | (.fi _,_)::ps,v,xs,F=>gc P w A ps v xs.tail F
 | (.dt _ m,t)::ps,v,xs,F=>∃ (F1 F2:FP),(∀ b i,F1 b i+F2 b i<=F b i)/\(∃ b o L F3,xs.head?=some (.pointer (some ⟨b,o,none⟩))/\L.length=t.sz/\Has w b o L/\(∀ b' i,bk b o t.sz b' i+F3 b' i<=F1 b' i)/\af P w A t m [] v.1 L F3)/\gc P w A ps v.2 xs.tail F2
 | (.fC m,t)::ps,v,xs,F=>∃ (F1 F2:FP),(∀ b i,F1 b i+F2 b i<=F b i)/\(∃ cs,xs.head?=some (aZ t cs)/\af P w A t m [] v.1 cs F1)/\gc P w A ps v.2 xs.tail F2
def fl (P:Program) (w:World) (A:Cells) (rs:List wE) (rv:Value) (F:FP):Prop:=
 match rs with
 | []=>True
 | [x]=>∃ cs,rv=aZ x.t cs/\af P w A x.t x.m [] x.v cs F
 | xs=>∃ (vs:Array Value) (Fi:Nat->FP),rv=.tuple vs/\(∀ b i,ao xs.length Fi b i<=F b i)/\∀ j x,xs[j]?=some x->∃ v cs,vs[j]?=some v/\v=aZ x.t cs/\af P w A x.t x.m [] x.v cs (Fi j)
def Sound (P:Program) (f:FuncId) (g:kE):Prop:=
 ∀ (w:World) (A:Cells) (F0:FP) (v:(ba (g.ps.map (·.2))).den) (xs:List Value),gv P w A (g.vd v) g.ps v xs F0->(∀ b i,F0 b i<=1)->(∀ b i,1<=F0 b i->¬ A b i)->(∀ b i,1<=F0 b i\/A b i->b < w.heap.size)->oW P w F0 ->
  ∀ out,g.F v=some out->Calls P f xs.toArray w λe w'=>∃ rv,e=.returned rv/\Ext w w' F0/\∃ (A':Cells) (G GR GM:FP),(∀ b i,A b i->A' b i)/\(∀ b i,A' b i->A b i\/1<=F0 b i\/w.heap.size<=b) /\
   (∀ b i,1<=G b i->1<=F0 b i\/w.heap.size<=b)/\(∀ b i,G b i<=1)/\(∀ b i,1<=G b i->¬ A' b i)/\(∀ b i,1<=G b i\/A' b i->b < w'.heap.size)/\(∀ b i,GR b i+GM b i<=G b i) /\
   fl P w' A' (dU g.rs out).1 rv GR/\gc P w' A' g.ps (dU g.rs out).2 xs GM
def l5 (P:Program) (f:FuncId) (cap:Bool):Prop:=∃ fn,P.funcs[f]?=some fn/\(fn.name == "runtime.NumGoroutine")=false/\fn.body.isNone=false/\fn.nfree=(match cap with | true=>1 | false=>0)
end OT
set_option linter.unusedVariables false
set_option linter.unusedSimpArgs false
namespace OT
open Go
section
variable {P:Program} {C:Ctx} {A:Cells} {X:FP} {σ:St} {a:Act} {w:World} {F:Nat->FP} {R:Type} {x:R}
theorem KZ {K:St->Option R}:∀ (ps:List (PM×Ty)) (xs:List Operand) {σ:St} {A:Cells} {F:Nat->FP},bn P C A σ a w F->iX σ ps xs K=some x ->
  ∃ (A':Cells) (σ':St) (F':Nat->FP),K σ'=some x/\(∀ b i,A b i->A' b i)/\bn P C A' σ' a w F'/\σ'.n=σ.n:=by
 intro ps
 induction ps with
 | nil=>intro xs σ A F h hk;exact ⟨A,σ,F,by cases xs <;> exact hk,λ_ _ h=>h,h,rfl⟩
 | cons p ps ih=>
  intro xs σ A F h hk
  cases xs with
  | nil=>obtain ⟨pm,t⟩:=p;exact ⟨A,σ,F,by cases pm <;> exact hk,λ_ _ h=>h,h,rfl⟩
  | cons y xs=>
   obtain ⟨pm,t⟩:=p
   have fin:∀ {m' m:Md} {r:Nat} {p:Path},(if m'=m then iX σ ps xs K else lU σ r p m λσ=>iX σ ps xs K)=some x ->
     ∃ (A':Cells) (σ':St) (F':Nat->FP),K σ'=some x/\(∀ b i,A b i->A' b i)/\bn P C A' σ' a w F'/\σ'.n=σ.n:=λhk=>by
    grind [CC]
   cases pm with
   | ro=>exact ih xs h hk
   | fix f=>exact ih xs h hk
   | dt m m'=>
    simp only[iX] at hk
    split at hk
    ·split at hk
     ·obtain ⟨hr,t',m',H',v',aJ,aY,F',h1,_⟩:=d7 h hk
      exact fin h1
     ·cases hk
    ·cases hk
   | iW m=>
    simp only[iX] at hk
    split at hk
    ·split at hk
     ·obtain ⟨hr,t',m',H',v',aJ,aY,F',h1,_⟩:=d7 h hk
      exact fin h1
     ·cases hk
    ·cases hk
   | fC m=>
    simp only[iX] at hk
    split at hk
    ·split at hk
     ·obtain ⟨hr,t',m',H',v',aJ,aY,F',h1,_⟩:=d7 h hk
      exact fin h1
     ·cases hk
    ·cases hk
   | fi m=>
    simp only[iX] at hk
    split at hk
    ·split at hk
     ·obtain ⟨hr,t',m',H',v',aJ,aY,F',h1,_⟩:=d7 h hk
      exact fin h1
     ·cases hk
    ·cases hk
theorem GF (h:bn P C A σ a w F) {r:Nat} {t:Ty} {m:Md} {v:t.den} (hg:σ.get r=.box t m [] v):∃ (A':Cells) (F':Nat->FP),(∀ b i,A b i->A' b i)/\bn P C A' ((σ.put r .dead).put r (.cp t v)) a w F'/\Ro P w A' (.ptr t) v [tmp a r]/\r < σ.n:=by
 have hi:r < σ.n:=by
  grind [ep]
 have hs:=h.cj r hi
 rw[hg] at hs
 obtain ⟨b,off,L,F1,s1,s2,s3,s4,s5,s6⟩:=hs
 have h1:=h.put hi (s:=.dead) (v:=tmp a r) (Fd:=λ_ _=>0) (X':=F r) trivial (λb k=>by omega) (λ_ _ _ _ e=>by cases e)
 rw[iA] at h1
 have h2:=h1.giveUp (A1:=λb' i'=>A b' i'\/1<=F r b' i') (X1:=λ_ _=>0) (λ_ _ h=>.inl h) (λb' i' ha=>ha.imp id λhp=>⟨hp,rfl⟩) (λ_ _=>Nat.zero_le _)
 have kL:Ro P w (λb' i'=>A b' i'\/1<=F r b' i') (.ptr t) v [tmp a r]:=
  ⟨⟨b,off,none⟩,by rw[s1],rfl,L,s2,(λj u hu=>⟨s3 j u hu,.inr (by
   grind [bk])⟩),af.mr (λ_ _ h=>.inl h) t s6 (λb' i' hp=>.inr (by grind))⟩
 have h3:=h2.put (d:=r) hi (s:=.cp t v) (v:=tmp a r) (Fd:=λ_ _=>0) (X':=λ_ _=>0) kL (λb k=>by omega) (λ_ _ _ _ e=>by cases e)
 grind [iA]
theorem K1 (h:bn P C A σ a w F) {i:Nat} (hi:i < σ.n) {t:Ty} {v:t.den} (kL:Ro P w A (.ptr t) v [tmp a i]):∃ F':Nat->FP,bn P C A ((σ.put i .dead).put i (.cp t v)) a w F':=by
 have h1:=h.put hi (s:=.dead) (v:=tmp a i) (Fd:=λ_ _=>0) (X':=F i) trivial (λb k=>by omega) (λ_ _ _ _ e=>by cases e)
 rw[iA] at h1
 have h2:=h1.giveUp (A1:=A) (X1:=λ_ _=>0) (λ_ _ h=>h) (λb' i' ha=>.inl ha) (λ_ _=>Nat.zero_le _)
 have h3:=h2.put (d:=i) hi (s:=.cp t v) (v:=tmp a i) (Fd:=λ_ _=>0) (X':=λ_ _=>0) kL (λb k=>by omega) (λ_ _ _ _ e=>by cases e)
 grind [iA]
theorem Iq (h:bn P C A σ a w F) {i r:Nat} {snap:List Nat} {t:Ty} {m:Md} {H:List Path} {v:t.den} (hi:i < σ.n) (hs:σ.get i=.ptr r [] snap) (ap:σ.ok r snap=true) (hg:σ.get r=.box t m H v):tmp a i=tmp a r:=by
 have h1:=h.cj i hi
 rw[hs] at h1
 obtain ⟨pl,b,o,p1,p2,p3,p4⟩:=h1.2 ap
 have hr:r < σ.n:=by
  grind [ep]
 have h2:=h.cj r hr
 rw[hg] at h2
 obtain ⟨b2,off,L,F1,s1,_⟩:=h2
 grind [place,bl,aC]
theorem Mh {K:St->Option R}:∀ (ps:List (PM×Ty)) (xs:List Operand) {σ:St} {A:Cells} {F:Nat->FP},bn P C A σ a w F->pA σ ps xs K=some x ->
  ∃ (A':Cells) (σ':St) (F':Nat->FP),K σ'=some x/\(∀ b i,A b i->A' b i)/\bn P C A' σ' a w F'/\σ'.n=σ.n:=by
 intro ps
 induction ps with
 | nil=>intro xs σ A F h hk;exact ⟨A,σ,F,by cases xs <;> exact hk,λ_ _ h=>h,h,rfl⟩
 | cons p ps ih=>
  intro xs σ A F h hk
  cases xs with
  | nil=>obtain ⟨pm,t⟩:=p;exact ⟨A,σ,F,by cases pm <;> exact hk,λ_ _ h=>h,h,rfl⟩
  | cons y xs=>
   obtain ⟨pm,t⟩:=p
   have fin:∀ {r:Nat} {p:Path},(nw σ r p λσ=>pA σ ps xs K)=some x ->
     ∃ (A':Cells) (σ':St) (F':Nat->FP),K σ'=some x/\(∀ b i,A b i->A' b i)/\bn P C A' σ' a w F'/\σ'.n=σ.n:=λhk=>by
    grind [og]
   cases pm with
   | fix f=>exact ih xs h hk
   | dt m m'=>exact ih xs h hk
   | iW m=>exact ih xs h hk
   | fC m=>exact ih xs h hk
   | fi m=>exact ih xs h hk
   | ro=>
    simp only[pA] at hk
    split at hk
    ·grind
    ·split at hk
     ·grind
     ·grind
     ·rename_i r p snap Gx
      split at hk
      ·rename_i ap
       split at hk
       ·rename_i t m H v hg
        split at hk
        ·rename_i hc
         simp only[Bool.and_eq_true,List.isEmpty_iff] at hc
         obtain ⟨hH,tQ⟩:=hc
         subst hH
         obtain ⟨A1,F1,tK,h3,h4,h5⟩:=GF h hg
         have go:∀ {ez:St} {F2:Nat->FP},bn P C A1 ez a w F2->pA ez ps xs K=some x->ez.n=σ.n->∃ (A':Cells) (σ':St) (F':Nat->FP),K σ'=some x/\(∀ b i,A b i->A' b i)/\bn P C A' σ' a w F'/\σ'.n=σ.n:=λh3 hk hn=>by
          grind
         cases y with
         | tmp i=>
          simp only[LH] at hk
          split at hk
          ·exact go h3 hk rfl
          ·rename_i zm
           simp only[Bool.or_eq_false_iff,Bool.not_eq_false',Nat.blt_eq] at zm
           obtain ⟨g1,g2⟩:=zm
           have hi:i < σ.n:=g2
           have Dp:i≠r:=λe=>by simp_all
           have hs:σ.get i=.ptr r [] snap:=by
            grind [bi]
           have he:=Iq h hi hs ap hg
           rw[<-he] at h4
           obtain ⟨F3,h6⟩:=K1 h3 (i:=i) g2 h4
           exact go h6 hk rfl
         | const c=>exact go h3 hk rfl
         | func f=>exact go h3 hk rfl
         | global g=>exact go h3 hk rfl
        ·cases hk
       ·cases hk
      ·cases hk
     grind
def AX (A:Cells) (F:Nat->FP) (n r0:Nat) (ow:Bool):Cells:=λb i=>A b i\/(ow=true/\∃ j,j < n/\j≠r0/\1<=F j b i)
def JY (P:Program) (A:Cells) (σ:St) (a:Act) (w:World) (F:Nat->FP) (ow:Bool) (pm:PM) (t:Ty) (v:t.den) (s:Slot) (tv:Value) (wp:Option (Nat×Path)):Prop:=
 match pm with
 | .ro=>wp=none/\∃ cs,tv=aZ t cs/\Ro P w (λb i=>A b i\/(ow=true/\∃ r ∈ eS s,r < σ.n/\1<=F r b i)) t v cs
 | .fix f=>wp=none/\(∃ cs,tv=aZ t cs/\Ro P w A t v cs)/\∀ e:t=.fn,(e ▸ v:Ty.fn.den).1=f
 | .dt m _=>∃ r p snap b o cs,s=.ptr r p snap/\wp=some (r,p)/\At σ r p t m [] v/\tv=.pointer (some ⟨b,o,none⟩)/\place σ a w r p=some ⟨t,[],cs,some (b,o)⟩
 | .fC m=>∃ r p snap cs ad,s=.ref r p snap/\wp=some (r,p)/\At σ r p t m [] v/\tv=aZ t cs/\place σ a w r p=some ⟨t,[],cs,ad⟩
 | .fi m=>∃ H r p snap cs ad,s=.ref r p snap/\wp=some (r,p)/\At σ r p t m H v/\tv=aZ t cs/\place σ a w r p=some ⟨t,H,cs,ad⟩
 | .iW m=>∃ r p snap b o cs,s=.ptr r p snap/\wp=some (r,p)/\At σ r p t m [] v/\tv=.pointer (some ⟨b,o,none⟩)/\place σ a w r p=some ⟨t,[],cs,some (b,o)⟩
def oo (P:Program) (A:Cells) (σ:St) (a:Act) (w:World) (F:Nat->FP) (ow:Bool):(ps:List (PM×Ty))->(ba (ps.map (·.2))).den->List Slot->List Value->List (Nat×Path)->Prop
 | [],_,ss,fY,ws=>ss=[]/\fY=[]/\ws=[]
 | (pm,t)::ps,v,ss,fY,ws=>∃ s xi tv kO wp mI,ss=s::xi/\fY=tv::kO/\ws=(match (generalizing:=false) wp with | some x=>x::mI | none=>mI)/\JY P A σ a w F ow pm t v.1 s tv wp/\oo P A σ a w F ow ps v.2 xi kO mI
def lQ (P:Program) (A:Cells) (σ:St) (a:Act) (w:World):List Slot->List Value->Prop
 | [],[]=>True
 | s::ss,tv::fY=>(aW P A σ a w tv s (λ_ _=>0)\/∃ xs,s=.iK xs)/\lQ P A σ a w ss fY
 | _,_=>False
theorem xj (h:bn P C A σ a w F):∀ (xs:List Operand) {ss:List Slot} {fY:List Value},xs.all (bh P)=true->lQ P A σ a w ss fY->lQ P A σ a w (xs.map (bi σ)++ss) (xs.map a.eval++fY)
 | [],_,_,_,h2=>h2
 | y::xs,_,_,ap,h2=>by
  simp only[List.all_cons,Bool.and_eq_true] at ap
  exact ⟨bE h ap.1,xj h xs ap.2 h2⟩
theorem N2 (h:bn P C A σ a w F) {s:Slot} {tv:Value} {G:FP} (hs:aW P A σ a w tv s G) {t:Ty} {K:t.den->Option R} (hk:AH σ s t K=some x) :
  ∃ (v:t.den) (cs:List Value),K v=some x/\tv=aZ t cs/\Ro P w A t v cs:=by
 cases s with
 | val t' v=>
  obtain ⟨e,hk⟩:=aV hk;subst e
  obtain ⟨cs,h1,h2⟩:=hs
  grind
 | cp t' v=>
  obtain ⟨e,hk⟩:=aV hk;subst e
  exact ⟨v,[tv],hk,(bp _ _ rfl).symm,hs⟩
 | mf=>
  simp only[AH] at hk
  split at hk
  ·rename_i t e
   have hs:tv=.slice none 0 0:=hs
   subst hs
   exact ⟨[],_,hk,(bp _ _ rfl).symm,none,0,rfl,Nat.le_refl _,λ_=>rfl,λad di=>by cases di⟩
  ·cases hk
 | ref r p snap=>
  simp only[AH] at hk
  split at hk
  ·rename_i ap
   obtain ⟨hr,t',m',H',v',aJ,aY,F',h1,h2,h3,h4,h5,h6⟩:=d7 h hk
   obtain ⟨pl,g1,g2,g3⟩:=hs.2 ap
   grind [aV,af.flat,af.ro,bQ]
  ·cases hk
 | sub r p snap lo hi=>
  simp only[AH] at hk
  split at hk
  ·rename_i ap
   obtain ⟨hr,t',m',H',v',aJ,aY,F',h1,h2,h3,h4,h5,h6⟩:=d7 h hk
   obtain ⟨pl,e,xa,n,cap,lG,cap',g1,g2,g3,g4,g5,g6,g7,Dr,g8,g9,g10⟩:=hs.2 ap
   rw[h3] at g1
   injection g1 with g1
   subst g1
   simp only at g2 g3
   subst g2;subst g3
   split at h1
   ·rename_i hc
    simp only[Bool.and_eq_true,List.isEmpty_iff,decide_eq_true_eq] at hc
    obtain ⟨hH,hm⟩:=hc
    subst hH;subst hm
    obtain ⟨e',h1⟩:=aV h1;subst e'
    exact ⟨_,_,h1,by rw[bp _ _ rfl];exact g6,Ro.piece (af.ro _ (bQ _) h4) g4 g5 g7 g8 g9⟩
   ·cases h1
  ·cases hk
 | _=>simp[AH] at hk
theorem Mi (h:bn P C A σ a w F) {ow:Bool} {pm:PM} {t:Ty} {s:Slot} {tv:Value} (hs:aW P A σ a w tv s (λ_ _=>0)\/∃ xs,s=.iK xs) {K:t.den->Option (Nat×Path)->Option R} (hk:pz σ ow pm t s K=some x) :
  ∃ v wp,K v wp=some x/\JY P A σ a w F ow pm t v s tv wp:=by
 rcases hs with hs | ⟨xs,rfl⟩
 rotate_left
 ·cases pm with
  | ro=>cases ow <;> simp[pz,jw,AH] at hk
  | _=>simp[pz] at hk
 cases pm with
 | ro=>
  cases ow with
  | true=>
   simp only[pz] at hk
   have aE:=tL h hk
   obtain ⟨v,cs,h1,h2,h3⟩:=zf h hs hk
   exact ⟨v,none,h1,rfl,cs,h2,Ro.mono (λ_ _ _ _ h=>h) (λb i ha=>ha.imp id λ⟨r,hr,hp⟩=>⟨rfl,r,hr,aE r hr,hp⟩) t h3⟩
  | false=>
   simp only[pz] at hk
   obtain ⟨v,cs,h1,h2,h3⟩:=N2 h hs hk
   exact ⟨v,none,h1,rfl,cs,h2,Ro.mono (λ_ _ _ _ h=>h) (λb i ha=>.inl ha) t h3⟩
 | fix f=>
  simp only[pz] at hk
  split at hk
  ·rename_i v
   split at hk
   ·rename_i hf
    obtain ⟨e,hk⟩:=aV hk
    subst e
    obtain ⟨cs,h1,h2⟩:=hs
    exact ⟨v,none,hk,rfl,⟨cs,h1,h2⟩,λe=>by simpa using hf⟩
   ·cases hk
  ·cases hk
 | dt m m'=>
  simp only[pz] at hk
  split at hk
  ·rename_i r p snap
   split at hk
   ·rename_i ap
    obtain ⟨hr,t',m',H',v',aJ,aY,F',h1,h2,h3,h4,h5,h6⟩:=d7 h hk
    obtain ⟨pl,b,o,g1,g2,g3,g4⟩:=hs.2 ap
    rw[h3] at g1
    injection g1 with g1
    subst g1
    simp only at g2
    subst g2
    split at h1
    ·rename_i hc
     simp only[Bool.and_eq_true,List.isEmpty_iff,decide_eq_true_eq] at hc
     obtain ⟨hH,hm⟩:=hc
     subst hH;subst hm
     obtain ⟨e,h1⟩:=aV h1
     subst e
     exact ⟨v',_,h1,r,p,snap,b,o,aJ,rfl,rfl,⟨h2⟩,g3,h3⟩
    ·cases h1
   ·cases hk
  ·cases hk
 | iW m=>
  simp only[pz] at hk
  split at hk
  ·rename_i r p snap
   split at hk
   ·rename_i ap
    obtain ⟨hr,t',m',H',v',aJ,aY,F',h1,h2,h3,h4,h5,h6⟩:=d7 h hk
    obtain ⟨pl,b,o,g1,g2,g3,g4⟩:=hs.2 ap
    rw[h3] at g1
    injection g1 with g1
    subst g1
    simp only at g2
    subst g2
    split at h1
    ·rename_i hc
     simp only[Bool.and_eq_true,List.isEmpty_iff,decide_eq_true_eq] at hc
     obtain ⟨hH,hm⟩:=hc
     subst hH;subst hm
     obtain ⟨e,h1⟩:=aV h1
     subst e
     exact ⟨v',_,h1,r,p,snap,b,o,aJ,rfl,rfl,⟨h2⟩,g3,h3⟩
    ·cases h1
   ·cases hk
  ·cases hk
 | fC m=>
  simp only[pz] at hk
  split at hk
  ·rename_i r p snap
   split at hk
   ·rename_i ap
    obtain ⟨hr,t',m',H',v',aJ,aY,F',h1,h2,h3,h4,h5,h6⟩:=d7 h hk
    obtain ⟨pl,g1,g2,g3⟩:=hs.2 ap
    rw[h3] at g1
    injection g1 with g1
    subst g1
    split at h1
    ·rename_i hc
     simp only[Bool.and_eq_true,List.isEmpty_iff,decide_eq_true_eq] at hc
     obtain ⟨hH,hm⟩:=hc
     subst hH;subst hm
     obtain ⟨e,h1⟩:=aV h1
     subst e
     exact ⟨v',_,h1,r,p,snap,aJ,aY,rfl,rfl,⟨h2⟩,g2,h3⟩
    ·cases h1
   ·cases hk
  ·cases hk
 | fi m=>
  simp only[pz] at hk
  split at hk
  ·rename_i r p snap
   split at hk
   ·rename_i ap
    obtain ⟨hr,t',m',H',v',aJ,aY,F',h1,h2,h3,h4,h5,h6⟩:=d7 h hk
    obtain ⟨pl,g1,g2,g3⟩:=hs.2 ap
    rw[h3] at g1
    injection g1 with g1
    subst g1
    split at h1
    ·rename_i hm
     subst hm
     obtain ⟨e,h1⟩:=aV h1
     subst e
     exact ⟨v',_,h1,H',r,p,snap,aJ,aY,rfl,rfl,⟨h2⟩,g2,h3⟩
    ·cases h1
   ·cases hk
  ·cases hk
theorem K3 (h:bn P C A σ a w F) {ow:Bool}:∀ (ps:List (PM×Ty)) {ss:List Slot} {fY:List Value} {K:(ba (ps.map (·.2))).den->List (Nat×Path)->Option R},lQ P A σ a w ss fY->Ah σ ow ps ss K=some x ->
  ∃ v ws,K v ws=some x/\oo P A σ a w F ow ps v ss fY ws:=by
 intro ps
 induction ps with
 | nil=>
  intro ss fY K hs hk
  cases ss with
  | nil=>
   cases fY with
   | nil=>exact ⟨(),[],hk,rfl,rfl,rfl⟩
   | cons _ _=>exact hs.elim
  | cons _ _=>cases hk
 | cons p ps ih=>
  intro ss fY K hs hk
  obtain ⟨pm,t⟩:=p
  cases ss with
  | nil=>cases hk
  | cons s ss=>
   cases fY with
   | nil=>exact hs.elim
   | cons tv fY=>
    simp only[Ah] at hk
    obtain ⟨v,wp,h1,h2⟩:=Mi h hs.1 hk
    obtain ⟨vs,ws,h3,h4⟩:=ih hs.2 h1
    exact ⟨(v,vs),_,h3,s,ss,tv,fY,wp,ws,rfl,rfl,rfl,h2,h4⟩
theorem gz {ow:Bool} {A0:Cells} (hA:∀ b i,A b i->A0 b i) {r0:Nat} (hX:ow=true->∀ b i j,j < σ.n->j≠r0->1<=F j b i->A0 b i):∀ (ps:List (PM×Ty)) {v:(ba (ps.map (·.2))).den} {ss:List Slot} {fY:List Value},
  oo P A σ a w F ow ps v ss fY []->(∀ r ∈ ss.flatMap eS,r < σ.n->r≠r0)->(∀ ho,gv P w A0 ho ps v fY (λ_ _=>0))/\(∀ (σ':St) (K:St->Option R) (out:(ba (dT ps)).den),iY σ' ps [] out K=K σ'):=by
 intro ps
 induction ps with
 | nil=>intro v ss fY h hr;exact ⟨λ_=>h.2.1,λσ' K out=>rfl⟩
 | cons p ps ih=>
  intro v ss fY h hr
  obtain ⟨pm,t⟩:=p
  obtain ⟨s,xi,tv,kO,wp,mI,rfl,rfl,hw,dY,fO⟩:=h
  have fj:∀ b i,A b i->∀ u,ce w b i=some u->ce w b i=some u:=λ_ _ _ _ h=>h
  cases wp with
  | some y=>cases hw
  | none=>
   have hw:[]=mI:=hw
   subst hw
   obtain ⟨i1,i2⟩:=ih fO (λr hm=>hr r (by grind))
   cases pm with
   | ro=>
    obtain ⟨_,cs,h1,h2⟩:=dY
    refine ⟨λho=>⟨tv,kO,λ_ _=>0,λ_ _=>0,rfl,λ_ _=>Nat.le_refl _,⟨cs,h1,Ro.mono (λ_ _ _ _ h=>h) (λb i ha=>?_) t h2⟩,i1 ho⟩,λσ' K out=>i2 σ' K out⟩
    grind
   | fix f=>
    obtain ⟨_,⟨cs,h1,h2⟩,h3⟩:=dY
    exact ⟨λho=>⟨tv,kO,λ_ _=>0,λ_ _=>0,rfl,λ_ _=>Nat.le_refl _,⟨⟨cs,h1,Ro.mono (λ_ _ _ _ h=>h) hA t h2⟩,h3⟩,i1 ho⟩,λσ' K out=>i2 σ' K out⟩
   | dt m m'=>obtain ⟨r,p,snap,b,o,cs,_,e,_⟩:=dY;cases e
   | iW m=>obtain ⟨r,p,snap,b,o,cs,_,e,_⟩:=dY;cases e
   | fC m=>obtain ⟨r,p,snap,cs,ad,_,e,_⟩:=dY;cases e
   | fi m=>obtain ⟨H,r,p,snap,cs,ad,_,e,_⟩:=dY;cases e
theorem K4 {t:Ty} {cs aJ:List Value} (h1:cs.length=t.sz) (h2:∀ x ∈ cs,x.oneCell'=true) (h3:aJ.length=t.sz) (h4:∀ x ∈ aJ,x.oneCell'=true) (h:aZ t cs=aZ t aJ):cs=aJ:=by
 grind [dB]
theorem EI {ow:Bool} {r:Nat} {p:Path}:∀ (ps:List (PM×Ty)) {v:(ba (ps.map (·.2))).den} {ss:List Slot} {fY:List Value},
  oo P A σ a w F ow ps v ss fY [(r,p)]->(ss.flatMap eS).count r<=1 ->
  1<=(ss.flatMap eS).count r/\∃ (tR it tg:Bool) (t:Ty) (m:Md) (H:List Path) (v1:t.den) (cs:List Value) (ad:Option (Nat×Nat)),((tg=false->H=[])/\(tg=true->Ee ps=true)/\(wI ps=true->tR=false)/\(jr ps=true->ve t=true))/\At σ r p t m H v1/\place σ a w r p=some ⟨t,H,cs,ad⟩/\(it=true->∃ b o,ad=some (b,o)) /\
   (eO ps=true->(t.flat||decide (m=av t))=true/\t.gE=true) /\
   (∀ (A0:Cells) (F0 Fp:FP),(∀ b i,A b i->A0 b i)->(ow=true->∀ b i j,j < σ.n->j≠r->1<=F j b i->A0 b i)->af P w A0 t m H v1 cs Fp ->
    (it=true->∀ b o,ad=some (b,o)->Has w b o cs/\(∀ j,j < t.sz->w.frozen? ⟨b,o+j,none⟩=false)/\∀ b' i,bk b o t.sz b' i+Fp b' i<=F0 b' i)->(it=false->∀ b i,Fp b i<=F0 b i)->∀ ho,(tg=true->ho H=true)->gv P w A0 ho ps v fY F0) /\
   (tg=true->tR=true/\it=false/\∀ (σ':St) (K:St->Option R) (out:(ba (dT ps)).den),iY σ' ps [(r,p)] out K=oU σ' r p K) /\
   (tR=true->tg=false->∀ (σ':St) (K:St->Option R) (out:(ba (dT ps)).den),iY σ' ps [(r,p)] out K=match lz σ' r p t m t.zero (λ_=>some ()) with | some _=>K (σ'.put r .dead) | none=>none) /\
   (tR=false->∀ out:(ba (dT ps)).den,∃ (m2:Md) (o1:t.den),(eO ps=true->(t.flat||decide (m2=av t))=true) /\
    (∀ (σ':St) (K:St->Option R),iY σ' ps [(r,p)] out K=lz σ' r p t m2 o1 λnA=>K (match it with | true=>nA | false=>{ nA with vr:=(σ'.eJ r (j_ (bm p+1))).vr,aA:=σ'.aA })) /\
    ∀ (w':World) (A':Cells) (GM:FP),gc P w' A' ps out fY GM->∃ aJ F3,af P w' A' t m2 [] o1 aJ F3/\(∀ b i,F3 b i<=GM b i)/\(it=true->∀ b o,ad=some (b,o)->Has w' b o aJ/\∀ b' i,bk b o t.sz b' i+F3 b' i<=GM b' i) /\
     (it=false->aZ t aJ=aZ t cs)):=by
 intro ps
 induction ps with
 | nil=>intro v ss fY h hc;cases h.2.2
 | cons p0 ps ih=>
  intro v ss fY h hc
  obtain ⟨pm,t⟩:=p0
  obtain ⟨s,xi,tv,kO,wp,mI,rfl,rfl,hw,dY,fO⟩:=h
  simp only[List.flatMap_cons,List.count_append] at hc ⊢
  cases pm with
  | ro=>
   obtain ⟨ot,cs,h1,h2⟩:=dY
   subst ot
   have hw:[(r,p)]=mI:=hw
   subst hw
   obtain ⟨c1,tR,it,tg,t1,m1,H1,v1,gU,vh,q0,q1,q2,q3,q4,q5,q8,q7,q6⟩:=ih fO (by omega)
   refine ⟨by omega,tR,it,tg,t1,m1,H1,v1,gU,vh,⟨q0.1,q0.2.1,q0.2.2.1,λe=>q0.2.2.2 (by simp only[jr,Bool.and_eq_true] at e;exact e.2)⟩,q1,q2,q3,q4,λA0 F0 Fp J a2 a3 a4 a5 ho a6=>⟨tv,kO,λ_ _=>0,F0,rfl,λb i=>by simp,⟨cs,h1,Ro.mono (λ_ _ _ _ h=>h) (λb i ha=>?_) t h2⟩,q5 A0 F0 Fp J a2 a3 a4 a5 ho a6⟩,λhV=>⟨(q8 hV).1,(q8 hV).2.1,λσ' K out=>(q8 hV).2.2 σ' K out⟩,λhE hV σ' K out=>q7 hE hV σ' K out,λhE out=>q6 hE out⟩
   rcases ha with ha | ⟨mJ,r',hm,aE,hp⟩
   ·exact J b i ha
   ·refine a2 mJ b i r' aE (λe=>?_) hp
    subst e
    have:=List.count_pos_iff.2 hm
    omega
  | fix f=>
   obtain ⟨ot,⟨cs,h1,h2⟩,h3⟩:=dY
   subst ot
   have hw:[(r,p)]=mI:=hw
   subst hw
   obtain ⟨c1,tR,it,tg,t1,m1,H1,v1,gU,vh,q0,q1,q2,q3,q4,q5,q8,q7,q6⟩:=ih fO (by omega)
   exact ⟨by omega,tR,it,tg,t1,m1,H1,v1,gU,vh,⟨q0.1,q0.2.1,q0.2.2.1,λe=>q0.2.2.2 (by simp only[jr] at e;exact e)⟩,q1,q2,q3,q4,λA0 F0 Fp J a2 a3 a4 a5 ho a6=>⟨tv,kO,λ_ _=>0,F0,rfl,λb i=>by simp,⟨⟨cs,h1,Ro.mono (λ_ _ _ _ h=>h) J t h2⟩,h3⟩,q5 A0 F0 Fp J a2 a3 a4 a5 ho a6⟩,λhV=>⟨(q8 hV).1,(q8 hV).2.1,λσ' K out=>(q8 hV).2.2 σ' K out⟩,λhE hV σ' K out=>q7 hE hV σ' K out,λhE out=>q6 hE out⟩
  | iW m=>
   obtain ⟨r1,p1,snap,b,o,cs,rfl,ot,dw,pO,de⟩:=dY
   subst ot
   have hw:[(r,p)]=(r1,p1)::mI:=hw
   injection hw with pX tS
   injection pX with pX Bm
   subst pX;subst tS;subst Bm
   have xk:(eS (.ptr r p snap)).count r=1:=by simp[eS]
   obtain ⟨n1,n2⟩:=gz (R:=R) (P:=P) (A0:=λb i=>True) (λ_ _ _=>trivial) (r0:=r) (λ_ _ _ _ _ _ _=>trivial) ps fO (λr' hm _ e=>by subst e;have:=List.count_pos_iff.2 hm;omega)
   refine ⟨by omega,true,true,false,t,m,[],v.1,cs,some (b,o),⟨λ_=>rfl,(λe=>by cases e),(λe=>absurd e (by simp[wI])),λe=>absurd e (by simp[jr])⟩,dw,de,λ_=>⟨b,o,rfl⟩,λho=>?_,λA0 F0 Fp J a2 a3 a4 a5 ho _=>?_,(λe=>by cases e),λ_ _ σ' K out=>?_,λe=>by cases e⟩
   ·simp only[eO,Bool.and_eq_true] at ho;exact ho.1
   ·obtain ⟨b1,b2,b3⟩:=a4 rfl b o rfl
    obtain ⟨k1,_⟩:=gz (R:=R) (P:=P) J (r0:=r) a2 ps fO (λr' hm _ e=>by subst e;have:=List.count_pos_iff.2 hm;omega)
    exact ⟨tv,kO,F0,λ_ _=>0,rfl,λb i=>Nat.le_refl _,⟨b,o,cs,Fp,pO,af.length _ a3,b1,b2,b3,a3⟩,k1 ho⟩
   ·show (match lz σ' r p t m t.zero (λ_=>some ()) with | some _=>iY (σ'.put r .dead) ps [] out K | none=>none)=_
    split
    ·exact n2 _ K out
    ·rfl
  | dt m m'=>
   obtain ⟨r1,p1,snap,b,o,cs,rfl,ot,dw,pO,de⟩:=dY
   subst ot
   have hw:[(r,p)]=(r1,p1)::mI:=hw
   injection hw with pX tS
   injection pX with pX Bm
   subst pX;subst tS;subst Bm
   have xk:(eS (.ptr r p snap)).count r=1:=by simp[eS]
   obtain ⟨n1,n2⟩:=gz (R:=R) (P:=P) (A0:=λb i=>True) (λ_ _ _=>trivial) (r0:=r) (λ_ _ _ _ _ _ _=>trivial) ps fO (λr' hm _ e=>by subst e;have:=List.count_pos_iff.2 hm;omega)
   refine ⟨by omega,false,true,false,t,m,[],v.1,cs,some (b,o),⟨λ_=>rfl,(λe=>by cases e),(λ_=>rfl),λe=>by simp only[jr,Bool.and_eq_true] at e;exact e.1⟩,dw,de,λ_=>⟨b,o,rfl⟩,λho=>?_,λA0 F0 Fp J a2 a3 a4 a5 ho _=>?_,(λe=>by cases e),(λe=>by cases e),λ_ out=>⟨m',out.1,λho=>?_,λσ' K=>?_,λw' A' GM hm=>?_⟩⟩
   ·simp only[eO,Bool.and_eq_true] at ho;exact ho.1
   ·obtain ⟨b1,b2,b3⟩:=a4 rfl b o rfl
    obtain ⟨k1,_⟩:=gz (R:=R) (P:=P) J (r0:=r) a2 ps fO (λr' hm _ e=>by subst e;have:=List.count_pos_iff.2 hm;omega)
    exact ⟨tv,kO,F0,λ_ _=>0,rfl,λb i=>Nat.le_refl _,⟨b,o,cs,Fp,pO,af.length _ a3,b1,b2,b3,a3⟩,k1 ho⟩
   ·simp only[eO,Bool.and_eq_true] at ho;exact ho.2.1
   ·show lz σ' r p t m' out.1 (λσ=>iY σ ps [] out.2 K)=_
    congr 1
    funext nA
    exact n2 nA K out.2
   ·obtain ⟨F1,F2,h1,⟨b',o',L,F3,h2,h3,h4,h5,h6⟩,h7⟩:=hm
    simp only[List.head?_cons,Option.some.injEq,pO,Value.pointer.injEq,Addr.mk.injEq,and_true] at h2
    obtain ⟨rfl,rfl⟩:=h2
    refine ⟨L,F3,h6,λb' i=>by have:=h5 b' i;have:=h1 b' i;omega,λ_ b2 o2 e=>?_,λe=>by cases e⟩
    simp only[Option.some.injEq,Prod.mk.injEq] at e
    obtain ⟨rfl,rfl⟩:=e
    exact ⟨h4,λb' i=>by have:=h5 b' i;have:=h1 b' i;omega⟩
  | fC m=>
   obtain ⟨r1,p1,snap,cs,ad,rfl,ot,dw,pO,de⟩:=dY
   subst ot
   have hw:[(r,p)]=(r1,p1)::mI:=hw
   injection hw with pX tS
   injection pX with pX Bm
   subst pX;subst tS;subst Bm
   have xk:(eS (.ref r p snap)).count r=1:=by simp[eS]
   obtain ⟨n1,n2⟩:=gz (R:=R) (P:=P) (A0:=λb i=>True) (λ_ _ _=>trivial) (r0:=r) (λ_ _ _ _ _ _ _=>trivial) ps fO (λr' hm _ e=>by subst e;have:=List.count_pos_iff.2 hm;omega)
   refine ⟨by omega,false,false,false,t,m,[],v.1,cs,ad,⟨λ_=>rfl,(λe=>by cases e),(λ_=>rfl),λe=>absurd e (by simp[jr])⟩,dw,de,(λe=>by cases e),λho=>?_,λA0 F0 Fp J a2 a3 a4 a5 ho _=>?_,(λe=>by cases e),(λe=>by cases e),λ_ out=>⟨m,out.1,λho=>?_,λσ' K=>?_,λw' A' GM hm=>?_⟩⟩
   ·simp only[eO,Bool.and_eq_true] at ho;exact ho.1
   ·obtain ⟨k1,_⟩:=gz (R:=R) (P:=P) J (r0:=r) a2 ps fO (λr' hm _ e=>by subst e;have:=List.count_pos_iff.2 hm;omega)
    exact ⟨tv,kO,F0,λ_ _=>0,rfl,λb i=>Nat.le_refl _,⟨cs,pO,a3.le (a5 rfl)⟩,k1 ho⟩
   ·simp only[eO,Bool.and_eq_true] at ho;exact ho.1.1
   ·show lz σ' r p t m out.1 (λnA=>iY { nA with vr:=(σ'.eJ r (j_ (bm p+1))).vr,aA:=σ'.aA } ps [] out.2 K)=_
    congr 1
    funext nA
    exact n2 _ K out.2
   ·obtain ⟨F1,F2,h1,⟨aJ,h2,h3⟩,h7⟩:=hm
    simp only[List.head?_cons,Option.some.injEq,pO] at h2
    exact ⟨aJ,F1,h3,λb' i=>by have:=h1 b' i;omega,(λe=>by cases e),λ_=>h2.symm⟩
  | fi m=>
   obtain ⟨H,r1,p1,snap,cs,ad,rfl,ot,dw,pO,de⟩:=dY
   subst ot
   have hw:[(r,p)]=(r1,p1)::mI:=hw
   injection hw with pX tS
   injection pX with pX Bm
   subst pX;subst tS;subst Bm
   have xk:(eS (.ref r p snap)).count r=1:=by simp[eS]
   obtain ⟨n1,n2⟩:=gz (R:=R) (P:=P) (A0:=λb i=>True) (λ_ _ _=>trivial) (r0:=r) (λ_ _ _ _ _ _ _=>trivial) ps fO (λr' hm _ e=>by subst e;have:=List.count_pos_iff.2 hm;omega)
   refine ⟨by omega,true,false,true,t,m,H,v.1,cs,ad,⟨λe=>(by cases e),(λ_=>rfl),(λe=>absurd e (by simp[wI])),λe=>absurd e (by simp[jr])⟩,dw,de,(λe=>by cases e),λho=>?_,λA0 F0 Fp J a2 a3 a4 a5 ho a6=>?_,λ_=>⟨rfl,rfl,λσ' K out=>?_⟩,(λ_ e=>by cases e),λe=>by cases e⟩
   ·simp only[eO,Bool.and_eq_true] at ho;exact ho.1
   ·obtain ⟨k1,_⟩:=gz (R:=R) (P:=P) J (r0:=r) a2 ps fO (λr' hm _ e=>by subst e;have:=List.count_pos_iff.2 hm;omega)
    exact ⟨tv,kO,F0,λ_ _=>0,rfl,λb i=>Nat.le_refl _,⟨H,cs,a6 rfl,pO,a3.le (a5 rfl)⟩,k1 ho⟩
   ·show oU σ' r p (λnA=>iY nA ps [] out K)=_
    congr 1
    funext nA
    exact n2 _ K out
def Bn:Option Value->Bool
 | some (.int .u8 _)=>false
 | none=>false
 | _=>true
def vZ (w:World) (F:Nat->FP):Nat->FP:=λj b i=>if Bn (ce w b i) then F j b i else 0
theorem K5 (w:World) (F:Nat->FP) (j b i:Nat):vZ w F j b i<=F j b i:=by
 unfold vZ
 split
 ·exact Nat.le_refl _
 ·exact Nat.zero_le _
theorem Ir {w:World} {F:Nat->FP} {j b i:Nat} (h:1<=vZ w F j b i):Bn (ce w b i)=true:=by
 unfold vZ at h
 split at h
 ·assumption
 ·omega
theorem Ro.nb:∀ (t:Ty) {v:t.den} {cs:List Value},s9 t=true->Ro P w A t v cs->(∀ u ∈ cs,Bn (some u)=true)/\Ro P w (λb i=>A b i/\Bn (ce w b i)=true) t v cs:=by
 intro t
 induction t with
 | int k=>
  intro v cs hn h
  have h:cs=[.int k (gd k v)]:=h
  refine ⟨λu hu=>?_,h⟩
  rw[h,List.mem_singleton] at hu
  subst hu
  cases k <;> first | rfl | (simp[s9] at hn)
 | bool=>
  intro v cs hn h
  have h:cs=[.bool v]:=h
  exact ⟨λu hu=>by rw[h,List.mem_singleton] at hu;subst hu;rfl,h⟩
 | str=>
  intro v cs hn h
  have h:cs=[.string ⟨List.toArray v⟩]:=h
  exact ⟨λu hu=>by rw[h,List.mem_singleton] at hu;subst hu;rfl,h⟩
 | unit=>
  intro v cs hn h
  have h:cs=[]:=h
  exact ⟨λu hu=>(by rw[h] at hu;cases hu),h⟩
 | pair a b eI ey=>
  intro v cs hn h
  simp only[s9,Bool.and_eq_true] at hn
  obtain ⟨h1,h2⟩:=h
  obtain ⟨J,a2⟩:=eI hn.1 h1
  obtain ⟨b1,b2⟩:=ey hn.2 h2
  refine ⟨λu hu=>?_,a2,b2⟩
  rw[<-List.take_append_drop a.sz cs] at hu
  rcases List.mem_append.1 hu with g | g
  ·exact J u g
  ·exact b1 u g
 | arr n e ih=>
  intro v cs hn h
  simp only[s9] at hn
  obtain ⟨h1,h2,h3,h4⟩:=h
  refine ⟨λu hu=>?_,h1,h2,h3,λi x hx=>(ih hn (h4 i x hx)).2⟩
  obtain ⟨q,hq,rfl⟩:=List.getElem_of_mem hu
  have hs:0 < e.sz:=by
   rcases Nat.eq_zero_or_pos e.sz with h0 | h0
   ·rw[h0,Nat.mul_zero] at h3;omega
   ·exact h0
  have hi:q / e.sz < n:=by rw[Nat.div_lt_iff_lt_mul hs];omega
  have hx:=h4 (q / e.sz) (v[q / e.sz]'(by omega)) (List.getElem?_eq_getElem (by omega))
  refine (ih hn hx).1 _ ?_
  have hm:=Nat.mod_lt q hs
  have he:q / e.sz*e.sz+q % e.sz=q:=Nat.div_add_mod' q e.sz
  refine List.mem_iff_getElem?.2 ⟨q % e.sz,?_⟩
  rw[List.getElem?_take,if_pos hm,List.getElem?_drop,he,List.getElem?_eq_getElem hq]
 | aa e ih=>
  intro v cs hn h
  simp only[s9] at hn
  obtain ⟨a,cap,h1,h2,h3,h4⟩:=h
  refine ⟨λu hu=>by rw[h1,List.mem_singleton] at hu;subst hu;rfl,a,cap,h1,h2,h3,λad di=>⟨(h4 ad di).1,λi x hx=>?_⟩⟩
  obtain ⟨L,l1,l2,l3⟩:=(h4 ad di).2 i x hx
  obtain ⟨g1,g2⟩:=ih hn l3
  exact ⟨L,l1,λj u hu=>⟨(l2 j u hu).1,(l2 j u hu).2,by rw[(l2 j u hu).1];exact g1 u (List.mem_of_getElem? hu)⟩,g2⟩
 | ptr e ih=>
  intro v cs hn h
  simp only[s9] at hn
  obtain ⟨ad,h1,h2,L,l1,l2,l3⟩:=h
  obtain ⟨g1,g2⟩:=ih hn l3
  exact ⟨λu hu=>by rw[h1,List.mem_singleton] at hu;subst hu;rfl,ad,h1,h2,L,l1,λj u hu=>⟨(l2 j u hu).1,(l2 j u hu).2,by rw[(l2 j u hu).1];exact g1 u (List.mem_of_getElem? hu)⟩,g2⟩
 | fn=>intro v cs hn h;simp[s9] at hn
 | map k v _ _=>intro v cs hn h;simp[s9] at hn
theorem o4 {ow:Bool}:∀ (ps:List (PM×Ty)) {v:(ba (ps.map (·.2))).den} {ss:List Slot} {fY:List Value} {ws:List (Nat×Path)},jr ps=true->oo P A σ a w F ow ps v ss fY ws->oo P A σ a w (vZ w F) ow ps v ss fY ws
 | [],_,_,_,_,_,h=>h
 | (pm,t)::ps,v,_,_,_,hu,h=>by
  obtain ⟨s,xi,tv,kO,wp,mI,e1,e2,hw,dY,fO⟩:=h
  cases pm with
  | ro=>
   simp only[jr,Bool.and_eq_true,Bool.or_eq_true] at hu
   refine ⟨s,xi,tv,kO,wp,mI,e1,e2,hw,?_,o4 ps hu.2 fO⟩
   obtain ⟨ot,cs,h1,h2⟩:=dY
   refine ⟨ot,cs,h1,?_⟩
   rcases hu.1 with ⟨f1,f2⟩ | hn
   ·exact Ro.indep t f1 f2 h2
   ·refine Ro.mono (λ_ _ _ _ h=>h) (λb i ha=>?_) t (Ro.nb t hn h2).2
    obtain ⟨g | ⟨mJ,r,g1,g2,g3⟩,hb⟩:=ha
    ·exact .inl g
    ·refine .inr ⟨mJ,r,g1,g2,?_⟩
     unfold vZ
     rw[if_pos hb]
     exact g3
  | fix f=>
   simp only[jr] at hu
   exact ⟨s,xi,tv,kO,wp,mI,e1,e2,hw,dY,o4 ps hu fO⟩
  | dt m m'=>
   simp only[jr,Bool.and_eq_true] at hu
   exact ⟨s,xi,tv,kO,wp,mI,e1,e2,hw,dY,o4 ps hu.2 fO⟩
  | fC m=>simp[jr] at hu
  | iW m=>simp[jr] at hu
  | fi m=>simp[jr] at hu
theorem qz:∀ (ps:List (PM×Ty)),jr ps=true->wI ps=true
 | [],_=>rfl
 | (pm,t)::ps,h=>by
  cases pm with
  | ro=>simp only[jr,Bool.and_eq_true] at h;exact qz ps h.2
  | fix f=>simp only[jr] at h;exact qz ps h
  | dt m m'=>simp only[jr,Bool.and_eq_true] at h;exact qz ps h.2
  | fC m=>simp[jr] at h
  | iW m=>simp[jr] at h
  | fi m=>simp[jr] at h
theorem af.u8 {A2:Cells} (hA:∀ b i n,A b i->ce w b i=some (.int .u8 n)->A2 b i):∀ (t:Ty) {m:Md} {H:List Path} {v:t.den} {cs:List Value} {G:FP},ve t=true->af P w A t m H v cs G->af P w A2 t m H v cs G:=by
 intro t
 induction t with
 | pair a b eI ey=>
  intro m H v cs G hu h
  simp only[ve,Bool.and_eq_true] at hu
  obtain ⟨h0,F1,F2,h1,h2,h3⟩:=h
  exact ⟨h0,F1,F2,h1,eI hu.1 h2,ey hu.2 h3⟩
 | aa e _=>
  intro m H v cs G hu h
  unfold ve at hu
  split at hu
  ·rename_i heq;cases heq
  ·rename_i heq
   injection heq with heq
   subst heq
   simp only[af] at h ⊢
   split
   ·rename_i hh;rw[if_pos hh] at h;exact h
   ·rename_i hh
    rw[if_neg hh] at h
    split
    ·rename_i hm;rw[if_pos hm] at h;exact h
    ·rename_i hm
     rw[if_neg hm] at h
     obtain ⟨h1,h2,a,cap,h3,h4,h5,h6⟩:=h
     refine ⟨h1,h2,a,cap,h3,h4,h5,λad di=>⟨(h6 ad di).1,λi x hx=>?_⟩⟩
     obtain ⟨L,l1,l2,l3⟩:=(h6 ad di).2 i x hx
     refine ⟨L,l1,λj u hu=>⟨(l2 j u hu).1,hA _ _ (gd .u8 x) (l2 j u hu).2 ?_⟩,l3⟩
     have l3:L=[.int .u8 (gd .u8 x)]:=l3
     rw[(l2 j u hu).1]
     rw[l3] at hu
     cases j with
     | zero=>injection hu with hu;rw[hu]
     | succ j=>cases hu
  ·rename_i TC OX
   simp[Ty.flat] at hu
 | int k=>intro m H v cs G _ h;exact h
 | bool=>intro m H v cs G _ h;exact h
 | str=>intro m H v cs G _ h;exact h
 | unit=>intro m H v cs G _ h;exact h
 | arr n e _=>
  intro m H v cs G hu h
  have hu:((Ty.arr n e).flat&&(Ty.arr n e).gE)=true:=hu
  simp only[Bool.and_eq_true] at hu
  obtain ⟨h1,h2⟩:=h
  exact ⟨h1,Ro.indep _ hu.1 hu.2 h2⟩
 | ptr e _=>intro m H v cs G hu h;simp[ve,Ty.flat] at hu
 | fn=>intro m H v cs G hu h;simp[ve,Ty.gE] at hu
 | map k v _ _=>intro m H v cs G hu h;simp[ve,Ty.flat] at hu
theorem rG {rs:List wE} {rv:Value} {G:FP} (h:fl P w A rs rv G):aW P A σ a w rv (k_ rs) G/\∀ t m H v,k_ rs=.box t m H v->∃ b,rv=.pointer (some ⟨b,0,none⟩)/\cr w b (t.sz,false):=by
 match rs,h with
 | [],_=>exact ⟨trivial,λ_ _ _ _ e=>by cases e⟩
 | [x],h=>
  obtain ⟨cs,rfl,h2⟩:=h
  exact uR h2
 | x::y::rs,h=>
  obtain ⟨vs,Fi,h1,h2,h3⟩:=h
  exact ⟨⟨vs,Fi,h1,h2,λj z hz=>by
   obtain ⟨v,cs,g1,g2,g3⟩:=h3 j z hz
   exact ⟨v,g1,.inr ⟨cs,g2,g3⟩⟩⟩,λ_ _ _ _ e=>by cases e⟩
theorem fl.free {A':Cells}:∀ {rs:List wE} {rv:Value} {G:FP},(∀ x ∈ rs,(x.t.flat||decide (x.m=av x.t))=true/\x.t.gE=true)->fl P w A rs rv G->fl P w A' rs rv G
 | [],_,_,_,_=>trivial
 | [x],_,_,ho,⟨cs,h1,h2⟩=>⟨cs,h1,af.free (ho x (by simp)).1 (ho x (by simp)).2 h2⟩
 | x::y::rs,_,_,ho,⟨vs,Fi,h1,h2,h3⟩=>⟨vs,Fi,h1,h2,λj z hz=>by
  grind [af.free]⟩
theorem l6:∀ (rs:List (Ty×Md)) {ts:List Ty} (out:(ba (rs.map (·.1)++ts)).den),mm rs=true->∀ x ∈ (dU rs out).1,(x.t.flat||decide (x.m=av x.t))=true/\x.t.gE=true
 | [],_,_,_=>λx hx=>by cases hx
 | (t,m)::rs,_,out,h=>λx hx=>by
  simp only[mm,Bool.and_eq_true] at h
  simp only[dU,List.mem_cons] at hx
  rcases hx with rfl | hx
  ·exact h.1
  ·exact l6 rs out.2 h.2 x hx
theorem fl.mono {A':Cells} (hA:∀ b i,A b i->A' b i):∀ {rs:List wE} {rv:Value} {G:FP},fl P w A rs rv G->fl P w A' rs rv G
 | [],_,_,_=>trivial
 | [x],_,_,⟨cs,h1,h2⟩=>⟨cs,h1,af.mono hA (λ_ _ _ _ h=>h) (λ_ _ h=>h) _ h2 (λ_ _=>Nat.le_refl _) (λ_ _ _ _ h=>h)⟩
 | x::y::rs,_,_,⟨vs,Fi,h1,h2,h3⟩=>⟨vs,Fi,h1,h2,λj z hz=>by
  obtain ⟨v,cs,g1,g2,g3⟩:=h3 j z hz
  exact ⟨v,cs,g1,g2,af.mono hA (λ_ _ _ _ h=>h) (λ_ _ h=>h) _ g3 (λ_ _=>Nat.le_refl _) (λ_ _ _ _ h=>h)⟩⟩
end
end OT
