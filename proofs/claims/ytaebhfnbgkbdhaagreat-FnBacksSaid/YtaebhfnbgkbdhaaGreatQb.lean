/- The proof's parts, merged: Operations, first part.. No conditions but those that each states. -/
import Derived.Test.YtaebhfnbgkbdhaaGreatQa
import Derived.Laws.Slices
import Derived.Laws.Concat
import Derived.Laws.StructEq
import Derived.Laws.Cover3
import Derived.ChangeKeysEq
import Derived.Laws.MakeOwn
import Derived.Laws.IdiomStrings
import Derived.Laws.BytesArg
import Derived.Laws.Tables
import Derived.Great.BuildSlice
import Derived.Deep.AppendSrc
set_option linter.unusedVariables false
set_option linter.unusedSimpArgs false
namespace OT
open Go
section
variable {P:Program} {C:Ctx} {A:Cells} {X:FP} {σ:St} {a:Act} {w:World} {F:Nat->FP} {R:Type} {x:R} {Q:Exit->Act->World->Prop} {o:Oper} {E:Env}
def Nx (P:Program) (C:Ctx) {R:Type} (K:St->Option R) (x:R) (a:Act) (w:World):Prop:=∃ σ',K σ'=some x/\tQ P C σ' a w
abbrev bn (P:Program) (C:Ctx) (A:Cells) (σ:St) (a:Act) (w:World) (F:Nat->FP):Prop:=Rel P C A (λ_ _=>0) σ a w F
theorem fE {v:Value} {w':World} {next:Act->World->Prop} (dB:(execOp a.eval o).run P w=.ok (.value v) w') (hn:next (a.put o.dst v) w'):o.wp P a w next Q:=by
 unfold Oper.wp;rw[dB];exact hn
theorem AW {w':World} {next:Act->World->Prop} (dB:(execOp a.eval o).run P w=.ok .skip w') (hd:o.dst=none) (hn:next a w'):o.wp P a w next Q:=by
 unfold Oper.wp;rw[dB,Oper.upon,hd];exact hn
def reads:Op->Bool
 | .load .. | .convert ..=>true
 | _=>false
def jS (o:Oper) (w w':World):Prop:=reads o.op=true->Ext w w' (λ_ _=>0)
theorem jS.ext {o:Oper} {w w':World} (h:jS o w w') (hr:reads o.op=true):Ext w w' (λ_ _=>0):=h hr
def Tk (P:Program) (o:Oper) (a:Act) (w:World) (next:Act->World->Prop):Prop:=
 ∃ v,(∀ w',jS o w w'->(execOp a.eval o).run P w'=.ok (.value v) w')/\next (a.put o.dst v) w
theorem bW {v:Value} {next:Act->World->Prop} (dB:∀ w',jS o w w'->(execOp a.eval o).run P w'=.ok (.value v) w') (hn:next (a.put o.dst v) w):Tk P o a w next:=⟨v,dB,hn⟩
theorem Tk.wp {next:Act->World->Prop} (h:Tk P o a w next):o.wp P a w next Q:=by
 obtain ⟨v,h1,Y⟩:=h
 exact fE (h1 w λ_=>Ext.refl _ _) Y
theorem lK {b i:Nat} {u:Value} (h:ce w b i=some u):b < w.heap.size:=by
 grind [ce,World.cell?]
theorem Has.ext {b o:Nat} {L:List Value} {w':World} (h:Has w b o L) (hw:Ext w w' (λ_ _=>0)):Has w' b o L:=λj u hu=>hw.cell b (o+j) (lK (h j u hu)) rfl u (h j u hu)
theorem gq (h:Rel P C A X σ a w F) {K:St->Option R} {d:Option Tmp} {s:Slot} {v:Value} {Fd:FP} (hk:K (σ.aI d s)=some x) (hs:aV P A σ a w v s Fd) (ht:∀ b i,Fd b i<=X b i)
  (Jr:∀ t m H v',s=.box t m H v'->∃ b,v=.pointer (some ⟨b,0,none⟩)/\cr w b (t.sz,false)):Nx P C K x (a.put d v) w:=by
 obtain ⟨F',hF⟩:=h.aI d (X':=λ_ _=>0) hs (λb i=>by grind) Jr
 exact ⟨_,hk,A,F',hF⟩
theorem aP (h:Rel P C A X σ a w F) {K:St->Option R} {d:Option Tmp} {s:Slot} {v:Value} (hk:K (σ.aI d s)=some x) (hs:aV P A σ a w v s (λ_ _=>0))
  (hb:∀ t m H v',s≠.box t m H v'):Nx P C K x (a.put d v) w:=
 gq h hk hs (λ_ _=>Nat.zero_le _) (λt m H v' e=>absurd e (hb t m H v'))
theorem pQ (h:Rel P C A X σ a w F) {K:St->Option R} {d:Option Tmp} {t:Ty} {m:Md} {v:t.den} {cs:List Value} {Fd:FP} (hk:K (σ.aI d (laid t m v))=some x) (hr:af P w A t m [] v cs Fd) (ht:∀ b i,Fd b i<=X b i) :
  Nx P C K x (a.put d (aZ t cs)) w:=
 gq h hk (uV (σ:=σ) (a:=a) hr).1 ht (uV (σ:=σ) (a:=a) hr).2
theorem bN {t:Nat} {K:Ty->Option R} (h:gA E t K=some x):∃ T,E.TI t=some T/\K T=some x:=by
 grind [gA]
theorem wY {s:Slot} {K:Bool->Option R} {tv:Value} {G:FP} (hs:aV P A σ a w tv s G) (h:wI s K=some x):∃ b,tv=.bool b/\K b=some x:=by
 unfold wI at h
 split at h
 ·rename_i b;obtain ⟨cs,h1,Y⟩:=hs;simp only[Ro] at Y;subst Y;exact ⟨b,by rw[h1];rfl,h⟩
 ·cases h
theorem l7 {s:Slot} {K:Int->Option R} {tv:Value} {G:FP} (hs:aV P A σ a w tv s G) (h:lQ s K=some x):∃ k n,tv=.int k n/\K n=some x:=by
 unfold lQ at h
 split at h
 ·rename_i k n;obtain ⟨cs,h1,Y⟩:=hs;simp only[Ro] at Y;subst Y;exact ⟨k,_,by rw[h1];rfl,h⟩
 ·cases h
theorem sq (h:Rel P C A X σ a w F) {r:Nat} {p:Path} {pl:Pl} (hp:place σ a w r p=some pl):iv σ a w (aZ pl.t pl.cs) r p (ld σ r p pl.t):=by
 have h5:=h.eg r
 refine ⟨?_,λ_=>⟨_,hp,rfl,?_⟩⟩
 ·unfold ld
  split
  ·intro j y hj;grind
  ·intro j y hj;grind
  ·exact Below.refl _
 ·unfold ld
  split
  ·rename_i e he;left;exact ⟨by rw[he];rfl,by grind⟩
  ·rename_i k v he;left;exact ⟨by rw[he];rfl,by grind⟩
  grind
theorem zh (σ:St) (y:Operand) (t:Ty) (m:Md) (H:List Path) (v:t.den):bh σ y≠.box t m H v:=by
 intro e
 cases y with
 | tmp i=>grind [bh]
 | const v=>simp only[bh] at e;unfold jM at e;grind
 | func f=>cases e
 | global g=>cases e
theorem F_ (h:bn P C A σ a w F) {y:Operand} (ho:o.op=.move y) (ap:bg P y=true) {K:St->Option R} (hk:D5 σ y o.dst K=some x):Tk P o a w (Nx P C K x):=by
 refine bW (v:=a.eval y) (by simp[execOp,ho]) ?_
 unfold D5 at hk
 have hs:=bE h ap
 split at hk
 ·rename_i xs i hx
  have hi:i < σ.n:=by
   grind [bh,ek]
  have hg:σ.get i=.iI xs:=by
   grind [bh]
  have iK:=h.cj i hi
  rw[hg] at iK
  have Y:=h.put hi (s:=.dead) (v:=tmp a i) (Fd:=λ_ _=>0) (X':=λb k=>F i b k) trivial (λb k=>by omega) (λt m H v e=>by cases e)
  rw[iw] at Y
  refine gq Y hk (Fd:=F i) ?_ (λb i=>Nat.le_refl _) (λt m H v e=>by cases e)
  obtain ⟨vs,Fi,h3,h4,h5⟩:=iK
  exact ⟨vs,Fi,h3,h4,h5⟩
 all_goals grind [aP,zh]
theorem Ga (h:bn P C A σ a w F) {c y z:Operand} (ho:o.op=.pick c y z) (ap:bg P c=true/\bg P y=true/\bg P z=true) {K:St->Option R}
  (hk:(wI (bh σ c) λc=>match bh σ (bif c then y else z) with
   | .val .bool b=>K (σ.aI o.dst (.val .bool b))
   | _=>none)=some x):Tk P o a w (Nx P C K x):=by
 have hc:=bE h ap.1
 rcases hc with hc | ⟨xs,e⟩
 ·obtain ⟨b,hb,hk⟩:=wY hc hk
  have SB:∀ y':Operand,bg P y'=true->(match bh σ y' with
   | .val .bool b=>K (σ.aI o.dst (.val .bool b))
   | _=>none)=some x->Nx P C K x (a.put o.dst (a.eval y')) w:=λy' hy hk=>by
   grind [bE,aP]
  cases b <;> simp_all [bW,execOp,asBool]
 ·rw[e] at hk;cases hk
theorem Gb (h:bn P C A σ a w F) (dZ:∀ i T,E.TI i=some T->aq P T (.inl i)=true) {t:Nat} {y:Operand} (ho:o.op=.load t y) (ap:bg P y=true) {K:St->Option R}
  {mv:Bool} (hk:rY E σ t (bh σ y) mv o.dst K=some x):Tk P o a w (Nx P C K x):=by
 unfold rY at hk
 obtain ⟨T,hT,hk⟩:=bN hk
 have cJ:=dZ _ _ hT
 have run:∀ b off L,a.eval y=.pointer (some ⟨b,off,none⟩)->Has w b off L->L.length=T.sz->(∀ u ∈ L,u.oneCell'=true)->∀ w',jS o w w'->(execOp a.eval o).run P w'=.ok (.value (aZ T L)) w':=λb off L hy hL hl gW w' jw=>by
  have jw:=jw (by rw[ho];rfl)
  simp[execOp,ho,hy,Instr.loadAt,Instr.sureAddr,nP cJ (hL.ext jw) hl gW]
 rcases bE h ap with hs | ⟨xs,e⟩
 rotate_left
 ·grind
 split at hk
 ·rename_i t' v hv
  rw[hv] at hs
  split at hk
  ·rename_i e;subst e
   obtain ⟨⟨b,off,sp⟩,h1,Y,L,h3,h4,h5⟩:=hs
   simp only[List.cons.injEq,and_true] at h1
   simp only at Y;subst Y
   exact bW (run b off L h1 (λj u hu=>(h4 j u hu).1) h3 (Ro.one _ h5)) (aP h hk ⟨L,rfl,h5⟩ (λ_ _ _ _ e=>by cases e))
  ·cases hk
 ·rename_i r p snap hv
  rw[hv] at hs
  split at hk
  ·rename_i fR
   obtain ⟨hr,t',m',H',v',aJ,aX,F',h1,Y,h3,h4,h5,h6⟩:=d7 h hk
   obtain ⟨pl,b,off,g1,g2,g3,g4⟩:=hs.2 fR
   rw[h3] at g1
   injection g1 with g1
   subst g1
   simp only at g2
   subst g2
   split at h1
   ·rename_i e;subst e
    refine bW (run b off aJ g3 (h6 b off rfl) (af.length _ h4) (af.one _ h4)) ?_
    split at h1
    ·rename_i hf
     split at h1
     ·exact aP h h1 ⟨aJ,rfl,af.flat _ hf h4⟩ (λ_ _ _ _ e=>by cases e)
     ·cases h1
    ·split at h1
     ·rename_i hm
      split at h1
      ·rename_i hH
       have hH:=List.isEmpty_iff.1 hH;subst hH;subst hm
       cases mv with
       | false=>exact aP h h1 ⟨aJ,rfl,af.ro _ (bS _) h4⟩ (λ_ _ _ _ e=>by cases e)
       | true=>exact aP h h1 (sq h h3) (λ_ _ _ _ e=>by cases e)
      ·cases h1
     ·cases mv with
      | false=>exact aP h h1 (sq h h3) (λ_ _ _ _ e=>by cases e)
      | true=>
       simp only at h1
       split at h1
       ·rename_i hH
        have hH:=List.isEmpty_iff.1 hH;subst hH
        obtain ⟨A2,eu,F2,be,rF,Fv,k1,k2,k3,k4,k5,k6,k7⟩:=yt h h1 ⟨Y⟩
        rw[h3] at k6
        simp only[Option.some.injEq,Pl.mk.injEq,true_and] at k6
        obtain ⟨rfl,rfl⟩:=k6
        have hl:=uV (σ:=eu) (a:=a) (af.mono k2 (λ_ _ _ _ h=>h) (λ_ _ h=>h) _ k7 (λ_ _=>Nat.le_refl _) (λ_ _ _ _ h=>h))
        exact gq k3 k1 hl.1 (λb i=>by omega) hl.2
       ·cases h1
   ·cases h1
  ·cases hk
 ·cases hk
theorem Eh (h:bn P C A σ a w F) (dZ:∀ i T,E.TI i=some T->aq P T (.inl i)=true) {t:Nat} {y:Operand} (ho:o.op=.load t y) (ap:bg P y=true) {K:St->Option R}
  {mv fr:Bool} (hk:wJ E σ t y mv fr o.dst K=some x):Tk P o a w (Nx P C K x):=by
 unfold wJ at hk
 grind [Gb,ol]
theorem Ei {b o b' i:Nat} {v u:Value} (ci:¬ (b=b'/\o=i)) (h:ce w b' i=some u):ce (w.setCell ⟨b,o,none⟩ v) b' i=some u:=by
 by_cases hb:b=b'
 ·subst hb
  cases hh:w.heap[b]? with
  | none=>grind [ce,World.cell?]
  | some ob=>
   cases ob <;> simp_all [World.setCell,Array.getElem?_modify,ce,World.cell?]
 grind [World.setCell,sd]
theorem fS {b o:Nat}:∀ (L:List Value) (w:World) (o:Nat),Ext w (w.setCells b o L) (bj b o L.length)
 | [],w,o=>Ext.refl _ _
 | v::L,w,o=>by
  have ih:=fS (b:=b) (o:=o+1) L (w.setCell ⟨b,o,none⟩ v) (o+1)
  have h1:Ext w (w.setCell ⟨b,o,none⟩ v) (bj b o (L.length+1)):=by
   refine ⟨by simp,λb' i hb hz u hu=>?_,λb' n hn=>?_,λb' i hb=>by simp,rfl,rfl,rfl,λb' hb hz=>?_,Nat.le_refl _⟩
   ·grind [Ei,bj]
   ·obtain ⟨c,e,fr,h1,Y,h3⟩:=hn
    by_cases Dk:b=b'
    ·subst Dk
     exact ⟨c.setIfInBounds o v,e,fr,by grind [World.setCell],by simp[Y],h3⟩
    ·exact ⟨c,e,fr,by grind [World.setCell],Y,h3⟩
   ·have ci:b≠b':=λe=>by
     subst e
     have:=hz o
     grind [bj]
    grind [World.setCell]
  exact h1.trans ih λb' i hb hz=>by
   grind [bj]
theorem mI {w:World} {b o:Nat} {L:List Value} (h:∀ j,j < L.length->(w.cell? ⟨b,o+j,none⟩).isSome=true) (gW:∀ u ∈ L,u.oneCell'=true):Has (w.setCells b o L) b o L:=by
 intro j u hu
 grind [yn,World.cell?_setCells_in]
theorem Ej (h:bn P C A σ a w F) (dZ:∀ i T,E.TI i=some T->aq P T (.inl i)=true) {t:Nat} {y z:Operand} (ho:o.op=.store t y z) (hd:o.dst=none) (ap:bg P y=true/\bg P z=true) {mv:Bool} {K:St->Option R}
  (hk:Au E σ t (bh σ y) (bh σ z) mv K=some x):o.wp P a w (Nx P C K x) Q:=by
 unfold Au at hk
 obtain ⟨T,hT,hk⟩:=bN hk
 have cJ:=dZ _ _ hT
 rcases bE h ap.1 with hs | ⟨xs,e⟩
 rotate_left
 ·grind
 split at hk
 ·rename_i r p snap hv
  rw[hv] at hs
  split at hk
  ·rename_i fR
   split at hk
   ·obtain ⟨pl,b,off,g1,g2,g3,g4⟩:=hs.2 fR
    rcases bE h ap.2 with hz | ⟨xs,e⟩
    rotate_left
    ·grind [ep]
    obtain ⟨A',σ',F',m,v,cs,Fv,k1,k2,k3,k4,kr,k5,k6⟩:=ko h hz hk
    obtain ⟨hr,m2,H2,v2,be,rF,F2,q1,q2,q3,q4,q5,q6⟩:=rE k3 k1
    have df:rF=some (b,off):=by
     unfold place at g1 q2
     cases hR:bk w (tmp a r) (σ'.get r) with
     | none=>grind
     | some R1=>
      rw[hR] at q2
      obtain ⟨H0,oS⟩:=kr w (tmp a r) r R1 hR
      rw[oS] at g1
      have:=(NC p R1.t g1 q2).2.2
      grind
    subst df
    obtain ⟨qX,hM⟩:=q5 b off rfl
    have hl:=af.length _ k6
    have oh:=af.length _ q3
    have gW:=af.one _ k6
    have NK:=af.one _ q3
    have AY:∀ j,j < cs.length->(w.cell? ⟨b,off+j,none⟩).isSome=true:=λj hj=>by
     rw[lh (qX j _ (List.getElem?_eq_getElem (by omega))) (NK _ (List.getElem_mem _))];rfl
    have br:=run_storeCells_cells (P:=P) b off cs 0 w (by simpa using AY) (λj hj=>by grind) gW
    have Ov:(aZ T cs).cells.toList=cs:=dz hl gW
    have fi:(aZ T cs).cells.size=T.sz:=by grind
    have dB:(execOp a.eval o).run P w=.ok .skip (w.setCells b off cs):=by
     simp[execOp,ho,g3,k5,Instr.storeAt,Instr.sureAddr,storeVar,run_sizeOf cJ,fi,Ov,br]
    refine AW dB hd ?_
    have cH:af P (w.setCells b off cs) A' T m [] v cs Fv:=by
     refine af.mono (λ_ _ h=>h) (λb' i ha u hu=>?_) (fS (b:=b) (o:=off) cs w off).lY _ k6 (λ_ _=>Nat.le_refl _) (λb' i hp u hu=>?_)
     ·refine (fS (b:=b) (o:=off) cs w off).cell b' i (k3.dA b' i (.inr ha)) ?_ u hu
      have h1:=q4 b' i;have Y:=a_ F' hr b' i
      rcases Nat.eq_zero_or_pos (dL (some (b,off)) T.sz b' i) with h0 | h0
      ·rw[hl];exact h0
      ·exact absurd ha (k3.gD b' i (by omega))
     ·have h1:=q4 b' i;have Y:=a_ F' hr b' i;have h3:=k3.f5 b' i
      refine (fS (b:=b) (o:=off) cs w off).cell b' i (k3.dA b' i (.inl (by omega))) ?_ u hu
      grind [dL]
    have bI:Ext w (w.setCells b off cs) (λb' i=>(0+Fv b' i)+(F2 b' i+dL (some (b,off)) T.sz b' i)):=(fS (b:=b) (o:=off) cs w off).mono λb' i hz=>by
     grind [dL]
    obtain ⟨A3,qx,Fr,n1,n2,n3,_⟩:=q6 (w.setCells b off cs) A' cs Fv (λ_ _=>0) bI (λ_ _ h=>h) (λ_ _ h=>.inl h) (λb i=>by omega) (λb' o' e=>by
      grind [mI]) (λe=>by cases e) cH
    exact ⟨qx,n1,A3,_,n3⟩
   ·cases hk
  ·cases hk
 ·cases hk
end
end OT
set_option linter.unusedVariables false
set_option linter.unusedSimpArgs false
namespace OT
open Go
section
variable {P:Program} {w:World} {A:Cells}
theorem Ek:∀ (p q:Path) (t:Ty) {H:List Path} {cs:List Value} {ad:Option (Nat×Nat)},aD w (p++q) t H cs ad=(aD w p t H cs ad).bind λpl=>aD w q pl.t pl.H pl.cs pl.ad:=by
 intro p
 induction p with
 | nil=>intro q t H cs ad;rfl
 | cons s p ih=>
  intro q t H cs ad
  cases t with
  | pair a b=>
   cases s <;> grind [aD]
  | aa e=>
   cases s with
   | idx i=>
    simp only[List.cons_append,aD]
    split
    ·rfl
    ·split
     all_goals grind
   | _=>simp[aD]
  | arr n e=>
   cases s <;> grind [aD]
  | _=>grind [aD]
theorem vY:∀ (p:Path) (t:Ty) {H:List Path} {cs:List Value} {ad:Option (Nat×Nat)} {pl:Pl},aD w p t H cs ad=some pl->qT p t=some pl.t:=by
 intro p
 induction p with
 | nil=>intro t H cs ad pl h;simp only[aD,Option.some.injEq] at h;subst h;rfl
 | cons s p ih=>
  intro t H cs ad pl h
  cases t with
  | pair a b=>
   cases s with
   | fst=>simp only[aD] at h;split at h;cases h;exact ih a h
   | snd=>simp only[aD] at h;split at h;cases h;exact ih b h
   | _=>simp[aD] at h
  | aa e=>
   cases s with
   | idx i=>
    simp only[aD] at h
    split at h
    ·cases h
    ·split at h
     ·split at h
      ·exact ih e h
      ·cases h
     ·cases h
   | _=>simp[aD] at h
  | arr n e=>
   cases s with
   | hJ i=>
    simp only[aD] at h
    split at h
    ·split at h
     ·exact ih e h
     ·cases h
    ·cases h
   | _=>simp[aD] at h
  | _=>grind [aD]
theorem KC:∀ (q:Path) (t:Ty) {m:Md} {H:List Path} {v:t.den} {cs:List Value} {F:FP} {ad:Option (Nat×Nat)} {pl:Pl},af P w A t m H v cs F->aD w q t H cs ad=some pl ->
  ∃ (m':Md) (v':pl.t.den) (F':FP),af P w A pl.t m' pl.H v' pl.cs F':=by
 intro q
 induction q with
 | nil=>grind [aD]
 | cons s q ih=>
  intro t m H v cs F ad pl hr h
  cases t with
  | pair a b=>
   obtain ⟨h0,F1,F2,hs,h1,Y⟩:=hr
   cases s <;> grind [aD]
  | aa e=>
   cases s with
   | idx i=>
    simp only[af] at hr
    simp only[aD] at h
    split at h
    ·cases h
    ·rename_i hh
     rw[if_neg hh] at hr
     split at hr
     ·obtain ⟨a,cap,rfl,Y,h3,h4,h5⟩:=hr
      cases a with
      | none=>cases h
      | some bT=>
       obtain ⟨g1,g2,g3,Fi,g4,g5⟩:=h5 bT rfl
       simp only at h
       split at h
       ·rename_i hi
        obtain ⟨L,hl,hL,cH⟩:=g5 i _ (List.getElem?_eq_getElem hi)
        rw[g1,Nat.zero_add,bB hL hl] at h
        grind
       ·cases h
     ·obtain ⟨rfl,jv,a,cap,rfl,Y,h3,h4⟩:=hr
      cases a with
      | none=>cases h
      | some bT=>
       simp only at h
       split at h
       ·rename_i hi
        obtain ⟨L,hl,hL,cH⟩:=(h4 bT rfl).2 i _ (List.getElem?_eq_getElem hi)
        rw[bB (λj u hu=>(hL j u hu).1) hl] at h
        exact ih e (Ro.rep e (λ_ _=>0) jv cH) h
       ·cases h
   | _=>simp[aD] at h
  | arr n e=>
   cases s with
   | hJ i=>
    obtain ⟨rfl,hf,hl,hlen,hr⟩:=hr
    simp only[aD,List.isEmpty_nil,if_true] at h
    split at h
    ·rename_i hi
     exact ih e (Ro.flat e (m:=.leaf) (λ_ _=>0) hf (hr i _ (List.getElem?_eq_getElem (by grind)))) h
    ·cases h
   | _=>simp[aD] at h
  | _=>grind [aD]
def dn:Nat->Ty->Nat
 | j+1,.pair a b=>a.sz+dn j b
 | _,_=>0
theorem Cv (ad:Option (Nat×Nat)):ca ad 0=ad:=by simp_all [ca]
theorem El (ad:Option (Nat×Nat)) (j k:Nat):ca (ca ad j) k=ca ad (j+k):=by cases ad <;> simp[ca,Nat.add_assoc]
theorem Dl:∀ (j:Nat) (S:Ty) {t':Ty} {m:Md} {H:List Path} {v:S.den} {cs:List Value} {F:FP} {ad:Option (Nat×Nat)},af P w A S m H v cs F->kA j S=some t' ->
  ∃ H',aD w (fy j) S H cs ad=some ⟨t',H',(cs.drop (dn j S)).take t'.sz,ca ad (dn j S)⟩:=by
 intro j
 induction j with
 | zero=>
  intro S t' m H v cs F ad hr h
  cases S with
  | pair a b=>
   injection h with h;subst h
   obtain ⟨h0,F1,F2,hs,h1,Y⟩:=hr
   simp_all [fy,aD,dn,Cv]
  | _=>cases h
 | succ j ih=>
  intro S t' m H v cs F ad hr h
  cases S with
  | pair a b=>
   obtain ⟨h0,F1,F2,hs,h1,Y⟩:=hr
   obtain ⟨H',e⟩:=ih b (ad:=ca ad a.sz) Y h
   grind [fy,aD,dn,List.drop_drop,El]
  | _=>cases h
theorem Ia:∀ (j:Nat) (T:Ty) {t:Ty},qT (fy j) T=some t->∃ t2,kA j T=some t2:=by
 intro j
 induction j with
 | zero=>intro T t h;cases T <;> first | exact ⟨_,rfl⟩ | grind [fy,qT]
 | succ j ih=>intro T t h;cases T <;> first | (simp[fy,qT] at h;done) | exact ih _ (by simpa [fy,qT] using h)
theorem Dm:∀ (j:Nat) (S:Ty) {t':Ty} {fs:List Field} {off:Nat},aq P S (.inr (fs,off))=true->kA j S=some t' ->
  ∃ f,fs[j]?=some f/\f.offset=off+dn j S/\aq P t' (.inl f.type)=true/\1<=t'.sz:=by
 intro j
 induction j with
 | zero=>
  intro S t' fs off hl h
  cases S with
  | pair a b=>
   injection h with h;subst h
   cases fs <;> simp_all [aq,dn]
  | _=>cases h
 | succ j ih=>
  intro S t' fs off hl h
  cases S with
  | pair a b=>
   cases fs with
   | nil=>simp[aq] at hl
   | cons f r=>
    simp only[aq,Bool.and_eq_true,Nat.beq_eq,Nat.ble_eq] at hl
    obtain ⟨f',h1,Y,h3⟩:=ih b hl.2 h
    grind [dn]
  | _=>cases h
theorem wZ {j:Nat} {S t':Ty} {i:TypeId} (hl:aq P S (.inl i)=true) (h:kA j S=some t') :
  ∃ fs f,P.underlying i=some (.struct fs)/\fs[j]?=some f/\f.offset=dn j S/\aq P t' (.inl f.type)=true/\1<=t'.sz:=by
 cases S with
 | pair a b=>
  simp only[aq,Bool.and_eq_true] at hl
  have Y:=hl.2
  split at Y
  ·rename_i fs hu
   split at Y
   ·rename_i f r w9
    have h3:aq P (.pair a b) (.inr (f::r,0))=true:=by
     grind [aq]
    grind [Dm]
   ·cases Y
  ·cases Y
 | _=>cases j <;> cases h
theorem kN {t:Ty} {i:TypeId} (h:aq P t (.inl i)=true) {cs:Array Value} {off:Nat} (hl:((cs.toList.drop off).take t.sz).length=t.sz):(part i cs off).run P w=.ok (aZ t ((cs.toList.drop off).take t.sz)) w:=by
 unfold part
 simp only[Sem.run_bind,zg h,Result.andThen_ok]
 cases ht:isAgg t with
 | true=>
  simp only[if_true,Sem.run_bind,run_sizeOf h,Result.andThen_ok,Sem.run_pure,aZ,ht]
  congr 2
  grind
 | false=>
  simp_all [AV,List.take_one,aZ]
end
section
variable {P:Program} {C:Ctx} {A:Cells} {X:FP} {σ:St} {a:Act} {w:World} {F:Nat->FP} {R:Type} {x:R} {Q:Exit->Act->World->Prop} {o:Oper} {E:Env}
theorem zi (h:Rel P C A X σ a w F) {r:Nat} {p:Path} {pl:Pl} (hp:place σ a w r p=some pl):∃ (m':Md) (v':pl.t.den) (F':FP),af P w A pl.t m' pl.H v' pl.cs F':=by
 have aB:=jR hp
 unfold place at hp
 cases hR:bk w (tmp a r) (σ.get r) with
 | none=>grind
 | some R0=>
  rw[hR] at hp
  obtain ⟨m0,v0,F1,q1,q2,q3,_⟩:=mC (h.cj r aB) hR
  grind [KC]
theorem jF (r:Nat) (p q:Path):place σ a w r (p++q)=(place σ a w r p).bind λpl=>aD w q pl.t pl.H pl.cs pl.ad:=by
 unfold place
 cases bk w (tmp a r) (σ.get r) <;> grind [Ek]
theorem w_ {r:Nat} {p:Path} {pl:Pl} (hp:place σ a w r p=some pl):vS σ r p=some pl.t:=by
 unfold place at hp
 unfold vS As
 cases hg:σ.get r with
 | own t m H v=>grind [bk,vY]
 | box t m H v=>
  rw[hg] at hp
  simp only[bk] at hp
  grind [vY]
 | _=>grind [bk]
theorem Ib (p:Path) (j:Nat):bm (p++fy j)=bm p:=by
 induction p with
 | nil=>induction j <;> grind [fy,bm]
 | cons s p ih=>cases s <;> simp only[List.cons_append,bm,ih]
theorem zj {A':Cells}:∀ (j:Nat) (S:Ty) {v:S.den} {K:(t':Ty)->t'.den->Option R} {cs:List Value},D2 j S v K=some x->Ro P w A' S v cs ->
  ∃ t' v',kA j S=some t'/\K t' v'=some x/\Ro P w A' t' v' ((cs.drop (dn j S)).take t'.sz):=by
 intro j
 induction j with
 | zero=>
  intro S v K cs h hr
  cases S with
  | pair a b=>exact ⟨a,v.1,rfl,h,by simp only[dn,List.drop_zero];exact hr.1⟩
  | _=>cases h
 | succ j ih=>
  intro S v K cs h hr
  cases S with
  | pair a b=>
   obtain ⟨t',v',h1,Y,h3⟩:=ih b (v:=v.2) h hr.2
   exact ⟨t',v',h1,Y,by grind [dn,List.drop_drop]⟩
  | _=>cases h
theorem zX (h:bn P C A σ a w F) {y:Operand} (ho:o.op=.nilCheck y) (ap:bg P y=true) {K:St->Option R}
  (hk:(match bh σ y with
  | .ptr r p snap=>if σ.ok r snap then K (σ.aI o.dst (.ptr r p snap)) else none
  | .cp t v=>K (σ.aI o.dst (.cp t v))
  | .val .fn f=>K (σ.aI o.dst (.val .fn f))
  | _=>none)=some x):Tk P o a w (Nx P C K x):=by
 rcases bE h ap with hs | ⟨xs,e⟩
 rotate_left
 ·grind
 split at hk
 ·rename_i r p snap hv
  rw[hv] at hs
  split at hk
  ·rename_i fR
   obtain ⟨pl,b,off,g1,g2,g3,g4⟩:=hs.2 fR
   exact bW (v:=a.eval y) (by simp[execOp,ho,g3]) (aP h hk hs (λ_ _ _ _ e=>by cases e))
  ·cases hk
 ·rename_i t v hv
  rw[hv] at hs
  obtain ⟨ad,h1,_⟩:=id hs
  simp only[List.cons.injEq,and_true] at h1
  exact bW (v:=a.eval y) (by simp[execOp,ho,h1]) (aP h hk hs (λ_ _ _ _ e=>by cases e))
 ·rename_i f hv
  rw[hv] at hs
  obtain ⟨cs,h1,qV,Y,_⟩:=id hs
  subst Y
  exact bW (v:=a.eval y) (by simp[execOp,ho,h1,aZ,isAgg]) (aP h hk hs (λ_ _ _ _ e=>by cases e))
 ·cases hk
theorem yw (h:bn P C A σ a w F) (dZ:∀ i T,E.TI i=some T->aq P T (.inl i)=true) {S:Nat} {y:Operand} {j:Nat} (ho:o.op=.fieldAddr S y j) (ap:bg P y=true) {K:St->Option R}
  (hk:rZ E σ S (bh σ y) j o.dst K=some x):Tk P o a w (Nx P C K x):=by
 unfold rZ at hk
 obtain ⟨T,hT,hk⟩:=bN hk
 have cJ:=dZ _ _ hT
 have run:∀ t' b off,kA j T=some t'->a.eval y=.pointer (some ⟨b,off,none⟩)->∀ w',jS o w w'->(execOp a.eval o).run P w'=.ok (.value (.pointer (some ⟨b,off+dn j T,none⟩))) w':=λt' b off ht hy w' _=>by
  obtain ⟨fs,f,h1,Y,h3,h4,h5⟩:=wZ cJ ht
  have fi:=run_sizeOf (P:=P) (w:=w') h4
  have ci:¬ t'.sz=0:=by omega
  simp_all [execOp,Instr.fieldAt,Instr.sureAddr,run_underlying,fieldPlace,gV]
 rcases bE h ap with hs | ⟨xs,e⟩
 rotate_left
 ·grind
 split at hk
 ·rename_i t' v hv
  rw[hv] at hs
  split at hk
  ·rename_i e;subst e
   obtain ⟨⟨b,off,sp⟩,h1,Y,L,h3,h4,h5⟩:=hs
   simp only[List.cons.injEq,and_true] at h1
   simp only at Y;subst Y
   obtain ⟨t2,v2,q1,q2,q3⟩:=zj j t' hk h5
   refine bW (run t2 b off q1 h1) (aP h q2 ⟨_,rfl,rfl,_,Ro.length _ q3,λk u hu=>?_,q3⟩ (λ_ _ _ _ e=>by cases e))
   grind
  ·cases hk
 ·rename_i r p snap hv
  rw[hv] at hs
  split at hk
  ·rename_i fR
   split at hk
   ·rename_i pR
    split at hk
    ·rename_i hf
     obtain ⟨pl,b,off,g1,g2,g3,g4⟩:=hs.2 fR
     rw[w_ g1] at pR
     injection pR with pR
     obtain ⟨t',rG⟩:=Option.isSome_iff_exists.1 hf
     refine bW (run t' b off rG g3) (aP h hk ⟨hs.1,λ_=>?_⟩ (λ_ _ _ _ e=>by cases e))
     obtain ⟨m',v',F',cH⟩:=zi h g1
     obtain ⟨tp,Hp,LQ,Jy⟩:=pl
     simp only at pR g2 cH
     subst pR
     obtain ⟨H',e⟩:=Dl (ad:=Jy) j tp cH rG
     grind [ca,Ib,jF]
    ·cases hk
   ·cases hk
  ·cases hk
 ·cases hk
theorem Em (h:bn P C A σ a w F) (dZ:∀ i T,E.TI i=some T->aq P T (.inl i)=true) {S:Nat} {y:Operand} {j:Nat} (ho:o.op=.field S y j) (ap:bg P y=true) {K:St->Option R}
  (hk:ye E σ S (bh σ y) j o.dst K=some x):Tk P o a w (Nx P C K x):=by
 unfold ye at hk
 obtain ⟨T,hT,hk⟩:=bN hk
 have cJ:=dZ _ _ hT
 have run:∀ t' cs,kA j T=some t'->a.eval y=aZ T cs->((cs.drop (dn j T)).take t'.sz).length=t'.sz->∀ w',jS o w w'->(execOp a.eval o).run P w'=.ok (.value (aZ t' ((cs.drop (dn j T)).take t'.sz))) w':=λt' cs ht hy hl w' _=>by
  obtain ⟨fs,f,h1,Y,h3,h4,h5⟩:=wZ cJ ht
  have SQ:aZ T cs=.agg cs.toArray:=by cases T <;> first | rfl | (cases j <;> cases ht)
  have:=kN (P:=P) (w:=w') h4 (cs:=cs.toArray) (off:=dn j T) (by simpa using hl)
  simp_all [execOp,Instr.field,run_underlying,asAgg]
 rcases bE h ap with hs | ⟨xs,e⟩
 rotate_left
 ·grind
 split at hk
 ·rename_i t' v hv
  rw[hv] at hs
  split at hk
  ·rename_i e;subst e
   obtain ⟨cs,h1,Y⟩:=hs
   obtain ⟨t2,v2,q1,q2,q3⟩:=zj j t' hk Y
   exact bW (run t2 cs q1 h1 (Ro.length _ q3)) (aP h q2 ⟨_,rfl,q3⟩ (λ_ _ _ _ e=>by cases e))
  ·cases hk
 ·rename_i r p snap hv
  rw[hv] at hs
  split at hk
  ·rename_i fR
   split at hk
   ·rename_i pR
    obtain ⟨hr,t',m',H',v',aJ,aX,F',h1,Y,h3,h4,h5,h6⟩:=d7 h hk
    obtain ⟨pl,g1,g2,g3⟩:=hs.2 fR
    rw[w_ g1] at pR
    injection pR with pR
    obtain ⟨m0,v0,F0,cH⟩:=zi h g1
    obtain ⟨tp,Hp,LQ,Jy⟩:=pl
    simp only at pR g2 cH
    subst pR
    have hf:∃ t2,kA j tp=some t2:=by
     have h7:=h3
     rw[jF,g1] at h7
     exact Ia j tp (vY _ _ h7)
    obtain ⟨t2,Ow⟩:=hf
    obtain ⟨H2,e⟩:=Dl (ad:=Jy) j tp cH Ow
    have df:place σ a w r (p++fy j)=some ⟨t2,H2,(LQ.drop (dn j tp)).take t2.sz,ca Jy (dn j tp)⟩:=by grind [jF]
    rw[df] at h3
    injection h3 with h3
    simp only[Pl.mk.injEq] at h3
    obtain ⟨rfl,rfl,rfl,rfl⟩:=h3
    refine bW (run t2 LQ Ow g2 (af.length _ h4)) ?_
    split at h1
    ·rename_i hc
     split at h1
     ·rename_i hH
      have hH:=List.isEmpty_iff.1 hH;subst hH
      refine aP h h1 ⟨_,rfl,?_⟩ (λ_ _ _ _ e=>by cases e)
      grind [af.flat,af.ro,bS]
     ·cases h1
    ·exact aP h h1 (sq h df) (λ_ _ _ _ e=>by cases e)
   ·cases hk
  ·cases hk
 ·cases hk
end
end OT
set_option linter.unusedVariables false
set_option linter.unusedSimpArgs false
namespace OT
open Go
section
variable {P:Program} {C:Ctx} {A:Cells} {X:FP} {σ:St} {a:Act} {w:World} {F:Nat->FP} {R:Type} {x:R} {Q:Exit->Act->World->Prop} {o:Oper} {E:Env}
theorem vZ {n:Int} {len:Nat} {K:Nat->Option R} (h:FI n len K=some x):0<=n/\n < (len:Int)/\K n.toNat=some x:=by
 grind [FI]
theorem bind_some {α:Type} {o:Option α} {K:α->Option R} (h:o.bind K=some x):∃ y,o=some y/\K y=some x:=by
 cases o <;> grind
theorem kx {e:Ty} {i:TypeId} (h:aq P (.aa e) (.inl i)=true):∃ el,P.underlying i=some (.slice el)/\1<=e.sz/\aq P e (.inl el)=true:=by
 grind [aq,Nat.ble_eq]
theorem Dn {n:Nat} {e:Ty} {i:TypeId} (h:aq P (.arr n e) (.inl i)=true):∃ el,P.underlying i=some (.array n el)/\1<=e.sz/\aq P e (.inl el)=true:=by
 grind [aq,Nat.ble_eq,Nat.beq_eq]
theorem eN {i:TypeId} (h:aq P .str (.inl i)=true):P.underlying i=some .string:=by
 grind [aq]
theorem gP {k:IntKind} {i:TypeId} (h:aq P (.int k) (.inl i)=true):P.underlying i=some (.int k):=by
 grind [aq]
theorem Cw (p q:Path):bm (p++q)=bm p+bm q:=by
 induction p with
 | nil=>simp[bm]
 | cons s p ih=>cases s <;> simp only[List.cons_append,bm,ih] <;> omega
theorem xd (h:Rel P C A X σ a w F) {r:Nat} {p:Path} {pl:Pl} {b off:Nat} (hp:place σ a w r p=some pl) (di:pl.ad=some (b,off)):rD σ a w (.pointer (some ⟨b,off,none⟩)) r p (lX σ r p):=by
 have h5:=h.eg r
 refine ⟨?_,λ_=>⟨pl,b,off,hp,di,rfl,by grind [lX]⟩⟩
 unfold lX
 intro j y hj;grind
theorem yx (h:bn P C A σ a w F) (dZ:∀ i T,E.TI i=some T->aq P T (.inl i)=true) {t:Nat} {y z:Operand} (ho:o.op=.indexAddr t y z) (ap:bg P y=true/\bg P z=true) {K:St->Option R}
  (hk:r_ E σ t (bh σ y) (bh σ z) o.dst K=some x):Tk P o a w (Nx P C K x):=by
 unfold r_ at hk
 obtain ⟨T,hT,hk⟩:=bN hk
 have cJ:=dZ _ _ hT
 rcases bE h ap.2 with hz | ⟨xs,e⟩
 rotate_left
 ·rw[e] at hk;cases hk
 obtain ⟨kz,n,Do,hk⟩:=l7 hz hk
 have tR:∀ e ad len cap,T=.aa e->a.eval y=.slice (some ad) len cap->ad.spot=none->0<=n->n < (len:Int)->∀ w',jS o w w'->(execOp a.eval o).run P w'=.ok (.value (.pointer (some ⟨ad.block,ad.off+n.toNat*e.sz,none⟩))) w':=λe ad len cap iM hy iY h0 h1 w' _=>by
  subst iM
  obtain ⟨el,hu,_,hle⟩:=kx cJ
  obtain ⟨b,off,sp⟩:=ad
  simp only at iY;subst iY
  have fi:=run_sizeOf (P:=P) (w:=w') hle
  simp[execOp,ho,hy,Do,Instr.indexAt,asIntOf,run_underlying hu,h0,h1,fi,gV]
 have LR:∀ m e b off,T=.arr m e->a.eval y=.pointer (some ⟨b,off,none⟩)->0<=n->n < (m:Int)->∀ w',jS o w w'->(execOp a.eval o).run P w'=.ok (.value (.pointer (some ⟨b,off+n.toNat*e.sz,none⟩))) w':=λm e b off iM hy h0 h1 w' _=>by
  subst iM
  obtain ⟨el,hu,_,hle⟩:=Dn cJ
  have fi:=run_sizeOf (P:=P) (w:=w') hle
  simp[execOp,ho,hy,Do,Instr.indexAt,asIntOf,run_underlying hu,h0,h1,fi,gV,Instr.sureAddr]
 have QF:∀ (e:Ty) (v:List e.den) (tv:Value) (yv:e.den),T=.aa e->a.eval y=tv->Ro P w A (.aa e) v [tv]->0<=n->v[n.toNat]?=some yv->K (σ.aI o.dst (.cp e yv))=some x->Tk P o a w (Nx P C K x):=λe v tv yv iM hy km h0 tS hk=>by
  obtain ⟨xa,cap,h1,Y,h3,h4⟩:=km
  simp only[List.cons.injEq,and_true] at h1
  subst h1
  have aB:=(List.getElem?_eq_some_iff.1 tS).1
  cases xa with
  | none=>grind
  | some ad=>
   obtain ⟨g1,g2⟩:=h4 ad rfl
   obtain ⟨L,l1,l2,l3⟩:=g2 _ _ tS
   exact bW (tR e ad _ cap iM hy (g1 (by omega)) h0 (by omega)) (aP h hk ⟨_,rfl,rfl,L,l1,l2,l3⟩ (λ_ _ _ _ e=>by cases e))
 rcases bE h ap.1 with hs | ⟨xs,e⟩
 rotate_left
 ·grind
 split at hk
 ·rename_i e v hv
  rw[hv] at hs
  split at hk
  ·rename_i iM
   split at hk
   ·rename_i h0
    obtain ⟨yv,tS,hk⟩:=bind_some hk
    obtain ⟨cs,h1,Y⟩:=hs
    have hl:=Ro.length _ Y
    match cs,hl with
    | [tv],_=>exact QF e v tv yv iM (by rw[h1,bp _ _ rfl]) Y h0 tS hk
   ·cases hk
  ·cases hk
 ·rename_i m e v hv
  rw[hv] at hs
  split at hk
  ·rename_i iM
   split at hk
   ·rename_i h0
    obtain ⟨yv,tS,hk⟩:=bind_some hk
    obtain ⟨⟨b,off,sp⟩,h1,Y,L,h3,h4,h5⟩:=hs
    simp only[List.cons.injEq,and_true] at h1
    simp only at Y;subst Y
    obtain ⟨q1,q2,q3,q4⟩:=h5
    have aB:n.toNat < m:=q2 ▸ (List.getElem?_eq_some_iff.1 tS).1
    have km:=q4 _ _ tS
    refine bW (LR m e b off iM h1 h0 (by omega)) (aP h hk ⟨_,rfl,rfl,_,Ro.length _ km,λk u hu=>?_,km⟩ (λ_ _ _ _ e=>by cases e))
    grind
   ·cases hk
  ·cases hk
 ·rename_i r p snap hv
  rw[hv] at hs
  split at hk
  ·rename_i fR
   obtain ⟨hr,t',m',H',v',aJ,aX,F',h1,Y,h3,h4,h5,h6⟩:=d7 h hk
   obtain ⟨pl,g1,g2,g3⟩:=hs.2 fR
   rw[h3] at g1
   injection g1 with g1
   subst g1
   simp only at g2
   split at h1
   ·cases h1
   ·rename_i hH
    have hH:hole H'=false:=Bool.eq_false_iff.2 hH
    split at h1
    ·rename_i iM
     split at h1
     ·rename_i e Dp
      have hl:=af.length _ h4
      split at h1
      ·rename_i cy
       obtain ⟨i0,i1,h1⟩:=vZ h1
       have cH:=h4
       simp only[af,hH,Bool.false_eq_true,if_false,cy,if_true] at cH
       obtain ⟨xa,cap,rfl,q2,q3,q4,q5⟩:=cH
       cases xa with
       | none=>grind
       | some bT=>
        obtain ⟨r1,r2,r3,Fi,r4,r5⟩:=q5 bT rfl
        rw[bp _ _ rfl] at g2
        have aB:n.toNat < List.length Dp:=by omega
        refine bW (tR e bT _ cap iM.symm g2 r2 i0 i1) (aP h h1 (xd (pl:=⟨e,H'.filterMap (dy n.toNat),rd w bT.block (bT.off+n.toNat*e.sz) e.sz,some (bT.block,bT.off+n.toNat*e.sz)⟩) h ?_ rfl) (λ_ _ _ _ e=>by cases e))
        grind [jF,aD]
      ·rename_i cy
       split at h1
       ·rename_i h0
        obtain ⟨yv,tS,h1⟩:=bind_some h1
        have cH:=h4
        simp only[af,hH,Bool.false_eq_true,if_false,cy] at cH
        match aJ,hl with
        | [tv],_=>
         rw[bp _ _ rfl] at g2
         grind
       ·cases h1
     ·cases h1
    ·cases h1
  ·cases hk
 ·rename_i r p snap lo hi hv
  rw[hv] at hs
  split at hk
  ·rename_i fR
   obtain ⟨hr,t',m',H',v',aJ,aX,F',h1,Y,h3,h4,h5,h6⟩:=d7 h hk
   obtain ⟨pl,e,xa,len,cap,lH,cap',g1,g2,g3,g4,g5,g6,g7,Dh,g8,g9,g10⟩:=hs.2 fR
   rw[h3] at g1
   injection g1 with g1
   subst g1
   simp only at g2 g3
   subst g2;subst g3
   split at h1
   ·cases h1
   ·rename_i hH
    have hH:hole H'=false:=Bool.eq_false_iff.2 hH
    split at h1
    ·rename_i iM
     obtain ⟨i0,i1,h1⟩:=vZ h1
     have pM:∃ bT,xa=some bT/\bT.spot=none:=by
      simp only[af,hH,Bool.false_eq_true,if_false] at h4
      cases xa with
      | none=>
       split at h4
       ·grind
       ·obtain ⟨_,_,LS,yy,q1,q2,q3,_⟩:=h4
        grind
      | some bT=>
       refine ⟨bT,rfl,?_⟩
       split at h4
       ·grind
       ·obtain ⟨_,_,LS,yy,q1,q2,q3,q4⟩:=h4
        grind
     obtain ⟨bT,rfl,iY⟩:=pM
     obtain ⟨vn,e1,e2,e3,e4⟩:=g9 bT rfl
     subst e1
     have e4:=e4 (by omega)
     refine bW (tR e vn _ cap' iM.symm g6 (e2.trans iY) i0 i1) ?_
     have AZ:(⟨vn.block,vn.off+n.toNat*e.sz,none⟩:Addr)=⟨bT.block,bT.off+(lo+n.toNat)*e.sz,none⟩:=by
      grind
     rw[AZ]
     have aB:lo+n.toNat < len:=by omega
     refine aP h h1 (xd (pl:=⟨e,H'.filterMap (dy (lo+n.toNat)),rd w bT.block (bT.off+(lo+n.toNat)*e.sz) e.sz,some (bT.block,bT.off+(lo+n.toNat)*e.sz)⟩) h ?_ rfl) (λ_ _ _ _ e=>by cases e)
     grind [jF,aD]
    ·cases h1
  ·cases hk
 ·rename_i r p snap hv
  rw[hv] at hs
  split at hk
  ·rename_i fR
   obtain ⟨hr,t',m',H',v',aJ,aX,F',h1,Y,h3,h4,h5,h6⟩:=d7 h hk
   obtain ⟨pl,b,off,g1,g2,g3,g4⟩:=hs.2 fR
   rw[h3] at g1
   injection g1 with g1
   subst g1
   simp only at g2
   subst g2
   split at h1
   ·rename_i iM
    split at h1
    ·rename_i m e Dp
     obtain ⟨i0,i1,h1⟩:=vZ h1
     obtain ⟨hH,hf,hl,hlen,km⟩:=h4
     subst hH
     have aB:n.toNat < m:=by omega
     refine bW (LR m e b off iM.symm g3 i0 (by omega)) (aP h h1 ⟨hs.1,λ_=>⟨⟨e,[],(aJ.drop (n.toNat*e.sz)).take e.sz,some (b,off+n.toNat*e.sz)⟩,b,off+n.toNat*e.sz,?_,rfl,rfl,?_⟩⟩ (λ_ _ _ _ e=>by cases e))
     ·grind [jF,aD,ca]
     ·rw[Cw];exact g4
    ·cases h1
   ·cases h1
  ·cases hk
 ·cases hk
end
end OT
set_option linter.unusedVariables false
set_option linter.unusedSimpArgs false
namespace OT
open Go
section
variable {P:Program} {C:Ctx} {A:Cells} {X:FP} {σ:St} {a:Act} {w:World} {F:Nat->FP} {R:Type} {x:R} {Q:Exit->Act->World->Prop} {o:Oper} {E:Env}
theorem Gc (s:List UInt8) (n:Nat):(⟨s.toArray⟩:ByteArray)[n]?=s[n]?:=by
 by_cases h:n < s.length
 ·have h1:n < (⟨s.toArray⟩:ByteArray).size:=by simpa [ByteArray.size] using h
  rw[getElem?_pos _ n h1,List.getElem?_eq_getElem h]
  rfl
 grind [ByteArray.size]
theorem En (h:bn P C A σ a w F) (dZ:∀ i T,E.TI i=some T->aq P T (.inl i)=true) {t:Nat} {y z:Operand} (ho:o.op=.index t y z) (ap:bg P y=true/\bg P z=true) {K:St->Option R}
  (hk:Av E σ t (bh σ y) (bh σ z) o.dst K=some x):Tk P o a w (Nx P C K x):=by
 unfold Av at hk
 have Dq:=bN hk
 clear hk
 obtain ⟨T,hT,ff⟩:=Dq
 have cJ:=dZ _ _ hT
 rcases bE h ap.2 with hz | ⟨xs,e⟩
 rotate_left
 ·rw[e] at ff;cases ff
 have QG:=l7 hz ff
 clear ff
 obtain ⟨kz,n,Do,hk⟩:=QG
 rcases bE h ap.1 with hs | ⟨xs,e⟩
 rotate_left
 ·grind
 split at hk
 ·rename_i s hv
  rw[hv] at hs
  split at hk
  ·rename_i iM;subst iM
   split at hk
   ·rename_i h0
    obtain ⟨c,hc,hk⟩:=bind_some hk
    obtain ⟨cs,h1,Y⟩:=hs
    simp only[Ro] at Y;subst Y
    have hb:=Gc s n.toNat
    rw[hc] at hb
    refine bW (v:=.int .u8 c.toNat) ?_ (aP h hk ⟨[_],rfl,rfl⟩ (λ_ _ _ _ e=>by cases e))
    simp[execOp,ho,h1,aZ,isAgg,Do,Instr.index,asIntOf,run_underlying (eN cJ),h0,hb]
   ·cases hk
  ·cases hk
 ·rename_i m e v hv
  rw[hv] at hs
  split at hk
  ·rename_i iM;subst iM
   split at hk
   ·rename_i h0
    obtain ⟨yv,tS,hk⟩:=bind_some hk
    obtain ⟨cs,h1,Y⟩:=hs
    obtain ⟨q1,q2,q3,q4⟩:=id Y
    obtain ⟨el,hu,_,hle⟩:=Dn cJ
    have aB:n.toNat < m:=q2 ▸ (List.getElem?_eq_some_iff.1 tS).1
    have si:n < (m:Int):=by omega
    have km:=q4 _ _ tS
    refine bW (v:=aZ e ((cs.drop (n.toNat*e.sz)).take e.sz)) (λw' _=>?_) (aP h hk ⟨_,rfl,km⟩ (λ_ _ _ _ e=>by cases e))
    have hp:=kN (P:=P) (w:=w') hle (cs:=cs.toArray) (off:=n.toNat*e.sz) (by grind [Ro.length])
    simp only[List.toList_toArray] at hp
    have fi:=run_sizeOf (P:=P) (w:=w') hle
    simp_all [execOp,aZ,isAgg,Instr.index,asIntOf,run_underlying]
   ·cases hk
  ·cases hk
 ·cases hk
theorem pS {t:Ty} {m:Md} {H:List Path} {e:Ty} {v:List e.den} {cs:List Value} {G:FP} (h:af P w A (.aa e) m H v cs G) (hH:hole H=false) :
  ∃ xa cap,cs=[.slice xa (List.length v) cap]/\List.length v<=cap/\(xa=none->List.length v=0):=by
 simp only[af,hH,Bool.false_eq_true,if_false] at h
 split at h
 ·grind
 ·obtain ⟨_,_,xa,cap,q1,q2,q3,q4⟩:=h
  grind
theorem pT {t:Nat} {y:Operand} (ho:o.op=.call { callee:=.builtin .len,args:=#[y],argTypes:=#[t] }) :
  (execOp a.eval o).run P w=((Builtin.len_ #[t] o.type #[a.eval y]).run P w).andThen λv w'=>.ok (.value v) w':=by
 simp_all [execOp,resolve,invoke,builtin]
theorem Ic (h:bn P C A σ a w F) (dZ:∀ i T,E.TI i=some T->aq P T (.inl i)=true) {t:Nat} {y:Operand} (ho:o.op=.call { callee:=.builtin .len,args:=#[y],argTypes:=#[t] }) (ap:bg P y=true) {K:St->Option R}
  (hk:HY E σ t (bh σ y) (λn=>K (σ.aI o.dst (.val (.int .i64) (n:Int))))=some x):Tk P o a w (Nx P C K x):=by
 unfold HY at hk
 obtain ⟨T,hT,hk⟩:=bN hk
 have cJ:=dZ _ _ hT
 rcases bE h ap with hs | ⟨xs,e⟩
 rotate_left
 ·grind
 have fin:∀ n:Nat,K (σ.aI o.dst (.val (.int .i64) (n:Int)))=some x->Nx P C K x (a.put o.dst (.int .i64 (n:Int))) w:=λn hk=>aP h hk ⟨[_],rfl,rfl⟩ (λ_ _ _ _ e=>by cases e)
 split at hk
 ·split at hk
  ·rename_i s hv
   rw[hv] at hs
   obtain ⟨cs,h1,Y⟩:=hs
   simp only[Ro] at Y;subst Y
   refine bW (v:=.int .i64 (s.length:Int)) (λw' _=>?_) (fin _ hk)
   have e:a.eval y=.string ⟨List.toArray s⟩:=h1
   have e2:(⟨List.toArray s⟩:ByteArray).size=s.length:=rfl
   rw[pT ho,e]
   unfold Builtin.len_
   simp only[List.getElem?_toArray,List.getElem?_cons_zero,Sem.run_bind,run_underlying (eN cJ),Result.andThen_ok,Sem.run_pure,goInt,e2]
  ·cases hk
 ·rename_i e
  obtain ⟨el,hu,_,hle⟩:=kx cJ
  have run:∀ xa n cap,a.eval y=.slice xa n cap->∀ w',jS o w w'->(execOp a.eval o).run P w'=.ok (.value (.int .i64 (n:Int))) w':=λxa n cap hy w' _=>by
   rw[pT ho]
   simp[Builtin.len_,hy,run_underlying hu,goInt]
  split at hk
  ·rename_i e' v hv
   rw[hv] at hs
   obtain ⟨cs,h1,xa,cap,Y,_⟩:=hs
   subst Y
   exact bW (run xa _ cap h1) (fin _ hk)
  ·rename_i hv
   rw[hv] at hs
   exact bW (run none 0 0 hs) (fin _ hk)
  ·rename_i r p snap hv
   rw[hv] at hs
   split at hk
   ·rename_i fR
    obtain ⟨hr,t',m',H',v',aJ,aX,F',h1,Y,h3,h4,h5,h6⟩:=d7 h hk
    obtain ⟨pl,g1,g2,g3⟩:=hs.2 fR
    rw[h3] at g1
    injection g1 with g1
    subst g1
    simp only at g2
    split at h1
    ·cases h1
    ·rename_i hH
     have hH:hole H'=false:=Bool.eq_false_iff.2 hH
     split at h1
     ·rename_i e' Dp
      obtain ⟨xa,cap,q1,q2,q3⟩:=pS (t:=.unit) h4 hH
      subst q1
      exact bW (run xa _ cap g2) (fin _ h1)
     ·cases h1
   ·cases hk
  ·rename_i r p snap lo hi hv
   rw[hv] at hs
   split at hk
   ·rename_i fR
    obtain ⟨pl,e',xa,len,cap,lH,cap',g1,g2,g3,g4,g5,g6,g7,Dh,g8,g9,g10⟩:=hs.2 fR
    grind [bW]
   ·cases hk
  ·cases hk
 ·cases hk
theorem Gd {len cap:Nat} {lo hi:Option Operand} {K:Nat->Nat->Option R} (gX:len<=cap) (AU:∀ y,lo=some y->aV P A σ a w (a.eval y) (bh σ y) (λ_ _=>0)) (QH:∀ y,hi=some y->aV P A σ a w (a.eval y) (bh σ y) (λ_ _=>0))
  (hk:kw len (lo.map (bh σ)) (hi.map (bh σ)) K=some x):∃ l h,l<=h/\h<=len/\K l h=some x/\(∀ w',(Instr.sliceBounds true len cap (lo.map a.eval) (hi.map a.eval) none).run P w'=.ok (l,h,cap) w') /\
   (len=cap->∀ w',(Instr.sliceBounds false len cap (lo.map a.eval) (hi.map a.eval) none).run P w'=.ok (l,h,cap) w'):=by
 have dA:∀ (k:IntKind) (i:Int) (y:Nat) code,0<=i->i<=(y:Int)->∀ w',(Instr.sliceBound (.int k i) y code).run P w'=.ok i.toNat w':=λk i y code h0 h1 w'=>run_sliceBound w' k i y code h0 h1
 have two:∀ (Ge kj:Option Value) (l h:Nat),(Ge=none/\l=0\/∃ k n,Ge=some (.int k n)/\0<=n/\n<=(h:Int)/\l=n.toNat)->(kj=none/\h=len\/∃ k n,kj=some (.int k n)/\0<=n/\n<=(len:Int)/\h=n.toNat) ->
   (∀ w',(Instr.sliceBounds true len cap Ge kj none).run P w'=.ok (l,h,cap) w')/\(len=cap->∀ w',(Instr.sliceBounds false len cap Ge kj none).run P w'=.ok (l,h,cap) w'):=λGe kj l h h1 Y=>by
  rcases Y with ⟨rfl,rfl⟩ | ⟨k2,n2,rfl,b1,b2,rfl⟩
  ·rcases h1 with ⟨rfl,rfl⟩ | ⟨k1,n1,rfl,J,a2,rfl⟩
   ·simp_all [Instr.sliceBounds]
   ·exact ⟨by simp_all [Instr.sliceBounds],λ_=>by simp_all [Instr.sliceBounds]⟩
  ·have c1:=dA k2 n2 cap .sliceAcap b1 (by omega)
   have c2:=dA k2 n2 cap .sliceAlen b1 (by omega)
   rcases h1 with ⟨rfl,rfl⟩ | ⟨k1,n1,rfl,J,a2,rfl⟩
   all_goals simp_all [Instr.sliceBounds]
 unfold kw at hk
 cases lo with
 | none=>
  cases hi <;> grind [l7]
 | some yl=>
  cases hi <;> grind [l7]
theorem zY (s:List UInt8) (l h:Nat) (hl:l<=h) (hh:h<=s.length):(⟨s.toArray⟩:ByteArray).extract l h=⟨((s.take h).drop l).toArray⟩:=by
 apply ByteArray.ext
 grind [ByteArray.data_extract]
theorem Eo (h:bn P C A σ a w F) (dZ:∀ i T,E.TI i=some T->aq P T (.inl i)=true) {t:Nat} {y:Operand} {lo hi:Option Operand} (ho:o.op=.slice t y lo hi none)
  (ap:bg P y=true/\(∀ z,lo=some z->bg P z=true)/\(∀ z,hi=some z->bg P z=true)) {K:St->Option R}
  (hk:Aw E σ t (bh σ y) (lo.map (bh σ)) (hi.map (bh σ)) o.dst K=some x):Tk P o a w (Nx P C K x):=by
 unfold Aw at hk
 have Dq:=bN hk
 clear hk
 obtain ⟨T,hT,hk⟩:=Dq
 have cJ:=dZ _ _ hT
 have Jz:∀ z,bg P z=true->(∀ xs,bh σ z≠.iI xs)->aV P A σ a w (a.eval z) (bh σ z) (λ_ _=>0):=λz hz hn=>by
  grind [bE]
 have bound:∀ (len cap:Nat) (K':Nat->Nat->Option R),len<=cap->kw len (lo.map (bh σ)) (hi.map (bh σ)) K'=some x->∃ l h,l<=h/\h<=len/\K' l h=some x/\(∀ w',(Instr.sliceBounds true len cap (lo.map a.eval) (hi.map a.eval) none).run P w'=.ok (l,h,cap) w') /\
   (len=cap->∀ w',(Instr.sliceBounds false len cap (lo.map a.eval) (hi.map a.eval) none).run P w'=.ok (l,h,cap) w'):=λlen cap K' hc hb=>by
  refine Gd hc (λz hz=>Jz z (ap.2.1 z hz) λxs e=>?_) (λz hz=>Jz z (ap.2.2 z hz) λxs e=>?_) hb
  ·subst hz
   unfold kw at hb
   grind [lQ]
  ·subst hz
   unfold kw at hb
   cases lo with
   | none=>grind [lQ]
   | some yl=>
    simp only[Option.map_some,e] at hb
    unfold lQ at hb
    grind
 have tR:∀ e xa len cap l h,T=.aa e->a.eval y=.slice xa len cap->l<=cap->(∀ ad,xa=some ad->0 < cap->ad.spot=none)->(∀ w',(Instr.sliceBounds true len cap (lo.map a.eval) (hi.map a.eval) none).run P w'=.ok (l,h,cap) w') ->
   ∀ w',jS o w w'->(execOp a.eval o).run P w'=.ok (.value (.slice (if cap=l then xa else xa.map λad=>⟨ad.block,ad.off+l*e.sz,none⟩) (h - l) (cap - l))) w':=λe xa len cap l h iM hy Ox iY hb w' _=>by
  have hb:=hb w'
  subst iM
  obtain ⟨el,hu,_,hle⟩:=kx cJ
  have fi:=run_sizeOf (P:=P) (w:=w') hle
  unfold execOp
  simp only[ho,Option.map_none,Instr.sliceAt,Instr.slice,Sem.run_bind,run_underlying hu,Result.andThen_ok,hy,hb,fi,Sem.run_pure]
  by_cases kC:cap=l
  ·simp[kC]
  ·congr 4
   cases xa with
   | none=>rfl
   | some ad=>
    obtain ⟨b,off,sp⟩:=ad
    grind [gV]
 have addr:∀ (xa:Option Addr) (cap l h n:Nat) (e:Ty),l<=h->h<=n->n<=cap->(∀ ad,xa=some ad->0 < cap->ad.spot=none) ->
   (xa=none->(if cap=l then xa else xa.map λad=>⟨ad.block,ad.off+l*e.sz,none⟩)=none) /\
   (∀ ad,xa=some ad->∃ aX,(if cap=l then xa else xa.map λad=>⟨ad.block,ad.off+l*e.sz,none⟩)=some aX/\aX.spot=ad.spot/\aX.block=ad.block/\(l < h->aX.off=ad.off+l*e.sz)) /\
   (l=0->(if cap=l then xa else xa.map λad=>(⟨ad.block,ad.off+l*e.sz,none⟩:Addr))=xa):=λxa cap l h n e h1 Y h3 iY=>by
  refine ⟨λe=>by grind,λad e=>?_,λe0=>?_⟩
  ·grind
  ·subst e0
   split
   ·rfl
   ·cases xa with
    | none=>rfl
    | some ad=>
     obtain ⟨b,off,sp⟩:=ad
     grind
 have JA:∀ {e:Ty} {v:List e.den} {m:Md} {H:List Path} {xa n cap} {G:FP},af P w A (.aa e) m H v [.slice xa n cap] G->hole H=false->∀ ad,xa=some ad->0 < cap->ad.spot=none:=λ{e v m H xa n cap G} cH hH ad F8 v9=>by
  simp only[af,hH,Bool.false_eq_true,if_false] at cH
  split at cH
  ·grind
  ·obtain ⟨_,_,LS,yy,q1,q2,q3,q4⟩:=cH
   grind
 rcases bE h ap.1 with hs | ⟨xs,e⟩
 rotate_left
 ·grind
 split at hk
 ·rename_i s hv
  rw[hv] at hs
  split at hk
  ·rename_i iM
   have JB:=cJ
   rw[iM] at JB
   obtain ⟨l,h',b1,b2,hk,b3,b4⟩:=bound s.length s.length _ (Nat.le_refl _) hk
   obtain ⟨cs,h1,Y⟩:=hs
   simp only[Ro] at Y;subst Y
   have e1:a.eval y=.string ⟨List.toArray s⟩:=h1
   have e2:(⟨List.toArray s⟩:ByteArray).size=s.length:=rfl
   refine bW (v:=.string ⟨((s.take h').drop l).toArray⟩) (λw' _=>?_) (aP h hk ⟨[_],rfl,rfl⟩ (λ_ _ _ _ e=>by cases e))
   unfold execOp
   simp only[ho,Option.map_none,Instr.sliceAt,Instr.slice,Sem.run_bind,run_underlying (eN JB),Result.andThen_ok,e1,Option.isSome_none,Bool.false_eq_true,if_false,e2,b4 rfl w',Sem.run_pure,zY s l h' b1 b2]
  ·cases hk
 ·rename_i e v hv
  rw[hv] at hs
  split at hk
  ·rename_i iM
   obtain ⟨cs,h1,Y⟩:=hs
   obtain ⟨xa,cap,q1,q2,q3,q4⟩:=id Y
   subst q1
   rw[bp _ _ rfl] at h1
   obtain ⟨l,h',b1,b2,hk,b3,_⟩:=bound (List.length v) cap _ q2 hk
   obtain ⟨r1,r2,r3⟩:=addr xa cap l h' _ e b1 b2 q2 (λad e=>(q4 ad e).1)
   exact bW (tR e xa _ cap l h' iM h1 (by omega) (λad e=>(q4 ad e).1) b3) (aP h hk ⟨_,(bp (.aa e) _ rfl).symm,Ro.piece Y b1 b2 (by omega) r1 r2⟩ (λ_ _ _ _ e=>by cases e))
  ·cases hk
 ·rename_i r p snap hv
  rw[hv] at hs
  split at hk
  ·rename_i fR
   obtain ⟨hr,t',m',H',v',aJ,aX,F',h1,Y,h3,h4,h5,h6⟩:=d7 h hk
   obtain ⟨pl,g1,g2,g3⟩:=hs.2 fR
   rw[h3] at g1
   injection g1 with g1
   subst g1
   simp only at g2 g3
   split at h1
   ·cases h1
   ·rename_i hH
    have hH:hole H'=false:=Bool.eq_false_iff.2 hH
    split at h1
    ·rename_i iM
     split at h1
     ·rename_i e Dp
      obtain ⟨xa,cap,q1,q2,q3⟩:=pS (t:=.unit) h4 hH
      subst q1
      rw[bp _ _ rfl] at g2
      have iY:=JA h4 hH
      split at h1
      ·obtain ⟨l,h',b1,b2,h1,b3,_⟩:=bound (List.length Dp) cap _ q2 h1
       obtain ⟨r1,r2,r3⟩:=addr xa cap l h' _ e b1 b2 q2 iY
       refine bW (tR e xa _ cap l h' iM.symm g2 (by omega) iY b3) (aP h h1 ⟨hs.1,λ_=>⟨_,e,xa,_,cap,_,cap - l,h3,rfl,rfl,b1,b2,rfl,by omega,r3,r1,r2,?_⟩⟩ (λ_ _ _ _ e=>by cases e))
       grind
      ·rename_i cy
       obtain ⟨l,h',b1,b2,h1,b3,_⟩:=bound (List.length Dp) cap _ q2 h1
       obtain ⟨r1,r2,r3⟩:=addr xa cap l h' _ e b1 b2 q2 iY
       simp only[af,hH,Bool.false_eq_true,if_false,cy] at h4
       exact bW (tR e xa _ cap l h' iM.symm g2 (by omega) iY b3) (aP h h1 ⟨_,(bp (.aa e) _ rfl).symm,Ro.piece h4.2.2 b1 b2 (by omega) r1 r2⟩ (λ_ _ _ _ e=>by cases e))
     ·cases h1
    ·cases h1
  ·cases hk
 ·rename_i r p snap l0 h0 hv
  rw[hv] at hs
  split at hk
  ·rename_i fR
   obtain ⟨hr,t',m',H',v',aJ,aX,F',h1,Y,h3,h4,h5,h6⟩:=d7 h hk
   obtain ⟨pl,e,xa,n,cap,lH,cap',g1,g2,g3,g4,g5,g6,g7,Dh,g8,g9,g10⟩:=hs.2 fR
   have Td:=g1
   rw[h3] at g1
   injection g1 with g1
   subst g1
   simp only at g2 g3
   subst g2;subst g3
   split at h1
   ·cases h1
   ·rename_i hH
    have hH:hole H'=false:=Bool.eq_false_iff.2 hH
    split at h1
    ·rename_i iM
     obtain ⟨LS,yy,q1,q2,q3⟩:=pS (t:=.unit) h4 hH
     simp only[List.cons.injEq,Value.slice.injEq,and_true] at q1
     obtain ⟨rfl,rfl,rfl⟩:=q1
     have iY:=JA h4 hH
     have LT:∀ ad,lH=some ad->0 < cap'->ad.spot=none:=λad e' v9=>by
      cases F8:xa <;> grind
     obtain ⟨l,h',b1,b2,h1,b3,_⟩:=bound (h0 - l0) cap' _ (by omega) h1
     obtain ⟨r1,r2,r3⟩:=addr lH cap' l h' _ e b1 b2 (by omega) LT
     refine bW (tR e lH _ cap' l h' iM.symm g6 (by omega) LT b3) (aP h h1 ⟨hs.1,λ_=>⟨⟨.aa e,H',[.slice xa (List.length v') cap],aX⟩,e,xa,List.length v',cap,(if cap'=l then lH else lH.map λad=>⟨ad.block,ad.off+l*e.sz,none⟩),cap' - l,h3,rfl,rfl,by omega,by omega,?_,by omega,λe0=>?_,λe'=>?_,λad e'=>?_,g10⟩⟩ (λ_ _ _ _ e=>by cases e))
     ·grind
     ·grind
     ·grind
     grind
    ·cases h1
  ·cases hk
 ·cases hk
end
end OT
set_option linter.unusedVariables false
set_option linter.unusedSimpArgs false
namespace OT
open Go
theorem iS (k:IntKind) (n:Int):fZ k (ta k n)=k.wrap n:=by
 cases k <;> first | rfl | skip
 show ((UInt8.ofNat (n % 2 ^ 8).toNat).toNat:Int)=_
 grind [UInt8.toNat_ofNat',IntKind.wrap,IntKind.bits,IntKind.signed]
theorem yz (k:IntKind) (n:Int) (h:k=.u8->0<=n/\n < 256):fZ k (Jl k n)=n:=by
 cases k <;> first | rfl | skip
 obtain ⟨h1,Y⟩:=h rfl
 show ((UInt8.ofNat (n % 2 ^ 8).toNat).toNat:Int)=_
 rw[UInt8.toNat_ofNat']
 omega
theorem Gf (v:ry .u8):0<=fZ .u8 v/\fZ .u8 v < 256:=by
 have:UInt8.toNat v < 256:=UInt8.toNat_lt v
 show 0<=((UInt8.toNat v:Nat):Int)/\((UInt8.toNat v:Nat):Int) < 256
 omega
section
variable {P:Program} {C:Ctx} {A:Cells} {X:FP} {σ:St} {a:Act} {w:World} {F:Nat->FP} {R:Type} {x:R} {Q:Exit->Act->World->Prop} {o:Oper} {E:Env}
theorem KD {op:BinOp} {k k':IntKind} {na nb:Int} {K:(t:Ty)->t.den->Option R} (hk:Ay op k na nb K=some x) (tg:k=k'\/op=.shl\/op=.shr) (hu:k=.u8->0<=na/\na < 256) (Oy:k'=.u8->0<=nb/\nb < 256) (T:TypeId) :
  ∃ t v tv,K t v=some x/\Ro P w A t v [tv]/\isAgg t=false/\∀ w:World,(binOp op T (.int k na) (.int k' nb)).run P w=.ok tv w:=by
 have same:op≠.shl->op≠.shr->k=k':=λh1 Y=>by grind
 unfold Ay at hk
 split at hk
 ·have:=same (by simp) (by simp);subst this
  exact ⟨_,_,.int k (k.wrap (na+nb)),hk,by simp only[Ro,iS],rfl,λw=>by simp[Go.binOp,Op.intArith]⟩
 ·have:=same (by simp) (by simp);subst this
  exact ⟨_,_,.int k (k.wrap (na - nb)),hk,by simp only[Ro,iS],rfl,λw=>by simp[Go.binOp,Op.intArith]⟩
 ·have:=same (by simp) (by simp);subst this
  exact ⟨_,_,.int k (k.wrap (na*nb)),hk,by simp only[Ro,iS],rfl,λw=>by simp[Go.binOp,Op.intArith]⟩
 ·have:=same (by simp) (by simp);subst this
  split at hk
  ·cases hk
  ·rename_i LU
   exact ⟨_,_,.int k (k.wrap (na.tdiv nb)),hk,by simp only[Ro,iS],rfl,λw=>by simp[Go.binOp,Op.intDiv,LU]⟩
 ·have:=same (by simp) (by simp);subst this
  split at hk
  ·cases hk
  ·rename_i LU
   refine ⟨_,_,.int k (na.tmod nb),hk,?_,rfl,λw=>by simp[Go.binOp,Op.intDiv,LU]⟩
   simp only[Ro]
   rw[yz k _ (λe=>?_)]
   have h1:=hu e;have Y:=Oy e
   have:=Int.tmod_nonneg nb h1.1
   have h3:na.tmod nb < nb:=Int.tmod_lt_of_pos na (by omega)
   omega
 ·have:=same (by simp) (by simp);subst this
  exact ⟨_,_,.int k (k.wrap ((BitVec.ofInt k.bits na &&& BitVec.ofInt k.bits nb).toNat:Int)),hk,by simp only[Ro,iS],rfl,λw=>by grind [Go.binOp,Op.intBits,Sem.run_pure]⟩
 ·have:=same (by simp) (by simp);subst this
  exact ⟨_,_,.int k (k.wrap ((BitVec.ofInt k.bits na ||| BitVec.ofInt k.bits nb).toNat:Int)),hk,by simp only[Ro,iS],rfl,λw=>by grind [Go.binOp,Op.intBits,Sem.run_pure]⟩
 ·have:=same (by simp) (by simp);subst this
  exact ⟨_,_,.int k (k.wrap ((BitVec.ofInt k.bits na ^^^ BitVec.ofInt k.bits nb).toNat:Int)),hk,by simp only[Ro,iS],rfl,λw=>by grind [Go.binOp,Op.intBits,Sem.run_pure]⟩
 ·split at hk
  ·cases hk
  ·rename_i hn
   exact ⟨_,_,.int k (k.wrap (na*2 ^ (min nb.toNat k.bits))),hk,by simp only[Ro,iS],rfl,λw=>by simp[Go.binOp,Op.shift,hn]⟩
 ·split at hk
  ·cases hk
  ·rename_i hn
   refine ⟨_,_,.int k (na.fdiv (2 ^ (min nb.toNat k.bits))),hk,?_,rfl,λw=>by simp[Go.binOp,Op.shift,hn]⟩
   simp only[Ro]
   rw[yz k _ (λe=>?_)]
   have h1:=hu e
   have hp:(0:Int) < 2 ^ (min nb.toNat k.bits):=Int.pow_pos (by omega)
   rw[Int.fdiv_eq_ediv_of_nonneg _ (by omega)]
   have Y:=Int.ediv_nonneg h1.1 (Int.le_of_lt hp)
   have h3:=Int.ediv_le_self (2 ^ (min nb.toNat k.bits)) h1.1
   omega
 ·have:=same (by simp) (by simp);subst this
  exact ⟨.bool,decide (na=nb),_,hk,rfl,rfl,λw=>by simp[Go.binOp,Op.intCmp];rfl⟩
 ·have:=same (by simp) (by simp);subst this
  exact ⟨.bool,!decide (na=nb),_,hk,rfl,rfl,λw=>by simp[Go.binOp,Op.intCmp,bne];rfl⟩
 ·have:=same (by simp) (by simp);subst this
  exact ⟨.bool,decide (na < nb),_,hk,rfl,rfl,λw=>by simp[Go.binOp,Op.intCmp]⟩
 ·have:=same (by simp) (by simp);subst this
  exact ⟨.bool,decide (na<=nb),_,hk,rfl,rfl,λw=>by simp[Go.binOp,Op.intCmp]⟩
 ·have:=same (by simp) (by simp);subst this
  exact ⟨.bool,decide (nb < na),_,hk,rfl,rfl,λw=>by simp[Go.binOp,Op.intCmp]⟩
 ·have:=same (by simp) (by simp);subst this
  exact ⟨.bool,decide (nb<=na),_,hk,rfl,rfl,λw=>by simp[Go.binOp,Op.intCmp]⟩
 ·cases hk
theorem KE {op:BinOp} {s t:List UInt8} {K:(t:Ty)->t.den->Option R} (hk:HZ op s t K=some x) (T:TypeId) :
  ∃ ty v tv,K ty v=some x/\Ro P w A ty v [tv]/\isAgg ty=false/\∀ w:World,(binOp op T (.string ⟨s.toArray⟩) (.string ⟨t.toArray⟩)).run P w=.ok tv w:=by
 have h0:∀ w:World,(binOp op T (.string ⟨s.toArray⟩) (.string ⟨t.toArray⟩)).run P w=(Op.stringOp op ⟨s.toArray⟩ ⟨t.toArray⟩).run P w:=λw=>by cases op <;> rfl
 simp only[h0]
 unfold HZ at hk
 split at hk
 ·split at hk
  ·rename_i hc
   refine ⟨.str,s++t,.string ⟨(s++t).toArray⟩,hk,rfl,rfl,λw=>?_⟩
   grind [run_string_add_sum,ByteArray.size,bX,ByteArray.mk_append_mk]
  ·cases hk
 ·exact ⟨.bool,decide (s=t),_,hk,rfl,rfl,λw=>by simp[Op.stringOp];grind⟩
 ·exact ⟨.bool,!decide (s=t),_,hk,rfl,rfl,λw=>by simp[Op.stringOp];grind⟩
 ·cases hk
theorem pv {tv:Value} {s:List UInt8} {G:FP} (h:aV P A σ a w tv (.val .str s) G):tv=.string ⟨s.toArray⟩:=by
 obtain ⟨cs,h1,Y⟩:=h
 simp only[Ro] at Y
 subst Y
 exact h1
theorem pw {tv:Value} {k:IntKind} {n:ry k} {G:FP} (h:aV P A σ a w tv (.val (.int k) n) G):tv=.int k (fZ k n):=by
 obtain ⟨cs,h1,Y⟩:=h
 simp only[Ro] at Y
 subst Y
 exact h1
theorem A4 {tv:Value} {b:Bool} {G:FP} (h:aV P A σ a w tv (.val .bool b) G):tv=.bool b:=by
 obtain ⟨cs,h1,Y⟩:=h
 simp only[Ro] at Y
 subst Y
 exact h1
theorem Gg (h:bn P C A σ a w F) {op:UnOp} {t:Nat} {y:Operand} (ho:o.op=.unOp op t y) (ap:bg P y=true) {K:St->Option R}
  (hk:(match op,bh σ y with
  | .not,.val .bool b=>K (σ.aI o.dst (.val .bool (!b)))
  | .neg,.val (.int k) n=>K (σ.aI o.dst (.val (.int k) (ta k (0 - fZ k n))))
  | _,_=>none)=some x):Tk P o a w (Nx P C K x):=by
 rcases bE h ap with hs | ⟨xs,e⟩
 rotate_left
 ·grind
 split at hk
 ·rename_i b ho hv
  rw[hv] at hs
  have e:=A4 hs
  exact bW (v:=.bool (!b)) (by simp[execOp,ho,e,Op.unary]) (aP h hk ⟨[_],rfl,rfl⟩ (λ_ _ _ _ e=>by cases e))
 ·rename_i k n ho hv
  rw[hv] at hs
  have e:=pw hs
  exact bW (v:=.int k (k.wrap (0 - fZ k n))) (by simp[execOp,ho,e,Op.unary,Op.intArith]) (aP h hk ⟨[_],rfl,by simp only[Ro,iS]⟩ (λ_ _ _ _ e=>by cases e))
 ·cases hk
end
end OT
set_option linter.unusedVariables false
set_option linter.unusedSimpArgs false
namespace OT
open Go
section
variable {P:Program} {w:World} {A:Cells}
theorem JC:∀ (t:Ty),(∀ (i:TypeId) (d:Nat) (v1 v2:t.den) (gQ be:List Value),aq P t (.inl i)=true->iL P t (.inl i)=true->dep t<=d->Ro P w A t v1 gQ->Ro P w A t v2 be->(Op.equalIn d i (aZ t gQ) (aZ t be)).run P w=.ok (t.eq v1 v2) w) /\
  (∀ (fs:List Field) (off d:Nat) (v1 v2:t.den) (xs ys:Array Value),aq P t (.inr (fs,off))=true->iL P t (.inr fs)=true->dep t<=d+1->Ro P w A t v1 (xs.toList.drop off)->Ro P w A t v2 (ys.toList.drop off)->(Op.eqFields d xs ys fs).run P w=.ok (t.eq v1 v2) w):=by
 intro t
 induction t with
 | int k=>
  refine ⟨λi d v1 v2 gQ be hl he hd h1 Y=>?_,λfs off d v1 v2 xs ys hl=>by simp[aq] at hl⟩
  simp only[Ro] at h1 Y
  subst h1;subst Y
  cases d with
  | zero=>simp[dep] at hd
  | succ d=>
   rw[bp _ _ rfl,bp _ _ rfl,run_equalIn_int w d i k k _ _ (gP hl)]
   congr 1
   cases k with
   | u8=>exact Bool.eq_iff_iff.2 (by simp only[fZ,Ty.eq,beq_iff_eq];constructor;(intro h;exact UInt8.toNat_inj.1 (by omega));grind)
   | _=>grind [fZ,Ty.eq]
 | bool=>
  refine ⟨λi d v1 v2 gQ be hl he hd h1 Y=>?_,λfs off d v1 v2 xs ys hl=>by simp[aq] at hl⟩
  simp only[Ro] at h1 Y
  subst h1;subst Y
  have hu:P.underlying i=some .bool:=by
   grind [aq]
  cases d with
  | zero=>simp[dep] at hd
  | succ d=>rw[bp _ _ rfl,bp _ _ rfl,run_equalIn_bool' w d i _ _ hu];rfl
 | str=>
  refine ⟨λi d v1 v2 gQ be hl he hd h1 Y=>?_,λfs off d v1 v2 xs ys hl=>by simp[aq] at hl⟩
  simp only[Ro] at h1 Y
  subst h1;subst Y
  cases d with
  | zero=>simp[dep] at hd
  | succ d=>
   rw[bp _ _ rfl,bp _ _ rfl,run_equalIn_string w d i _ _ (eN hl),ByteArray.toList_mk,ByteArray.toList_mk]
   grind [Ty.eq]
 | unit=>
  refine ⟨λi d v1 v2 gQ be hl he hd h1 Y=>?_,λfs off d v1 v2 xs ys hl he hd h1 Y=>?_⟩
  ·simp only[Ro] at h1 Y
   subst h1;subst Y
   simp only[aq,Bool.and_eq_true] at hl
   have h3:=hl.2
   split at h3
   ·rename_i fs hu
    have hf:P.fieldsOf i=fs:=by simp[Program.fieldsOf,hu]
    cases d with
    | zero=>simp[dep] at hd
    | succ d=>
     have yA:fs.toList=[]:=List.isEmpty_iff.1 h3
     simp only[iL,Bool.not_eq_true'] at he
     show (Op.equalIn (d+1) i (.agg #[]) (.agg #[])).run P w=_
     rw[run_equalIn_struct w d i _ _ (by grind) he,hf,yA]
     rfl
   ·cases h3
  ·simp only[aq,List.isEmpty_iff] at hl
   subst hl
   rfl
 | pair a b eG et=>
  have second:∀ (fs:List Field) (off d:Nat) (v1 v2:(Ty.pair a b).den) (xs ys:Array Value),aq P (.pair a b) (.inr (fs,off))=true->iL P (.pair a b) (.inr fs)=true->dep (.pair a b)<=d+1->Ro P w A (.pair a b) v1 (xs.toList.drop off)->Ro P w A (.pair a b) v2 (ys.toList.drop off)->(Op.eqFields d xs ys fs).run P w=.ok ((Ty.pair a b).eq v1 v2) w:=by
   intro fs off d v1 v2 xs ys hl he hd h1 Y
   cases fs with
   | nil=>simp[aq] at hl
   | cons f r=>
    simp only[aq,Bool.and_eq_true,Nat.beq_eq,Nat.ble_eq] at hl
    simp only[iL,Bool.and_eq_true,bne_iff_ne,ne_eq] at he
    simp only[dep] at hd
    obtain ⟨Gh,Gj⟩:=h1
    obtain ⟨Oz,OA⟩:=Y
    have p1:=kN (P:=P) (w:=w) hl.1.2 (cs:=xs) (off:=off) (Ro.length _ Gh)
    have p2:=kN (P:=P) (w:=w) hl.1.2 (cs:=ys) (off:=off) (Ro.length _ Oz)
    have e1:=eG.1 f.type d v1.1 v2.1 _ _ hl.1.2 he.1.2 (by omega) Gh Oz
    rw[List.drop_drop] at Gj OA
    have e2:=et.2 r (off+a.sz) d v1.2 v2.2 xs ys hl.2 he.2 (by omega) Gj OA
    simp only[Op.eqFields,ne_eq,he.1.1,not_false_eq_true,if_true,Sem.run_bind,hl.1.1.1,p1,p2,e1,Result.andThen_ok]
    cases hq:a.eq v1.1 v2.1 <;> simp_all [Ty.eq]
  refine ⟨λi d v1 v2 gQ be hl he hd h1 Y=>?_,second⟩
  simp only[aq,Bool.and_eq_true] at hl
  simp only[iL,Bool.and_eq_true,Bool.not_eq_true'] at he
  have h3:=hl.2
  have h4:=he.2
  split at h3
  ·rename_i fs hu
   rw[hu] at h4
   simp only at h4
   have hf:P.fieldsOf i=fs:=by simp[Program.fieldsOf,hu]
   split at h3
   ·rename_i f r w9
    rw[w9] at h4
    simp only at h4
    cases d with
    | zero=>grind [dep]
    | succ d=>
     show (Op.equalIn (d+1) i (.agg gQ.toArray) (.agg be.toArray)).run P w=_
     rw[run_equalIn_struct w d i _ _ (by grind) he.1,hf,w9]
     refine second (f::r) 0 d v1 v2 _ _ ?_ ?_ hd (by simpa using h1) (by simpa using Y)
     all_goals grind [aq,iL]
   ·cases h3
  ·cases h3
 | arr n e ih=>
  refine ⟨λi d v1 v2 gQ be hl he hd h1 Y=>?_,λfs off d v1 v2 xs ys hl=>by simp[aq] at hl⟩
  simp only[aq,Bool.and_eq_true] at hl
  have h3:=hl.2
  simp only[iL] at he
  split at h3
  ·rename_i n' el hu
   simp only[Bool.and_eq_true,Nat.beq_eq,Nat.ble_eq] at h3
   obtain ⟨⟨rfl,_⟩,hle⟩:=h3
   rw[hu] at he
   simp only at he
   obtain ⟨inf,i1,i2,_⟩:=dM (eh hle)
   have fi:P.cellsOf el=e.sz:=by grind [Program.cellsOf]
   obtain ⟨_,l1,_,r1⟩:=h1
   obtain ⟨_,l2,_,r2⟩:=Y
   cases d with
   | zero=>simp[dep] at hd
   | succ d=>
    simp only[dep] at hd
    have key:∀ (m j:Nat),j+m=n->(Op.eqItems d el e.sz gQ.toArray be.toArray (List.range' j m)).run P w=.ok (((List.drop j v1).zip (List.drop j v2)).all λp=>e.eq p.1 p.2) w:=by
     intro m
     induction m with
     | zero=>
      intro j hj
      rw[List.drop_of_length_le (by omega)]
      rfl
     | succ m LV=>
      intro j hj
      have g1:=List.getElem?_eq_getElem (l:=v1) (i:=j) (by omega)
      have g2:=List.getElem?_eq_getElem (l:=v2) (i:=j) (by omega)
      have J:=r1 j _ g1
      have a2:=r2 j _ g2
      have p1:=kN (P:=P) (w:=w) hle (cs:=gQ.toArray) (off:=j*e.sz) (Ro.length _ J)
      have p2:=kN (P:=P) (w:=w) hle (cs:=be.toArray) (off:=j*e.sz) (Ro.length _ a2)
      have e1:=ih.1 el d _ _ _ _ hle he (by omega) J a2
      rw[List.range'_succ,List.drop_eq_getElem_cons (l:=v1) (i:=j) (by omega),List.drop_eq_getElem_cons (l:=v2) (i:=j) (by omega)]
      simp only[Op.eqItems,Sem.run_bind,p1,p2,e1,Result.andThen_ok,List.zip_cons_cons,List.all_cons]
      cases hq:e.eq v1[j] v2[j] with
      | true=>grind
      | false=>simp
    show (Op.equalIn (d+1) i (.agg gQ.toArray) (.agg be.toArray)).run P w=_
    rw[run_equalIn_array w d _ _ hu i1,fi,List.range_eq_range']
    exact key n 0 (by omega)
  ·cases h3
 | _=>grind [iL]
end
section
variable {P:Program} {C:Ctx} {A:Cells} {X:FP} {σ:St} {a:Act} {w:World} {F:Nat->FP} {R:Type} {x:R} {Q:Exit->Act->World->Prop} {o:Oper} {E:Env}
def JD (P:Program) (E:Env):Prop:=∀ i T,E.TI i=some T->T.fv=true->isAgg T=true->iL P T (.inl i)=true/\P.eqGuardType P.depth i=false/\dep T<=10000
theorem sr {op:BinOp} {t:TypeId} {y z:Operand} {u v:Value} (h:¬ (∃ p q,u=.agg p/\v=.agg q)) (Y:u≠.nilIface):(eqGuard op t y z u v).run P w=.ok () w:=by
 simp_all [eqGuard]
theorem Ro.fv {w':World} {A':Cells}:∀ (t:Ty) {v:t.den} {cs:List Value},t.fv=true->Ro P w A t v cs->Ro P w' A' t v cs:=by
 intro t
 induction t with
 | pair a b eG et=>
  intro v cs hq h
  simp only[Ty.fv,Bool.and_eq_true] at hq
  exact ⟨eG hq.1 h.1,et hq.2 h.2⟩
 | arr n e ih=>intro v cs hq h;exact ⟨h.1,h.2.1,h.2.2.1,λi x hx=>ih hq (h.2.2.2 i x hx)⟩
 | aa e ih=>grind [Ty.fv]
 | ptr e ih=>grind [Ty.fv]
 | fn=>grind [Ty.fv]
 | map k v=>grind [Ty.fv]
 | _=>intro v cs hq h;exact h
theorem Ep (h:bn P C A σ a w F) (dZ:∀ i T,E.TI i=some T->aq P T (.inl i)=true) (heq:JD P E) {op:BinOp} {t t2:Nat} {y z:Operand} (ho:o.op=.binOp op t y z t2) (ap:bg P y=true/\bg P z=true) {K:St->Option R}
  (hk:Az E t op (bh σ y) (bh σ z) (λt v=>K (σ.aI o.dst (.val t v)))=some x):Tk P o a w (Nx P C K x):=by
 rcases bE h ap.1 with hy | ⟨xs,e⟩
 rotate_left
 ·grind [Az]
 rcases bE h ap.2 with hz | ⟨xs,e⟩
 rotate_left
 ·grind [Az]
 have fin:∀ (ty:Ty) (v:ty.den) (tv:Value),K (σ.aI o.dst (.val ty v))=some x->Ro P w A ty v [tv]->isAgg ty=false->(∀ w',jS o w w'->(eqGuard op t y z (a.eval y) (a.eval z)).run P w'=.ok () w')->(∀ w',jS o w w'->(binOp op t (a.eval y) (a.eval z)).run P w'=.ok tv w')->Tk P o a w (Nx P C K x):=λty v tv hk hr ha hg hb=>by
  refine bW (v:=tv) (λw' jw=>?_) (aP h hk ⟨[tv],(bp ty tv ha).symm,hr⟩ (λ_ _ _ _ e=>by cases e))
  grind [execOp,Sem.run_bind,Result.andThen_ok,Sem.run_pure]
 unfold Az at hk
 split at hk
 ·rename_i k n1 k' n2 A5 A6
  rw[A5] at hy
  rw[A6] at hz
  have e1:=pw hy
  have e2:=pw hz
  have hg:∀ w',jS o w w'->(eqGuard op t y z (a.eval y) (a.eval z)).run P w'=.ok () w':=λw' _=>by grind [sr]
  have tg:(k=k'\/op=.shl\/op=.shr)/\Ay op k (fZ k n1) (fZ k' n2) (λt v=>K (σ.aI o.dst (.val t v)))=some x:=by
   grind
  obtain ⟨ty,v,tv,q1,q2,q3,q4⟩:=KD (P:=P) (A:=A) (w:=w) tg.2 tg.1 (λe=>by subst e;exact Gf n1) (λe=>by subst e;exact Gf n2) t
  grind
 ·rename_i s1 s2 A5 A6
  rw[A5] at hy
  rw[A6] at hz
  have e1:=pv hy
  have e2:=pv hz
  have hg:∀ w',jS o w w'->(eqGuard op t y z (a.eval y) (a.eval z)).run P w'=.ok () w':=λw' _=>by grind [sr]
  obtain ⟨ty,v,tv,q1,q2,q3,q4⟩:=KE (P:=P) (A:=A) (w:=w) hk t
  grind
 ·rename_i ty v1 QI v2 Te QJ A5 A6
  rw[A5] at hy
  rw[A6] at hz
  have main:∀ (e:ty=QI) (hq:ty.fv=true) (hT:E.TI t=some ty) (w':World),jS o w w'->(eqGuard op t y z (a.eval y) (a.eval z)).run P w'=.ok () w'/\(∀ b,b=ty.eq v1 (e ▸ v2)->(op=.eql->(binOp op t (a.eval y) (a.eval z)).run P w'=.ok (.bool b) w')/\(op=.neq->(binOp op t (a.eval y) (a.eval z)).run P w'=.ok (.bool (!b)) w')):=λe hq hT w' jw=>by
   subst e
   obtain ⟨gQ,e1,r1⟩:=hy
   obtain ⟨be,e2,r2⟩:=hz
   have r1:=Ro.fv (w':=w') (A':=A) _ hq r1
   have r2:=Ro.fv (w':=w') (A':=A) _ hq r2
   have cJ:=dZ _ _ hT
   cases QL:isAgg ty with
   | true=>
    obtain ⟨q1,q2,q3⟩:=heq _ _ hT hq QL
    have SR:=(JC (P:=P) (w:=w') (A:=A) ty).1 t 10000 v1 v2 gQ be cJ q1 q3 r1 r2
    simp_all [aZ,run_eqGuard_agg,run_eql_struct,run_neq_struct]
   | false=>
    cases ty with
    | int k=>grind
    | str=>grind
    | bool=>
     simp only[Ro] at r1 r2
     subst r1;subst r2
     rw[bp _ _ rfl] at e1 e2
     have hu:P.underlying t=some .bool:=by
      grind [aq]
     rw[e1,e2]
     refine ⟨sr (by grind) (by grind),λb hb=>⟨λh=>?_,λh=>?_⟩⟩
     ·subst h;subst hb
      have:=run_equalIn_bool' (P:=P) w' 9999 t v1 v2 hu
      simp only[Go.binOp,Op.equal,Op.maxDepth,Sem.run_bind,this,Result.andThen_ok,Sem.run_pure];rfl
     ·subst h;subst hb
      have:=run_equalIn_bool' (P:=P) w' 9999 t v1 v2 hu
      simp only[Go.binOp,Op.equal,Op.maxDepth,Sem.run_bind,this,Result.andThen_ok,Sem.run_pure];rfl
    | _=>grind [Ty.fv,isAgg]
  split at hk
  ·split at hk
   ·rename_i hq
    obtain ⟨T,hT,hk⟩:=bN hk
    split at hk
    ·rename_i e;subst e
     obtain ⟨e,hk⟩:=aU hk
     have m:=main e.symm hq hT
     subst e
     exact fin .bool _ _ hk rfl rfl (λw' jw=>(m w' jw).1) (λw' jw=>((m w' jw).2 _ rfl).1 rfl)
    ·cases hk
   ·cases hk
  ·split at hk
   ·rename_i hq
    obtain ⟨T,hT,hk⟩:=bN hk
    split at hk
    ·rename_i e;subst e
     obtain ⟨e,hk⟩:=aU hk
     have m:=main e.symm hq hT
     subst e
     exact fin .bool _ _ hk rfl rfl (λw' jw=>(m w' jw).1) (λw' jw=>((m w' jw).2 _ rfl).2 rfl)
    ·cases hk
   ·cases hk
  ·cases hk
 ·rename_i e v A5 A6
  rw[A5] at hy
  rw[A6] at hz
  obtain ⟨T,hT,hk⟩:=bN hk
  split at hk
  ·rename_i eT
   subst eT
   obtain ⟨te,hu⟩:∃ te,P.underlying t=some (.slice te):=by
    grind [aq]
   obtain ⟨cs,h1,a0,cap,Y,h3,h4,h5⟩:=hy
   subst Y
   rw[bp _ _ rfl] at h1
   have OB:a.eval z=.slice none 0 0:=hz
   have hg:∀ w',jS o w w'->(eqGuard op t y z (a.eval y) (a.eval z)).run P w'=.ok () w':=λw' _=>by grind [sr]
   have key:∀ (b:Bool),qU v (K (σ.aI o.dst (.val .bool b))) (K (σ.aI o.dst (.val .bool !b)))=some x->K (σ.aI o.dst (.val .bool (if a0.isNone then b else !b)))=some x:=λb hb=>by
    cases v with
    | nil=>
     grind [qU,both]
    | cons y v=>
     have:a0.isNone=false:=by
      cases a0 <;> grind
     rw[this]
     exact hb
   unfold Lo at hk
   split at hk
   ·refine fin .bool _ (.bool a0.isNone) (key true hk) ?_ rfl hg λw' _=>?_
    ·cases a0 <;> rfl
    grind [run_equal_slice_nil,Go.binOp,Sem.run_bind,Result.andThen_ok,Sem.run_pure]
   ·refine fin .bool _ (.bool !a0.isNone) (key false hk) ?_ rfl hg λw' _=>?_
    ·cases a0 <;> rfl
    grind [run_neq_slice_nil]
   ·cases hk
  ·cases hk
 ·cases hk
end
end OT
set_option linter.unusedVariables false
set_option linter.unusedSimpArgs false
namespace OT
open Go
section
variable {P:Program} {C:Ctx} {A:Cells} {X:FP} {σ:St} {a:Act} {w:World} {F:Nat->FP} {R:Type} {x:R} {Q:Exit->Act->World->Prop} {o:Oper} {E:Env}
theorem fF (w:World) (ob:Obj):Ext w (w.alloc ob) (λ_ _=>0):=by
 refine ⟨by simp,λb i hb _ u hu=>?_,λb n hn=>?_,λb i hb=>World.frozen?_alloc_old w ob _ (by simp;omega),rfl,rfl,rfl,λb hb _=>?_,Nat.le_refl _⟩
 ·grind [sd,World.alloc]
 ·obtain ⟨c,e,fr,h1,Y,h3⟩:=hn
  refine ⟨c,e,fr,?_,Y,h3⟩
  grind [World.alloc]
 grind [World.alloc]
theorem v_ (w:World):Ext w w.drew (λ_ _=>0):=⟨Nat.le_refl _,λ_ _ _ _ _ h=>h,λ_ _ h=>h,λ_ _ _=>rfl,rfl,rfl,rfl,λ_ _ _=>rfl,Nat.le_succ _⟩
theorem qy (w:World) (c:Array Value) (e:TypeId) (fr:Nat×Nat) (u:Bool) (hM:(u=true/\c.size<=fr.1)\/fr.2<=fr.1):cr (w.alloc (.cells c e fr)) w.heap.size (c.size,u):=
 ⟨c,e,fr,heap_alloc_new w _,rfl,λi hi=>by grind,λhu=>by grind⟩
theorem oo (w:World) (c:Array Value) (e:TypeId) (fr:Nat×Nat) {k:Nat} {L:List Value} (hL:∀ j u,L[j]?=some u->c[k+j]?=some u) (gW:∀ u ∈ L,u.oneCell'=true):Has (w.alloc (.cells c e fr)) w.heap.size k L:=by
 intro j u hu
 grind [yn,World.cell?,heap_alloc_new]
theorem Rel.alloc (h:Rel P C A X σ a w F) (c:Array Value) (e:TypeId) (fr:Nat×Nat):Rel P C A (λb i=>X b i+bj w.heap.size 0 c.size b i) σ a (w.alloc (.cells c e fr)) F:=by
 refine h.grow (fF w _) (λ_ _ h=>h) (λ_ _ h=>.inl h) (λb i=>?_)
 by_cases hb:b=w.heap.size
 ·subst hb
  right
  have hx:X w.heap.size i=0:=by
   rcases Nat.eq_zero_or_pos (X w.heap.size i) with h0 | h0
   ·exact h0
   ·have:=h.dA w.heap.size i (.inl (by omega));omega
  exact ⟨Nat.le_refl _,by simp,by grind [bj]⟩
 grind [bj]
theorem Rel.drew (h:Rel P C A X σ a w F):Rel P C A X σ a w.drew F:=h.grow (v_ w) (λ_ _ h=>h) (λ_ _ h=>.inl h) (λ_ _=>.inl (Nat.le_refl _))
theorem af.alloc (h:Rel P C A X σ a w F) {t:Ty} {m:Md} {H:List Path} {v:t.den} {cs:List Value} {G:FP} (hr:af P w A t m H v cs G) (hG:∀ b i,1<=G b i->b < w.heap.size) {w':World} (hw:Ext w w' (λ_ _=>0)):af P w' A t m H v cs G:=
 af.mono (λ_ _ h=>h) (λb i ha u hu=>hw.cell b i (h.dA b i (.inr ha)) rfl u hu) hw.lY t hr (λ_ _=>Nat.le_refl _) (λb i hp u hu=>hw.cell b i (hG b i hp) rfl u hu)
theorem Dr (h:Rel P C A X σ a w F) {K:St->Option R} {d:Option Tmp} {t:Ty} {m:Md} {v:t.den} {cs:List Value} {Fv:FP} (e:TypeId) (hk:K (σ.aI d (.box t m [] v))=some x)
  (hr:af P w A t m [] v cs Fv) (hX:∀ b i,Fv b i<=X b i):∃ A' F',Rel P C A' (λ_ _=>0) (σ.aI d (.box t m [] v)) (a.put d (.pointer (some ⟨w.heap.size,0,none⟩))) (w.alloc (.cells cs.toArray e)) F':=by
 have hl:=af.length t hr
 have h1:=h.alloc cs.toArray e (0,0)
 have cy:=qy w cs.toArray e (0,0) false (.inr (Nat.le_refl _))
 simp only[List.size_toArray,hl] at cy h1
 have oR:=af.alloc h hr (λb i hp=>h.dA b i (.inl (by grind))) (fF w (.cells cs.toArray e))
 obtain ⟨F',hF⟩:=h1.aI d (s:=.box t m [] v) (v:=.pointer (some ⟨w.heap.size,0,none⟩)) (Fd:=λb i=>bj w.heap.size 0 t.sz b i+Fv b i) (X':=λ_ _=>0)
  ⟨w.heap.size,0,cs,Fv,rfl,hl,oo w cs.toArray e (0,0) (λj u hu=>by simpa using hu) (af.one _ hr),λj hj=>by simp_all,λ_ _=>Nat.le_refl _,oR⟩
  (λb i=>by grind) (λt' m' H' v' e'=>by grind)
 grind
theorem jT:∀ (t:Ty),t.lw=true->∃ L,zc t=some L:=by
 intro t
 induction t <;> grind [Ty.lw,zc]
theorem Gk (h:bn P C A σ a w F) (dZ:∀ i T,E.TI i=some T->aq P T (.inl i)=true) {t:Nat} (ho:o.op=.alloc t) {K:St->Option R}
  (hk:(gA E t λT=>if T.lw then K (σ.aI o.dst (.box T (av T) [] T.zero)) else none)=some x):o.wp P a w (λa' w'=>Nx P C K x a' w'/\Ext w w' (λ_ _=>0)) Q:=by
 obtain ⟨T,hT,hk⟩:=bN hk
 split at hk
 ·rename_i vu
  have cJ:=dZ _ _ hT
  obtain ⟨L,hL⟩:=jT T vu
  obtain ⟨z,A7,Gl⟩:=oO (P:=P) (w:=w) cJ hL
  obtain ⟨r1,r2,r3⟩:=o3 (P:=P) (w:=w) (A:=A) T hL cJ
  refine fE (v:=.pointer (some ⟨w.heap.size,0,none⟩)) (w':=w.alloc (.cells L.toArray t)) ?_ ?_
  ·have:z.cells=L.toArray:=by grind
   simp_all [execOp,Instr.alloc,newVar,newRow]
  ·obtain ⟨A',F',hF⟩:=Dr h t hk r1 (λ_ _=>Nat.le_refl _)
   exact ⟨⟨_,hk,A',F',hF⟩,fF w _⟩
 ·cases hk
end
end OT
set_option linter.unusedVariables false
set_option linter.unusedSimpArgs false
namespace OT
open Go
section
variable {P:Program} {C:Ctx} {A:Cells} {X:FP} {σ:St} {a:Act} {w:World} {F:Nat->FP} {R:Type} {x:R} {Q:Exit->Act->World->Prop} {o:Oper} {E:Env}
theorem uW (h:Rel P C A X σ a w F) {K:St->Option R} {d:Option Tmp} {e:Ty} {m:Md} {v:List e.den} {c:Array Value} {cap:Nat} {el:TypeId} {fr:Nat×Nat} {Fi:Nat->FP} (hM:(vT e=true/\c.size<=fr.1)\/fr.2<=fr.1)
  (hk:K (σ.aI d (.own (.aa e) (.aa true m) [] v))=some x) (hc:c.size=cap*e.sz) (gX:cap<=maxLen) (hv:List.length v<=cap) (hX:∀ b i,ao (List.length v) Fi b i<=X b i)
  (jG:∀ (i:Nat) (y:e.den),v[i]?=some y->∃ L:List Value,L.length=e.sz/\(∀ j u,L[j]?=some u->c[i*e.sz+j]?=some u)/\af P w A e m [] y L (Fi i)) :
  Nx P C K x (a.put d (.slice (some ⟨w.heap.size,0,none⟩) (List.length v) cap)) (w.alloc (.cells c el fr)):=by
 have h1:=h.alloc c el fr
 have cy:=qy w c el fr (vT e) hM
 rw[hc] at cy h1
 refine gq h1 hk (Fd:=λb i=>bj w.heap.size 0 (cap*e.sz) b i+ao (List.length v) Fi b i) ⟨_,(bp (.aa e) _ rfl).symm,?_⟩ (λb i=>by grind) (λ_ _ _ _ e=>by cases e)
 simp only[af,hole,List.any_nil,Bool.false_eq_true,if_false,Md.own,if_true,Md.e]
 refine ⟨_,cap,rfl,hv,gX,(λe=>by cases e),λad di=>?_⟩
 injection di with di;subst di
 refine ⟨rfl,rfl,cy,Fi,λ_ _=>Nat.le_refl _,λi y hy=>?_⟩
 obtain ⟨L,l1,l2,l3⟩:=jG i y hy
 have hi:=(List.getElem?_eq_some_iff.1 hy).1
 refine ⟨L,l1,oo w c el fr l2 (af.one _ l3),?_⟩
 simp only[List.filterMap_nil]
 exact af.alloc h l3 (λb k hp=>h.dA b k (.inl (by grind [a_]))) (fF w _)
theorem zZ (h:bn P C A σ a w F) (dZ:∀ i T,E.TI i=some T->aq P T (.inl i)=true) {t:Nat} {y z:Operand} (ho:o.op=.makeSlice t y z) (ap:bg P y=true/\bg P z=true) {K:St->Option R}
  (hk:(gA E t λt=>match t with
  | .aa e=>lQ (bh σ y) λn=>lQ (bh σ z) λc=>
   if e.lw then (if 0<=n/\n<=c/\c<=(bX:Int) then K (σ.aI o.dst (.own (.aa e) (av (.aa e)) [] (List.replicate n.toNat e.zero))) else none) else none
  | _=>none)=some x):o.wp P a w (λa' w'=>Nx P C K x a' w'/\Ext w w' (λ_ _=>0)) Q:=by
 obtain ⟨T,hT,hk⟩:=bN hk
 have cJ:=dZ _ _ hT
 split at hk
 ·rename_i e
  rcases bE h ap.1 with hy | ⟨xs,e'⟩
  rotate_left
  ·rw[e'] at hk;cases hk
  obtain ⟨k1,n,hn,hk⟩:=l7 hy hk
  rcases bE h ap.2 with hz | ⟨xs,e'⟩
  rotate_left
  ·rw[e'] at hk;cases hk
  obtain ⟨k2,c,hc,hk⟩:=l7 hz hk
  split at hk
  ·rename_i vu
   split at hk
   ·rename_i hb
    obtain ⟨el,hu,fi,hle⟩:=kx cJ
    obtain ⟨inf,i1,i2,i3,i4⟩:=dM (eh hle)
    obtain ⟨L,hL⟩:=jT e vu
    obtain ⟨zv,z1,z2⟩:=i4 L hL
    obtain ⟨r1,r2,r3⟩:=o3 (P:=P) (w:=w) (A:=A) e hL hle
    have LW:(inf.bytes:Int)*c<=281474976710656:=by
     have h1:(inf.bytes:Int)<=512:=by omega
     have Y:(inf.bytes:Int)*c<=512*c:=Int.mul_le_mul_of_nonneg_right h1 (by omega)
     grind [bX]
    have dB:=run_make (P:=P) w t el inf zv hu i1 z1 k1 k2 n c hb.1 hb.2.1 LW (by grind [bX])
    have Tf:zv.cells.size=e.sz:=by grind
    have hlen:List.length (List.replicate n.toNat e.zero)=n.toNat:=by simp
    refine fE (v:=.slice (some ⟨w.heap.size,0,none⟩) n.toNat c.toNat) (w':=w.alloc (.cells (madeCells zv.cells (c.toNat*inf.size)) el)) ?_ ?_
    ·grind [execOp,Sem.run_bind,Result.andThen_ok,Sem.run_pure]
    ·refine ⟨?_,fF w _⟩
     have pU:=uW h (K:=K) (d:=o.dst) (v:=List.replicate n.toNat e.zero) (c:=madeCells zv.cells (c.toNat*inf.size)) (cap:=c.toNat) (el:=el) (fr:=(0,0)) (m:=av e) (Fi:=λ_ _ _=>0) (.inr (Nat.le_refl _)) hk
      (by rw[size_madeCells,i2]) (by grind [bX,maxLen]) (by grind) (λb i=>by grind [eF])
      (λi y hy=>by
       have hi:i < n.toNat:=by grind
       have hy:y=e.zero:=by grind
       subst hy
       refine ⟨L,r3,λj u hu=>?_,r1⟩
       have hj:j < e.sz:=r3 ▸ (List.getElem?_eq_some_iff.1 hu).1
       have aB:i*e.sz+j < c.toNat*e.sz:=by
        have:(i+1)*e.sz<=c.toNat*e.sz:=Nat.mul_le_mul_right _ (by omega)
        grind
       grind [Nat.mul_comm,Nat.mul_add_mod,Nat.mod_eq_of_lt,madeCells])
     grind
   ·cases hk
  ·cases hk
 ·cases hk
theorem A8 (h:bn P C A σ a w F) (dZ:∀ i T,E.TI i=some T->aq P T (.inl i)=true) {s t:Nat} {y:Operand} (ho:o.op=.convert s t y) (ap:bg P y=true) (Ds:∀ T,E.TI t=some T->T.flat=true) {K:St->Option R}
  (hk:sa E σ s t (bh σ y) o.dst K=some x):Tk P o a w (Nx P C K x):=by
 unfold sa at hk
 obtain ⟨S,hS,hk⟩:=bN hk
 obtain ⟨T,hT,hk⟩:=bN hk
 have pL:=dZ _ _ hS
 have pV:=dZ _ _ hT
 rcases bE h ap with hs | ⟨xs,e⟩
 rotate_left
 ·grind [jy]
 split at hk
 ·rename_i k
  split at hk
  ·rename_i k' n hv
   rw[hv] at hs
   have e:=pw hs
   split at hk
   ·rename_i JE
    obtain ⟨dS,hd,_⟩:=oZ pL
    refine bW (v:=.int k (k.wrap (fZ k' n))) (λw' _=>?_) (aP h hk ⟨[_],rfl,by simp only[Ro,iS]⟩ (λ_ _ _ _ e=>by cases e))
    unfold execOp
    simp only[ho,e,Sem.run_bind]
    have:(convert s t (.int k' (fZ k' n))).run P w'=.ok (.int k (k.wrap (fZ k' n))) w':=by
     unfold convert
     simp only[Sem.run_bind,run_underlying hd,run_underlying (gP pV),Result.andThen_ok]
     cases dS <;> rfl
    simp_all
   ·cases hk
  ·cases hk
 ·split at hk
  ·split at hk
   ·rename_i b hv
    rw[hv] at hs
    have e:=pv hs
    refine bW (v:=.string ⟨List.toArray b⟩) (λw' _=>?_) (aP h hk ⟨[_],rfl,rfl⟩ (λ_ _ _ _ e=>by cases e))
    unfold execOp
    have:(convert s t (.string ⟨List.toArray b⟩)).run P w'=.ok (.string ⟨List.toArray b⟩) w':=by
     unfold convert
     simp only[Sem.run_bind,run_underlying (eN pL),run_underlying (eN pV),Result.andThen_ok]
     rfl
    simp_all
   ·cases hk
  ·obtain ⟨v,cs,hk,h1,Y⟩:=Di h hs hk
   obtain ⟨el,hu,_,hle⟩:=kx pL
   obtain ⟨xa,cap,q1,q2,q3,q4⟩:=Y
   subst q1
   rw[bp _ _ rfl] at h1
   have v8:List UInt8:=v
   have dB:∀ w',jS o w w'->(convert s t (a.eval y)).run P w'=.ok (.string ⟨List.toArray v⟩) w':=λw' jw=>by
    have jw:=jw (by rw[ho];rfl)
    rw[h1]
    cases xa with
    | none=>
     have:v=[]:=List.eq_nil_of_length_eq_zero (q3 rfl)
     subst this
     exact run_convert_bytes_nil w' s el hu (gP hle) _ _ t (eN pV)
    | some ad=>
     obtain ⟨g1,g2⟩:=q4 _ rfl
     refine run_convert_bytes_back w' s t el _ cap v hu (gP hle) (eN pV) λj hj=>?_
     obtain ⟨L,l1,l2,l3⟩:=g2 j _ (List.getElem?_eq_getElem hj)
     simp only[Ro] at l3
     subst l3
     have:=(l2 0 _ rfl).1
     obtain ⟨b,off,sp⟩:=ad
     have iY:=g1 (by omega)
     simp only at iY
     subst iY
     rw[gV]
     simp only[Ty.sz,Nat.mul_one,Nat.add_zero] at this
     exact lh (jw.cell _ _ (lK this) rfl _ this) rfl
   refine bW (v:=.string ⟨List.toArray v⟩) (λw' jw=>?_) (aP h hk ⟨[_],rfl,rfl⟩ (λ_ _ _ _ e=>by cases e))
   grind [execOp,Sem.run_bind,Result.andThen_ok,Sem.run_pure]
  ·cases hk
 all_goals grind [Ty.flat]
theorem xe (h:bn P C A σ a w F) (dZ:∀ i T,E.TI i=some T->aq P T (.inl i)=true) {s t:Nat} {y:Operand} (ho:o.op=.convert s t y) (ap:bg P y=true) (Ds:∀ T,E.TI t=some T->T.flat=true) (xf:(match bh σ y with | .val (.int _) _=>true | .val .str _=>true | .val (.aa (.int .u8)) _=>true | _=>false)=true) {K:St->Option R}
  (hk:sa E σ s t (bh σ y) o.dst K=some x) :
  ∃ v,(∀ w',(∀ b i,A b i->∀ u,ce w b i=some u->ce w' b i=some u)->(execOp a.eval o).run P w'=.ok (.value v) w')/\Nx P C K x (a.put o.dst v) w:=by
 unfold sa at hk
 obtain ⟨S,hS,hk⟩:=bN hk
 obtain ⟨T,hT,hk⟩:=bN hk
 have pL:=dZ _ _ hS
 have pV:=dZ _ _ hT
 rcases bE h ap with hs | ⟨xs,e⟩
 rotate_left
 ·grind
 split at hk
 ·rename_i k
  split at hk
  ·rename_i k' n hv
   rw[hv] at hs
   have e:=pw hs
   split at hk
   ·rename_i JE
    obtain ⟨dS,hd,_⟩:=oZ pL
    refine ⟨.int k (k.wrap (fZ k' n)),(λw' _=>?_),aP h hk ⟨[_],rfl,by simp only[Ro,iS]⟩ (λ_ _ _ _ e=>by cases e)⟩
    unfold execOp
    simp only[ho,e,Sem.run_bind]
    have:(convert s t (.int k' (fZ k' n))).run P w'=.ok (.int k (k.wrap (fZ k' n))) w':=by
     unfold convert
     simp only[Sem.run_bind,run_underlying hd,run_underlying (gP pV),Result.andThen_ok]
     cases dS <;> rfl
    simp_all
   ·cases hk
  ·cases hk
 ·split at hk
  ·split at hk
   ·rename_i b hv
    rw[hv] at hs
    have e:=pv hs
    refine ⟨.string ⟨List.toArray b⟩,(λw' _=>?_),aP h hk ⟨[_],rfl,rfl⟩ (λ_ _ _ _ e=>by cases e)⟩
    unfold execOp
    have:(convert s t (.string ⟨List.toArray b⟩)).run P w'=.ok (.string ⟨List.toArray b⟩) w':=by
     unfold convert
     simp only[Sem.run_bind,run_underlying (eN pL),run_underlying (eN pV),Result.andThen_ok]
     rfl
    simp_all
   ·cases hk
  ·have Gm:∃ v',bh σ y=.val (.aa (.int .u8)) v':=by
    grind [jy,cS]
   obtain ⟨v,hv⟩:=Gm
   rw[hv] at hs hk
   simp only[jy] at hk
   obtain ⟨_,hk⟩:=aU hk
   obtain ⟨cs,h1,Y⟩:=hs
   obtain ⟨el,hu,_,hle⟩:=kx pL
   obtain ⟨xa,cap,q1,q2,q3,q4⟩:=Y
   subst q1
   rw[bp _ _ rfl] at h1
   have v8:List UInt8:=v
   have dB:∀ w',(∀ b i,A b i->∀ u,ce w b i=some u->ce w' b i=some u)->(convert s t (a.eval y)).run P w'=.ok (.string ⟨List.toArray v⟩) w':=λw' jw=>by
    rw[h1]
    cases xa with
    | none=>
     have:v=[]:=List.eq_nil_of_length_eq_zero (q3 rfl)
     subst this
     exact run_convert_bytes_nil w' s el hu (gP hle) _ _ t (eN pV)
    | some ad=>
     obtain ⟨g1,g2⟩:=q4 _ rfl
     refine run_convert_bytes_back w' s t el _ cap v hu (gP hle) (eN pV) λj hj=>?_
     obtain ⟨L,l1,l2,l3⟩:=g2 j _ (List.getElem?_eq_getElem hj)
     simp only[Ro] at l3
     subst l3
     have oh:=l2 0 _ rfl
     obtain ⟨b,off,sp⟩:=ad
     have iY:=g1 (by omega)
     simp only at iY
     subst iY
     rw[gV]
     simp only[Ty.sz,Nat.mul_one,Nat.add_zero] at oh
     exact lh (jw _ _ oh.2 _ oh.1) rfl
   refine ⟨.string ⟨List.toArray v⟩,(λw' jw=>?_),aP h hk ⟨[_],rfl,rfl⟩ (λ_ _ _ _ e=>by cases e)⟩
   grind [execOp,Sem.run_bind,Result.andThen_ok,Sem.run_pure]
  ·cases hk
 all_goals grind [Ty.flat]
theorem Cx (h:bn P C A σ a w F) (dZ:∀ i T,E.TI i=some T->aq P T (.inl i)=true) {s t:Nat} {y:Operand} (ho:o.op=.convert s t y) (ap:bg P y=true) {K:St->Option R}
  (hk:sa E σ s t (bh σ y) o.dst K=some x):o.wp P a w (λa' w'=>Nx P C K x a' w'/\Ext w w' (λ_ _=>0)) Q:=by
 unfold sa at hk
 obtain ⟨S,hS,hk⟩:=bN hk
 obtain ⟨T,hT,hk⟩:=bN hk
 have pL:=dZ _ _ hS
 have pV:=dZ _ _ hT
 rcases bE h ap with hs | ⟨xs,e⟩
 rotate_left
 ·grind [jy]
 split at hk
 ·rename_i k
  split at hk
  ·rename_i k' n hv
   rw[hv] at hs
   have e:=pw hs
   split at hk
   ·rename_i JE
    obtain ⟨dS,hd,_⟩:=oZ pL
    refine fE (v:=.int k (k.wrap (fZ k' n))) (w':=w) ?_ ⟨aP h hk ⟨[_],rfl,by simp only[Ro,iS]⟩ (λ_ _ _ _ e=>by cases e),Ext.refl _ _⟩
    unfold execOp
    simp only[ho,e,Sem.run_bind]
    have:(convert s t (.int k' (fZ k' n))).run P w=.ok (.int k (k.wrap (fZ k' n))) w:=by
     unfold convert
     simp only[Sem.run_bind,run_underlying hd,run_underlying (gP pV),Result.andThen_ok]
     cases dS <;> rfl
    simp_all
   ·cases hk
  ·cases hk
 ·split at hk
  ·split at hk
   ·rename_i b hv
    rw[hv] at hs
    have e:=pv hs
    refine fE (v:=.string ⟨List.toArray b⟩) (w':=w) ?_ ⟨aP h hk ⟨[_],rfl,rfl⟩ (λ_ _ _ _ e=>by cases e),Ext.refl _ _⟩
    unfold execOp
    have:(convert s t (.string ⟨List.toArray b⟩)).run P w=.ok (.string ⟨List.toArray b⟩) w:=by
     unfold convert
     simp only[Sem.run_bind,run_underlying (eN pL),run_underlying (eN pV),Result.andThen_ok]
     rfl
    simp_all
   ·cases hk
  ·obtain ⟨v,cs,hk,h1,Y⟩:=Di h hs hk
   obtain ⟨el,hu,_,hle⟩:=kx pL
   obtain ⟨xa,cap,q1,q2,q3,q4⟩:=Y
   subst q1
   rw[bp _ _ rfl] at h1
   have v8:List UInt8:=v
   have dB:(convert s t (a.eval y)).run P w=.ok (.string ⟨List.toArray v⟩) w:=by
    rw[h1]
    cases xa with
    | none=>
     have:v=[]:=List.eq_nil_of_length_eq_zero (q3 rfl)
     subst this
     exact run_convert_bytes_nil w s el hu (gP hle) _ _ t (eN pV)
    | some ad=>
     obtain ⟨g1,g2⟩:=q4 _ rfl
     refine run_convert_bytes_back w s t el _ cap v hu (gP hle) (eN pV) λj hj=>?_
     obtain ⟨L,l1,l2,l3⟩:=g2 j _ (List.getElem?_eq_getElem hj)
     simp only[Ro] at l3
     subst l3
     have:=(l2 0 _ rfl).1
     obtain ⟨b,off,sp⟩:=ad
     have iY:=g1 (by omega)
     simp only at iY
     subst iY
     rw[gV]
     simp only[Ty.sz,Nat.mul_one,Nat.add_zero] at this
     exact lh (this) rfl
   refine fE (v:=.string ⟨List.toArray v⟩) (w':=w) ?_ ⟨aP h hk ⟨[_],rfl,rfl⟩ (λ_ _ _ _ e=>by cases e),Ext.refl _ _⟩
   grind [execOp,Sem.run_bind,Result.andThen_ok,Sem.run_pure]
  ·cases hk
 ·split at hk
  ·rename_i b hv
   rw[hv] at hs
   have e:=pv hs
   split at hk
   ·rename_i JE
    rw[JE] at pL
    split at hk
    rotate_left
    ·cases hk
    rename_i gX
    obtain ⟨el,hu,_,hle⟩:=kx pV
    have dB:=run_bytes_of_string (P:=P) w s t el ⟨List.toArray b⟩ (eN pL) hu (gP hle)
    have hlen:(⟨List.toArray b⟩:ByteArray).size=List.length b:=rfl
    have JF:=grownCap_ge w (List.length b) 0 el
    have AK:=grownCap_le_maxLen w (List.length b) 0 el (by grind [bX,maxLen])
    rw[hlen] at dB
    have fi:(bytesRow ⟨List.toArray b⟩ (grownCap w (List.length b) 0 el)).size=grownCap w (List.length b) 0 el:=by
     grind [bytesRow]
    refine fE ?_ ⟨uW (h.drew) (K:=K) (d:=o.dst) (e:=.int .u8) (v:=b) (m:=.leaf) (Fi:=λ_ _ _=>0) (cap:=grownCap w (List.length b) 0 el) (el:=el) (fr:=((bytesRow ⟨List.toArray b⟩ (grownCap w (List.length b) 0 el)).size,(bytesRow ⟨List.toArray b⟩ (grownCap w (List.length b) 0 el)).size+1)) (c:=bytesRow ⟨List.toArray b⟩ (grownCap w (List.length b) 0 el)) (.inl ⟨rfl,Nat.le_refl _⟩) hk
     (by grind [Ty.sz]) AK JF (λb i=>by grind [eF]) (λi y hy=>?_),(v_ w).trans (fF w.drew _) (λ_ _ _ _=>rfl)⟩
    ·simp_all [execOp]
    ·have hi:=(List.getElem?_eq_some_iff.1 hy).1
     have hb:=bytesRow_at ⟨List.toArray b⟩ (grownCap w (List.length b) 0 el) i (by simpa using hi)
     refine ⟨[.int .u8 (UInt8.toNat y)],rfl,λj u hu=>?_,rfl⟩
     grind [Ty.sz]
   ·cases hk
  ·cases hk
 ·cases hk
end
end OT
set_option linter.unusedVariables false
set_option linter.unusedSimpArgs false
namespace OT
open Go
section
variable {P:Program} {C:Ctx} {A:Cells} {X:FP} {σ:St} {a:Act} {w:World} {F:Nat->FP} {R:Type} {x:R} {Q:Exit->Act->World->Prop} {o:Oper} {E:Env}
theorem A9 (h:bn P C A σ a w F) {i j:Nat} (ho:o.op=.extract (.tmp i) j) {K:St->Option R}
  (hk:(match σ.get i with
   | .iI xs=>match xs[j]? with
    | some x=>if x.t=.unit then none else K ((σ.put i (.iI (xs.set j ⟨.unit,.leaf,()⟩))).aI o.dst (laid x.t x.m x.v))
    | none=>none
   | _=>none)=some x):Tk P o a w (Nx P C K x):=by
 split at hk
 ·rename_i xs hg
  split at hk
  ·rename_i y hy
   split at hk
   ·cases hk
   ·rename_i Tg
    have hi:i < σ.n:=by
     grind [ek]
    have hs:=h.cj i hi
    rw[hg] at hs
    obtain ⟨vs,Fi,h1,Y,h3⟩:=hs
    obtain ⟨v,h4,h5⟩:=h3 j y hy
    rcases h5 with h5 | ⟨cs,h6,h7⟩
    ·grind
    have hj:=(List.getElem?_eq_some_iff.1 hy).1
    have qY:=h.put hi (s:=.iI (xs.set j ⟨.unit,.leaf,()⟩)) (v:=tmp a i) (Fd:=ao xs.length (bL Fi j λ_ _=>0)) (X':=Fi j)
     ⟨vs,bL Fi j λ_ _=>0,h1,λb k=>by grind,λk y' vo=>by
      rw[List.getElem?_set] at vo
      split at vo
      ·rename_i e;subst e
       injection vo with vo;subst vo;exact ⟨v,h4,.inl rfl⟩
      grind [bL]⟩
     (λb k=>by grind [jP]) (λt m H v e=>by cases e)
    rw[iw] at qY
    refine bW (v:=v) ?_ ?_
    ·unfold execOp
     have e:a.eval (.tmp i)=.tuple vs:=h1
     simp_all [Instr.extract]
    grind [pQ]
  ·cases hk
 ·cases hk
theorem Rel.PG (h:Rel P C A X σ a w F) {d n:Nat} (hd:∀ R,bk w (tmp a d) (σ.get d)=some R->aZ R.t R.cs=C.args.getD n undef):Rel P C A X { σ with aA:=(d,n,true)::σ.aA } a w F:=by
 have fe:nz σ a w { σ with aA:=(d,n,true)::σ.aA } a w:=λr p snap hb=>⟨hb,λap=>⟨ap,λhl pl df=>⟨pl.H,pl.cs,df,λ_=>rfl⟩⟩⟩
 refine ⟨h.size,h.defers,λi hi=>aV.eL fe (λ_ _ h=>h) (λ_ _ _ _ h=>h) (λ_ _ h=>h) (λ_ _ _=>⟨λ_ h=>h,rfl⟩) (h.cj i hi),λd r p snap hm=>iv.eL fe (h.gh d r p snap hm),h.f5,h.gD,h.dA,h.eg,h.ext,h.own,h.a0,h.J,λj k hm=>?_,λr t m H v hg hl=>h.whole r t m H v hg λk hm=>hl k (List.mem_cons_of_mem _ hm),λj k hm R hR=>?_,h.mB⟩
 ·rcases List.mem_cons.1 hm with e | hm
  ·grind
  ·exact h.fH j k hm
 ·rcases List.mem_cons.1 hm with e | hm
  ·injection e with e1 e2;injection e2 with e2 e3
   subst e1;subst e2
   exact hd R hR
  ·exact h.e7 j k hm R hR
theorem Er {l:List (Nat×Nat×Bool)} {i n:Nat} (h:wH l i=some n):(i,n,true) ∈ l:=by
 induction l <;> grind [wH,Nat.beq_eq]
theorem KF (h:bn P C A σ a w F) {t:Nat} {y:Operand} (ho:o.op=.box t y) (ap:bg P y=true) {mv:Bool} {K:St->Option R}
  (hk:(gA E t λt=>ep σ (bh σ y) mv t λm v σ'=>K (AB σ y o.dst (σ'.aI o.dst (.box t m [] v))))=some x):o.wp P a w (λa' w'=>Nx P C K x a' w'/\Ext w w' (λ_ _=>0)) Q:=by
 obtain ⟨T,hT,hk⟩:=bN hk
 rcases bE h ap with hs | ⟨xs,e⟩
 rotate_left
 ·grind [ep]
 have LX:=hk
 obtain ⟨A',σ',F',m,v,cs,Fv,k1,k2,k3,k4,kr,k5,k6⟩:=ko h hs hk
 have hl:=af.length _ k6
 have gW:=af.one _ k6
 have Ov:(aZ T cs).cells=cs.toArray:=by grind [dz]
 obtain ⟨A2,F2,hF⟩:=Dr k3 (K:=λs=>some s) (x:=σ'.aI o.dst (.box T m [] v)) (d:=o.dst) t rfl k6 (λb i=>by omega)
 refine fE (v:=.pointer (some ⟨w.heap.size,0,none⟩)) (w':=w.alloc (.cells cs.toArray t)) ?_ ?_
 ·simp_all [execOp,Instr.box,newVar,newRow]
 ·refine ⟨⟨_,k1,A2,F2,?_⟩,fF w _⟩
  clear hk
  unfold AB
  split
  ·rename_i i d hd
   split
   ·rename_i t0 m0 H0 v0 hg
    split
    ·rename_i n hn
     rw[hd] at hF ⊢
     refine Rel.PG hF λR hR=>?_
     have eO:=h.e7 i n (Er hn) ⟨t0,H0,(tmp a i).cells.toList,none⟩ (by rw[hg];rfl)
     have dZ:tmp a i=aZ T cs:=k5
     have th:t0=T:=by
      simp only[bh,hg] at LX
      grind [ep,gg,mq,fw,aU]
     subst th
     simp only[dZ,dz hl gW] at eO
     simp only[St.aI,nA] at hR
     split at hR
     ·rename_i hc
      have QM:tmp (a.put (some d) (.pointer (some ⟨w.heap.size,0,none⟩))) d=.pointer (some ⟨w.heap.size,0,none⟩):=by
       rw[fD,if_pos ⟨rfl,by rw[h.size,<- k4];exact hc.2⟩]
      rw[QM] at hR
      simp only[bk,Option.some.injEq] at hR
      subst hR
      have hh:=oo w cs.toArray t (0,0) (k:=0) (L:=cs) (λj u hu=>by simpa using hu) gW
      grind [bB]
     ·rename_i hc
      have JF:σ'.n<=d:=by
       grind
      rw[ek (Nat.not_lt.2 JF)] at hR;cases hR
    ·exact hF
   ·exact hF
  ·exact hF
end
end OT
set_option linter.unusedVariables false
set_option linter.unusedSimpArgs false
namespace OT
open Go
section
variable {P:Program} {C:Ctx} {A:Cells} {X:FP} {σ:St} {a:Act} {w:World} {F:Nat->FP} {R:Type} {x:R} {Q:Exit->Act->World->Prop} {o:Oper} {E:Env}
theorem Rel.giveUp (h:Rel P C A X σ a w F) {A1:Cells} {X1:FP} (hA:∀ b i,A b i->A1 b i) (tO:∀ b i,A1 b i->A b i\/(1<=X b i/\X1 b i=0)) (hX:∀ b i,X1 b i<=X b i):Rel P C A1 X1 σ a w F:=by
 have fe:nz σ a w σ a w:=λr p snap hb=>⟨hb,λap=>⟨ap,λhl pl df=>⟨pl.H,pl.cs,df,λ_=>rfl⟩⟩⟩
 refine ⟨h.size,h.defers,λi hi=>aV.eL fe hA (λ_ _ _ _ h=>h) (λ_ _ h=>h) (λ_ _ _=>⟨λ_ h=>h,rfl⟩) (h.cj i hi),h.gh,λb i=>by have:=h.f5 b i;grind,
  λb i hp ha=>?_,λb i hp=>?_,h.eg,h.ext,λb i hp=>h.own b i (by grind),λb i ha=>hA b i (h.a0 b i ha),λb i ha=>?_,h.fH,h.whole,h.e7,h.mB⟩
 ·rcases tO b i ha with ha | ha
  ·exact h.gD b i (by grind) ha
  ·have:=h.f5 b i;omega
 ·rcases hp with hp | ha
  ·exact h.dA b i (.inl (by grind))
  ·rcases tO b i ha with ha | ha
   ·exact h.dA b i (.inr ha)
   ·exact h.dA b i (.inl (by omega))
 ·rcases tO b i ha with ha | ha
  ·exact h.J b i ha
  ·exact .inr (h.own b i (by omega))
theorem Gn {off:Nat} {l cs:List Value} (h:off+l.length<=cs.length) :
  ((l.toArray.zipIdx).foldl (λcs (x:Value×Nat)=>cs.setIfInBounds (off+x.2) x.1) cs.toArray)=(cs.take off++l++cs.drop (off+l.length)).toArray:=by
 obtain ⟨h1,Y⟩:=Great.foldl_set off l 0 cs.toArray
 have e:(l.toArray.zipIdx).foldl (λcs (x:Value×Nat)=>cs.setIfInBounds (off+x.2) x.1) cs.toArray=(l.zipIdx 0).foldl (λcs (x:Value×Nat)=>cs.setIfInBounds (off+x.2) x.1) cs.toArray:=by simp
 rw[e]
 apply Array.ext_getElem?
 grind
theorem qz {pl:Nat->Option (Nat×Nat)} {j off sz:Nat} (hp:pl j=some (off,sz)) {t:Ty} {l cs:List Value} (hl:l.length=sz) (h1:(aZ t l).cells.toList=l) (h:off+sz<=cs.length) (rest:List (Nat×Value)) :
  Instr.fill pl cs.toArray ((j,aZ t l)::rest)=Instr.fill pl (cs.take off++l++cs.drop (off+sz)).toArray rest:=by
 have hc:(aZ t l).cells=l.toArray:=Array.ext' (by simpa using h1)
 grind [Instr.fill,Gn]
theorem Gp:∀ (n:Nat) (t:Ty) {t':Ty} {m m':Md} {v:t.den} {y:t'.den} {cs ys:List Value} {G H:FP} {K:Md->t.den->Option R},af P w A t m [] v cs G->af P w A t' m' [] y ys H ->
  tu n t m v t' m' y K=some x->∃ m2 v2,K m2 v2=some x/\af P w A t m2 [] v2 (cs.take (dn n t)++ys++cs.drop (dn n t+t'.sz)) (λb i=>G b i+H b i)/\dn n t+t'.sz<=cs.length:=by
 intro n
 induction n with
 | zero=>
  intro t t' m m' v y cs ys G H K hr hy hk
  cases t with
  | pair a b=>
   simp only[tu] at hk
   obtain ⟨e,hk⟩:=aU hk;subst e
   have hl:=af.length _ hr
   have QN:=af.length _ hy
   obtain ⟨h0,F1,F2,hs,h1,Y⟩:=hr
   refine ⟨_,_,hk,⟨rfl,H,F2,λb i=>by grind,?_,?_⟩,?_⟩
   all_goals simp_all [dn,Md.l,Md.r,Ty.sz]
  | _=>cases hk
 | succ n ih=>
  intro t t' m m' v y cs ys G H K hr hy hk
  cases t with
  | pair a b=>
   simp only[tu] at hk
   have hl:=af.length _ hr
   obtain ⟨h0,F1,F2,hs,h1,Y⟩:=hr
   obtain ⟨m2,v2,k1,k2,k3⟩:=ih b Y hy hk
   simp only[List.length_drop] at k3
   simp only[Ty.sz] at hl
   refine ⟨_,_,k1,⟨rfl,F1,λb i=>F2 b i+H b i,λb i=>by grind,?_,?_⟩,?_⟩
   ·simp only[dn,List.filterMap_nil,Md.l]
    have:(cs.take (a.sz+dn n b)++ys++cs.drop (a.sz+dn n b+t'.sz)).take a.sz=cs.take a.sz:=by
     simp_all [List.take_append_of_le_length,List.take_take]
    rw[this];exact h1
   ·simp only[dn,List.filterMap_nil,Md.r]
    have:(cs.take (a.sz+dn n b)++ys++cs.drop (a.sz+dn n b+t'.sz)).drop a.sz=(cs.drop a.sz).take (dn n b)++ys++(cs.drop a.sz).drop (dn n b+t'.sz):=by
     rw[List.append_assoc,List.drop_append_of_le_length (by simp;omega),List.drop_take,List.drop_drop,List.append_assoc]
     rw[show a.sz+dn n b - a.sz=dn n b by omega,show a.sz+(dn n b+t'.sz)=a.sz+dn n b+t'.sz by omega]
    grind
   ·simp only[dn];omega
  | _=>cases hk
theorem A_ {α β:Type} (g:α->Option β):∀ (l:List α) (ps:List β),l.mapM g=some ps->∀ (j:Nat) (f:α),l[j]?=some f->ps[j]?=g f
 | [],ps,h,j,f,hf=>by cases hf
 | y::l,ps,h,j,f,hf=>by
  simp only[List.mapM_cons,Option.bind_eq_bind,Option.pure_def] at h
  cases hy:g y with
  | none=>simp[hy] at h
  | some z=>
   cases hr:l.mapM g with
   | none=>grind
   | some r=>
    simp only[hy,hr,Option.bind_some,Option.some.injEq] at h
    subst h
    cases j with
    | zero=>grind
    | succ j=>exact A_ g l r hr j f hf
theorem Es:∀ (t:Ty) {fs:List Field} {off:Nat},aq P t (.inr (fs,off))=true->∃ ps,fs.mapM (λf=>(P.info? f.type).map λi=>(f.offset,i.size))=some ps:=by
 intro t
 induction t with
 | unit=>
  simp_all [aq]
 | pair a b eG et=>
  intro fs off h
  cases fs with
  | nil=>simp_all
  | cons f r=>
   simp only[aq,Bool.and_eq_true] at h
   obtain ⟨ps,mJ⟩:=et h.2
   obtain ⟨inf,hi,_⟩:=dM (eh h.1.2)
   grind
 | _=>grind [aq]
theorem z5 {T:Ty} {i:TypeId} (hl:aq P T (.inl i)=true) {j:Nat} {t':Ty} (hj:kA j T=some t') :
  ∃ fs ps,P.underlying i=some (.struct fs)/\fs.toList.mapM (λf=>(P.info? f.type).map λi=>(f.offset,i.size))=some ps/\∀ j t',kA j T=some t'->ps.toArray[j]?=some (dn j T,t'.sz):=by
 cases T with
 | pair a b=>
  have OC:=hl
  simp only[aq,Bool.and_eq_true] at hl
  have Y:=hl.2
  split at Y
  ·rename_i fs hu
   split at Y
   ·rename_i f r w9
    have h3:aq P (.pair a b) (.inr (f::r,0))=true:=by
     grind [aq]
    obtain ⟨ps,mJ⟩:=Es _ h3
    refine ⟨fs,ps,hu,by grind,λj t' hj=>?_⟩
    obtain ⟨f',q1,q2,q3,q4⟩:=Dm j (.pair a b) h3 hj
    have:=A_ _ _ _ mJ j f' q1
    obtain ⟨inf,hi,hs,_⟩:=dM (eh q3)
    grind
   ·cases Y
  ·cases Y
 | _=>cases j <;> cases hj
theorem Gq {T:Ty} {fz:Nat->Bool} {pl:Nat->Option (Nat×Nat)} (df:∀ j t',kA j T=some t'->pl j=some (dn j T,t'.sz)) {K:Md->T.den->St->Option R} :
  ∀ (ps:List (Nat×Operand)) {n:Nat} {σ:St} {A:Cells} {X:FP} {F:Nat->FP} {m:Md} {v:T.den} {cs:List Value},ps.all (λp=>bg P p.2)=true->Rel P C A X σ a w F->af P w A T m [] v cs X ->
   tw E σ T fz ps n m v K=some x->∃ A' σ' F' m' v' aJ X',K m' v' σ'=some x/\Rel P C A' X' σ' a w F'/\af P w A' T m' [] v' aJ X'/\Instr.fill pl cs.toArray (ps.map λp=>(p.1,a.eval p.2))=some aJ.toArray:=by
 intro ps
 induction ps with
 | nil=>intro n σ A X F m v cs ap h hr hk;exact ⟨A,σ,F,m,v,cs,X,hk,h,hr,rfl⟩
 | cons p ps ih=>
  intro n σ A X F m v cs ap h hr hk
  obtain ⟨j,y⟩:=p
  simp only[List.all_cons,Bool.and_eq_true] at ap
  simp only[tw] at hk
  split at hk
  ·rename_i t' rG
   rcases bE h ap.1 with hs | ⟨xs,e⟩
   rotate_left
   ·grind [ep]
   obtain ⟨A1,fN,F1,m1,v1,gQ,Fv,k1,k2,k3,k4,kr,k5,k6⟩:=ko h hs hk
   have oR:=af.mono (P:=P) (A':=A1) k2 (λ_ _ _ _ h=>h) (λ_ _ h=>h) T hr (λ_ _=>Nat.le_refl _) (λ_ _ _ _ h=>h)
   obtain ⟨m2,v2,q1,q2,q3⟩:=Gp j T oR k6 k1
   obtain ⟨A',σ',F',m',v',aJ,X',g1,g2,g3,g4⟩:=ih ap.2 k3 q2 q1
   refine ⟨A',σ',F',m',v',aJ,X',g1,g2,g3,?_⟩
   rw[List.map_cons,k5,qz (df j t' rG) (af.length _ k6) (dz (af.length _ k6) (af.one _ k6)) q3]
   exact g4
  ·cases hk
theorem KG {n j:Nat} {e:Ty} {v:List e.den} {y:e.den} {cs ys:List Value} (h:Ro P w A (.arr n e) v cs) (hy:Ro P w A e y ys) (hj:j < v.length) :
  Ro P w A (.arr n e) (v.set j y) (cs.take (j*e.sz)++ys++cs.drop (j*e.sz+e.sz))/\j*e.sz+e.sz<=cs.length:=by
 obtain ⟨h1,Y,h3,h4⟩:=h
 have QN:=Ro.length _ hy
 have hle:j*e.sz+e.sz<=cs.length:=by
  rw[h3,<- Nat.succ_mul];exact Nat.mul_le_mul_right _ (by omega)
 refine ⟨⟨h1,by simpa using Y,by grind,λi z hz=>?_⟩,hle⟩
 rw[List.getElem?_set] at hz
 split at hz
 ·grind
 ·rename_i ci
  have h5:=h4 i z hz
  have:((cs.take (j*e.sz)++ys++cs.drop (j*e.sz+e.sz)).drop (i*e.sz)).take e.sz=(cs.drop (i*e.sz)).take e.sz:=by
   rcases Nat.lt_or_ge i j with gB | gB
   ·have h6:i*e.sz+e.sz<=j*e.sz:=by rw[<-Nat.succ_mul];exact Nat.mul_le_mul_right _ (by omega)
    grind [List.drop_take]
   ·have h6:j*e.sz+e.sz<=i*e.sz:=by rw[<-Nat.succ_mul];exact Nat.mul_le_mul_right _ (by omega)
    have h7:(cs.take (j*e.sz)++ys).length=j*e.sz+e.sz:=by grind
    rw[List.drop_append,h7,List.drop_of_length_le (by omega),List.nil_append,List.drop_drop]
    congr 2;omega
  grind
theorem KH {n0:Nat} {e:Ty} {fz:Nat->Bool} (hf:e.flat=true) {K:List e.den->St->Option R} :
  ∀ (ps:List (Nat×Operand)) {n:Nat} {σ:St} {A:Cells} {F:Nat->FP} {v:List e.den} {cs:List Value},ps.all (λp=>bg P p.2)=true->bn P C A σ a w F->Ro P w A (.arr n0 e) v cs ->
   Ax σ e fz ps n v K=some x->∃ A' σ' F' v' aJ,K v' σ'=some x/\bn P C A' σ' a w F'/\Ro P w A' (.arr n0 e) v' aJ/\Instr.fill (λi=>some (i*e.sz,e.sz)) cs.toArray (ps.map λp=>(p.1,a.eval p.2))=some aJ.toArray:=by
 intro ps
 induction ps with
 | nil=>intro n σ A F v cs ap h hr hk;exact ⟨A,σ,F,v,cs,hk,h,hr,rfl⟩
 | cons p ps ih=>
  intro n σ A F v cs ap h hr hk
  obtain ⟨j,y⟩:=p
  simp only[List.all_cons,Bool.and_eq_true] at ap
  simp only[Ax] at hk
  rcases bE h ap.1 with hs | ⟨xs,e⟩
  rotate_left
  ·grind [ep]
  obtain ⟨A1,fN,F1,m1,v1,gQ,Fv,k1,k2,k3,k4,kr,k5,k6⟩:=ko h hs hk
  split at k1
  ·rename_i hj
   have oR:Ro P w A1 (.arr n0 e) v cs:=Ro.mono (λ_ _ _ _ h=>h) k2 _ hr
   obtain ⟨q1,q2⟩:=KG oR (af.flat _ hf k6) hj
   obtain ⟨A',σ',F',v',aJ,g1,g2,g3,g4⟩:=ih ap.2 (k3.less (X':=λ_ _=>0) λ_ _=>Nat.zero_le _) q1 k1
   refine ⟨A',σ',F',v',aJ,g1,g2,g3,?_⟩
   rw[List.map_cons,k5,qz (pl:=λi=>some (i*e.sz,e.sz)) rfl (af.length _ k6) (dz (af.length _ k6) (af.one _ k6)) q2]
   exact g4
  ·cases k1
theorem Et (h:bn P C A σ a w F) (dZ:∀ i T,E.TI i=some T->aq P T (.inl i)=true) {t:Nat} {ps:Array (Nat×Operand)} {fz:Nat->Bool} (ho:o.op=.build t ps) (ap:ps.toList.all (λp=>bg P p.2)=true) {K:St->Option R}
  (hk:(gA E t λt=>match t with
  | .arr n e=>if e.lw then Ax σ e fz ps.toList 0 (Ty.arr n e).zero λv σ=>K (σ.aI o.dst (laid (.arr n e) (av (.arr n e)) v)) else none
  | .pair t1 t2=>if (Ty.pair t1 t2).lw then tw E σ (.pair t1 t2) fz ps.toList 0 (av (.pair t1 t2)) (Ty.pair t1 t2).zero λm v σ=>K (σ.aI o.dst (laid (.pair t1 t2) m v)) else none
  | _=>none)=some x):Tk P o a w (Nx P C K x):=by
 obtain ⟨T,hT,hk⟩:=bN hk
 have cJ:=dZ _ _ hT
 have run:∀ (cells:Array Value),P.built t (ps.map λ(i,x)=>(i,a.eval x)).toList=some cells->∀ w',jS o w w'->(execOp a.eval o).run P w'=.ok (.value (.agg cells)) w':=λcells hc w' _=>by
  simp_all [execOp,run_build]
 have mJ:(ps.map λ(i,x)=>(i,a.eval x)).toList=ps.toList.map λp=>(p.1,a.eval p.2):=by simp
 rw[mJ] at run
 split at hk
 ·rename_i n e
  split at hk
  ·rename_i hz
   have st:e.flat=true:=by
    grind [aq]
   obtain ⟨L,hL⟩:=jT (.arr n e) (by simpa [Ty.lw] using hz)
   obtain ⟨r1,r2,r3⟩:=o3 (P:=P) (w:=w) (A:=A) _ hL cJ
   obtain ⟨inf,i1,i2,i3,i4⟩:=dM (eh cJ)
   obtain ⟨z,z1,z2⟩:=i4 L hL
   obtain ⟨A',σ',F',v',aJ,g1,g2,g3,g4⟩:=KH st ps.toList ap h r2 hk
   have hu:∃ el ie,P.underlying t=some (.array n el)/\P.info? el=some ie/\ie.size=e.sz:=by
    have hl:=cJ
    simp only[aq,Bool.and_eq_true] at hl
    have Y:=hl.2
    split at Y
    ·rename_i n' el hu
     simp only[Bool.and_eq_true,Nat.beq_eq] at Y
     obtain ⟨ie,j1,j2,_⟩:=dM (eh Y.2)
     grind
    ·cases Y
   obtain ⟨el,ie,u1,u2,u3⟩:=hu
   have OB:z.cells=L.toArray:=Array.ext' (by simpa using z2)
   have e1:aZ (.arr n e) aJ=.agg aJ.toArray:=rfl
   refine bW (v:=aZ (.arr n e) aJ) (run _ ?_) ?_
   ·grind [Program.built]
   ·exact pQ g2 g1 (Ro.flat _ (λ_ _=>0) (by grind [Ty.flat]) g3) (λ_ _=>Nat.le_refl _)
  ·cases hk
 ·rename_i t1 t2
  split at hk
  ·rename_i hz
   obtain ⟨L,hL⟩:=jT (.pair t1 t2) hz
   obtain ⟨r1,r2,r3⟩:=o3 (P:=P) (w:=w) (A:=A) _ hL cJ
   obtain ⟨inf,i1,i2,i3,i4⟩:=dM (eh cJ)
   obtain ⟨z,z1,z2⟩:=i4 L hL
   have OB:z.cells=L.toArray:=Array.ext' (by simpa using z2)
   obtain ⟨fs,QO,u1,u2,u3⟩:=z5 cJ (j:=0) rfl
   obtain ⟨A',σ',F',m',v',aJ,X',g1,g2,g3,g4⟩:=Gq (pl:=λj=>QO.toArray[j]?) u3 ps.toList ap h r1 hk
   refine bW (v:=aZ (.pair t1 t2) aJ) (run _ ?_) (pQ g2 g1 g3 (λ_ _=>Nat.le_refl _))
   grind [Program.built]
  ·cases hk
 ·cases hk
theorem KI {e:Ty} {fz:Nat->Bool} (fi:1<=e.sz) {K:Md->List e.den->St->Option R} :
  ∀ (ps:List (Nat×Operand)) {n:Nat} {σ:St} {A:Cells} {X:FP} {F:Nat->FP} {m:Md} {v:List e.den} {L Z:List Value} {Fi:Nat->FP},ps.all (λp=>bg P p.2)=true->Rel P C A X σ a w F ->
   List.length v=n->L.length=n*e.sz->Z.length=ps.length*e.sz->(∀ b i,ao n Fi b i<=X b i)->(∀ (i:Nat) (y:e.den),v[i]?=some y->af P w A e m [] y ((L.drop (i*e.sz)).take e.sz) (Fi i)) ->
   tz σ e fz ps n m v K=some x->∃ (A':Cells) (σ':St) (F':Nat->FP) (m':Md) (v':List e.den) (L':List Value) (X':FP) (xg:Nat->FP),K m' v' σ'=some x/\Rel P C A' X' σ' a w F'/\List.length v'=n+ps.length/\L'.length=(n+ps.length)*e.sz/\(∀ b i,ao (n+ps.length) xg b i<=X' b i) /\
    (∀ (i:Nat) (y:e.den),v'[i]?=some y->af P w A' e m' [] y ((L'.drop (i*e.sz)).take e.sz) (xg i))/\Instr.fill (λi=>some (i*e.sz,e.sz)) (L++Z).toArray (ps.map λp=>(p.1,a.eval p.2))=some L'.toArray:=by
 intro ps
 induction ps with
 | nil=>
  intro n σ A X F m v L Z Fi ap h hv hL hZ hX hr hk
  have:Z=[]:=by simpa using hZ
  subst this
  exact ⟨A,σ,F,m,v,L,X,Fi,hk,h,hv,hL,hX,hr,by simp[Instr.fill]⟩
 | cons p ps ih=>
  intro n σ A X F m v L Z Fi ap h hv hL hZ hX hr hk
  obtain ⟨j,y⟩:=p
  simp only[List.all_cons,Bool.and_eq_true] at ap
  simp only[tz] at hk
  split at hk
  ·rename_i hj
   have hj:j=n:=by simpa using hj
   subst hj
   rcases bE h ap.1 with hs | ⟨xs,e⟩
   rotate_left
   ·grind [ep]
   obtain ⟨A1,fN,F1,m1,v1,gQ,Fv,k1,k2,k3,k4,kr,k5,k6⟩:=ko h hs hk
   have nu:=af.length _ k6
   have Gr:Z.length=e.sz+ps.length*e.sz:=by grind
   have OD:∀ {A2:Cells} {X2:FP} {m2:Md} {Ba:Nat->FP},Rel P C A2 X2 fN a w F1->(∀ b i,ao (j+1) Ba b i<=X2 b i)->(∀ (i:Nat) (y:e.den),v[i]?=some y->af P w A2 e m2 [] y ((L.drop (i*e.sz)).take e.sz) (Ba i)) ->
     af P w A2 e m2 [] v1 gQ (Ba j)->tz fN e fz ps (j+1) m2 (v++[v1]) K=some x ->
     ∃ (A':Cells) (σ':St) (F':Nat->FP) (m':Md) (v':List e.den) (L':List Value) (X':FP) (xg:Nat->FP),K m' v' σ'=some x/\Rel P C A' X' σ' a w F'/\List.length v'=j+(ps.length+1)/\L'.length=(j+(ps.length+1))*e.sz/\(∀ b i,ao (j+(ps.length+1)) xg b i<=X' b i) /\
      (∀ (i:Nat) (y:e.den),v'[i]?=some y->af P w A' e m' [] y ((L'.drop (i*e.sz)).take e.sz) (xg i))/\Instr.fill (λi=>some (i*e.sz,e.sz)) (L++Z).toArray ((j,a.eval y)::ps.map λp=>(p.1,a.eval p.2))=some L'.toArray:=by
    intro A2 X2 m2 Ba Y QP og rH ff
    obtain ⟨A',σ',F',m',v',L',X',xg,g1,g2,g3,g4,g5,g6,g7⟩:=ih (L:=L++gQ) (Z:=Z.drop e.sz) (Fi:=Ba) ap.2 Y (by simp[hv]) (by grind) (by simp[Gr]) QP (λi z hz=>by
     by_cases hi:i=j
     ·grind
     ·have aB:i < j:=by
       grind
      rw[List.getElem?_append_left (by omega)] at hz
      have h6:i*e.sz+e.sz<=j*e.sz:=by rw[<-Nat.succ_mul];exact Nat.mul_le_mul_right _ (by omega)
      grind) ff
    refine ⟨A',σ',F',m',v',L',X',xg,g1,g2,by omega,by grind,λb i=>by grind,g6,?_⟩
    rw[k5,qz (pl:=λi=>some (i*e.sz,e.sz)) rfl nu (dz nu (af.one _ k6)) (by simp[hL,Gr])]
    grind [List.drop_append,List.drop_of_length_le,Nat.add_sub_cancel_left]
   have oR:∀ (i:Nat) (y:e.den),v[i]?=some y->af P w A1 e m [] y ((L.drop (i*e.sz)).take e.sz) (Fi i):=λi y hy=>af.mono (P:=P) (A':=A1) k2 (λ_ _ _ _ h=>h) (λ_ _ h=>h) e (hr i y hy) (λ_ _=>Nat.le_refl _) (λ_ _ _ _ h=>h)
   split at k1
   ·rename_i hm
    subst hm
    refine OD (Ba:=bL Fi j Fv) k3 (λb i=>?_) (λi y hy=>?_) (by grind [bL]) k1
    ·have h1:=kH j 1 (bL Fi j Fv) b i
     have Y:ao j (bL Fi j Fv) b i=ao j Fi b i:=by rw[AH Fi (Nat.le_refl j)]
     have h3:ao 1 (λk=>bL Fi j Fv (j+k)) b i=Fv b i:=by simp[ao,bL]
     grind
    grind [bL]
   ·
    have km:∃ A2:Cells,(∀ b i,A1 b i->A2 b i)/\Rel P C A2 (λ_ _=>0) fN a w F1/\Ro P w A2 e v1 gQ/\∀ (i:Nat) (y:e.den),v[i]?=some y->Ro P w A2 e y ((L.drop (i*e.sz)).take e.sz):=by
     refine ⟨λb i=>A1 b i\/1<=X b i+Fv b i,λ_ _ h=>.inl h,k3.giveUp (λ_ _ h=>.inl h) (λb i ha=>ha.imp id λhp=>⟨hp,rfl⟩) (λ_ _=>Nat.zero_le _),af.my (λ_ _ h=>.inl h) e k6 (λb i hp=>.inr (by omega)),λi y hy=>?_⟩
     grind [af.my,a_]
    obtain ⟨A2,J,a2,a3,a4⟩:=km
    exact OD (Ba:=λ_ _ _=>0) a2 (λb i=>by grind [eF]) (λi y hy=>Ro.rep _ _ (bS _) (a4 i y hy)) (Ro.rep _ _ (bS _) a3) k1
  ·cases hk
theorem yB (h:bn P C A σ a w F) (dZ:∀ i T,E.TI i=some T->aq P T (.inl i)=true) {t n:Nat} {ps:Array (Nat×Operand)} {fz:Nat->Bool} (ho:o.op=.buildSlice t n ps) (ap:ps.toList.all (λp=>bg P p.2)=true) {K:St->Option R}
  (hk:(gA E t λt=>match t with
  | .aa e=>if Nat.beq n ps.size&&e.lw&&Nat.ble (n*e.sz) 16777216 then tz σ e fz ps.toList 0 (av e) [] λm v σ=>K (σ.aI o.dst (.own (.aa e) (.aa true m) [] v)) else none
  | _=>none)=some x):o.wp P a w (λa' w'=>Nx P C K x a' w'/\Ext w w' (λ_ _=>0)) Q:=by
 obtain ⟨T,hT,hk⟩:=bN hk
 have cJ:=dZ _ _ hT
 split at hk
 ·rename_i e
  split at hk
  ·rename_i hc
   simp only[Bool.and_eq_true,Nat.beq_eq,Nat.ble_eq] at hc
   obtain ⟨⟨hn,hz⟩,gX⟩:=hc
   have hl:=cJ
   simp only[aq,Bool.and_eq_true] at hl
   have Y:=hl.2
   split at Y
   ·rename_i el hu
    simp only[Bool.and_eq_true,Nat.ble_eq] at Y
    obtain ⟨fi,jG⟩:=Y
    obtain ⟨Lz,Gs⟩:=jT e hz
    obtain ⟨r1,r2,r3⟩:=o3 (P:=P) (w:=w) (A:=A) _ Gs jG
    obtain ⟨inf,i1,i2,i3,i4⟩:=dM (eh jG)
    obtain ⟨z,z1,z2⟩:=i4 Lz Gs
    have QQ:z.cells.size=e.sz:=by grind
    obtain ⟨A',σ',F',m',v',L',X',xg,g1,g2,g3,g4,g5,g6,g7⟩:=KI (P:=P) fi ps.toList (n:=0) (L:=[]) (Z:=((Array.range (n*e.sz)).map (z.cells[· % z.cells.size]!)).toList) (Fi:=λ_ _ _=>0) (m:=av e) ap h rfl (by simp) (by simp[hn]) (λb i=>by grind [eF]) (λi y hy=>by cases hy) hk
    simp only[List.nil_append,Array.toArray_toList] at g7
    simp only[Nat.zero_add] at g3 g4 g5
    have mK:ps.toList.length=n:=by simpa using hn.symm
    rw[mK] at g3 g4 g5
    have dB:(execOp a.eval o).run P w=.ok (.value (.slice (some ⟨w.heap.size,0,none⟩) n n)) (w.alloc (.cells L'.toArray el)):=by
     by_cases tj:n*e.sz=0
     ·have:n=0:=by rcases Nat.mul_eq_zero.1 tj with h | h <;> omega
      subst this
      have mJ:ps=#[]:=by grind
      subst mJ
      have Dc:L'=[]:=by simpa using g4
      subst Dc
      simp[execOp,ho,Instr.buildSlice,run_underlying hu,Go.sizeOf,typeInfo,i1,Instr.fill,newRow,show Array.range 0=#[] from rfl]
     simp_all [run_buildSlice,execOp]
    refine fE (w':=w.alloc (.cells L'.toArray el)) dB ?_
    have fR:=uW g2 (K:=K) (x:=x) (d:=o.dst) (e:=e) (m:=m') (v:=v') (c:=L'.toArray) (cap:=n) (el:=el) (fr:=(0,0)) (Fi:=xg) (.inr (Nat.le_refl _)) g1 (by simp[g4]) (by simp only[maxLen];have:=Nat.le_mul_of_pos_right n fi;omega) (by omega)
     (λb i=>by grind) (λi y hy=>⟨(L'.drop (i*e.sz)).take e.sz,af.length _ (g6 i y hy),(λj u hu=>by
      grind),g6 i y hy⟩)
    grind [fF]
   ·cases Y
  ·cases hk
 ·cases hk
end
end OT
set_option linter.unusedVariables false
set_option linter.unusedSimpArgs false
namespace OT
open Go
section
variable {P:Program} {C:Ctx} {A:Cells} {X:FP} {σ:St} {a:Act} {w:World} {F:Nat->FP} {R:Type} {x:R} {Q:Exit->Act->World->Prop} {o:Oper} {E:Env}
theorem Rel.world (h:Rel P C A X σ a w F) {w1:World} {G:FP} (hw:Ext w w1 G) (hG:∀ b i,1<=G b i->1<=X b i):Rel P C A X σ a w1 F:=by
 have jC:∀ b i,A b i->∀ u,ce w b i=some u->ce w1 b i=some u:=λb i ha u hu=>by
  refine hw.cell b i (h.dA b i (.inr ha)) ?_ u hu
  rcases Nat.eq_zero_or_pos (G b i) with h0 | h0
  ·exact h0
  ·exact absurd ha (h.gD b i (by grind))
 have tN:∀ j,j < σ.n->∀ b i,1<=F j b i->(∀ u,ce w b i=some u->ce w1 b i=some u)/\w1.frozen? ⟨b,i,none⟩=w.frozen? ⟨b,i,none⟩:=λj hj b i hp=>by
  have hs:=a_ F hj b i
  have hb:=h.dA b i (.inl (by omega))
  refine ⟨λu hu=>hw.cell b i hb ?_ u hu,hw.oM b i hb⟩
  rcases Nat.eq_zero_or_pos (G b i) with h0 | h0
  ·exact h0
  ·have:=hG b i h0;have:=h.f5 b i;omega
 have fe:nz σ a w σ a w1:=λr p snap hb=>⟨hb,λap=>⟨ap,λhl pl df=>⟨pl.H,pl.cs,by
  have aB:=jR df
  exact lG (h.cj r aB) rfl rfl jC (λb i hp=>(tN r aB b i hp).1) df,λ_=>rfl⟩⟩⟩
 refine ⟨h.size,h.defers,λi hi=>aV.eL fe (λ_ _ h=>h) jC hw.lY (tN i hi) (h.cj i hi),λd r p snap hm=>iv.eL fe (h.gh d r p snap hm),h.f5,h.gD,λb i hp=>Nat.lt_of_lt_of_le (h.dA b i hp) hw.size,
  h.eg,h.ext.trans hw (λb i hb hz=>?_),h.own,h.a0,h.J,h.fH,λr t m H v hg hl=>?_,λj k hm R' f_=>?_,h.mB⟩
 ·rcases Nat.eq_zero_or_pos (G b i) with h0 | h0
  ·exact h0
  ·rcases h.own b i (by grind) with h1 | h1 <;> omega
 ·obtain ⟨b,h1,Y⟩:=h.whole r t m H v hg hl
  exact ⟨b,h1,hw.lY _ _ Y⟩
 ·rcases Nat.lt_or_ge j σ.n with hj | hj
  ·have iK:=h.cj j hj
   cases oS:bk w (tmp a j) (σ.get j) with
   | none=>exfalso;cases hg:σ.get j <;> rw[hg] at oS f_ <;> simp only[bk] at oS f_ <;> first | grind | grind | grind
   | some R0=>
    rw[mD iK (λb i hp=>(tN j hj b i hp).1) oS] at f_
    injection f_ with f_
    subst f_
    exact h.e7 j k hm _ oS
  ·rw[ek (Nat.not_lt.2 hj)] at f_;cases f_
theorem xh {b o sz:Nat} {n:Nat} (h:∀ i,i < n->∃ L:List Value,L.length=sz/\Has w b (o+i*sz) L):Has w b o (rd w b o (n*sz))/\∀ i L,i < n->L.length=sz->Has w b (o+i*sz) L->((rd w b o (n*sz)).drop (i*sz)).take sz=L:=by
 have uX:∀ j,j < n*sz->(ce w b (o+j)).isSome=true:=λj hj=>by
  have fi:0 < sz:=by grind
  have hi:j / sz < n:=Nat.div_lt_of_lt_mul (by grind)
  obtain ⟨L,h1,Y⟩:=h _ hi
  have hm:j % sz < L.length:=by simp_all [Nat.mod_lt]
  have:=Y (j % sz) _ (List.getElem?_eq_getElem hm)
  grind [Nat.div_add_mod]
 refine ⟨λj u hu=>?_,λi L hi hl hL=>?_⟩
 ·have hj:=(List.getElem?_eq_some_iff.1 hu).1
  rw[of] at hj
  unfold rd at hu
  rw[List.getElem?_map,List.getElem?_range hj] at hu
  simp only[Option.map_some,Option.some.injEq] at hu
  obtain ⟨u',Oy⟩:=Option.isSome_iff_exists.1 (uX j hj)
  grind
 ·have h6:i*sz+sz<=n*sz:=by rw[<-Nat.succ_mul];exact Nat.mul_le_mul_right _ (by omega)
  apply List.ext_getElem?
  intro j
  rw[List.getElem?_take,List.getElem?_drop]
  by_cases hj:j < sz
  ·rw[if_pos hj]
   unfold rd
   rw[List.getElem?_map,List.getElem?_range (by omega)]
   have:=hL j L[j] (List.getElem?_eq_getElem (by omega))
   grind
  grind
theorem xi {e:Ty} {m:Md} {H:List Path} (hH:hole H=false) {v:List e.den} {cs:List Value} {Fv:FP} (hr:af P w A (.aa e) m H v cs Fv) :
  ∃ xa cap news Fi,cs=[.slice xa (List.length v) cap]/\(List.length v<=cap/\(xa=none->List.length v=0))/\(∀ ad,xa=some ad->(0 < cap->ad.spot=none)/\Has w ad.block ad.off news)/\news.length=List.length v*e.sz/\(∀ u ∈ news,u.oneCell'=true) /\
   (∀ (i:Nat) (y:e.den),v[i]?=some y->af P w A e m.e (H.filterMap (dy i)) y ((news.drop (i*e.sz)).take e.sz) (Fi i))/\(∀ b i,ao (List.length v) Fi b i<=Fv b i) /\
   (m.own=true->List.length v<=cap/\cap<=maxLen/\(xa=none->cap=0)/\∀ ad,xa=some ad->ad.off=0/\ad.spot=none/\cr w ad.block (cap*e.sz,vT e)/\∀ b i,bj ad.block 0 (cap*e.sz) b i+ao (List.length v) Fi b i<=Fv b i):=by
 have gW:∀ (news:List Value) (Fi:Nat->FP),news.length=List.length v*e.sz->(∀ (i:Nat) (y:e.den),v[i]?=some y->af P w A e m.e (H.filterMap (dy i)) y ((news.drop (i*e.sz)).take e.sz) (Fi i))->∀ u ∈ news,u.oneCell'=true:=by
  intro news Fi hl jG u hu
  obtain ⟨j,hj,rfl⟩:=List.mem_iff_getElem.1 hu
  have fi:0 < e.sz:=by grind
  have hi:j / e.sz < List.length v:=Nat.div_lt_of_lt_mul (by grind)
  have h1:=af.one _ (jG _ _ (List.getElem?_eq_getElem hi))
  refine h1 _ (List.mem_of_getElem? (i:=j % e.sz) ?_)
  grind [Nat.mod_lt,Nat.div_add_mod]
 simp only[af,hH,Bool.false_eq_true,if_false] at hr
 split at hr
 ·rename_i cy
  obtain ⟨xa,cap,rfl,h1,Y,h3,h4⟩:=hr
  cases xa with
  | none=>
   have gX:=h3 rfl
   have JG:List.length v=0:=by omega
   have hv:v=[]:=List.eq_nil_of_length_eq_zero JG
   subst hv
   exact ⟨none,cap,[],λ_ _ _=>0,rfl,⟨Nat.zero_le _,λ_=>rfl⟩,(λad e=>by cases e),by simp,(λu hu=>by cases hu),(λi y hy=>by cases hy),λb i=>by grind [eF],λ_=>⟨h1,Y,h3,λad e=>by cases e⟩⟩
  | some ad=>
   obtain ⟨g1,g2,g3,Fi,g4,g5⟩:=h4 ad rfl
   have hp:∀ i,i < List.length v->∃ L:List Value,L.length=e.sz/\Has w ad.block (0+i*e.sz) L:=λi hi=>by
    obtain ⟨L,l1,l2,_⟩:=g5 i _ (List.getElem?_eq_getElem hi)
    grind
   obtain ⟨p1,p2⟩:=xh hp
   have jG:∀ (i:Nat) (y:e.den),v[i]?=some y->af P w A e m.e (H.filterMap (dy i)) y (((rd w ad.block 0 (List.length v*e.sz)).drop (i*e.sz)).take e.sz) (Fi i):=λi y hy=>by
    grind
   refine ⟨some ad,cap,rd w ad.block 0 (List.length v*e.sz),Fi,rfl,⟨h1,(λe=>by cases e)⟩,λaX e=>?_,of _ _ _ _,gW _ _ (of _ _ _ _) jG,jG,λb i=>by grind,λ_=>⟨h1,Y,h3,λaX e=>?_⟩⟩
   all_goals grind
 ·rename_i cy
  obtain ⟨rfl,jv,xa,cap,rfl,h1,Y,h3⟩:=hr
  cases xa with
  | none=>
   have hv:v=[]:=List.eq_nil_of_length_eq_zero (Y rfl)
   subst hv
   exact ⟨none,cap,[],λ_ _ _=>0,rfl,⟨Nat.zero_le _,λ_=>rfl⟩,(λad e=>by cases e),by simp,(λu hu=>by cases hu),(λi y hy=>by cases hy),(λb i=>by grind [eF]),λh=>absurd h cy⟩
  | some ad=>
   obtain ⟨g1,g2⟩:=h3 ad rfl
   have hp:∀ i,i < List.length v->∃ L:List Value,L.length=e.sz/\Has w ad.block (ad.off+i*e.sz) L:=λi hi=>by
    obtain ⟨L,l1,l2,_⟩:=g2 i _ (List.getElem?_eq_getElem hi)
    exact ⟨L,l1,λj u hu=>(l2 j u hu).1⟩
   obtain ⟨p1,p2⟩:=xh hp
   have jG:∀ (i:Nat) (y:e.den),v[i]?=some y->af P w A e m.e (([]:List Path).filterMap (dy i)) y (((rd w ad.block ad.off (List.length v*e.sz)).drop (i*e.sz)).take e.sz) (λ_ _=>0):=λi y hy=>by
    obtain ⟨L,l1,l2,l3⟩:=g2 i y hy
    rw[p2 i L (List.getElem?_eq_some_iff.1 hy).1 l1 (λj u hu=>(l2 j u hu).1)]
    grind [Ro.rep]
   refine ⟨some ad,cap,rd w ad.block ad.off (List.length v*e.sz),λ_ _ _=>0,rfl,⟨h1,(λe=>by cases e)⟩,λaX e=>?_,of _ _ _ _,gW _ _ (of _ _ _ _) jG,jG,(λb i=>by grind [eF]),λh=>absurd h cy⟩
   grind
theorem tT {e:Ty} {m:Md} {v:List e.den} {cs:List Value} {Fv:FP} (hr:af P w A (.aa e) m [] v cs Fv) :
  ∃ xa cap news Fi,cs=[.slice xa (List.length v) cap]/\(List.length v<=cap/\(xa=none->List.length v=0))/\(∀ ad,xa=some ad->(0 < cap->ad.spot=none)/\Has w ad.block ad.off news)/\news.length=List.length v*e.sz/\(∀ u ∈ news,u.oneCell'=true) /\
   (∀ (i:Nat) (y:e.den),v[i]?=some y->af P w A e m.e [] y ((news.drop (i*e.sz)).take e.sz) (Fi i))/\(∀ b i,ao (List.length v) Fi b i<=Fv b i) /\
   (m.own=true->List.length v<=cap/\cap<=maxLen/\(xa=none->cap=0)/\∀ ad,xa=some ad->ad.off=0/\ad.spot=none/\cr w ad.block (cap*e.sz,vT e)/\∀ b i,bj ad.block 0 (cap*e.sz) b i+ao (List.length v) Fi b i<=Fv b i):=
 xi rfl hr
theorem yC (h:Rel P C A X σ a w F) {s:Slot} {tv:Value} {G:FP} (hs:aV P A σ a w tv s G) {mv:Bool} {e:Ty} {tx:TypeId} (qA:(∃ e',P.underlying tx=some (.slice e'))\/P.underlying tx=some .string)
  {K:Md->List e.den->St->Option R} (hk:qu σ s e mv K=some x) :
  ∃ (A':Cells) (σ':St) (F':Nat->FP) (me:Md) (y:List e.den) (news:List Value) (Fv:FP) (Fi:Nat->FP),K me y σ'=some x/\(∀ b i,A b i->A' b i)/\Rel P C A' (λb i=>X b i+Fv b i) σ' a w F'/\ic σ σ' /\
   Src P e.sz tx tv (List.length y) news w/\(∀ k,k<=List.length y->(Builtin.firstCells e.sz k tv).run P w=.ok (news.take (k*e.sz)).toArray w)/\(∀ (i:Nat) (z:e.den),y[i]?=some z->af P w A' e me [] z ((news.drop (i*e.sz)).take e.sz) (Fi i))/\∀ b i,ao (List.length y) Fi b i<=Fv b i:=by
 unfold qu at hk
 split at hk
 ·rename_i s'
  obtain ⟨e1,hk⟩:=aU hk
  injection e1 with e1
  subst e1
  obtain ⟨cs,h1,Y⟩:=hs
  simp only[Ro] at Y
  subst Y
  have pP:tv=.string ⟨List.toArray s'⟩:=h1
  subst pP
  have hlen:(byteCells ⟨List.toArray s'⟩)=List.map (λ(b:UInt8)=>Value.int .u8 b.toNat) s':=by simp[byteCells]
  have fi:(⟨List.toArray s'⟩:ByteArray).size=List.length s':=rfl
  refine ⟨A,σ,F,.leaf,s',byteCells ⟨List.toArray s'⟩,λ_ _=>0,λ_ _ _=>0,hk,λ_ _ h=>h,h,ic.refl σ,⟨qA,λ_=>rfl,firstCells_string _ w,firstCells_string _ w.drew,by grind [Ty.sz],λu hu=>?_⟩,λk hk=>?_,λi z hz=>?_,λb i=>by grind [eF]⟩
  ·obtain ⟨_,_,rfl⟩:=List.mem_map.1 hu;rfl
  ·rw[hlen]
   have SS:((⟨List.toArray s'⟩:ByteArray).extract 0 k).data.toList=s'.take k:=by simp[ByteArray.data_extract]
   simp only[Builtin.firstCells,Sem.run_pure,Ty.sz,Nat.mul_one]
   simp_all
  ·have:((byteCells ⟨List.toArray s'⟩).drop (i*Ty.sz (.int .u8))).take (Ty.sz (.int .u8))=[Value.int .u8 z.toNat]:=by
    show ((byteCells ⟨List.toArray s'⟩).drop (i*1)).take 1=_
    grind [List.take_one,List.head?_drop]
   exact this
 ·rename_i s' QJ
  obtain ⟨A',σ',F',m,v,cs,Fv,k1,k2,k3,k4,kr,k5,k6⟩:=ko h hs hk
  obtain ⟨xa,cap,news,Fi,r1,r2,r3,r4,r5,r6,r7,r8⟩:=tT k6
  rw[r1,bp _ _ rfl] at k5
  subst k5
  have AY:∀ ad,xa=some ad->∀ j u,news[j]?=some u->w.cell? (ad.add j)=some u:=λad e1 j u hu=>by
   obtain ⟨g1,g2⟩:=r3 ad e1
   have hj:=(List.getElem?_eq_some_iff.1 hu).1
   have v9:0 < cap:=by
    grind
   obtain ⟨b,off,sp⟩:=ad
   have:=g1 v9
   simp only at this
   subst this
   rw[gV]
   exact lh (g2 j u hu) (r5 u (List.mem_of_getElem? hu))
  refine ⟨A',σ',F',m.e,v,news,Fv,Fi,k1,k2,k3,kr,?_,?_,r6,r7⟩
  rotate_left
  ·intro k hk
   cases xa with
   | none=>
    simp_all [run_firstCells_none]
   | some ad=>
    grind [Nat.mul_le_mul_right,run_firstCells_some]
  cases xa with
  | none=>
   have h0:=r2.2 rfl
   have hn:news=[]:=List.eq_nil_of_length_eq_zero (by grind)
   subst hn
   rw[h0]
   exact ⟨qA,λ_=>rfl,run_firstCells_none w e.sz 0 0 cap,run_firstCells_none w.drew e.sz 0 0 cap,by simp,λu hu=>by cases hu⟩
  | some ad=>
   have hc:=AY ad rfl
   exact ⟨qA,λ_=>rfl,run_firstCells_some w e.sz (List.length v) ad (List.length v) cap news r4 hc,run_firstCells_some w.drew e.sz (List.length v) ad (List.length v) cap news r4 (by simpa using hc),r4,r5⟩
theorem wa {e:Ty} {me:Md} {v y:List e.den} {gY news:List Value} {Fi Gi:Nat->FP} (hl:gY.length=List.length v*e.sz)
  (h1:∀ (i:Nat) (z:e.den),v[i]?=some z->af P w A e me [] z ((gY.drop (i*e.sz)).take e.sz) (Fi i)) (Y:∀ (i:Nat) (z:e.den),y[i]?=some z->af P w A e me [] z ((news.drop (i*e.sz)).take e.sz) (Gi i)) :
  ∀ (i:Nat) (z:e.den),(v++y)[i]?=some z->af P w A e me [] z (((gY++news).drop (i*e.sz)).take e.sz) (if i < List.length v then Fi i else Gi (i - List.length v)):=by
 intro i z hz
 by_cases hi:i < List.length v
 ·rw[if_pos hi]
  rw[List.getElem?_append_left hi] at hz
  have h6:i*e.sz+e.sz<=List.length v*e.sz:=by rw[<-Nat.succ_mul];exact Nat.mul_le_mul_right _ (by omega)
  grind
 grind [Nat.mul_le_mul_right,List.drop_append,List.drop_of_length_le,Nat.sub_mul]
theorem Bb (n m:Nat) (Fi Gi:Nat->FP) (b i:Nat):ao (n+m) (λi=>if i < n then Fi i else Gi (i - n)) b i=ao n Fi b i+ao m Gi b i:=by
 rw[kH]
 congr 1
 all_goals simp_all [mw,if_neg]
theorem Ro.indep {A':Cells}:∀ (t:Ty) {v:t.den} {cs:List Value},t.flat=true->t.gz=true->Ro P w A t v cs->Ro P w A' t v cs:=by
 intro t
 induction t with
 | pair a b eG et=>
  intro v cs hf hn h
  simp only[Ty.flat,Ty.gz,Bool.and_eq_true] at hf hn
  exact ⟨eG hf.1 hn.1 h.1,et hf.2 hn.2 h.2⟩
 | arr n e ih=>
  intro v cs hf hn h
  exact ⟨h.1,h.2.1,h.2.2.1,λi x hx=>ih hf hn (h.2.2.2 i x hx)⟩
 | aa e ih=>grind [Ty.flat]
 | ptr e ih=>grind [Ty.flat]
 | fn=>grind [Ty.gz]
 | map k v=>grind [Ty.flat]
 | _=>intro v cs hf hn h;exact h
theorem xj {A1 A2:Cells} {eu:St} {F2:Nat->FP} {t tx:Nat} {y z:Operand} (ho:o.op=.call { callee:=.builtin .append,args:=#[y,z],argTypes:=#[t,tx] }) {e:Ty} {el:Nat} (hu:P.underlying t=some (.slice el)) (jG:aq P e (.inl el)=true)
  {m me:Md} {v yv:List e.den} {cs news:List Value} {Fv Fw:FP} {Gi:Nat->FP} {K:St->Option R} (cy:m.own=true) (k5:a.eval y=aZ (.aa e) cs) (k6:af P w A1 (.aa e) m [] v cs Fv) (gX:v.length+yv.length<=bX)
  (q1:K (eu.aI o.dst (.own (.aa e) (.aa true (if me=m.e then me else ag e)) [] (v++yv)))=some x) (q2:∀ b i,A1 b i->A2 b i) (q3:Rel P C A2 (λb i=>0+Fv b i+Fw b i) eu a w F2)
  (q4:Src P e.sz tx (a.eval z) (List.length yv) news w) (q5:∀ (i:Nat) (z:e.den),yv[i]?=some z->af P w A2 e me [] z ((news.drop (i*e.sz)).take e.sz) (Gi i)) (q6:∀ b i,ao (List.length yv) Gi b i<=Fw b i):o.wp P a w (Nx P C K x) Q:=by
 obtain ⟨inf,zv,i1,i2,i3,i4,i5,_⟩:=nO (eh jG)
 obtain ⟨xa,cap,gY,Fi,r1,r2,r3,r4,r5,r6,r7,r8⟩:=tT k6
 obtain ⟨c1,c2,c3,c4⟩:=r8 cy
 rw[r1,bp _ _ rfl] at k5
 have OE:∀ (i:Nat) (z:e.den),v[i]?=some z->af P w A2 e m.e [] z ((gY.drop (i*e.sz)).take e.sz) (Fi i):=λi z hz=>af.mono (P:=P) (A':=A2) q2 (λ_ _ _ _ h=>h) (λ_ _ h=>h) e (r6 i z hz) (λ_ _=>Nat.le_refl _) (λ_ _ _ _ h=>h)
 have qZ:∃ (A3:Cells) (X3:FP) (Hi:Nat->FP),Rel P C A3 X3 eu a w F2/\(∀ (i:Nat) (z:e.den),(v++yv)[i]?=some z->af P w A3 e (if me=m.e then me else ag e) [] z (((gY++news).drop (i*e.sz)).take e.sz) (Hi i)) /\
   (∀ b i,ao (List.length v+List.length yv) Hi b i<=X3 b i)/\∀ ad,xa=some ad->∀ b i,bj ad.block 0 (cap*e.sz) b i+ao (List.length v+List.length yv) Hi b i<=X3 b i:=by
  by_cases nt:me=m.e
  ·subst nt
   refine ⟨A2,_,_,q3,by simp only[if_true];exact wa r4 OE q5,λb i=>?_,λad di b i=>?_⟩
   all_goals grind [Bb]
  ·simp only[if_neg nt]
   obtain ⟨B,Th,Ti,Tj⟩:∃ B:FP,(∀ b i,B b i+ao (List.length v) Fi b i<=Fv b i)/\(∀ ad,xa=some ad->∀ b i,bj ad.block 0 (cap*e.sz) b i=B b i)/\∀ b i,B b i<=1:=by
    cases xa with
    | none=>exact ⟨λ_ _=>0,λb i=>by grind,(λad e=>by cases e),λ_ _=>Nat.zero_le _⟩
    | some ad=>exact ⟨bj ad.block 0 (cap*e.sz),(c4 ad rfl).2.2.2,(λaX e=>by grind),λb i=>by grind [bj]⟩
   obtain ⟨A3,iu⟩:∃ A3:Cells,∀ b i,A3 b i↔(A2 b i\/(1<=0+Fv b i+Fw b i/\B b i=0)):=⟨λb i=>A2 b i\/(1<=0+Fv b i+Fw b i/\B b i=0),λ_ _=>Iff.rfl⟩
   refine ⟨A3,B,λ_ _ _=>0,q3.giveUp (λb i h=>(iu b i).2 (.inl h)) (λb i ha=>(iu b i).1 ha) (λb i=>by grind),?_,λb i=>by grind [eF],λad di b i=>by grind [eF]⟩
   have mE:∀ b i,(0+Fv b i+Fw b i)+ao eu.n F2 b i<=1:=λb i=>q3.f5 b i
   have QR:∀ (i:Nat) (z:e.den),v[i]?=some z->af P w A3 e (ag e) [] z ((gY.drop (i*e.sz)).take e.sz) (λ_ _=>0):=λi z hz=>Ro.rep _ _ (bS _) (af.my (λb i h=>(iu b i).2 (.inl h)) e (OE i z hz) λb k hp=>(iu b k).2 (.inr (by
    grind [a_])))
   have QS:∀ (i:Nat) (z:e.den),yv[i]?=some z->af P w A3 e (ag e) [] z ((news.drop (i*e.sz)).take e.sz) (λ_ _=>0):=λi z hz=>Ro.rep _ _ (bS _) (af.my (λb i h=>(iu b i).2 (.inl h)) e (q5 i z hz) λb k hp=>(iu b k).2 (.inr (by
    grind [a_])))
   exact λi z hz=>by simpa using wa (Fi:=λ_ _ _=>0) (Gi:=λ_ _ _=>0) r4 QR QS i z hz
 obtain ⟨A3,X3,Hi,n1,n2,n3,n4⟩:=qZ
 have FW:List.length (v++yv)=List.length v+List.length yv:=by simp
 by_cases nQ:List.length v+List.length yv<=cap
 ·cases xa with
  | none=>
   have rI:=c3 rfl
   have JG:v=[]:=List.eq_nil_of_length_eq_zero (by omega)
   have QT:yv=[]:=List.eq_nil_of_length_eq_zero (by omega)
   subst JG;subst QT
   have kC:(Builtin.firstCells e.sz 0 (a.eval z)).run P w=.ok news.toArray w:=by have:=q4.cells;simpa using this
   have dB:(execOp a.eval o).run P w=.ok (.value (.slice none 0 cap)) w:=by
    rcases q4.kind with ⟨e',Dt⟩ | Dt <;>
     simp[execOp,ho,resolve,invoke,builtin,Builtin.append_,k5,run_underlying hu,run_underlying Dt,Go.sizeOf,typeInfo,i1,q4.len,i2,kC]
   refine fE dB (gq n1 q1 (Fd:=λ_ _=>0) ⟨[.slice none 0 cap],(bp _ _ rfl).symm,?_⟩ (λ_ _=>Nat.zero_le _) (λ_ _ _ _ e=>by cases e))
   grind [af,Md.own]
  | some ad=>
   obtain ⟨d1,d4,d2,d3⟩:=c4 ad rfl
   obtain ⟨_,d5⟩:=r3 ad rfl
   obtain ⟨b,off,sp⟩:=ad
   simp only at d1 d2 d3 d4 d5
   subst d1;subst d4
   have QU:∀ b' i,bj b 0 (cap*e.sz) b' i+ao (List.length v+List.length yv) Hi b' i<=X3 b' i:=n4 _ rfl
   have mK:=q4.newsLen
   have tU:List.length v*e.sz+news.length<=cap*e.sz:=by rw[mK,<- Nat.add_mul];exact Nat.mul_le_mul_right _ nQ
   have mL:∀ j,j < cap*e.sz->(w.cell? ⟨b,j,none⟩).isSome=true:=λj hj=>by
    obtain ⟨c,e',fr,w1,w2,w3⟩:=d2
    grind [World.cell?]
   have dB:=run_append_room_src (P:=P) w t tx o.type el inf hu i1 b 0 (List.length v) cap (a.eval z) (List.length yv) news (by grind) nQ (λj hj=>by grind) (λj hj=>by rw[i2,Nat.zero_add];exact d2.frozen (by omega))
   rw[i2,Nat.zero_add] at dB
   have Eu:(execOp a.eval o).run P w=.ok (.value (.slice (some ⟨b,0,none⟩) (List.length v+List.length yv) cap)) (w.setCells b (List.length v*e.sz) news):=by
    simp_all [execOp,resolve,invoke,builtin]
   have bI:=fS (b:=b) (o:=List.length v*e.sz) news w (List.length v*e.sz)
   have QV:∀ b' i,1<=bj b (List.length v*e.sz) news.length b' i->1<=bj b 0 (cap*e.sz) b' i:=λb' i hp=>by
    grind [bj]
   have JH:=n1.world bI (λb' i hp=>by grind)
   refine fE Eu (gq JH q1 (Fd:=X3) ⟨[.slice (some ⟨b,0,none⟩) (List.length v+List.length yv) cap],(bp _ _ rfl).symm,?_⟩ (λ_ _=>Nat.le_refl _) (λ_ _ _ _ e=>by cases e))
   simp only[af,hole,List.any_nil,Bool.false_eq_true,if_false,Md.own,if_true,Md.e]
   refine ⟨some ⟨b,0,none⟩,cap,by rw[FW],by omega,c2,(λe=>by cases e),λaX e'=>?_⟩
   injection e' with e';subst e'
   refine ⟨rfl,rfl,bI.lY _ _ d2,Hi,λb' i=>by grind,λi zz hz=>?_⟩
   have cH:=n2 i zz hz
   have Bc:i < List.length v+List.length yv:=by grind
   refine ⟨_,af.length _ cH,?_,?_⟩
   ·
    have iP:Has (w.setCells b (List.length v*e.sz) news) b 0 (gY++news):=λj u hu=>by
     rw[Nat.zero_add]
     by_cases hj:j < gY.length
     ·rw[List.getElem?_append_left hj] at hu
      have hold:=d5 j u hu
      rw[Nat.zero_add] at hold
      refine bI.cell b j (by obtain ⟨c,e',fr,w1,_⟩:=d2;grind) ?_ u hold
      grind [bj]
     ·rw[List.getElem?_append_right (by omega)] at hu
      have:=mI (w:=w) (b:=b) (o:=List.length v*e.sz) (L:=news) (λk hk=>mL _ (by omega)) q4.one _ u hu
      grind
    intro j u hu
    rw[List.getElem?_take] at hu
    split at hu
    ·rw[List.getElem?_drop] at hu
     have:=iP _ u hu
     grind
    ·cases hu
   ·simp only[List.filterMap_nil]
    refine af.mono (P:=P) (λ_ _ h=>h) (λb' k ha u hu=>bI.cell b' k (n1.dA b' k (.inr ha)) ?_ u hu) bI.lY e cH (λ_ _=>Nat.le_refl _) (λb' k hp u hu=>bI.cell b' k ?_ ?_ u hu)
    ·rcases Nat.eq_zero_or_pos (bj b (List.length v*e.sz) news.length b' k) with h0 | h0
     ·exact h0
     ·exact absurd ha (n1.gD b' k (by grind))
    ·exact n1.dA b' k (.inl (by grind [a_]))
    ·rcases Nat.eq_zero_or_pos (bj b (List.length v*e.sz) news.length b' k) with h0 | h0
     ·exact h0
     ·have h1:=QV b' k h0;have Y:=QU b' k;have h3:=a_ Hi Bc b' k;have h4:=n1.f5 b' k;omega
 ·
  have NL:(Builtin.firstCells inf.size (List.length v) (.slice xa (List.length v) cap)).run P w.drew=.ok gY.toArray w.drew:=by
   cases xa with
   | none=>
    simp_all [run_firstCells_none]
   | some ad=>
    obtain ⟨_,d4,_,_⟩:=c4 ad rfl
    obtain ⟨_,d5⟩:=r3 ad rfl
    obtain ⟨b,off,sp⟩:=ad
    simp only at d4 d5
    subst d4
    exact run_firstCells_some w.drew inf.size (List.length v) ⟨b,off,none⟩ (List.length v) cap gY (by grind) (λj u hu=>by rw[gV];exact lh (d5 j u hu) (r5 u (List.mem_of_getElem? hu)))
  simp only[bX] at gX
  have dB:=run_append_grow_src (P:=P) w t tx o.type el inf zv hu i1 i4 xa (List.length v) cap gY NL (a.eval z) (List.length yv) news (by grind) (by omega) (by omega)
   (growslice_fits (by omega) (Nat.le_trans (Nat.mul_le_mul gX i3) (by decide)))
  have Eu:(execOp a.eval o).run P w=.ok (.value (.slice (some ⟨w.heap.size,0,none⟩) (List.length v+List.length yv) (grownCap w (List.length v+List.length yv) cap el)))
    (w.drew.alloc (.cells ((gY++news).toArray++Builtin.zeroCells zv.cells (grownCap w (List.length v+List.length yv) cap el - (List.length v+List.length yv))) el)):=by
   simp_all [execOp,resolve,invoke,builtin]
  have JF:=grownCap_ge w (List.length v+List.length yv) cap el
  have QW:=grownCap_le_maxLen w (List.length v+List.length yv) cap el (by grind [maxLen])
  have mK:=q4.newsLen
  have fR:=uW n1.drew (K:=K) (x:=x) (d:=o.dst) (e:=e) (m:=if me=m.e then me else ag e) (v:=v++yv) (c:=(gY++news).toArray++Builtin.zeroCells zv.cells (grownCap w (List.length v+List.length yv) cap el - (List.length v+List.length yv)))
   (cap:=grownCap w (List.length v+List.length yv) cap el) (el:=el) (fr:=(0,0)) (Fi:=Hi) (.inr (Nat.le_refl _)) q1
   (by
    rw[Array.size_append,size_zeroCells,i5,List.size_toArray,List.length_append,r4,mK,<- Nat.add_mul,<- Nat.add_mul]
    congr 1;omega) QW (by grind)
   (λb i=>by grind) (λi zz hz=>by
    have cH:=n2 i zz hz
    refine ⟨_,af.length _ cH,λj u hu=>?_,af.mono (P:=P) (w:=w) (w':=w.drew) (A:=A3) (A':=A3) (λ_ _ h=>h) (λ_ _ _ _ h=>h) (λb n hn=>hn) e cH (λ_ _=>Nat.le_refl _) (λ_ _ _ _ h=>h)⟩
    grind)
  rw[FW] at fR
  exact fE Eu fR
theorem step_append (h:bn P C A σ a w F) (dZ:∀ i T,E.TI i=some T->aq P T (.inl i)=true) {t tx:Nat} {y z:Operand} (ho:o.op=.call { callee:=.builtin .append,args:=#[y,z],argTypes:=#[t,tx] }) (ap:bg P y=true/\bg P z=true)
  (qA:(∃ e',P.underlying tx=some (.slice e'))\/P.underlying tx=some .string) {mv tf:Bool} {K:St->Option R} (hk:yf E σ t (bh σ y) z mv tf o.dst K=some x):o.wp P a w (Nx P C K x) Q:=by
 unfold yf at hk
 obtain ⟨T,hT,hk⟩:=bN hk
 have cJ:=dZ _ _ hT
 split at hk
 ·rename_i e
  have hl:=cJ
  simp only[aq,Bool.and_eq_true] at hl
  have Y:=hl.2
  split at Y
  rotate_left
  ·cases Y
  rename_i el hu
  simp only[Bool.and_eq_true,Nat.ble_eq] at Y
  obtain ⟨fi,jG⟩:=Y
  split at hk
  ·rename_i rJ
   simp only[Bool.and_eq_true] at rJ
   obtain ⟨_,rJ,Ds⟩:=rJ
   rcases bE h ap.2 with oq | ⟨xs,e'⟩
   rotate_left
   ·grind [qu,ep]
   obtain ⟨A0,Tl,F0,me,yv,news,Fw,Gi,q1,_,_,_,q4,_,q5,_⟩:=yC h oq qA hk
   rcases bE h ap.1 with hs | ⟨xs,e'⟩
   rotate_left
   ·grind [ep]
   obtain ⟨A1,fN,F1,m,v,cs,Fv,k1,k2,k3,k4,kr,k5,k6⟩:=ko h hs q1
   split at k1
   rotate_left
   ·cases k1
   rename_i cy
   split at k1
   rotate_left
   ·cases k1
   rename_i gX
   exact xj (me:=ag e) (Fw:=λ_ _=>0) (Gi:=λ_ _ _=>0) ho hu jG cy k5 k6 gX (by grind) (λ_ _ h=>h) k3 q4
    (λi zz hz=>Ro.rep _ _ (bS _) (Ro.indep e rJ Ds (af.flat e rJ (q5 i zz hz)))) (λb i=>by grind [eF])
  rcases bE h ap.1 with hs | ⟨xs,e'⟩
  rotate_left
  ·grind [ep]
  obtain ⟨A1,fN,F1,m,v,cs,Fv,k1,k2,k3,k4,kr,k5,k6⟩:=ko h hs hk
  split at k1
  rotate_left
  ·cases k1
  rename_i cy
  rcases bE k3 ap.2 with oq | ⟨xs,e'⟩
  rotate_left
  ·grind [qu,ep]
  obtain ⟨A2,eu,F2,me,yv,news,Fw,Gi,q1,q2,q3,qr,q4,_,q5,q6⟩:=yC k3 oq qA k1
  split at q1
  rotate_left
  ·cases q1
  rename_i gX
  exact xj ho hu jG cy k5 k6 gX q1 q2 q3 q4 q5 q6
 ·cases hk
end
end OT
set_option linter.unusedVariables false
set_option linter.unusedSimpArgs false
namespace OT
open Go
section
variable {P:Program} {C:Ctx} {A:Cells} {X:FP} {σ:St} {a:Act} {w:World} {F:Nat->FP} {R:Type} {x:R} {Q:Exit->Act->World->Prop} {o:Oper} {E:Env}
theorem z6 (h:bn P C A σ a w F) {f:Nat} {first cs:Array Operand} (ho:o.op=.makeFunc (.func f) first cs) (br:(P.funcs[f]?).any (λfn=>fn.nfree == cs.size)=true) {K:St->Option R}
  (hk:(if first.size=0 then
   match cs.toList with
   | []=>K (σ.aI o.dst (.val .fn (f,0)))
   | [.tmp i]=>match σ.get i with
    | .box (.int .i64) _ _ n=>K (((σ.put i .dead).put i (.cp (.int .i64) n)).aI o.dst (.val .fn (f,n)))
    | _=>none
   | _=>none
  else none)=some x):Tk P o a w (Nx P C K x):=by
 simp only[Option.any_eq_true,beq_iff_eq] at br
 obtain ⟨fn,hf,hn⟩:=br
 split at hk
 ·rename_i h0
  have Bd:first=#[]:=Array.eq_empty_of_size_eq_zero h0
  subst Bd
  split at hk
  ·rename_i fM
   have fM:cs=#[]:=by grind
   subst fM
   refine bW (v:=.func (.func f) #[] #[]) (by simp[execOp,ho,Instr.makeFunc]) (aP h hk ⟨[.func (.func f) #[] #[]],rfl,#[],rfl,fn,hf,.inl ⟨by simpa using hn,rfl⟩⟩ (λ_ _ _ _ e=>by cases e))
  ·rename_i i fM
   have fM:cs=#[.tmp i]:=by grind
   subst fM
   split at hk
   ·rename_i m H n hg
    have hi:i < σ.n:=by
     grind [ek]
    have hs:=h.cj i hi
    rw[hg] at hs
    obtain ⟨b,off,L,F1,s1,s2,s3,s4,s5,s6⟩:=hs
    simp only[af,Ro] at s6
    subst s6
    have h1:=h.put hi (s:=.dead) (v:=tmp a i) (Fd:=λ_ _=>0) (X':=F i) trivial (λb k=>by omega) (λ_ _ _ _ e=>by cases e)
    rw[iw] at h1
    have hle:∀ b' i',bj b off 1 b' i'<=F i b' i':=λb' i'=>by grind
    have Y:=h1.giveUp (A1:=λb' i'=>A b' i'\/1<=bj b off 1 b' i') (X1:=λ_ _=>0) (λ_ _ h=>.inl h) (λb' i' ha=>ha.imp id λhp=>⟨by grind,rfl⟩) (λ_ _=>Nat.zero_le _)
    have mL:ce w b off=some (.int .i64 n):=s3 0 _ rfl
    have hA:1<=bj b off 1 b off:=by simp[bj]
    have h3:=Y.put (d:=i) hi (s:=.cp (.int .i64) n) (v:=tmp a i) (Fd:=λ_ _=>0) (X':=λ_ _=>0)
     ⟨⟨b,off,none⟩,by rw[s1],rfl,[.int .i64 n],rfl,(λj u hu=>by
      grind),rfl⟩ (λb k=>by omega) (λ_ _ _ _ e=>by cases e)
    rw[iw] at h3
    have ev:a.eval (.tmp i)=.pointer (some ⟨b,off,none⟩):=s1
    refine bW (v:=.func (.func f) #[] #[.pointer (some ⟨b,off,none⟩)]) (by simp[execOp,ho,Instr.makeFunc,ev])
     (aP h3 hk ⟨[.func (.func f) #[] #[.pointer (some ⟨b,off,none⟩)]],rfl,_,rfl,fn,hf,.inr ⟨by simpa using hn,_,rfl,rfl,mL,.inr hA⟩⟩ (λ_ _ _ _ e=>by cases e))
   ·cases hk
  ·cases hk
 ·cases hk
theorem Cy (h:bn P C A σ a w F) {y:Operand} (ho:o.op=.assign y) (ap:bg P y=true) {T:Nat} {mv:Bool} {K:St->Option R} (hk:yg E σ T y mv o.dst K=some x):Tk P o a w (Nx P C K x):=by
 refine bW (v:=a.eval y) (by simp[execOp,ho]) ?_
 unfold yg at hk
 by_cases PH:∃ i xs,y=.tmp i/\σ.get i=.iI xs
 ·obtain ⟨i,xs,rfl,hg⟩:=PH
  have e:bh σ (.tmp i)=.iI xs:=by grind [bh]
  rw[e] at hk
  cases xs with
  | nil=>
   have hi:i < σ.n:=by
    grind [ek]
   have hs:=h.cj i hi
   rw[hg] at hs
   obtain ⟨vs,Fi,h1,Y,h3⟩:=hs
   exact aP h hk ⟨vs,λ_ _ _=>0,h1,λb i=>by simp[ao],λj y hy=>by cases hy⟩ (λ_ _ _ _ e=>by cases e)
  | cons _ _=>cases hk
 rcases bE h ap with hs | ⟨xs,e⟩
 rotate_left
 ·exfalso
  cases y with
  | tmp i=>
   grind [bh]
  | const v=>simp only[bh] at e;unfold jM at e;grind
  | func f=>cases e
  | global g=>cases e
 split at hk
 ·grind [aP]
 ·rename_i hv
  rw[hv] at hs
  obtain ⟨t,hT,hk⟩:=bN hk
  split at hk
  ·have hs:a.eval y=.slice none 0 0:=hs
   rw[hs]
   refine aP h hk ⟨[.slice none 0 0],(bp _ _ rfl).symm,?_⟩ (λ_ _ _ _ e=>by cases e)
   grind [af,hole,lz,Md.own]
  ·cases hk
 ·grind [aP]
 ·cases hk
 ·grind [ko,pQ]
 ·grind [ko,pQ]
 ·rename_i r p snap hv
  rw[hv] at hs
  split at hk
  ·rename_i t m H v hg
   split at hk
   ·rename_i hc
    simp only[Bool.and_eq_true,Bool.not_eq_true'] at hc
    split at hk
    ·rename_i i hd
     have hr:r < σ.n:=by
      grind [ek]
     have iK:=h.cj r hr
     rw[hg] at iK
     obtain ⟨b,off,L,F1,s1,s2,s3,s4,s5,s6⟩:=iK
     obtain ⟨pl,b',o',g1,g2,g3,g4⟩:=hs.2 hc.1.1
     have df:place σ a w r []=some ⟨t,H,rd w b off t.sz,some (b,off)⟩:=by
      unfold place;rw[hg,s1];rfl
     rw[df] at g1
     injection g1 with g1
     subst g1
     simp only[Option.some.injEq,Prod.mk.injEq] at g2
     obtain ⟨rfl,rfl⟩:=g2
     have h1:=h.put hr (s:=.dead) (v:=tmp a r) (Fd:=λ_ _=>0) (X':=F r) trivial (λb k=>by omega) (λ_ _ _ _ e=>by cases e)
     rw[iw] at h1
     obtain ⟨bw,w1,w2⟩:=h.whole r t m H v hg (wX hc.2)
     rw[s1] at w1
     injection w1 with w1;injection w1 with w1;injection w1 with w1 w3
     subst w1
     have:=gq (K:=K) (x:=x) (d:=some i) h1 hk (v:=a.eval y) (s:=.box t m H v) (Fd:=F r) ⟨b,off,L,F1,g3,s2,s3,s4,s5,s6⟩ (λb i=>Nat.le_refl _) (λt' m' H' v' e=>by grind)
     grind
    ·cases hk
   grind [aP]
  grind [aP]
 grind [aP,zh]
theorem Cz {α:Type} (v y:List α) {lo n:Nat} (h:lo+n<=v.length) (hy:n<=y.length):(lB v lo n y).length=v.length:=by
 grind [lB]
theorem Id {α:Type} (v y:List α) {lo n:Nat} (h:lo+n<=v.length) (hy:n<=y.length) (i:Nat):(lB v lo n y)[i]?=if lo<=i/\i < lo+n then y[i - lo]? else v[i]?:=by
 unfold lB
 by_cases h1:i < lo
 all_goals grind
theorem zk (h:bn P C A σ a w F) {r:Nat} {p:Path} {e:Ty} {m:Md} {v y:List e.den} {news:List Value} {Gi:Nat->FP} {me:Md} {lo n:Nat} {K:St->Option R} (dr:At σ r p (.aa e) m [] v) (cy:m.own=true) (hf:e.flat=true) (hn:lo+n<=List.length v) (hy:n<=List.length y)
  (hl:news.length=List.length y*e.sz) (gW:∀ u ∈ news,u.oneCell'=true) (jG:∀ (i:Nat) (z:e.den),y[i]?=some z->af P w A e me [] z ((news.drop (i*e.sz)).take e.sz) (Gi i))
  (hk:lA σ r p (.aa e) m (lB v lo n y) (λσ'=>K { σ' with vr:=(σ.eI r mp).vr,aA:=σ.aA })=some x) :
  ∃ (xa:Option Addr) (cap:Nat) (ad:Option (Nat×Nat)) (w2:World) (A3:Cells) (σ':St) (F3:Nat->FP),place σ a w r p=some ⟨.aa e,[],[.slice xa (List.length v) cap],ad⟩/\K σ'=some x/\bn P C A3 σ' a w2 F3 /\
   (xa=none->w2=w/\List.length v=0)/\∀ ad,xa=some ad->ad.off=0/\ad.spot=none/\(n=0->w2=w)/\(storeCells ⟨ad.block,lo*e.sz,none⟩ (news.take (n*e.sz))).run P w=.ok () w2:=by
 obtain ⟨hr,m2,H2,v2,be,rF,F2,q1,q2,q3,q4,q5,q6⟩:=rE h hk
 obtain ⟨_,e2,e3,e4⟩:=dr.inj q1
 subst e2;subst e3
 have e4:=eq_of_heq e4
 subst e4
 have cH:=q3
 simp only[af,hole,List.any_nil,Bool.false_eq_true,if_false,cy,if_true] at q3
 obtain ⟨xa,cap,rfl,c1,c2,c3,c4⟩:=q3
 have FW:=Cz v y hn hy
 have vt:∀ b i,F r b i<=1:=λb i=>by have:=h.f5 b i;grind [a_]
 have fin:∀ (w2:World),Ext w w2 (λb i=>0+(F2 b i+dL rF (Ty.aa e).sz b i))->(∀ b o,rF=some (b,o)->Has w2 b o [.slice xa (List.length v) cap])->af P w2 A (.aa e) m [] (lB v lo n y) [.slice xa (List.length v) cap] F2 ->
   (∀ (i:Nat) (z:e.den),(lB v lo n y)[i]?=some z->∀ ad,xa=some ad->∃ L,L.length=e.sz/\Has w2 ad.block (ad.off+i*e.sz) L/\af P w2 A e .leaf [] z L (λ_ _=>0)) ->
   ∃ (A3:Cells) (σ':St) (F3:Nat->FP),K σ'=some x/\bn P C A3 σ' a w2 F3:=by
  intro w2 g1 g2 g3 g4
  obtain ⟨A3,qx,Fr,n1,n2,n3,n4,n5⟩:=q6 w2 A _ F2 (λ_ _=>0) g1 (λ_ _ h=>h) (λ_ _ h=>.inl h) (λb i=>by omega) g2 (λ_=>rfl) g3
  refine ⟨A3,_,_,n1,n5 mp (nM (h.eg r)) (tL (h.eg r)) rfl λp' snap hb ap hlen=>?_⟩
  have h5:=vX (h.eg r) hb ap
  refine ⟨bm p'+1,False,by omega,λ_=>.inl (by omega),λ_=>by omega,?_⟩
  intro q pl hq hp
  cases q with
  | nil=>
   simp only[aD,Option.some.injEq] at hp
   subst hp
   exact ⟨_,_,rfl,λ_=>rfl⟩
  | cons s q=>
   cases s with
   | idx i=>
    cases xa with
    | none=>grind [aD]
    | some ad=>
     simp only[aD,hole,List.any_nil,Bool.false_eq_true,if_false,List.filterMap_nil] at hp ⊢
     split at hp
     ·rename_i hi
      rw[if_pos hi]
      have kj:i < (lB v lo n y).length:=by grind
      obtain ⟨L,l1,l2,l3⟩:=g4 i _ (List.getElem?_eq_getElem kj) ad rfl
      rw[bB l2 l1]
      obtain ⟨H',aJ,h1,Y⟩:=qw (A:=A) (m:=.leaf) (v:=(lB v lo n y)[i]) (F:=λ_ _=>0) q e l3 (.inr hf) hp
      grind
     ·cases hp
   | _=>simp[aD] at hp
 cases xa with
 | none=>
  have h0:=c3 rfl
  have JG:List.length v=0:=by omega
  grind [Ext.refl]
 | some ad=>
  obtain ⟨d1,d2,d3,Fi,d4,d5⟩:=c4 ad rfl
  obtain ⟨b,off,sp⟩:=ad
  simp only at d1 d2 d3 d4 d5
  subst d1;subst d2
  have hle:lo*e.sz+n*e.sz<=cap*e.sz:=by rw[<-Nat.add_mul];exact Nat.mul_le_mul_right _ (by omega)
  have mK:(news.take (n*e.sz)).length=n*e.sz:=by
   grind [Nat.mul_le_mul_right]
  have mL:∀ j,j < cap*e.sz->(w.cell? ⟨b,j,none⟩).isSome=true:=λj hj=>by
   obtain ⟨c,e',fr,w1,w2,w3⟩:=d3
   grind [World.cell?]
  have br:=run_storeCells_cells (P:=P) b (lo*e.sz) (news.take (n*e.sz)) 0 w (λj hj=>by grind) (λj hj=>by rw[Nat.add_zero];exact d3.frozen (by omega)) (λu hu=>gW u (List.mem_of_mem_take hu))
  rw[Nat.add_zero] at br
  have bI:=fS (b:=b) (o:=lo*e.sz) (news.take (n*e.sz)) w (lo*e.sz)
  rw[mK] at bI
  have sh:∀ b' i,bj b (lo*e.sz) (n*e.sz) b' i<=bj b 0 (cap*e.sz) b' i:=λb' i=>by
   grind [bj]
  have hA:∀ b' i,A b' i->∀ u,ce w b' i=some u->ce (w.setCells b (lo*e.sz) (news.take (n*e.sz))) b' i=some u:=λb' i ha u hu=>by
   refine bI.cell b' i (h.dA b' i (.inr ha)) ?_ u hu
   rcases Nat.eq_zero_or_pos (bj b (lo*e.sz) (n*e.sz) b' i) with h0 | h0
   ·exact h0
   ·exact absurd ha (h.gD b' i (by grind [a_]))
  have PI:∀ (i:Nat) (z:e.den),(lB v lo n y)[i]?=some z->∃ L,L.length=e.sz/\Has (w.setCells b (lo*e.sz) (news.take (n*e.sz))) b (i*e.sz) L/\Ro P (w.setCells b (lo*e.sz) (news.take (n*e.sz))) A e z L:=by
   intro i z hz
   rw[Id v y hn hy] at hz
   split at hz
   ·rename_i hi
    have oR:=af.flat _ hf (jG _ z hz)
    refine ⟨_,Ro.length _ oR,λj u hu=>?_,Ro.mono hA (λ_ _ h=>h) e oR⟩
    rw[List.getElem?_take] at hu
    split at hu
    ·rename_i hj
     rw[List.getElem?_drop] at hu
     have h6:(i - lo)*e.sz+e.sz<=n*e.sz:=by rw[<-Nat.succ_mul];exact Nat.mul_le_mul_right _ (by omega)
     have:=mI (w:=w) (b:=b) (o:=lo*e.sz) (L:=news.take (n*e.sz)) (λk hk=>mL _ (by omega)) (λu hu=>gW u (List.mem_of_mem_take hu)) ((i - lo)*e.sz+j) u (by grind)
     rw[<-this]
     have h7:i*e.sz=lo*e.sz+(i - lo)*e.sz:=by rw[<-Nat.add_mul];congr 1;omega
     congr 1;omega
    ·cases hu
   ·rename_i hi
    obtain ⟨L,l1,l2,l3⟩:=d5 i z hz
    have oR:=af.flat _ hf l3
    refine ⟨L,l1,λj u hu=>?_,Ro.mono hA (λ_ _ h=>h) e oR⟩
    refine bI.cell b _ (by obtain ⟨c,e',fr,w1,_⟩:=d3;grind) ?_ u (l2 j u hu)
    have hj:=(List.getElem?_eq_some_iff.1 hu).1
    simp only[bj]
    rw[if_neg]
    rintro ⟨_,h8,h9⟩
    rcases Nat.lt_or_ge i lo with Be | Be
    ·have h6:i*e.sz+e.sz<=lo*e.sz:=by rw[<-Nat.succ_mul];exact Nat.mul_le_mul_right _ (by omega)
     omega
    ·have h6:lo*e.sz+n*e.sz<=i*e.sz:=by rw[<-Nat.add_mul];exact Nat.mul_le_mul_right _ (by omega)
     omega
  have uU:af P (w.setCells b (lo*e.sz) (news.take (n*e.sz))) A (.aa e) m [] (lB v lo n y) [.slice (some ⟨b,0,none⟩) (List.length v) cap] F2:=by
   simp only[af,hole,List.any_nil,Bool.false_eq_true,if_false,cy,if_true]
   refine ⟨some ⟨b,0,none⟩,cap,by rw[FW],by omega,c2,(λe=>by cases e),λaX e'=>?_⟩
   injection e' with e';subst e'
   refine ⟨rfl,rfl,bI.lY _ _ d3,λ_ _ _=>0,λb' i=>by grind [eF],λi z hz=>?_⟩
   obtain ⟨L,l1,l2,l3⟩:=PI i z hz
   grind [Ro.flat]
  have qX:∀ b' o',rF=some (b',o')->Has (w.setCells b (lo*e.sz) (news.take (n*e.sz))) b' o' [.slice (some ⟨b,0,none⟩) (List.length v) cap]:=λb' o' ea j u hu=>by
   have h1:=(q5 b' o' ea).1 j u hu
   have hj:=(List.getElem?_eq_some_iff.1 hu).1
   have Y:=q4 b' (o'+j);have h3:=d4 b' (o'+j);have h4:=sh b' (o'+j);have h5:=vt b' (o'+j);have h7:=a_ F hr b' (o'+j)
   have h6:dL rF (Ty.aa e).sz b' (o'+j)=1:=by
    grind [dL,bj,Ty.sz]
   exact bI.cell _ _ (h.dA b' (o'+j) (.inl (by grind))) (by omega) u h1
  obtain ⟨A3,qx,F3,n1,n2⟩:=fin _ (bI.mono λb' i hz=>by
    grind) qX uU (λi z hz ad e=>by
    grind [Ro.flat])
  refine ⟨_,cap,rF,_,A3,qx,F3,q2,n1,n2,(λe=>by cases e),λaX e'=>?_⟩
  injection e' with e';subst e'
  refine ⟨rfl,rfl,λtj=>?_,br⟩
  subst tj
  simp[World.setCells]
theorem Gt (h:bn P C A σ a w F) (dZ:∀ i T,E.TI i=some T->aq P T (.inl i)=true) {t tx:Nat} {y z:Operand} (ho:o.op=.call { callee:=.builtin .copy,args:=#[y,z],argTypes:=#[t,tx] }) (ap:bg P y=true/\bg P z=true)
  (qA:(∃ e',P.underlying tx=some (.slice e'))\/P.underlying tx=some .string) {K:St->Option R} (hk:D3 E σ t y (bh σ z) o.dst K=some x):o.wp P a w (Nx P C K x) Q:=by
 unfold D3 at hk
 obtain ⟨T,hT,hk⟩:=bN hk
 have cJ:=dZ _ _ hT
 split at hk
 ·rename_i e
  have hl:=cJ
  simp only[aq,Bool.and_eq_true] at hl
  have Y:=hl.2
  split at Y
  rotate_left
  ·cases Y
  rename_i el hu
  simp only[Bool.and_eq_true,Nat.ble_eq] at Y
  obtain ⟨fi,jG⟩:=Y
  have LY:=run_sizeOf (P:=P) (w:=w) jG
  split at hk
  rotate_left
  ·cases hk
  rename_i hf
  rcases bE h ap.2 with oq | ⟨xs,e'⟩
  rotate_left
  ·grind [qu,ep]
  obtain ⟨A2,eu,F2,me,yv,news,Fw,Gi,q1,q2,q3,qr,q4,QX,q5,q6⟩:=yC h oq qA hk
  have Y:bn P C A2 eu a w F2:=q3.less λ_ _=>Nat.zero_le _
  have run:∀ (xa:Option Addr) (n cap:Nat) (w2:World),a.eval y=.slice xa n cap->(match (generalizing:=false) xa with | none=>w2=w | some ad=>(storeCells ad (news.take (min (List.length yv) n*e.sz))).run P w=.ok () w2) ->
    (execOp a.eval o).run P w=.ok (.value (.int .i64 ((min (List.length yv) n:Nat):Int))) w2:=by
   intro xa n cap w2 hy br
   have JI:=QX (min (List.length yv) n) (Nat.min_le_left _ _)
   cases xa with
   | none=>
    simp only at br
    subst br
    simp[execOp,ho,resolve,invoke,builtin,Builtin.copy_,hy,run_underlying hu,q4.len,LY,Nat.min_def] at JI ⊢
    simp[JI,goInt]
   | some ad=>
    simp only at br
    simp[execOp,ho,resolve,invoke,builtin,Builtin.copy_,hy,run_underlying hu,q4.len,LY,Nat.min_def] at JI br ⊢
    simp[JI,br,goInt]
  rcases bE Y ap.1 with hs | ⟨xs,e'⟩
  rotate_left
  ·grind
  split at q1
  ·rename_i r p snap lo hi hv
   rw[hv] at hs
   split at q1
   ·rename_i fR
    obtain ⟨hr,t',m',H',v',aJ,aX,F',h1,dr,h3,h4,h5,h6⟩:=d7 Y q1
    split at h1
    ·rename_i hc
     simp only[Bool.and_eq_true,List.isEmpty_iff] at hc
     obtain ⟨cy,hH⟩:=hc
     subst hH
     obtain ⟨e1,h1⟩:=aU h1
     subst e1
     obtain ⟨pl,e2,xa,n,cap,lH,cap',g1,g2,g3,g4,g5,g6,g7,g8,g9,g10,g11⟩:=hs.2 fR
     have Tm:n=List.length v':=by
      grind [af,hole]
     obtain ⟨xb,yy,rF,w2,A3,qx,F3,c1,c2,c3,c4,c5⟩:=zk Y (K:=λσ'=>K (σ'.aI o.dst (.val (.int .i64) ((min (List.length yv) (hi - lo):Nat):Int)))) ⟨dr⟩ cy hf (lo:=lo) (n:=min (List.length yv) (hi - lo)) (by omega) (Nat.min_le_left _ _) q4.newsLen q4.one q5 h1
     rw[c1] at g1
     injection g1 with g1
     subst g1
     simp only[List.cons.injEq,Value.slice.injEq,and_true] at g3
     obtain ⟨rfl,g3,rfl⟩:=g3
     injection g2 with g2
     subst g2
     refine fE (run lH (hi - lo) cap' w2 g6 ?_) (aP c3 c2 ⟨[.int .i64 _],rfl,rfl⟩ (λ_ _ _ _ e=>by cases e))
     cases xb with
     | none=>grind
     | some ad=>
      obtain ⟨LZ,k1,k2,k3,k4⟩:=g10 ad rfl
      rw[k1]
      obtain ⟨j1,j2,j3,j4⟩:=c5 ad rfl
      simp only
      by_cases aB:lo < hi
      ·have:LZ=⟨ad.block,lo*e.sz,none⟩:=by
        have h1:=k4 aB
        obtain ⟨x1,x2,x3⟩:=LZ
        grind
       grind
      ·have tj:min (List.length yv) (hi - lo)=0:=by omega
       rw[tj,Nat.zero_mul,List.take_zero]
       rw[j3 tj];rfl
    ·cases h1
   ·cases q1
  ·rename_i r p snap hv
   rw[hv] at hs
   split at q1
   ·rename_i fR
    obtain ⟨hr,t',m',H',v',aJ,aX,F',h1,dr,h3,h4,h5,h6⟩:=d7 Y q1
    split at h1
    ·rename_i hc
     simp only[Bool.and_eq_true,List.isEmpty_iff] at hc
     obtain ⟨cy,hH⟩:=hc
     subst hH
     obtain ⟨e1,h1⟩:=aU h1
     subst e1
     obtain ⟨pl,g1,g2,g3⟩:=hs.2 fR
     obtain ⟨xb,yy,rF,w2,A3,qx,F3,c1,c2,c3,c4,c5⟩:=zk Y (K:=λσ'=>K (σ'.aI o.dst (.val (.int .i64) ((min (List.length yv) (List.length v'):Nat):Int)))) ⟨dr⟩ cy hf (lo:=0) (n:=min (List.length yv) (List.length v')) (by omega) (Nat.min_le_left _ _) q4.newsLen q4.one q5 h1
     rw[c1] at g1
     injection g1 with g1
     subst g1
     simp only[bp (.aa e) _ rfl] at g2
     refine fE (run xb (List.length v') yy w2 g2 ?_) (aP c3 c2 ⟨[.int .i64 _],rfl,rfl⟩ (λ_ _ _ _ e=>by cases e))
     cases xb with
     | none=>grind
     | some ad=>
      obtain ⟨j1,j2,j3,j4⟩:=c5 ad rfl
      obtain ⟨b,off,sp⟩:=ad
      grind
    ·cases h1
   ·cases q1
  ·cases q1
 ·cases hk
end
end OT
set_option linter.unusedVariables false
set_option linter.unusedSimpArgs false
namespace OT
open Go
def dC (w:World):(t:Ty)->Md->List Path->List Value->FP
 | .pair a b,m,H,cs=>λx i=>dC w a m.l (H.filterMap lE) (cs.take a.sz) x i+dC w b m.r (H.filterMap lF) (cs.drop a.sz) x i
 | .aa e,m,H,cs=>
  if hole H then λ_ _=>0 else if m.own then
   match cs with
   | [.slice (some ad) n cap]=>λx i=>bj ad.block 0 (cap*e.sz) x i+ao n (λj=>dC w e m.e (H.filterMap (dy j)) (rd w ad.block (j*e.sz) e.sz)) x i
   | _=>λ_ _=>0
  else λ_ _=>0
 | .ptr e,m,H,cs=>
  if hole H then λ_ _=>0 else if m.own then
   match cs with
   | [.pointer (some ad)]=>λx i=>bj ad.block 0 e.sz x i+dC w e m.e [] (rd w ad.block 0 e.sz) x i
   | _=>λ_ _=>0
  else λ_ _=>0
 | .map _ _,m,H,cs=>
  if hole H then λ_ _=>0 else if m.own then
   match cs with
   | [.map (some r)]=>bj r 0 1
   | _=>λ_ _=>0
  else λ_ _=>0
 | _,_,_,_=>λ_ _=>0
section
variable {P:Program} {w w1:World} {A:Cells}
theorem af.fp:∀ (t:Ty) {m:Md} {H:List Path} {v:t.den} {cs:List Value} {F:FP},af P w A t m H v cs F->af P w A t m H v cs (dC w t m H cs)/\∀ b i,dC w t m H cs b i<=F b i:=by
 intro t
 induction t with
 | pair a b eG et=>
  intro m H v cs F h
  obtain ⟨h0,F1,F2,hs,h1,Y⟩:=h
  obtain ⟨J,a2⟩:=eG h1
  obtain ⟨b1,b2⟩:=et Y
  exact ⟨⟨h0,_,_,λ_ _=>Nat.le_refl _,J,b1⟩,λb i=>by grind [dC]⟩
 | aa e ih=>
  intro m H v cs F h
  have h':=h
  simp only[af] at h
  split at h
  ·simp_all [af,dC]
  ·rename_i hh
   split at h
   ·rename_i hm
    obtain ⟨xa,cap,rfl,h1,Y,h3,h4⟩:=h
    cases xa with
    | none=>
     grind [dC,af]
    | some ad=>
     obtain ⟨g1,g2,g3,Fi,g4,g5⟩:=h4 ad rfl
     have each:∀ (i:Nat) (x:e.den),v[i]?=some x->∃ L:List Value,L.length=e.sz/\Has w ad.block (i*e.sz) L/\af P w A e m.e (H.filterMap (dy i)) x L (dC w e m.e (H.filterMap (dy i)) (rd w ad.block (i*e.sz) e.sz)) /\
       ∀ b k,dC w e m.e (H.filterMap (dy i)) (rd w ad.block (i*e.sz) e.sz) b k<=Fi i b k:=λi x hx=>by
      grind [bB]
     have hle:∀ b i,ao (List.length v) (λj=>dC w e m.e (H.filterMap (dy j)) (rd w ad.block (j*e.sz) e.sz)) b i<=ao (List.length v) Fi b i:=λb i=>yo b i λj hj=>by
      obtain ⟨_,_,_,_,q⟩:=each j _ (List.getElem?_eq_getElem hj)
      exact q b i
     refine ⟨?_,λb i=>by grind [dC]⟩
     simp only[af,hh,hm,if_true,Bool.false_eq_true,if_false]
     refine ⟨some ad,cap,rfl,h1,Y,h3,λaX e'=>?_⟩
     injection e' with e';subst e'
     refine ⟨g1,g2,g3,λj=>dC w e m.e (H.filterMap (dy j)) (rd w ad.block (j*e.sz) e.sz),λb i=>by grind [dC],λi x hx=>?_⟩
     grind
   simp_all [af,dC]
 | ptr e ih=>
  intro m H v cs F h
  simp only[af] at h
  split at h
  ·simp_all [af,dC]
  ·rename_i hh
   split at h
   ·grind [dC,bB,af]
   simp_all [af,dC]
 | arr n e ih=>intro m H v cs F h;exact ⟨h,λ_ _=>Nat.zero_le _⟩
 | map k v=>
  intro m H x cs F h
  simp only[af] at h
  split at h
  ·simp_all [af,dC]
  ·rename_i hh
   split at h
   ·rename_i hm
    obtain ⟨h1,Y,r,ke,rfl,h4,h5,h6,h7⟩:=h
    refine ⟨?_,λb i=>?_⟩
    ·simp only[af,hh,hm,if_true,Bool.false_eq_true,if_false]
     exact ⟨h1,Y,r,ke,rfl,h4,by simp[dC,hh,hm,bj],h6,h7⟩
    ·simp only[dC,hh,hm,if_true,Bool.false_eq_true,if_false,bj]
     grind
   simp_all [af,dC]
 | _=>intro m H v cs F h;exact ⟨h,λ_ _=>Nat.zero_le _⟩
theorem Ev:∀ (t:Ty) {m:Md} {H:List Path} {v:t.den} {cs:List Value} {F:FP},af P w A t m H v cs F->(∀ b i,1<=F b i->∀ u,ce w b i=some u->ce w1 b i=some u)->dC w1 t m H cs=dC w t m H cs:=by
 intro t
 induction t with
 | pair a b eG et=>
  intro m H v cs F h hF
  obtain ⟨h0,F1,F2,hs,h1,Y⟩:=h
  have e1:=eG h1 (λb i hp=>hF b i (by grind))
  have e2:=et Y (λb i hp=>hF b i (by grind))
  simp_all [dC]
 | aa e ih=>
  intro m H v cs F h hF
  simp only[af] at h
  split at h
  ·simp_all [dC]
  ·rename_i hh
   split at h
   ·rename_i hm
    obtain ⟨xa,cap,rfl,h1,Y,h3,h4⟩:=h
    cases xa with
    | none=>simp only[dC]
    | some ad=>
     obtain ⟨g1,g2,g3,Fi,g4,g5⟩:=h4 ad rfl
     simp only[dC,hh,hm,if_true,Bool.false_eq_true,if_false]
     funext b i
     congr 1
     refine congrFun (congrFun (mw λj hj=>?_) b) i
     obtain ⟨L,l1,l2,l3⟩:=g5 j _ (List.getElem?_eq_getElem hj)
     have hle:j*e.sz+e.sz<=cap*e.sz:=by rw[<-Nat.succ_mul];exact Nat.mul_le_mul_right _ (by omega)
     have Tn:Has w1 ad.block (j*e.sz) L:=λk u hu=>hF _ _ (by
      grind [bj]) u (l2 k u hu)
     grind [bB,a_]
   simp_all [dC]
 | ptr e ih=>
  intro m H v cs F h hF
  simp only[af] at h
  split at h
  ·simp_all [dC]
  ·rename_i hh
   split at h
   ·rename_i hm
    obtain ⟨b0,rfl,h1,L,F1,Y,h3,h4,h5⟩:=h
    have OF:Has w1 b0 0 L:=λk u hu=>hF _ _ (by
     grind [bj]) u (h3 k u hu)
    simp only[dC,hh,hm,if_true,Bool.false_eq_true,if_false,bB h3 Y,bB OF Y]
    rw[ih h5 (λb i hp=>hF b i (by grind))]
   simp_all [dC]
 | _=>intro m H v cs F h hF;rfl
theorem af.indep {A':Cells}:∀ (t:Ty) {v:t.den} {cs:List Value} {F:FP},t.gz=true->af P w A t (av t) [] v cs F->af P w A' t (av t) [] v cs F:=by
 intro t
 induction t with
 | pair a b eG et=>
  intro v cs F hn h
  simp only[Ty.gz,Bool.and_eq_true] at hn
  obtain ⟨h0,F1,F2,hs,h1,Y⟩:=h
  exact ⟨h0,F1,F2,hs,eG hn.1 h1,et hn.2 Y⟩
 | aa e ih=>
  intro v cs F hn h
  simp only[af,hole,List.any_nil,Bool.false_eq_true,if_false,av,lz,Md.own,if_true] at h ⊢
  obtain ⟨xa,cap,h1,Y,h3,h4,h5⟩:=h
  refine ⟨xa,cap,h1,Y,h3,h4,λad e'=>?_⟩
  obtain ⟨g1,g2,g3,Fi,g4,g5⟩:=h5 ad e'
  refine ⟨g1,g2,g3,Fi,g4,λi x hx=>?_⟩
  obtain ⟨L,l1,l2,l3⟩:=g5 i x hx
  exact ⟨L,l1,l2,ih hn l3⟩
 | ptr e ih=>
  intro v cs F hn h
  simp only[af,hole,List.any_nil,Bool.false_eq_true,if_false,av,lz,Md.own,if_true] at h ⊢
  obtain ⟨b,h1,Y,L,F1,h3,h4,h5,h6⟩:=h
  exact ⟨b,h1,Y,L,F1,h3,h4,h5,ih hn h6⟩
 | arr n e ih=>
  intro v cs F hn h
  exact ⟨h.1,Ro.indep _ (by have:=h.2.1;grind [Ty.flat]) hn h.2⟩
 | fn=>grind [Ty.gz]
 | map k v=>
  grind [Ty.gz,af,lz,Md.own,Ro.indep]
 | _=>intro v cs F hn h;exact h
theorem af.free {A':Cells} {t:Ty} {m:Md} {v:t.den} {cs:List Value} {F:FP} (ho:(t.flat||decide (m=av t))=true) (hn:t.gz=true) (h:af P w A t m [] v cs F):af P w A' t m [] v cs F:=by
 grind [Ro.flat,Ro.indep,af.flat,af.indep]
def World.news (w w2:World):World:={ w2 with heap:=(w.heap.toList++w2.heap.toList.drop w.heap.size).toArray }
theorem zl {w2:World} (h:w.heap.size<=w2.heap.size) (k:Nat):(World.news w w2).heap[k]?=if k < w.heap.size then w.heap[k]? else w2.heap[k]?:=by
 grind [World.news]
theorem ou {w2:World} (h:w.heap.size<=w2.heap.size):(World.news w w2).heap.size=w2.heap.size:=by grind [World.news]
theorem kO {w2:World} (h:w.heap.size<=w2.heap.size) {b:Nat} (hb:b < w.heap.size):(World.news w w2).heap[b]?=w.heap[b]?:=by grind [zl]
theorem su {w2:World} (h:w.heap.size<=w2.heap.size) {b:Nat} (hb:w.heap.size<=b):(World.news w w2).heap[b]?=w2.heap[b]?:=by grind [zl]
theorem q9 {w2:World} {b:Nat} (h:w2.heap[b]?=w.heap[b]?) (i:Nat):ce w2 b i=ce w b i:=sd h i
theorem q_ {w2:World} {b:Nat} (h:w2.heap[b]?=w.heap[b]?) (i:Nat):w2.frozen? ⟨b,i,none⟩=w.frozen? ⟨b,i,none⟩:=by simp[World.frozen?,h]
theorem pW {w2:World} {b:Nat} (h:w2.heap[b]?=w.heap[b]?) (n:Nat×Bool):cr w b n↔cr w2 b n:=by grind [cr]
theorem cr.lt {b:Nat} {n:Nat×Bool} (h:cr w b n):b < w.heap.size:=by
 obtain ⟨c,e,fr,h1,_⟩:=h;grind
theorem wb {w2:World} {F:FP} (h:Ext w w2 F):Ext w (World.news w w2) (λ_ _=>0)/\Ext (World.news w w2) w2 F:=by
 have hs:=h.size
 refine ⟨⟨by grind [ou],λb i hb _ u hu=>by grind [q9,kO],λb n hn=>(pW (kO hs hn.lt) n).1 hn,λb i hb=>q_ (kO hs hb) i,h.os,h.tape,h.output,λb hb _=>kO hs hb,h.drawn⟩,
  ⟨by grind [ou],λb i hb hz u hu=>?_,λb n hn=>?_,λb i hb=>?_,rfl,rfl,rfl,λb hb hz=>?_,Nat.le_refl _⟩⟩
 ·by_cases vv:b < w.heap.size
  ·rw[q9 (kO hs vv)] at hu
   exact h.cell b i vv hz u hu
  grind [q9,su]
 ·by_cases vv:b < w.heap.size
  ·exact h.lY b n ((pW (kO hs vv) n).2 hn)
  grind [pW,su]
 ·by_cases vv:b < w.heap.size
  ·rw[q_ (kO hs vv)];exact h.oM b i vv
  grind [q_,su]
 ·by_cases vv:b < w.heap.size
  ·rw[kO hs vv];exact h.obj b vv hz
  grind [su]
end
def ArgRel (P:Program) (w:World) (A:Cells) (ho:List Path->Bool) (pm:PM) (t:Ty) (v:t.den) (x:Value) (F:FP):Prop:=
 match pm with
 | .ro=>∃ cs,x=aZ t cs/\Ro P w A t v cs
 | .fix f=>(∃ cs,x=aZ t cs/\Ro P w A t v cs)/\∀ e:t=.fn,(e ▸ v:Ty.fn.den).1=f
 | .du m _=>∃ b o L F1,x=.pointer (some ⟨b,o,none⟩)/\L.length=t.sz/\Has w b o L/\(∀ j,j < t.sz->w.frozen? ⟨b,o+j,none⟩=false)/\(∀ b' i,bj b o t.sz b' i+F1 b' i<=F b' i)/\af P w A t m [] v L F1
 | .fx m=>∃ cs,x=aZ t cs/\af P w A t m [] v cs F
 | .fh m=>∃ H cs,ho H=true/\x=aZ t cs/\af P w A t m H v cs F
 | .iU m=>∃ b o L F1,x=.pointer (some ⟨b,o,none⟩)/\L.length=t.sz/\Has w b o L/\(∀ j,j < t.sz->w.frozen? ⟨b,o+j,none⟩=false)/\(∀ b' i,bj b o t.sz b' i+F1 b' i<=F b' i)/\af P w A t m [] v L F1
def gr (P:Program) (w:World) (A:Cells) (ho:List Path->Bool):(ps:List (PM×Ty))->(ba (ps.map (·.2))).den->List Value->FP->Prop
 | [],_,xs,_=>xs=[]
 | (pm,t)::ps,v,xs,F=>∃ (x:Value) (Gu:List Value) (F1 F2:FP),xs=x::Gu/\(∀ b i,F1 b i+F2 b i<=F b i)/\ArgRel P w A ho pm t v.1 x F1/\gr P w A ho ps v.2 Gu F2
abbrev Du:List Path->Bool:=λH=>H.isEmpty
theorem gr.none {P:Program} {w:World} {A:Cells} {ho:List Path->Bool} (hh:∀ H,ho H=true->H=[]):∀ (ps:List (PM×Ty)) {v:(ba (ps.map (·.2))).den} {xs:List Value} {F:FP},gr P w A ho ps v xs F->gr P w A Du ps v xs F
 | [],_,_,_,h=>h
 | (pm,t)::ps,_,_,_,⟨x,Gu,F1,F2,h1,Y,h3,h4⟩=>⟨x,Gu,F1,F2,h1,Y,by
  cases pm with
  | fh m=>obtain ⟨H,cs,g1,g2⟩:=h3;rw[hh H g1] at g2;exact ⟨[],cs,rfl,g2⟩
  | _=>exact h3,gr.none hh ps h4⟩
def fY (P:Program) (w:World) (A:Cells):(ps:List (PM×Ty))->(ba (dT ps)).den->List Value->FP->Prop
 | [],_,_,_=>True
 | (.ro,_)::ps,v,xs,F=>fY P w A ps v xs.tail F
 | (.fix _,_)::ps,v,xs,F=>fY P w A ps v xs.tail F
 | (.iU _,_)::ps,v,xs,F=>fY P w A ps v xs.tail F
 | (.fh _,_)::ps,v,xs,F=>fY P w A ps v xs.tail F
 | (.du _ m,t)::ps,v,xs,F=>∃ (F1 F2:FP),(∀ b i,F1 b i+F2 b i<=F b i)/\(∃ b o L F3,xs.head?=some (.pointer (some ⟨b,o,none⟩))/\L.length=t.sz/\Has w b o L/\(∀ b' i,bj b o t.sz b' i+F3 b' i<=F1 b' i)/\af P w A t m [] v.1 L F3)/\fY P w A ps v.2 xs.tail F2
 | (.fx m,t)::ps,v,xs,F=>∃ (F1 F2:FP),(∀ b i,F1 b i+F2 b i<=F b i)/\(∃ cs,xs.head?=some (aZ t cs)/\af P w A t m [] v.1 cs F1)/\fY P w A ps v.2 xs.tail F2
def fj (P:Program) (w:World) (A:Cells) (rs:List wG) (rv:Value) (F:FP):Prop:=
 match rs with
 | []=>True
 | [x]=>∃ cs,rv=aZ x.t cs/\af P w A x.t x.m [] x.v cs F
 | xs=>∃ (vs:Array Value) (Fi:Nat->FP),rv=.tuple vs/\(∀ b i,ao xs.length Fi b i<=F b i)/\∀ j x,xs[j]?=some x->∃ v cs,vs[j]?=some v/\v=aZ x.t cs/\af P w A x.t x.m [] x.v cs (Fi j)
def Sound (P:Program) (f:FuncId) (g:kF):Prop:=
 ∀ (w:World) (A:Cells) (F0:FP) (v:(ba (g.ps.map (·.2))).den) (xs:List Value),gr P w A (g.vj v) g.ps v xs F0->(∀ b i,F0 b i<=1)->(∀ b i,1<=F0 b i->¬ A b i)->(∀ b i,1<=F0 b i\/A b i->b < w.heap.size)->oW P w F0 ->
  ∀ out,g.F v=some out->Calls P f xs.toArray w λe w'=>∃ rv,e=.returned rv/\Ext w w' F0/\∃ (A':Cells) (G GR GM:FP),(∀ b i,A b i->A' b i)/\(∀ b i,A' b i->A b i\/1<=F0 b i\/w.heap.size<=b) /\
   (∀ b i,1<=G b i->1<=F0 b i\/w.heap.size<=b)/\(∀ b i,G b i<=1)/\(∀ b i,1<=G b i->¬ A' b i)/\(∀ b i,1<=G b i\/A' b i->b < w'.heap.size)/\(∀ b i,GR b i+GM b i<=G b i) /\
   fj P w' A' (dU g.rs out).1 rv GR/\fY P w' A' g.ps (dU g.rs out).2 xs GM
def l8 (P:Program) (f:FuncId) (cap:Bool):Prop:=∃ fn,P.funcs[f]?=some fn/\(fn.name == "runtime.NumGoroutine")=false/\fn.body.isNone=false/\fn.nfree=(match cap with | true=>1 | false=>0)
end OT
set_option linter.unusedVariables false
set_option linter.unusedSimpArgs false
namespace OT
open Go
section
variable {P:Program} {C:Ctx} {A:Cells} {X:FP} {σ:St} {a:Act} {w:World} {F:Nat->FP} {R:Type} {x:R}
theorem KJ {K:St->Option R}:∀ (ps:List (PM×Ty)) (xs:List Operand) {σ:St} {A:Cells} {F:Nat->FP},bn P C A σ a w F->iV σ ps xs K=some x ->
  ∃ (A':Cells) (σ':St) (F':Nat->FP),K σ'=some x/\(∀ b i,A b i->A' b i)/\bn P C A' σ' a w F'/\σ'.n=σ.n:=by
 intro ps
 induction ps with
 | nil=>intro xs σ A F h hk;exact ⟨A,σ,F,by cases xs <;> exact hk,λ_ _ h=>h,h,rfl⟩
 | cons p ps ih=>
  intro xs σ A F h hk
  cases xs with
  | nil=>obtain ⟨pm,t⟩:=p;exact ⟨A,σ,F,by cases pm <;> exact hk,λ_ _ h=>h,h,rfl⟩
  | cons y xs=>
   obtain ⟨pm,t⟩:=p
   have fin:∀ {m' m:Md} {r:Nat} {p:Path},(if m'=m then iV σ ps xs K else lW σ r p m λσ=>iV σ ps xs K)=some x ->
     ∃ (A':Cells) (σ':St) (F':Nat->FP),K σ'=some x/\(∀ b i,A b i->A' b i)/\bn P C A' σ' a w F'/\σ'.n=σ.n:=λhk=>by
    grind [Cu]
   cases pm with
   | ro=>exact ih xs h hk
   | fix f=>exact ih xs h hk
   | du m m'=>
    simp only[iV] at hk
    split at hk
    ·split at hk
     ·obtain ⟨hr,t',m',H',v',aJ,aX,F',h1,_⟩:=d7 h hk
      exact fin h1
     ·cases hk
    ·cases hk
   | iU m=>
    simp only[iV] at hk
    split at hk
    ·split at hk
     ·obtain ⟨hr,t',m',H',v',aJ,aX,F',h1,_⟩:=d7 h hk
      exact fin h1
     ·cases hk
    ·cases hk
   | fx m=>
    simp only[iV] at hk
    split at hk
    ·split at hk
     ·obtain ⟨hr,t',m',H',v',aJ,aX,F',h1,_⟩:=d7 h hk
      exact fin h1
     ·cases hk
    ·cases hk
   | fh m=>
    simp only[iV] at hk
    split at hk
    ·split at hk
     ·obtain ⟨hr,t',m',H',v',aJ,aX,F',h1,_⟩:=d7 h hk
      exact fin h1
     ·cases hk
    ·cases hk
theorem Gw (h:bn P C A σ a w F) {r:Nat} {t:Ty} {m:Md} {v:t.den} (hg:σ.get r=.box t m [] v):∃ (A':Cells) (F':Nat->FP),(∀ b i,A b i->A' b i)/\bn P C A' ((σ.put r .dead).put r (.cp t v)) a w F'/\Ro P w A' (.ptr t) v [tmp a r]/\r < σ.n:=by
 have hi:r < σ.n:=by
  grind [ek]
 have hs:=h.cj r hi
 rw[hg] at hs
 obtain ⟨b,off,L,F1,s1,s2,s3,s4,s5,s6⟩:=hs
 have h1:=h.put hi (s:=.dead) (v:=tmp a r) (Fd:=λ_ _=>0) (X':=F r) trivial (λb k=>by omega) (λ_ _ _ _ e=>by cases e)
 rw[iw] at h1
 have Y:=h1.giveUp (A1:=λb' i'=>A b' i'\/1<=F r b' i') (X1:=λ_ _=>0) (λ_ _ h=>.inl h) (λb' i' ha=>ha.imp id λhp=>⟨hp,rfl⟩) (λ_ _=>Nat.zero_le _)
 have km:Ro P w (λb' i'=>A b' i'\/1<=F r b' i') (.ptr t) v [tmp a r]:=
  ⟨⟨b,off,none⟩,by rw[s1],rfl,L,s2,(λj u hu=>⟨s3 j u hu,.inr (by
   grind [bj])⟩),af.my (λ_ _ h=>.inl h) t s6 (λb' i' hp=>.inr (by grind))⟩
 have h3:=Y.put (d:=r) hi (s:=.cp t v) (v:=tmp a r) (Fd:=λ_ _=>0) (X':=λ_ _=>0) km (λb k=>by omega) (λ_ _ _ _ e=>by cases e)
 grind [iw]
theorem KK (h:bn P C A σ a w F) {i:Nat} (hi:i < σ.n) {t:Ty} {v:t.den} (km:Ro P w A (.ptr t) v [tmp a i]):∃ F':Nat->FP,bn P C A ((σ.put i .dead).put i (.cp t v)) a w F':=by
 have h1:=h.put hi (s:=.dead) (v:=tmp a i) (Fd:=λ_ _=>0) (X':=F i) trivial (λb k=>by omega) (λ_ _ _ _ e=>by cases e)
 rw[iw] at h1
 have Y:=h1.giveUp (A1:=A) (X1:=λ_ _=>0) (λ_ _ h=>h) (λb' i' ha=>.inl ha) (λ_ _=>Nat.zero_le _)
 have h3:=Y.put (d:=i) hi (s:=.cp t v) (v:=tmp a i) (Fd:=λ_ _=>0) (X':=λ_ _=>0) km (λb k=>by omega) (λ_ _ _ _ e=>by cases e)
 grind [iw]
theorem Ie (h:bn P C A σ a w F) {i r:Nat} {snap:List Nat} {t:Ty} {m:Md} {H:List Path} {v:t.den} (hi:i < σ.n) (hs:σ.get i=.ptr r [] snap) (ap:σ.ok r snap=true) (hg:σ.get r=.box t m H v):tmp a i=tmp a r:=by
 have h1:=h.cj i hi
 rw[hs] at h1
 obtain ⟨pl,b,o,p1,p2,p3,p4⟩:=h1.2 ap
 have hr:r < σ.n:=by
  grind [ek]
 have Y:=h.cj r hr
 rw[hg] at Y
 obtain ⟨b2,off,L,F1,s1,_⟩:=Y
 grind [place,bk,aD]
theorem L0 {K:St->Option R}:∀ (ps:List (PM×Ty)) (xs:List Operand) {σ:St} {A:Cells} {F:Nat->FP},bn P C A σ a w F->pC σ ps xs K=some x ->
  ∃ (A':Cells) (σ':St) (F':Nat->FP),K σ'=some x/\(∀ b i,A b i->A' b i)/\bn P C A' σ' a w F'/\σ'.n=σ.n:=by
 intro ps
 induction ps with
 | nil=>intro xs σ A F h hk;exact ⟨A,σ,F,by cases xs <;> exact hk,λ_ _ h=>h,h,rfl⟩
 | cons p ps ih=>
  intro xs σ A F h hk
  cases xs with
  | nil=>obtain ⟨pm,t⟩:=p;exact ⟨A,σ,F,by cases pm <;> exact hk,λ_ _ h=>h,h,rfl⟩
  | cons y xs=>
   obtain ⟨pm,t⟩:=p
   have fin:∀ {r:Nat} {p:Path},(ny σ r p λσ=>pC σ ps xs K)=some x ->
     ∃ (A':Cells) (σ':St) (F':Nat->FP),K σ'=some x/\(∀ b i,A b i->A' b i)/\bn P C A' σ' a w F'/\σ'.n=σ.n:=λhk=>by
    grind [ol]
   cases pm with
   | fix f=>exact ih xs h hk
   | du m m'=>exact ih xs h hk
   | iU m=>exact ih xs h hk
   | fx m=>exact ih xs h hk
   | fh m=>exact ih xs h hk
   | ro=>
    simp only[pC] at hk
    split at hk
    ·grind
    ·split at hk
     ·grind
     ·grind
     ·rename_i r p snap Gm
      split at hk
      ·rename_i ap
       split at hk
       ·rename_i t m H v hg
        split at hk
        ·rename_i hc
         simp only[Bool.and_eq_true,List.isEmpty_iff] at hc
         obtain ⟨hH,tU⟩:=hc
         subst hH
         obtain ⟨A1,F1,tO,h3,h4,h5⟩:=Gw h hg
         have go:∀ {eu:St} {F2:Nat->FP},bn P C A1 eu a w F2->pC eu ps xs K=some x->eu.n=σ.n->∃ (A':Cells) (σ':St) (F':Nat->FP),K σ'=some x/\(∀ b i,A b i->A' b i)/\bn P C A' σ' a w F'/\σ'.n=σ.n:=λh3 hk hn=>by
          grind
         cases y with
         | tmp i=>
          simp only[Lp] at hk
          split at hk
          ·exact go h3 hk rfl
          ·rename_i zm
           simp only[Bool.or_eq_false_iff,Bool.not_eq_false',Nat.blt_eq] at zm
           obtain ⟨g1,g2⟩:=zm
           have hi:i < σ.n:=g2
           have Df:i≠r:=λe=>by simp_all
           have hs:σ.get i=.ptr r [] snap:=by
            grind [bh]
           have he:=Ie h hi hs ap hg
           rw[<-he] at h4
           obtain ⟨F3,h6⟩:=KK h3 (i:=i) g2 h4
           exact go h6 hk rfl
         | const c=>exact go h3 hk rfl
         | func f=>exact go h3 hk rfl
         | global g=>exact go h3 hk rfl
        ·cases hk
       ·cases hk
      ·cases hk
     grind
def AX (A:Cells) (F:Nat->FP) (n r0:Nat) (ow:Bool):Cells:=λb i=>A b i\/(ow=true/\∃ j,j < n/\j≠r0/\1<=F j b i)
def JJ (P:Program) (A:Cells) (σ:St) (a:Act) (w:World) (F:Nat->FP) (ow:Bool) (pm:PM) (t:Ty) (v:t.den) (s:Slot) (tv:Value) (wp:Option (Nat×Path)):Prop:=
 match pm with
 | .ro=>wp=none/\∃ cs,tv=aZ t cs/\Ro P w (λb i=>A b i\/(ow=true/\∃ r ∈ eQ s,r < σ.n/\1<=F r b i)) t v cs
 | .fix f=>wp=none/\(∃ cs,tv=aZ t cs/\Ro P w A t v cs)/\∀ e:t=.fn,(e ▸ v:Ty.fn.den).1=f
 | .du m _=>∃ r p snap b o cs,s=.ptr r p snap/\wp=some (r,p)/\At σ r p t m [] v/\tv=.pointer (some ⟨b,o,none⟩)/\place σ a w r p=some ⟨t,[],cs,some (b,o)⟩
 | .fx m=>∃ r p snap cs ad,s=.ref r p snap/\wp=some (r,p)/\At σ r p t m [] v/\tv=aZ t cs/\place σ a w r p=some ⟨t,[],cs,ad⟩
 | .fh m=>∃ H r p snap cs ad,s=.ref r p snap/\wp=some (r,p)/\At σ r p t m H v/\tv=aZ t cs/\place σ a w r p=some ⟨t,H,cs,ad⟩
 | .iU m=>∃ r p snap b o cs,s=.ptr r p snap/\wp=some (r,p)/\At σ r p t m [] v/\tv=.pointer (some ⟨b,o,none⟩)/\place σ a w r p=some ⟨t,[],cs,some (b,o)⟩
def ov (P:Program) (A:Cells) (σ:St) (a:Act) (w:World) (F:Nat->FP) (ow:Bool):(ps:List (PM×Ty))->(ba (ps.map (·.2))).den->List Slot->List Value->List (Nat×Path)->Prop
 | [],_,ss,fT,ws=>ss=[]/\fT=[]/\ws=[]
 | (pm,t)::ps,v,ss,fT,ws=>∃ s xk tv kP wp mM,ss=s::xk/\fT=tv::kP/\ws=(match (generalizing:=false) wp with | some x=>x::mM | none=>mM)/\JJ P A σ a w F ow pm t v.1 s tv wp/\ov P A σ a w F ow ps v.2 xk kP mM
def lR (P:Program) (A:Cells) (σ:St) (a:Act) (w:World):List Slot->List Value->Prop
 | [],[]=>True
 | s::ss,tv::fT=>(aV P A σ a w tv s (λ_ _=>0)\/∃ xs,s=.iI xs)/\lR P A σ a w ss fT
 | _,_=>False
theorem xl (h:bn P C A σ a w F):∀ (xs:List Operand) {ss:List Slot} {fT:List Value},xs.all (bg P)=true->lR P A σ a w ss fT->lR P A σ a w (xs.map (bh σ)++ss) (xs.map a.eval++fT)
 | [],_,_,_,Y=>Y
 | y::xs,_,_,ap,Y=>by
  simp only[List.all_cons,Bool.and_eq_true] at ap
  exact ⟨bE h ap.1,xl h xs ap.2 Y⟩
theorem NM (h:bn P C A σ a w F) {s:Slot} {tv:Value} {G:FP} (hs:aV P A σ a w tv s G) {t:Ty} {K:t.den->Option R} (hk:AA σ s t K=some x) :
  ∃ (v:t.den) (cs:List Value),K v=some x/\tv=aZ t cs/\Ro P w A t v cs:=by
 cases s with
 | val t' v=>
  obtain ⟨e,hk⟩:=aU hk;subst e
  obtain ⟨cs,h1,Y⟩:=hs
  grind
 | cp t' v=>
  obtain ⟨e,hk⟩:=aU hk;subst e
  exact ⟨v,[tv],hk,(bp _ _ rfl).symm,hs⟩
 | mn=>
  simp only[AA] at hk
  split at hk
  ·rename_i t e
   have hs:tv=.slice none 0 0:=hs
   subst hs
   exact ⟨[],_,hk,(bp _ _ rfl).symm,none,0,rfl,Nat.le_refl _,λ_=>rfl,λad di=>by cases di⟩
  ·cases hk
 | ref r p snap=>
  simp only[AA] at hk
  split at hk
  ·rename_i ap
   obtain ⟨hr,t',m',H',v',aJ,aX,F',h1,Y,h3,h4,h5,h6⟩:=d7 h hk
   obtain ⟨pl,g1,g2,g3⟩:=hs.2 ap
   grind [aU,af.flat,af.ro,bS]
  ·cases hk
 | sub r p snap lo hi=>
  simp only[AA] at hk
  split at hk
  ·rename_i ap
   obtain ⟨hr,t',m',H',v',aJ,aX,F',h1,Y,h3,h4,h5,h6⟩:=d7 h hk
   obtain ⟨pl,e,xa,n,cap,lH,cap',g1,g2,g3,g4,g5,g6,g7,Dh,g8,g9,g10⟩:=hs.2 ap
   rw[h3] at g1
   injection g1 with g1
   subst g1
   simp only at g2 g3
   subst g2;subst g3
   split at h1
   ·rename_i hc
    simp only[Bool.and_eq_true,List.isEmpty_iff,decide_eq_true_eq] at hc
    obtain ⟨hH,hm⟩:=hc
    subst hH;subst hm
    obtain ⟨e',h1⟩:=aU h1;subst e'
    exact ⟨_,_,h1,by rw[bp _ _ rfl];exact g6,Ro.piece (af.ro _ (bS _) h4) g4 g5 g7 g8 g9⟩
   ·cases h1
  ·cases hk
 | _=>simp[AA] at hk
theorem L1 (h:bn P C A σ a w F) {ow:Bool} {pm:PM} {t:Ty} {s:Slot} {tv:Value} (hs:aV P A σ a w tv s (λ_ _=>0)\/∃ xs,s=.iI xs) {K:t.den->Option (Nat×Path)->Option R} (hk:pB σ ow pm t s K=some x) :
  ∃ v wp,K v wp=some x/\JJ P A σ a w F ow pm t v s tv wp:=by
 rcases hs with hs | ⟨xs,rfl⟩
 rotate_left
 ·cases pm with
  | ro=>cases ow <;> simp[pB,jy,AA] at hk
  | _=>simp[pB] at hk
 cases pm with
 | ro=>
  cases ow with
  | true=>
   simp only[pB] at hk
   have aB:=tP h hk
   obtain ⟨v,cs,h1,Y,h3⟩:=zf h hs hk
   exact ⟨v,none,h1,rfl,cs,Y,Ro.mono (λ_ _ _ _ h=>h) (λb i ha=>ha.imp id λ⟨r,hr,hp⟩=>⟨rfl,r,hr,aB r hr,hp⟩) t h3⟩
  | false=>
   simp only[pB] at hk
   obtain ⟨v,cs,h1,Y,h3⟩:=NM h hs hk
   exact ⟨v,none,h1,rfl,cs,Y,Ro.mono (λ_ _ _ _ h=>h) (λb i ha=>.inl ha) t h3⟩
 | fix f=>
  simp only[pB] at hk
  split at hk
  ·rename_i v
   split at hk
   ·rename_i hf
    obtain ⟨e,hk⟩:=aU hk
    subst e
    obtain ⟨cs,h1,Y⟩:=hs
    exact ⟨v,none,hk,rfl,⟨cs,h1,Y⟩,λe=>by simpa using hf⟩
   ·cases hk
  ·cases hk
 | du m m'=>
  simp only[pB] at hk
  split at hk
  ·rename_i r p snap
   split at hk
   ·rename_i ap
    obtain ⟨hr,t',m',H',v',aJ,aX,F',h1,Y,h3,h4,h5,h6⟩:=d7 h hk
    obtain ⟨pl,b,o,g1,g2,g3,g4⟩:=hs.2 ap
    rw[h3] at g1
    injection g1 with g1
    subst g1
    simp only at g2
    subst g2
    split at h1
    ·rename_i hc
     simp only[Bool.and_eq_true,List.isEmpty_iff,decide_eq_true_eq] at hc
     obtain ⟨hH,hm⟩:=hc
     subst hH;subst hm
     obtain ⟨e,h1⟩:=aU h1
     subst e
     exact ⟨v',_,h1,r,p,snap,b,o,aJ,rfl,rfl,⟨Y⟩,g3,h3⟩
    ·cases h1
   ·cases hk
  ·cases hk
 | iU m=>
  simp only[pB] at hk
  split at hk
  ·rename_i r p snap
   split at hk
   ·rename_i ap
    obtain ⟨hr,t',m',H',v',aJ,aX,F',h1,Y,h3,h4,h5,h6⟩:=d7 h hk
    obtain ⟨pl,b,o,g1,g2,g3,g4⟩:=hs.2 ap
    rw[h3] at g1
    injection g1 with g1
    subst g1
    simp only at g2
    subst g2
    split at h1
    ·rename_i hc
     simp only[Bool.and_eq_true,List.isEmpty_iff,decide_eq_true_eq] at hc
     obtain ⟨hH,hm⟩:=hc
     subst hH;subst hm
     obtain ⟨e,h1⟩:=aU h1
     subst e
     exact ⟨v',_,h1,r,p,snap,b,o,aJ,rfl,rfl,⟨Y⟩,g3,h3⟩
    ·cases h1
   ·cases hk
  ·cases hk
 | fx m=>
  simp only[pB] at hk
  split at hk
  ·rename_i r p snap
   split at hk
   ·rename_i ap
    obtain ⟨hr,t',m',H',v',aJ,aX,F',h1,Y,h3,h4,h5,h6⟩:=d7 h hk
    obtain ⟨pl,g1,g2,g3⟩:=hs.2 ap
    rw[h3] at g1
    injection g1 with g1
    subst g1
    split at h1
    ·rename_i hc
     simp only[Bool.and_eq_true,List.isEmpty_iff,decide_eq_true_eq] at hc
     obtain ⟨hH,hm⟩:=hc
     subst hH;subst hm
     obtain ⟨e,h1⟩:=aU h1
     subst e
     exact ⟨v',_,h1,r,p,snap,aJ,aX,rfl,rfl,⟨Y⟩,g2,h3⟩
    ·cases h1
   ·cases hk
  ·cases hk
 | fh m=>
  simp only[pB] at hk
  split at hk
  ·rename_i r p snap
   split at hk
   ·rename_i ap
    obtain ⟨hr,t',m',H',v',aJ,aX,F',h1,Y,h3,h4,h5,h6⟩:=d7 h hk
    obtain ⟨pl,g1,g2,g3⟩:=hs.2 ap
    rw[h3] at g1
    injection g1 with g1
    subst g1
    split at h1
    ·rename_i hm
     subst hm
     obtain ⟨e,h1⟩:=aU h1
     subst e
     exact ⟨v',_,h1,H',r,p,snap,aJ,aX,rfl,rfl,⟨Y⟩,g2,h3⟩
    ·cases h1
   ·cases hk
  ·cases hk
theorem KL (h:bn P C A σ a w F) {ow:Bool}:∀ (ps:List (PM×Ty)) {ss:List Slot} {fT:List Value} {K:(ba (ps.map (·.2))).den->List (Nat×Path)->Option R},lR P A σ a w ss fT->Ab σ ow ps ss K=some x ->
  ∃ v ws,K v ws=some x/\ov P A σ a w F ow ps v ss fT ws:=by
 intro ps
 induction ps with
 | nil=>
  intro ss fT K hs hk
  cases ss with
  | nil=>
   cases fT with
   | nil=>exact ⟨(),[],hk,rfl,rfl,rfl⟩
   | cons _ _=>exact hs.elim
  | cons _ _=>cases hk
 | cons p ps ih=>
  intro ss fT K hs hk
  obtain ⟨pm,t⟩:=p
  cases ss with
  | nil=>cases hk
  | cons s ss=>
   cases fT with
   | nil=>exact hs.elim
   | cons tv fT=>
    simp only[Ab] at hk
    obtain ⟨v,wp,h1,Y⟩:=L1 h hs.1 hk
    obtain ⟨vs,ws,h3,h4⟩:=ih hs.2 h1
    exact ⟨(v,vs),_,h3,s,ss,tv,fT,wp,ws,rfl,rfl,rfl,Y,h4⟩
theorem gw {ow:Bool} {A0:Cells} (hA:∀ b i,A b i->A0 b i) {r0:Nat} (hX:ow=true->∀ b i j,j < σ.n->j≠r0->1<=F j b i->A0 b i):∀ (ps:List (PM×Ty)) {v:(ba (ps.map (·.2))).den} {ss:List Slot} {fT:List Value},
  ov P A σ a w F ow ps v ss fT []->(∀ r ∈ ss.flatMap eQ,r < σ.n->r≠r0)->(∀ ho,gr P w A0 ho ps v fT (λ_ _=>0))/\(∀ (σ':St) (K:St->Option R) (out:(ba (dT ps)).den),iW σ' ps [] out K=K σ'):=by
 intro ps
 induction ps with
 | nil=>intro v ss fT h hr;exact ⟨λ_=>h.2.1,λσ' K out=>rfl⟩
 | cons p ps ih=>
  intro v ss fT h hr
  obtain ⟨pm,t⟩:=p
  obtain ⟨s,xk,tv,kP,wp,mM,rfl,rfl,hw,dY,fI⟩:=h
  have fM:∀ b i,A b i->∀ u,ce w b i=some u->ce w b i=some u:=λ_ _ _ _ h=>h
  cases wp with
  | some y=>cases hw
  | none=>
   have hw:[]=mM:=hw
   subst hw
   obtain ⟨i1,i2⟩:=ih fI (λr hm=>hr r (by grind))
   cases pm with
   | ro=>
    obtain ⟨_,cs,h1,Y⟩:=dY
    refine ⟨λho=>⟨tv,kP,λ_ _=>0,λ_ _=>0,rfl,λ_ _=>Nat.le_refl _,⟨cs,h1,Ro.mono (λ_ _ _ _ h=>h) (λb i ha=>?_) t Y⟩,i1 ho⟩,λσ' K out=>i2 σ' K out⟩
    grind
   | fix f=>
    obtain ⟨_,⟨cs,h1,Y⟩,h3⟩:=dY
    exact ⟨λho=>⟨tv,kP,λ_ _=>0,λ_ _=>0,rfl,λ_ _=>Nat.le_refl _,⟨⟨cs,h1,Ro.mono (λ_ _ _ _ h=>h) hA t Y⟩,h3⟩,i1 ho⟩,λσ' K out=>i2 σ' K out⟩
   | du m m'=>obtain ⟨r,p,snap,b,o,cs,_,e,_⟩:=dY;cases e
   | iU m=>obtain ⟨r,p,snap,b,o,cs,_,e,_⟩:=dY;cases e
   | fx m=>obtain ⟨r,p,snap,cs,ad,_,e,_⟩:=dY;cases e
   | fh m=>obtain ⟨H,r,p,snap,cs,ad,_,e,_⟩:=dY;cases e
theorem KM {t:Ty} {cs aJ:List Value} (h1:cs.length=t.sz) (Y:∀ x ∈ cs,x.oneCell'=true) (h3:aJ.length=t.sz) (h4:∀ x ∈ aJ,x.oneCell'=true) (h:aZ t cs=aZ t aJ):cs=aJ:=by
 grind [dz]
theorem Ew {ow:Bool} {r:Nat} {p:Path}:∀ (ps:List (PM×Ty)) {v:(ba (ps.map (·.2))).den} {ss:List Slot} {fT:List Value},
  ov P A σ a w F ow ps v ss fT [(r,p)]->(ss.flatMap eQ).count r<=1 ->
  1<=(ss.flatMap eQ).count r/\∃ (tV il tk:Bool) (t:Ty) (m:Md) (H:List Path) (v1:t.den) (cs:List Value) (ad:Option (Nat×Nat)),((tk=false->H=[])/\(tk=true->D4 ps=true)/\(wK ps=true->tV=false)/\(ju ps=true->vk t=true))/\At σ r p t m H v1/\place σ a w r p=some ⟨t,H,cs,ad⟩/\(il=true->∃ b o,ad=some (b,o)) /\
   (eM ps=true->(t.flat||decide (m=av t))=true/\t.gz=true) /\
   (∀ (A0:Cells) (F0 Fp:FP),(∀ b i,A b i->A0 b i)->(ow=true->∀ b i j,j < σ.n->j≠r->1<=F j b i->A0 b i)->af P w A0 t m H v1 cs Fp ->
    (il=true->∀ b o,ad=some (b,o)->Has w b o cs/\(∀ j,j < t.sz->w.frozen? ⟨b,o+j,none⟩=false)/\∀ b' i,bj b o t.sz b' i+Fp b' i<=F0 b' i)->(il=false->∀ b i,Fp b i<=F0 b i)->∀ ho,(tk=true->ho H=true)->gr P w A0 ho ps v fT F0) /\
   (tk=true->tV=true/\il=false/\∀ (σ':St) (K:St->Option R) (out:(ba (dT ps)).den),iW σ' ps [(r,p)] out K=oU σ' r p K) /\
   (tV=true->tk=false->∀ (σ':St) (K:St->Option R) (out:(ba (dT ps)).den),iW σ' ps [(r,p)] out K=match lA σ' r p t m t.zero (λ_=>some ()) with | some _=>K (σ'.put r .dead) | none=>none) /\
   (tV=false->∀ out:(ba (dT ps)).den,∃ (m2:Md) (o1:t.den),(eM ps=true->(t.flat||decide (m2=av t))=true) /\
    (∀ (σ':St) (K:St->Option R),iW σ' ps [(r,p)] out K=lA σ' r p t m2 o1 λnC=>K (match il with | true=>nC | false=>{ nC with vr:=(σ'.eI r (kb (bm p+1))).vr,aA:=σ'.aA })) /\
    ∀ (w':World) (A':Cells) (GM:FP),fY P w' A' ps out fT GM->∃ aJ F3,af P w' A' t m2 [] o1 aJ F3/\(∀ b i,F3 b i<=GM b i)/\(il=true->∀ b o,ad=some (b,o)->Has w' b o aJ/\∀ b' i,bj b o t.sz b' i+F3 b' i<=GM b' i) /\
     (il=false->aZ t aJ=aZ t cs)):=by
 intro ps
 induction ps with
 | nil=>intro v ss fT h hc;cases h.2.2
 | cons p0 ps ih=>
  intro v ss fT h hc
  obtain ⟨pm,t⟩:=p0
  obtain ⟨s,xk,tv,kP,wp,mM,rfl,rfl,hw,dY,fI⟩:=h
  simp only[List.flatMap_cons,List.count_append] at hc ⊢
  cases pm with
  | ro=>
   obtain ⟨ox,cs,h1,Y⟩:=dY
   subst ox
   have hw:[(r,p)]=mM:=hw
   subst hw
   obtain ⟨c1,tV,il,tk,t1,m1,H1,v1,gQ,vn,q0,q1,q2,q3,q4,q5,q8,q7,q6⟩:=ih fI (by omega)
   refine ⟨by omega,tV,il,tk,t1,m1,H1,v1,gQ,vn,⟨q0.1,q0.2.1,q0.2.2.1,λe=>q0.2.2.2 (by simp only[ju,Bool.and_eq_true] at e;exact e.2)⟩,q1,q2,q3,q4,λA0 F0 Fp J a2 a3 a4 a5 ho a6=>⟨tv,kP,λ_ _=>0,F0,rfl,λb i=>by simp,⟨cs,h1,Ro.mono (λ_ _ _ _ h=>h) (λb i ha=>?_) t Y⟩,q5 A0 F0 Fp J a2 a3 a4 a5 ho a6⟩,λhV=>⟨(q8 hV).1,(q8 hV).2.1,λσ' K out=>(q8 hV).2.2 σ' K out⟩,λhE hV σ' K out=>q7 hE hV σ' K out,λhE out=>q6 hE out⟩
   rcases ha with ha | ⟨mN,r',hm,aB,hp⟩
   ·exact J b i ha
   ·refine a2 mN b i r' aB (λe=>?_) hp
    subst e
    have:=List.count_pos_iff.2 hm
    omega
  | fix f=>
   obtain ⟨ox,⟨cs,h1,Y⟩,h3⟩:=dY
   subst ox
   have hw:[(r,p)]=mM:=hw
   subst hw
   obtain ⟨c1,tV,il,tk,t1,m1,H1,v1,gQ,vn,q0,q1,q2,q3,q4,q5,q8,q7,q6⟩:=ih fI (by omega)
   exact ⟨by omega,tV,il,tk,t1,m1,H1,v1,gQ,vn,⟨q0.1,q0.2.1,q0.2.2.1,λe=>q0.2.2.2 (by simp only[ju] at e;exact e)⟩,q1,q2,q3,q4,λA0 F0 Fp J a2 a3 a4 a5 ho a6=>⟨tv,kP,λ_ _=>0,F0,rfl,λb i=>by simp,⟨⟨cs,h1,Ro.mono (λ_ _ _ _ h=>h) J t Y⟩,h3⟩,q5 A0 F0 Fp J a2 a3 a4 a5 ho a6⟩,λhV=>⟨(q8 hV).1,(q8 hV).2.1,λσ' K out=>(q8 hV).2.2 σ' K out⟩,λhE hV σ' K out=>q7 hE hV σ' K out,λhE out=>q6 hE out⟩
  | iU m=>
   obtain ⟨r1,p1,snap,b,o,cs,rfl,ox,dr,pP,df⟩:=dY
   subst ox
   have hw:[(r,p)]=(r1,p1)::mM:=hw
   injection hw with pX tW
   injection pX with pX Bf
   subst pX;subst tW;subst Bf
   have xm:(eQ (.ptr r p snap)).count r=1:=by simp[eQ]
   obtain ⟨n1,n2⟩:=gw (R:=R) (P:=P) (A0:=λb i=>True) (λ_ _ _=>trivial) (r0:=r) (λ_ _ _ _ _ _ _=>trivial) ps fI (λr' hm _ e=>by subst e;have:=List.count_pos_iff.2 hm;omega)
   refine ⟨by omega,true,true,false,t,m,[],v.1,cs,some (b,o),⟨λ_=>rfl,(λe=>by cases e),(λe=>absurd e (by simp[wK])),λe=>absurd e (by simp[ju])⟩,dr,df,λ_=>⟨b,o,rfl⟩,λho=>?_,λA0 F0 Fp J a2 a3 a4 a5 ho _=>?_,(λe=>by cases e),λ_ _ σ' K out=>?_,λe=>by cases e⟩
   ·simp only[eM,Bool.and_eq_true] at ho;exact ho.1
   ·obtain ⟨b1,b2,b3⟩:=a4 rfl b o rfl
    obtain ⟨k1,_⟩:=gw (R:=R) (P:=P) J (r0:=r) a2 ps fI (λr' hm _ e=>by subst e;have:=List.count_pos_iff.2 hm;omega)
    exact ⟨tv,kP,F0,λ_ _=>0,rfl,λb i=>Nat.le_refl _,⟨b,o,cs,Fp,pP,af.length _ a3,b1,b2,b3,a3⟩,k1 ho⟩
   ·show (match lA σ' r p t m t.zero (λ_=>some ()) with | some _=>iW (σ'.put r .dead) ps [] out K | none=>none)=_
    split
    ·exact n2 _ K out
    ·rfl
  | du m m'=>
   obtain ⟨r1,p1,snap,b,o,cs,rfl,ox,dr,pP,df⟩:=dY
   subst ox
   have hw:[(r,p)]=(r1,p1)::mM:=hw
   injection hw with pX tW
   injection pX with pX Bf
   subst pX;subst tW;subst Bf
   have xm:(eQ (.ptr r p snap)).count r=1:=by simp[eQ]
   obtain ⟨n1,n2⟩:=gw (R:=R) (P:=P) (A0:=λb i=>True) (λ_ _ _=>trivial) (r0:=r) (λ_ _ _ _ _ _ _=>trivial) ps fI (λr' hm _ e=>by subst e;have:=List.count_pos_iff.2 hm;omega)
   refine ⟨by omega,false,true,false,t,m,[],v.1,cs,some (b,o),⟨λ_=>rfl,(λe=>by cases e),(λ_=>rfl),λe=>by simp only[ju,Bool.and_eq_true] at e;exact e.1⟩,dr,df,λ_=>⟨b,o,rfl⟩,λho=>?_,λA0 F0 Fp J a2 a3 a4 a5 ho _=>?_,(λe=>by cases e),(λe=>by cases e),λ_ out=>⟨m',out.1,λho=>?_,λσ' K=>?_,λw' A' GM hm=>?_⟩⟩
   ·simp only[eM,Bool.and_eq_true] at ho;exact ho.1
   ·obtain ⟨b1,b2,b3⟩:=a4 rfl b o rfl
    obtain ⟨k1,_⟩:=gw (R:=R) (P:=P) J (r0:=r) a2 ps fI (λr' hm _ e=>by subst e;have:=List.count_pos_iff.2 hm;omega)
    exact ⟨tv,kP,F0,λ_ _=>0,rfl,λb i=>Nat.le_refl _,⟨b,o,cs,Fp,pP,af.length _ a3,b1,b2,b3,a3⟩,k1 ho⟩
   ·simp only[eM,Bool.and_eq_true] at ho;exact ho.2.1
   ·show lA σ' r p t m' out.1 (λσ=>iW σ ps [] out.2 K)=_
    congr 1
    funext nC
    exact n2 nC K out.2
   ·obtain ⟨F1,F2,h1,⟨b',o',L,F3,Y,h3,h4,h5,h6⟩,h7⟩:=hm
    simp only[List.head?_cons,Option.some.injEq,pP,Value.pointer.injEq,Addr.mk.injEq,and_true] at Y
    obtain ⟨rfl,rfl⟩:=Y
    refine ⟨L,F3,h6,λb' i=>by have:=h5 b' i;have:=h1 b' i;omega,λ_ b2 o2 e=>?_,λe=>by cases e⟩
    simp only[Option.some.injEq,Prod.mk.injEq] at e
    obtain ⟨rfl,rfl⟩:=e
    exact ⟨h4,λb' i=>by have:=h5 b' i;have:=h1 b' i;omega⟩
  | fx m=>
   obtain ⟨r1,p1,snap,cs,ad,rfl,ox,dr,pP,df⟩:=dY
   subst ox
   have hw:[(r,p)]=(r1,p1)::mM:=hw
   injection hw with pX tW
   injection pX with pX Bf
   subst pX;subst tW;subst Bf
   have xm:(eQ (.ref r p snap)).count r=1:=by simp[eQ]
   obtain ⟨n1,n2⟩:=gw (R:=R) (P:=P) (A0:=λb i=>True) (λ_ _ _=>trivial) (r0:=r) (λ_ _ _ _ _ _ _=>trivial) ps fI (λr' hm _ e=>by subst e;have:=List.count_pos_iff.2 hm;omega)
   refine ⟨by omega,false,false,false,t,m,[],v.1,cs,ad,⟨λ_=>rfl,(λe=>by cases e),(λ_=>rfl),λe=>absurd e (by simp[ju])⟩,dr,df,(λe=>by cases e),λho=>?_,λA0 F0 Fp J a2 a3 a4 a5 ho _=>?_,(λe=>by cases e),(λe=>by cases e),λ_ out=>⟨m,out.1,λho=>?_,λσ' K=>?_,λw' A' GM hm=>?_⟩⟩
   ·simp only[eM,Bool.and_eq_true] at ho;exact ho.1
   ·obtain ⟨k1,_⟩:=gw (R:=R) (P:=P) J (r0:=r) a2 ps fI (λr' hm _ e=>by subst e;have:=List.count_pos_iff.2 hm;omega)
    exact ⟨tv,kP,F0,λ_ _=>0,rfl,λb i=>Nat.le_refl _,⟨cs,pP,a3.le (a5 rfl)⟩,k1 ho⟩
   ·simp only[eM,Bool.and_eq_true] at ho;exact ho.1.1
   ·show lA σ' r p t m out.1 (λnC=>iW { nC with vr:=(σ'.eI r (kb (bm p+1))).vr,aA:=σ'.aA } ps [] out.2 K)=_
    congr 1
    funext nC
    exact n2 _ K out.2
   ·obtain ⟨F1,F2,h1,⟨aJ,Y,h3⟩,h7⟩:=hm
    simp only[List.head?_cons,Option.some.injEq,pP] at Y
    exact ⟨aJ,F1,h3,λb' i=>by have:=h1 b' i;omega,(λe=>by cases e),λ_=>Y.symm⟩
  | fh m=>
   obtain ⟨H,r1,p1,snap,cs,ad,rfl,ox,dr,pP,df⟩:=dY
   subst ox
   have hw:[(r,p)]=(r1,p1)::mM:=hw
   injection hw with pX tW
   injection pX with pX Bf
   subst pX;subst tW;subst Bf
   have xm:(eQ (.ref r p snap)).count r=1:=by simp[eQ]
   obtain ⟨n1,n2⟩:=gw (R:=R) (P:=P) (A0:=λb i=>True) (λ_ _ _=>trivial) (r0:=r) (λ_ _ _ _ _ _ _=>trivial) ps fI (λr' hm _ e=>by subst e;have:=List.count_pos_iff.2 hm;omega)
   refine ⟨by omega,true,false,true,t,m,H,v.1,cs,ad,⟨λe=>(by cases e),(λ_=>rfl),(λe=>absurd e (by simp[wK])),λe=>absurd e (by simp[ju])⟩,dr,df,(λe=>by cases e),λho=>?_,λA0 F0 Fp J a2 a3 a4 a5 ho a6=>?_,λ_=>⟨rfl,rfl,λσ' K out=>?_⟩,(λ_ e=>by cases e),λe=>by cases e⟩
   ·simp only[eM,Bool.and_eq_true] at ho;exact ho.1
   ·obtain ⟨k1,_⟩:=gw (R:=R) (P:=P) J (r0:=r) a2 ps fI (λr' hm _ e=>by subst e;have:=List.count_pos_iff.2 hm;omega)
    exact ⟨tv,kP,F0,λ_ _=>0,rfl,λb i=>Nat.le_refl _,⟨H,cs,a6 rfl,pP,a3.le (a5 rfl)⟩,k1 ho⟩
   ·show oU σ' r p (λnC=>iW nC ps [] out K)=_
    congr 1
    funext nC
    exact n2 _ K out
def Bg:Option Value->Bool
 | some (.int .u8 _)=>false
 | none=>false
 | _=>true
def wc (w:World) (F:Nat->FP):Nat->FP:=λj b i=>if Bg (ce w b i) then F j b i else 0
theorem KN (w:World) (F:Nat->FP) (j b i:Nat):wc w F j b i<=F j b i:=by
 unfold wc
 split
 ·exact Nat.le_refl _
 ·exact Nat.zero_le _
theorem If {w:World} {F:Nat->FP} {j b i:Nat} (h:1<=wc w F j b i):Bg (ce w b i)=true:=by
 unfold wc at h
 split at h
 ·assumption
 ·omega
theorem Ro.nb:∀ (t:Ty) {v:t.den} {cs:List Value},tc t=true->Ro P w A t v cs->(∀ u ∈ cs,Bg (some u)=true)/\Ro P w (λb i=>A b i/\Bg (ce w b i)=true) t v cs:=by
 intro t
 induction t with
 | int k=>
  intro v cs hn h
  have h:cs=[.int k (fZ k v)]:=h
  refine ⟨λu hu=>?_,h⟩
  rw[h,List.mem_singleton] at hu
  subst hu
  cases k <;> first | rfl | (simp[tc] at hn)
 | bool=>
  intro v cs hn h
  have h:cs=[.bool v]:=h
  exact ⟨λu hu=>by rw[h,List.mem_singleton] at hu;subst hu;rfl,h⟩
 | str=>
  intro v cs hn h
  have h:cs=[.string ⟨List.toArray v⟩]:=h
  exact ⟨λu hu=>by rw[h,List.mem_singleton] at hu;subst hu;rfl,h⟩
 | unit=>
  intro v cs hn h
  have h:cs=[]:=h
  exact ⟨λu hu=>(by rw[h] at hu;cases hu),h⟩
 | pair a b eG et=>
  intro v cs hn h
  simp only[tc,Bool.and_eq_true] at hn
  obtain ⟨h1,Y⟩:=h
  obtain ⟨J,a2⟩:=eG hn.1 h1
  obtain ⟨b1,b2⟩:=et hn.2 Y
  refine ⟨λu hu=>?_,a2,b2⟩
  rw[<-List.take_append_drop a.sz cs] at hu
  rcases List.mem_append.1 hu with g | g
  ·exact J u g
  ·exact b1 u g
 | arr n e ih=>
  intro v cs hn h
  simp only[tc] at hn
  obtain ⟨h1,Y,h3,h4⟩:=h
  refine ⟨λu hu=>?_,h1,Y,h3,λi x hx=>(ih hn (h4 i x hx)).2⟩
  obtain ⟨q,hq,rfl⟩:=List.getElem_of_mem hu
  have hs:0 < e.sz:=by
   rcases Nat.eq_zero_or_pos e.sz with h0 | h0
   ·rw[h0,Nat.mul_zero] at h3;omega
   ·exact h0
  have hi:q / e.sz < n:=by rw[Nat.div_lt_iff_lt_mul hs];omega
  have hx:=h4 (q / e.sz) (v[q / e.sz]'(by omega)) (List.getElem?_eq_getElem (by omega))
  refine (ih hn hx).1 _ ?_
  have hm:=Nat.mod_lt q hs
  have he:q / e.sz*e.sz+q % e.sz=q:=Nat.div_add_mod' q e.sz
  refine List.mem_iff_getElem?.2 ⟨q % e.sz,?_⟩
  rw[List.getElem?_take,if_pos hm,List.getElem?_drop,he,List.getElem?_eq_getElem hq]
 | aa e ih=>
  intro v cs hn h
  simp only[tc] at hn
  obtain ⟨a,cap,h1,Y,h3,h4⟩:=h
  refine ⟨λu hu=>by rw[h1,List.mem_singleton] at hu;subst hu;rfl,a,cap,h1,Y,h3,λad di=>⟨(h4 ad di).1,λi x hx=>?_⟩⟩
  obtain ⟨L,l1,l2,l3⟩:=(h4 ad di).2 i x hx
  obtain ⟨g1,g2⟩:=ih hn l3
  exact ⟨L,l1,λj u hu=>⟨(l2 j u hu).1,(l2 j u hu).2,by rw[(l2 j u hu).1];exact g1 u (List.mem_of_getElem? hu)⟩,g2⟩
 | ptr e ih=>
  intro v cs hn h
  simp only[tc] at hn
  obtain ⟨ad,h1,Y,L,l1,l2,l3⟩:=h
  obtain ⟨g1,g2⟩:=ih hn l3
  exact ⟨λu hu=>by rw[h1,List.mem_singleton] at hu;subst hu;rfl,ad,h1,Y,L,l1,λj u hu=>⟨(l2 j u hu).1,(l2 j u hu).2,by rw[(l2 j u hu).1];exact g1 u (List.mem_of_getElem? hu)⟩,g2⟩
 | fn=>intro v cs hn h;simp[tc] at hn
 | map k v _ _=>intro v cs hn h;simp[tc] at hn
theorem o4 {ow:Bool}:∀ (ps:List (PM×Ty)) {v:(ba (ps.map (·.2))).den} {ss:List Slot} {fT:List Value} {ws:List (Nat×Path)},ju ps=true->ov P A σ a w F ow ps v ss fT ws->ov P A σ a w (wc w F) ow ps v ss fT ws
 | [],_,_,_,_,_,h=>h
 | (pm,t)::ps,v,_,_,_,hu,h=>by
  obtain ⟨s,xk,tv,kP,wp,mM,e1,e2,hw,dY,fI⟩:=h
  cases pm with
  | ro=>
   simp only[ju,Bool.and_eq_true,Bool.or_eq_true] at hu
   refine ⟨s,xk,tv,kP,wp,mM,e1,e2,hw,?_,o4 ps hu.2 fI⟩
   obtain ⟨ox,cs,h1,Y⟩:=dY
   refine ⟨ox,cs,h1,?_⟩
   rcases hu.1 with ⟨f1,f2⟩ | hn
   ·exact Ro.indep t f1 f2 Y
   ·refine Ro.mono (λ_ _ _ _ h=>h) (λb i ha=>?_) t (Ro.nb t hn Y).2
    obtain ⟨g | ⟨mN,r,g1,g2,g3⟩,hb⟩:=ha
    ·exact .inl g
    ·refine .inr ⟨mN,r,g1,g2,?_⟩
     unfold wc
     rw[if_pos hb]
     exact g3
  | fix f=>
   simp only[ju] at hu
   exact ⟨s,xk,tv,kP,wp,mM,e1,e2,hw,dY,o4 ps hu fI⟩
  | du m m'=>
   simp only[ju,Bool.and_eq_true] at hu
   exact ⟨s,xk,tv,kP,wp,mM,e1,e2,hw,dY,o4 ps hu.2 fI⟩
  | fx m=>simp[ju] at hu
  | iU m=>simp[ju] at hu
  | fh m=>simp[ju] at hu
theorem qB:∀ (ps:List (PM×Ty)),ju ps=true->wK ps=true
 | [],_=>rfl
 | (pm,t)::ps,h=>by
  cases pm with
  | ro=>simp only[ju,Bool.and_eq_true] at h;exact qB ps h.2
  | fix f=>simp only[ju] at h;exact qB ps h
  | du m m'=>simp only[ju,Bool.and_eq_true] at h;exact qB ps h.2
  | fx m=>simp[ju] at h
  | iU m=>simp[ju] at h
  | fh m=>simp[ju] at h
theorem af.u8 {A2:Cells} (hA:∀ b i n,A b i->ce w b i=some (.int .u8 n)->A2 b i):∀ (t:Ty) {m:Md} {H:List Path} {v:t.den} {cs:List Value} {G:FP},vk t=true->af P w A t m H v cs G->af P w A2 t m H v cs G:=by
 intro t
 induction t with
 | pair a b eG et=>
  intro m H v cs G hu h
  simp only[vk,Bool.and_eq_true] at hu
  obtain ⟨h0,F1,F2,h1,Y,h3⟩:=h
  exact ⟨h0,F1,F2,h1,eG hu.1 Y,et hu.2 h3⟩
 | aa e _=>
  intro m H v cs G hu h
  unfold vk at hu
  split at hu
  ·rename_i heq;cases heq
  ·rename_i heq
   injection heq with heq
   subst heq
   simp only[af] at h ⊢
   split
   ·rename_i hh;rw[if_pos hh] at h;exact h
   ·rename_i hh
    rw[if_neg hh] at h
    split
    ·rename_i hm;rw[if_pos hm] at h;exact h
    ·rename_i hm
     rw[if_neg hm] at h
     obtain ⟨h1,Y,a,cap,h3,h4,h5,h6⟩:=h
     refine ⟨h1,Y,a,cap,h3,h4,h5,λad di=>⟨(h6 ad di).1,λi x hx=>?_⟩⟩
     obtain ⟨L,l1,l2,l3⟩:=(h6 ad di).2 i x hx
     refine ⟨L,l1,λj u hu=>⟨(l2 j u hu).1,hA _ _ (fZ .u8 x) (l2 j u hu).2 ?_⟩,l3⟩
     have l3:L=[.int .u8 (fZ .u8 x)]:=l3
     rw[(l2 j u hu).1]
     rw[l3] at hu
     cases j with
     | zero=>injection hu with hu;rw[hu]
     | succ j=>cases hu
  ·rename_i To OG
   simp[Ty.flat] at hu
 | int k=>intro m H v cs G _ h;exact h
 | bool=>intro m H v cs G _ h;exact h
 | str=>intro m H v cs G _ h;exact h
 | unit=>intro m H v cs G _ h;exact h
 | arr n e _=>
  intro m H v cs G hu h
  have hu:((Ty.arr n e).flat&&(Ty.arr n e).gz)=true:=hu
  simp only[Bool.and_eq_true] at hu
  obtain ⟨h1,Y⟩:=h
  exact ⟨h1,Ro.indep _ hu.1 hu.2 Y⟩
 | ptr e _=>intro m H v cs G hu h;simp[vk,Ty.flat] at hu
 | fn=>intro m H v cs G hu h;simp[vk,Ty.gz] at hu
 | map k v _ _=>intro m H v cs G hu h;simp[vk,Ty.flat] at hu
theorem rK {rs:List wG} {rv:Value} {G:FP} (h:fj P w A rs rv G):aV P A σ a w rv (lg rs) G/\∀ t m H v,lg rs=.box t m H v->∃ b,rv=.pointer (some ⟨b,0,none⟩)/\cr w b (t.sz,false):=by
 match rs,h with
 | [],_=>exact ⟨trivial,λ_ _ _ _ e=>by cases e⟩
 | [x],h=>
  obtain ⟨cs,rfl,Y⟩:=h
  exact uV Y
 | x::y::rs,h=>
  obtain ⟨vs,Fi,h1,Y,h3⟩:=h
  exact ⟨⟨vs,Fi,h1,Y,λj z hz=>by
   obtain ⟨v,cs,g1,g2,g3⟩:=h3 j z hz
   exact ⟨v,g1,.inr ⟨cs,g2,g3⟩⟩⟩,λ_ _ _ _ e=>by cases e⟩
theorem fj.free {A':Cells}:∀ {rs:List wG} {rv:Value} {G:FP},(∀ x ∈ rs,(x.t.flat||decide (x.m=av x.t))=true/\x.t.gz=true)->fj P w A rs rv G->fj P w A' rs rv G
 | [],_,_,_,_=>trivial
 | [x],_,_,ho,⟨cs,h1,Y⟩=>⟨cs,h1,af.free (ho x (by simp)).1 (ho x (by simp)).2 Y⟩
 | x::y::rs,_,_,ho,⟨vs,Fi,h1,Y,h3⟩=>⟨vs,Fi,h1,Y,λj z hz=>by
  grind [af.free]⟩
theorem l9:∀ (rs:List (Ty×Md)) {ts:List Ty} (out:(ba (rs.map (·.1)++ts)).den),mr rs=true->∀ x ∈ (dU rs out).1,(x.t.flat||decide (x.m=av x.t))=true/\x.t.gz=true
 | [],_,_,_=>λx hx=>by cases hx
 | (t,m)::rs,_,out,h=>λx hx=>by
  simp only[mr,Bool.and_eq_true] at h
  simp only[dU,List.mem_cons] at hx
  rcases hx with rfl | hx
  ·exact h.1
  ·exact l9 rs out.2 h.2 x hx
theorem fj.mono {A':Cells} (hA:∀ b i,A b i->A' b i):∀ {rs:List wG} {rv:Value} {G:FP},fj P w A rs rv G->fj P w A' rs rv G
 | [],_,_,_=>trivial
 | [x],_,_,⟨cs,h1,Y⟩=>⟨cs,h1,af.mono hA (λ_ _ _ _ h=>h) (λ_ _ h=>h) _ Y (λ_ _=>Nat.le_refl _) (λ_ _ _ _ h=>h)⟩
 | x::y::rs,_,_,⟨vs,Fi,h1,Y,h3⟩=>⟨vs,Fi,h1,Y,λj z hz=>by
  obtain ⟨v,cs,g1,g2,g3⟩:=h3 j z hz
  exact ⟨v,cs,g1,g2,af.mono hA (λ_ _ _ _ h=>h) (λ_ _ h=>h) _ g3 (λ_ _=>Nat.le_refl _) (λ_ _ _ _ h=>h)⟩⟩
end
end OT
