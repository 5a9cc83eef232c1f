/- The proof's parts, merged: Operations, first part.. No conditions but those that each states. -/
import Derived.Test.YtaebhfnbgkbdhaaGreatRa
import Derived.Laws.Slices
import Derived.Laws.Concat
import Derived.Laws.StructEq
import Derived.Laws.Cover3
import Derived.ChangeKeysEq
import Derived.Laws.MakeOwn
import Derived.Laws.IdiomStrings
import Derived.Laws.BytesArg
import Derived.Laws.Tables
import Derived.Great.BuildSlice
import Derived.Deep.AppendSrc
set_option linter.unusedVariables false
set_option linter.unusedSimpArgs false
namespace OT
open Go
section
variable {P:Program} {C:Ctx} {A:Cells} {X:FP} {σ:St} {a:Act} {w:World} {F:Nat->FP} {R:Type} {x:R} {Q:Exit->Act->World->Prop} {o:Oper} {E:Env}
def Nx (P:Program) (C:Ctx) {R:Type} (K:St->Option R) (x:R) (a:Act) (w:World):Prop:=∃ σ',K σ'=some x/\wR P C σ' a w
abbrev bE (P:Program) (C:Ctx) (A:Cells) (σ:St) (a:Act) (w:World) (F:Nat->FP):Prop:=Rel P C A (λ_ _=>0) σ a w F
theorem h_ {v:Value} {w':World} {next:Act->World->Prop} (eJ:(execOp a.eval o).run P w=.ok (.value v) w') (hn:next (a.put o.dst v) w'):o.wp P a w next Q:=by
 unfold Oper.wp;rw[eJ];exact hn
theorem DE {w':World} {next:Act->World->Prop} (eJ:(execOp a.eval o).run P w=.ok .skip w') (hd:o.dst=none) (hn:next a w'):o.wp P a w next Q:=by
 unfold Oper.wp;rw[eJ,Oper.upon,hd];exact hn
def reads:Op->Bool
 | .load .. | .convert ..=>true
 | _=>false
def mc (o:Oper) (w w':World):Prop:=reads o.op=true->Ext w w' (λ_ _=>0)
theorem mc.ext {o:Oper} {w w':World} (h:mc o w w') (hr:reads o.op=true):Ext w w' (λ_ _=>0):=h hr
def Tk (P:Program) (o:Oper) (a:Act) (w:World) (next:Act->World->Prop):Prop:=
 ∃ v,(∀ w',mc o w w'->(execOp a.eval o).run P w'=.ok (.value v) w')/\next (a.put o.dst v) w
theorem cR {v:Value} {next:Act->World->Prop} (eJ:∀ w',mc o w w'->(execOp a.eval o).run P w'=.ok (.value v) w') (hn:next (a.put o.dst v) w):Tk P o a w next:=⟨v,eJ,hn⟩
theorem Tk.wp {next:Act->World->Prop} (h:Tk P o a w next):o.wp P a w next Q:=by
 obtain ⟨v,h1,U⟩:=h
 exact h_ (h1 w λ_=>Ext.refl _ _) U
theorem oy {b i:Nat} {u:Value} (h:ce w b i=some u):b < w.heap.size:=by
 grind [ce,World.cell?]
theorem Has.ext {b o:Nat} {L:List Value} {w':World} (h:Has w b o L) (hw:Ext w w' (λ_ _=>0)):Has w' b o L:=λj u hu=>hw.cell b (o+j) (oy (h j u hu)) rfl u (h j u hu)
theorem jd (h:Rel P C A X σ a w F) {K:St->Option R} {d:Option Tmp} {s:Slot} {v:Value} {Fd:FP} (hk:K (σ.aQ d s)=some x) (hs:bj P A σ a w v s Fd) (ht:∀ b i,Fd b i<=X b i)
  (Mi:∀ t m H v',s=.box t m H v'->∃ b,v=.pointer (some ⟨b,0,none⟩)/\dg w b (t.sz,false)):Nx P C K x (a.put d v) w:=by
 obtain ⟨F',hF⟩:=h.aQ d (X':=λ_ _=>0) hs (λb i=>by grind) Mi
 exact ⟨_,hk,A,F',hF⟩
theorem aY (h:Rel P C A X σ a w F) {K:St->Option R} {d:Option Tmp} {s:Slot} {v:Value} (hk:K (σ.aQ d s)=some x) (hs:bj P A σ a w v s (λ_ _=>0))
  (hb:∀ t m H v',s≠.box t m H v'):Nx P C K x (a.put d v) w:=
 jd h hk hs (λ_ _=>Nat.zero_le _) (λt m H v' e=>absurd e (hb t m H v'))
theorem st (h:Rel P C A X σ a w F) {K:St->Option R} {d:Option Tmp} {t:Ty} {m:Md} {v:t.den} {cs:List Value} {Fd:FP} (hk:K (σ.aQ d (laid t m v))=some x) (hr:ah P w A t m [] v cs Fd) (ht:∀ b i,Fd b i<=X b i) :
  Nx P C K x (a.put d (bq t cs)) w:=
 jd h hk (xW (σ:=σ) (a:=a) hr).1 ht (xW (σ:=σ) (a:=a) hr).2
theorem cG {t:Nat} {K:Ty->Option R} (h:jp E t K=some x):∃ T,E.TI t=some T/\K T=some x:=by
 grind [jp]
theorem zL {s:Slot} {K:Bool->Option R} {tv:Value} {G:FP} (hs:bj P A σ a w tv s G) (h:zu s K=some x):∃ b,tv=.bool b/\K b=some x:=by
 unfold zu at h
 split at h
 ·rename_i b;obtain ⟨cs,h1,U⟩:=hs;simp only[Ro] at U;subst U;exact ⟨b,by rw[h1];rfl,h⟩
 ·cases h
theorem oN {s:Slot} {K:Int->Option R} {tv:Value} {G:FP} (hs:bj P A σ a w tv s G) (h:oC s K=some x):∃ k n,tv=.int k n/\K n=some x:=by
 unfold oC at h
 split at h
 ·rename_i k n;obtain ⟨cs,h1,U⟩:=hs;simp only[Ro] at U;subst U;exact ⟨k,_,by rw[h1];rfl,h⟩
 ·cases h
theorem vl (h:Rel P C A X σ a w F) {r:Nat} {p:Path} {pl:Pl} (hp:place σ a w r p=some pl):kw σ a w (bq pl.t pl.cs) r p (nE σ r p pl.t):=by
 have h5:=h.fG r
 refine ⟨?_,λ_=>⟨_,hp,rfl,?_⟩⟩
 ·unfold nE
  split
  ·intro j y hj;grind
  ·intro j y hj;grind
  ·exact Below.refl _
 ·unfold nE
  split
  ·rename_i e he;left;exact ⟨by rw[he];rfl,by grind⟩
  ·rename_i k v he;left;exact ⟨by rw[he];rfl,by grind⟩
  grind
theorem BW (σ:St) (y:Operand) (t:Ty) (m:Md) (H:List Path) (v:t.den):bz σ y≠.box t m H v:=by
 intro e
 cases y with
 | tmp i=>grind [bz]
 | const v=>simp only[bz] at e;unfold l5 at e;grind
 | func f=>cases e
 | global g=>cases e
theorem Jd (h:bE P C A σ a w F) {y:Operand} (ho:o.op=.move y) (ao:bv P y=true) {K:St->Option R} (hk:G_ σ y o.dst K=some x):Tk P o a w (Nx P C K x):=by
 refine cR (v:=a.eval y) (by simp[execOp,ho]) ?_
 unfold G_ at hk
 have hs:=cc h ao
 split at hk
 ·rename_i xs i hx
  have hi:i < σ.n:=by
   grind [bz,fL]
  have hg:σ.get i=.kM xs:=by
   grind [bz]
  have fJ:=h.cY i hi
  rw[hg] at fJ
  have U:=h.put hi (s:=.dead) (v:=tmp a i) (Fd:=λ_ _=>0) (X':=λb k=>F i b k) trivial (λb k=>by omega) (λt m H v e=>by cases e)
  rw[kx] at U
  refine jd U hk (Fd:=F i) ?_ (λb i=>Nat.le_refl _) (λt m H v e=>by cases e)
  obtain ⟨vs,Fi,h3,h4,h5⟩:=fJ
  exact ⟨vs,Fi,h3,h4,h5⟩
 all_goals grind [aY,BW]
theorem Je (h:bE P C A σ a w F) {c y z:Operand} (ho:o.op=.pick c y z) (ao:bv P c=true/\bv P y=true/\bv P z=true) {K:St->Option R}
  (hk:(zu (bz σ c) λc=>match bz σ (bif c then y else z) with
   | .val .bool b=>K (σ.aQ o.dst (.val .bool b))
   | _=>none)=some x):Tk P o a w (Nx P C K x):=by
 have hc:=cc h ao.1
 rcases hc with hc | ⟨xs,e⟩
 ·obtain ⟨b,hb,hk⟩:=zL hc hk
  have Wb:∀ y':Operand,bv P y'=true->(match bz σ y' with
   | .val .bool b=>K (σ.aQ o.dst (.val .bool b))
   | _=>none)=some x->Nx P C K x (a.put o.dst (a.eval y')) w:=λy' hy hk=>by
   grind [cc,aY]
  cases b <;> simp_all [cR,execOp,asBool]
 ·rw[e] at hk;cases hk
theorem Jf (h:bE P C A σ a w F) (fq:∀ i T,E.TI i=some T->aC P T (.inl i)=true) {t:Nat} {y:Operand} (ho:o.op=.load t y) (ao:bv P y=true) {K:St->Option R}
  {mv:Bool} (hk:uW E σ t (bz σ y) mv o.dst K=some x):Tk P o a w (Nx P C K x):=by
 unfold uW at hk
 obtain ⟨T,hT,hk⟩:=cG hk
 have dx:=fq _ _ hT
 have run:∀ b off L,a.eval y=.pointer (some ⟨b,off,none⟩)->Has w b off L->L.length=T.sz->(∀ u ∈ L,u.oneCell'=true)->∀ w',mc o w w'->(execOp a.eval o).run P w'=.ok (.value (bq T L)) w':=λb off L hy hL hl jN w' lF=>by
  have lF:=lF (by rw[ho];rfl)
  simp[execOp,ho,hy,Instr.loadAt,Instr.sureAddr,qv dx (hL.ext lF) hl jN]
 rcases cc h ao with hs | ⟨xs,e⟩
 rotate_left
 ·grind
 split at hk
 ·rename_i t' v hv
  rw[hv] at hs
  split at hk
  ·rename_i e;subst e
   obtain ⟨⟨b,off,sp⟩,h1,U,L,h3,h4,h5⟩:=hs
   simp only[List.cons.injEq,and_true] at h1
   simp only at U;subst U
   exact cR (run b off L h1 (λj u hu=>(h4 j u hu).1) h3 (Ro.one _ h5)) (aY h hk ⟨L,rfl,h5⟩ (λ_ _ _ _ e=>by cases e))
  ·cases hk
 ·rename_i r p snap hv
  rw[hv] at hs
  split at hk
  ·rename_i iA
   obtain ⟨hr,t',m',H',v',aS,bl,F',h1,U,h3,h4,h5,h6⟩:=fk h hk
   obtain ⟨pl,b,off,g1,g2,g3,g4⟩:=hs.2 iA
   rw[h3] at g1
   injection g1 with g1
   subst g1
   simp only at g2
   subst g2
   split at h1
   ·rename_i e;subst e
    refine cR (run b off aS g3 (h6 b off rfl) (ah.length _ h4) (ah.one _ h4)) ?_
    split at h1
    ·rename_i hf
     split at h1
     ·exact aY h h1 ⟨aS,rfl,ah.flat _ hf h4⟩ (λ_ _ _ _ e=>by cases e)
     ·cases h1
    ·split at h1
     ·rename_i hm
      split at h1
      ·rename_i hH
       have hH:=List.isEmpty_iff.1 hH;subst hH;subst hm
       cases mv with
       | false=>exact aY h h1 ⟨aS,rfl,ah.ro _ (cN _) h4⟩ (λ_ _ _ _ e=>by cases e)
       | true=>exact aY h h1 (vl h h3) (λ_ _ _ _ e=>by cases e)
      ·cases h1
     ·cases mv with
      | false=>exact aY h h1 (vl h h3) (λ_ _ _ _ e=>by cases e)
      | true=>
       simp only at h1
       split at h1
       ·rename_i hH
        have hH:=List.isEmpty_iff.1 hH;subst hH
        obtain ⟨A2,fS,F2,bA,uD,Fv,k1,k2,k3,k4,k5,k6,k7⟩:=Bj h h1 ⟨U⟩
        rw[h3] at k6
        simp only[Option.some.injEq,Pl.mk.injEq,true_and] at k6
        obtain ⟨rfl,rfl⟩:=k6
        have hl:=xW (σ:=fS) (a:=a) (ah.mono k2 (λ_ _ _ _ h=>h) (λ_ _ h=>h) _ k7 (λ_ _=>Nat.le_refl _) (λ_ _ _ _ h=>h))
        exact jd k3 k1 hl.1 (λb i=>by omega) hl.2
       ·cases h1
   ·cases h1
  ·cases hk
 ·cases hk
theorem Hq (h:bE P C A σ a w F) (fq:∀ i T,E.TI i=some T->aC P T (.inl i)=true) {t:Nat} {y:Operand} (ho:o.op=.load t y) (ao:bv P y=true) {K:St->Option R}
  {mv fr:Bool} (hk:zw E σ t y mv fr o.dst K=some x):Tk P o a w (Nx P C K x):=by
 unfold zw at hk
 grind [Jf,qH]
theorem Hr {b o b' i:Nat} {v u:Value} (dI:¬ (b=b'/\o=i)) (h:ce w b' i=some u):ce (w.setCell ⟨b,o,none⟩ v) b' i=some u:=by
 by_cases hb:b=b'
 ·subst hb
  cases hh:w.heap[b]? with
  | none=>grind [ce,World.cell?]
  | some ob=>
   cases ob <;> simp_all [World.setCell,Array.getElem?_modify,ce,World.cell?]
 grind [World.setCell,se]
theorem ky {b o:Nat}:∀ (L:List Value) (w:World) (o:Nat),Ext w (w.setCells b o L) (bP b o L.length)
 | [],w,o=>Ext.refl _ _
 | v::L,w,o=>by
  have ih:=ky (b:=b) (o:=o+1) L (w.setCell ⟨b,o,none⟩ v) (o+1)
  have h1:Ext w (w.setCell ⟨b,o,none⟩ v) (bP b o (L.length+1)):=by
   refine ⟨by simp,λb' i hb hz u hu=>?_,λb' n hn=>?_,λb' i hb=>by simp,rfl,rfl,rfl,λb' hb hz=>?_,Nat.le_refl _⟩
   ·grind [Hr,bP]
   ·obtain ⟨c,e,fr,h1,U,h3⟩:=hn
    by_cases BX:b=b'
    ·subst BX
     exact ⟨c.setIfInBounds o v,e,fr,by grind [World.setCell],by simp[U],h3⟩
    ·exact ⟨c,e,fr,by grind [World.setCell],U,h3⟩
   ·have dI:b≠b':=λe=>by
     subst e
     have:=hz o
     grind [bP]
    grind [World.setCell]
  exact h1.trans ih λb' i hb hz=>by
   grind [bP]
theorem su {w:World} {b o:Nat} {L:List Value} (h:∀ j,j < L.length->(w.cell? ⟨b,o+j,none⟩).isSome=true) (jN:∀ u ∈ L,u.oneCell'=true):Has (w.setCells b o L) b o L:=by
 intro j u hu
 grind [xS,World.cell?_setCells_in]
theorem Hs (h:bE P C A σ a w F) (fq:∀ i T,E.TI i=some T->aC P T (.inl i)=true) {t:Nat} {y z:Operand} (ho:o.op=.store t y z) (hd:o.dst=none) (ao:bv P y=true/\bv P z=true) {mv:Bool} {K:St->Option R}
  (hk:Dg E σ t (bz σ y) (bz σ z) mv K=some x):o.wp P a w (Nx P C K x) Q:=by
 unfold Dg at hk
 obtain ⟨T,hT,hk⟩:=cG hk
 have dx:=fq _ _ hT
 rcases cc h ao.1 with hs | ⟨xs,e⟩
 rotate_left
 ·grind
 split at hk
 ·rename_i r p snap hv
  rw[hv] at hs
  split at hk
  ·rename_i iA
   split at hk
   ·obtain ⟨pl,b,off,g1,g2,g3,g4⟩:=hs.2 iA
    rcases cc h ao.2 with hz | ⟨xs,e⟩
    rotate_left
    ·grind [fR]
    obtain ⟨A',σ',F',m,v,cs,Fv,k1,k2,k3,k4,kr,k5,k6⟩:=mJ h hz hk
    obtain ⟨hr,m2,H2,v2,bA,uD,F2,q1,q2,q3,q4,q5,q6⟩:=uC k3 k1
    have dh:uD=some (b,off):=by
     unfold place at g1 q2
     cases hR:bC w (tmp a r) (σ'.get r) with
     | none=>grind
     | some R1=>
      rw[hR] at q2
      obtain ⟨H0,ru⟩:=kr w (tmp a r) r R1 hR
      rw[ru] at g1
      have:=(Qv p R1.t g1 q2).2.2
      grind
    subst dh
    obtain ⟨pk,ez⟩:=q5 b off rfl
    have hl:=ah.length _ k6
    have rq:=ah.length _ q3
    have jN:=ah.one _ k6
    have QB:=ah.one _ q3
    have DF:∀ j,j < cs.length->(w.cell? ⟨b,off+j,none⟩).isSome=true:=λj hj=>by
     rw[nG (pk j _ (List.getElem?_eq_getElem (by omega))) (QB _ (List.getElem_mem _))];rfl
    have bk:=run_storeCells_cells (P:=P) b off cs 0 w (by simpa using DF) (λj hj=>by grind) jN
    have RJ:(bq T cs).cells.toList=cs:=eH hl jN
    have gn:(bq T cs).cells.size=T.sz:=by grind
    have eJ:(execOp a.eval o).run P w=.ok .skip (w.setCells b off cs):=by
     simp[execOp,ho,g3,k5,Instr.storeAt,Instr.sureAddr,storeVar,run_sizeOf dx,gn,RJ,bk]
    refine DE eJ hd ?_
    have dw:ah P (w.setCells b off cs) A' T m [] v cs Fv:=by
     refine ah.mono (λ_ _ h=>h) (λb' i ha u hu=>?_) (ky (b:=b) (o:=off) cs w off).pZ _ k6 (λ_ _=>Nat.le_refl _) (λb' i hp u hu=>?_)
     ·refine (ky (b:=b) (o:=off) cs w off).cell b' i (k3.eI b' i (.inr ha)) ?_ u hu
      have h1:=q4 b' i;have U:=bu F' hr b' i
      rcases Nat.eq_zero_or_pos (eV (some (b,off)) T.sz b' i) with h0 | h0
      ·rw[hl];exact h0
      ·exact absurd ha (k3.jr b' i (by omega))
     ·have h1:=q4 b' i;have U:=bu F' hr b' i;have h3:=k3.iQ b' i
      refine (ky (b:=b) (o:=off) cs w off).cell b' i (k3.eI b' i (.inl (by omega))) ?_ u hu
      grind [eV]
    have cr:Ext w (w.setCells b off cs) (λb' i=>(0+Fv b' i)+(F2 b' i+eV (some (b,off)) T.sz b' i)):=(ky (b:=b) (o:=off) cs w off).mono λb' i hz=>by
     grind [eV]
    obtain ⟨A3,tt,Fr,n1,n2,n3,_⟩:=q6 (w.setCells b off cs) A' cs Fv (λ_ _=>0) cr (λ_ _ h=>h) (λ_ _ h=>.inl h) (λb i=>by omega) (λb' o' e=>by
      grind [su]) (λe=>by cases e) dw
    exact ⟨tt,n1,A3,_,n3⟩
   ·cases hk
  ·cases hk
 ·cases hk
end
end OT
set_option linter.unusedVariables false
set_option linter.unusedSimpArgs false
namespace OT
open Go
section
variable {P:Program} {w:World} {A:Cells}
theorem Ht:∀ (p q:Path) (t:Ty) {H:List Path} {cs:List Value} {ad:Option (Nat×Nat)},aJ w (p++q) t H cs ad=(aJ w p t H cs ad).bind λpl=>aJ w q pl.t pl.H pl.cs pl.ad:=by
 intro p
 induction p with
 | nil=>intro q t H cs ad;rfl
 | cons s p ih=>
  intro q t H cs ad
  cases t with
  | pair a b=>
   cases s <;> grind [aJ]
  | ae e=>
   cases s with
   | idx i=>
    simp only[List.cons_append,aJ]
    split
    ·rfl
    ·split
     all_goals grind
   | _=>simp[aJ]
  | arr n e=>
   cases s <;> grind [aJ]
  | _=>grind [aJ]
theorem yR:∀ (p:Path) (t:Ty) {H:List Path} {cs:List Value} {ad:Option (Nat×Nat)} {pl:Pl},aJ w p t H cs ad=some pl->tY p t=some pl.t:=by
 intro p
 induction p with
 | nil=>intro t H cs ad pl h;simp only[aJ,Option.some.injEq] at h;subst h;rfl
 | cons s p ih=>
  intro t H cs ad pl h
  cases t with
  | pair a b=>
   cases s with
   | fst=>simp only[aJ] at h;split at h;cases h;exact ih a h
   | snd=>simp only[aJ] at h;split at h;cases h;exact ih b h
   | _=>simp[aJ] at h
  | ae e=>
   cases s with
   | idx i=>
    simp only[aJ] at h
    split at h
    ·cases h
    ·split at h
     ·split at h
      ·exact ih e h
      ·cases h
     ·cases h
   | _=>simp[aJ] at h
  | arr n e=>
   cases s with
   | jI i=>
    simp only[aJ] at h
    split at h
    ·split at h
     ·exact ih e h
     ·cases h
    ·cases h
   | _=>simp[aJ] at h
  | _=>grind [aJ]
theorem NF:∀ (q:Path) (t:Ty) {m:Md} {H:List Path} {v:t.den} {cs:List Value} {F:FP} {ad:Option (Nat×Nat)} {pl:Pl},ah P w A t m H v cs F->aJ w q t H cs ad=some pl ->
  ∃ (m':Md) (v':pl.t.den) (F':FP),ah P w A pl.t m' pl.H v' pl.cs F':=by
 intro q
 induction q with
 | nil=>grind [aJ]
 | cons s q ih=>
  intro t m H v cs F ad pl hr h
  cases t with
  | pair a b=>
   obtain ⟨h0,F1,F2,hs,h1,U⟩:=hr
   cases s <;> grind [aJ]
  | ae e=>
   cases s with
   | idx i=>
    simp only[ah] at hr
    simp only[aJ] at h
    split at h
    ·cases h
    ·rename_i hh
     rw[if_neg hh] at hr
     split at hr
     ·obtain ⟨a,cap,rfl,U,h3,h4,h5⟩:=hr
      cases a with
      | none=>cases h
      | some cO=>
       obtain ⟨g1,g2,g3,Fi,g4,g5⟩:=h5 cO rfl
       simp only at h
       split at h
       ·rename_i hi
        obtain ⟨L,hl,hL,dw⟩:=g5 i _ (List.getElem?_eq_getElem hi)
        rw[g1,Nat.zero_add,b9 hL hl] at h
        grind
       ·cases h
     ·obtain ⟨rfl,iz,a,cap,rfl,U,h3,h4⟩:=hr
      cases a with
      | none=>cases h
      | some cO=>
       simp only at h
       split at h
       ·rename_i hi
        obtain ⟨L,hl,hL,dw⟩:=(h4 cO rfl).2 i _ (List.getElem?_eq_getElem hi)
        rw[b9 (λj u hu=>(hL j u hu).1) hl] at h
        exact ih e (Ro.rep e (λ_ _=>0) iz dw) h
       ·cases h
   | _=>simp[aJ] at h
  | arr n e=>
   cases s with
   | jI i=>
    obtain ⟨rfl,hf,hl,hlen,hr⟩:=hr
    simp only[aJ,List.isEmpty_nil,if_true] at h
    split at h
    ·rename_i hi
     exact ih e (Ro.flat e (m:=.leaf) (λ_ _=>0) hf (hr i _ (List.getElem?_eq_getElem (by grind)))) h
    ·cases h
   | _=>simp[aJ] at h
  | _=>grind [aJ]
def ei:Nat->Ty->Nat
 | j+1,.pair a b=>a.sz+ei j b
 | _,_=>0
theorem Ft (ad:Option (Nat×Nat)):cT ad 0=ad:=by simp_all [cT]
theorem Hu (ad:Option (Nat×Nat)) (j k:Nat):cT (cT ad j) k=cT ad (j+k):=by cases ad <;> simp[cT,Nat.add_assoc]
theorem Gr:∀ (j:Nat) (S:Ty) {t':Ty} {m:Md} {H:List Path} {v:S.den} {cs:List Value} {F:FP} {ad:Option (Nat×Nat)},ah P w A S m H v cs F->mV j S=some t' ->
  ∃ H',aJ w (gY j) S H cs ad=some ⟨t',H',(cs.drop (ei j S)).take t'.sz,cT ad (ei j S)⟩:=by
 intro j
 induction j with
 | zero=>
  intro S t' m H v cs F ad hr h
  cases S with
  | pair a b=>
   injection h with h;subst h
   obtain ⟨h0,F1,F2,hs,h1,U⟩:=hr
   simp_all [gY,aJ,ei,Ft]
  | _=>cases h
 | succ j ih=>
  intro S t' m H v cs F ad hr h
  cases S with
  | pair a b=>
   obtain ⟨h0,F1,F2,hs,h1,U⟩:=hr
   obtain ⟨H',e⟩:=ih b (ad:=cT ad a.sz) U h
   grind [gY,aJ,ei,List.drop_drop,Hu]
  | _=>cases h
theorem KS:∀ (j:Nat) (T:Ty) {t:Ty},tY (gY j) T=some t->∃ t2,mV j T=some t2:=by
 intro j
 induction j with
 | zero=>intro T t h;cases T <;> first | exact ⟨_,rfl⟩ | grind [gY,tY]
 | succ j ih=>intro T t h;cases T <;> first | (simp[gY,tY] at h;done) | exact ih _ (by simpa [gY,tY] using h)
theorem Gs:∀ (j:Nat) (S:Ty) {t':Ty} {fs:List Field} {off:Nat},aC P S (.inr (fs,off))=true->mV j S=some t' ->
  ∃ f,fs[j]?=some f/\f.offset=off+ei j S/\aC P t' (.inl f.type)=true/\1<=t'.sz:=by
 intro j
 induction j with
 | zero=>
  intro S t' fs off hl h
  cases S with
  | pair a b=>
   injection h with h;subst h
   cases fs <;> simp_all [aC,ei]
  | _=>cases h
 | succ j ih=>
  intro S t' fs off hl h
  cases S with
  | pair a b=>
   cases fs with
   | nil=>simp[aC] at hl
   | cons f r=>
    simp only[aC,Bool.and_eq_true,Nat.beq_eq,Nat.ble_eq] at hl
    obtain ⟨f',h1,U,h3⟩:=ih b hl.2 h
    grind [ei]
  | _=>cases h
theorem zM {j:Nat} {S t':Ty} {i:TypeId} (hl:aC P S (.inl i)=true) (h:mV j S=some t') :
  ∃ fs f,P.underlying i=some (.struct fs)/\fs[j]?=some f/\f.offset=ei j S/\aC P t' (.inl f.type)=true/\1<=t'.sz:=by
 cases S with
 | pair a b=>
  simp only[aC,Bool.and_eq_true] at hl
  have U:=hl.2
  split at U
  ·rename_i fs hu
   split at U
   ·rename_i f r zN
    have h3:aC P (.pair a b) (.inr (f::r,0))=true:=by
     grind [aC]
    grind [Gs]
   ·cases U
  ·cases U
 | _=>cases j <;> cases h
theorem nm {t:Ty} {i:TypeId} (h:aC P t (.inl i)=true) {cs:Array Value} {off:Nat} (hl:((cs.toList.drop off).take t.sz).length=t.sz):(part i cs off).run P w=.ok (bq t ((cs.toList.drop off).take t.sz)) w:=by
 unfold part
 simp only[Sem.run_bind,wS h,Result.andThen_ok]
 cases ht:isAgg t with
 | true=>
  simp only[if_true,Sem.run_bind,run_sizeOf h,Result.andThen_ok,Sem.run_pure,bq,ht]
  congr 2
  grind
 | false=>
  simp_all [DD,List.take_one,bq]
end
section
variable {P:Program} {C:Ctx} {A:Cells} {X:FP} {σ:St} {a:Act} {w:World} {F:Nat->FP} {R:Type} {x:R} {Q:Exit->Act->World->Prop} {o:Oper} {E:Env}
theorem BY (h:Rel P C A X σ a w F) {r:Nat} {p:Path} {pl:Pl} (hp:place σ a w r p=some pl):∃ (m':Md) (v':pl.t.den) (F':FP),ah P w A pl.t m' pl.H v' pl.cs F':=by
 have av:=l_ hp
 unfold place at hp
 cases hR:bC w (tmp a r) (σ.get r) with
 | none=>grind
 | some R0=>
  rw[hR] at hp
  obtain ⟨m0,v0,F1,q1,q2,q3,_⟩:=pa (h.cY r av) hR
  grind [NF]
theorem lP (r:Nat) (p q:Path):place σ a w r (p++q)=(place σ a w r p).bind λpl=>aJ w q pl.t pl.H pl.cs pl.ad:=by
 unfold place
 cases bC w (tmp a r) (σ.get r) <;> grind [Ht]
theorem zO {r:Nat} {p:Path} {pl:Pl} (hp:place σ a w r p=some pl):yM σ r p=some pl.t:=by
 unfold place at hp
 unfold yM Df
 cases hg:σ.get r with
 | own t m H v=>grind [bC,yR]
 | box t m H v=>
  rw[hg] at hp
  simp only[bC] at hp
  grind [yR]
 | _=>grind [bC]
theorem KU (p:Path) (j:Nat):bD (p++gY j)=bD p:=by
 induction p with
 | nil=>induction j <;> grind [gY,bD]
 | cons s p ih=>cases s <;> simp only[List.cons_append,bD,ih]
theorem BZ {A':Cells}:∀ (j:Nat) (S:Ty) {v:S.den} {K:(t':Ty)->t'.den->Option R} {cs:List Value},G6 j S v K=some x->Ro P w A' S v cs ->
  ∃ t' v',mV j S=some t'/\K t' v'=some x/\Ro P w A' t' v' ((cs.drop (ei j S)).take t'.sz):=by
 intro j
 induction j with
 | zero=>
  intro S v K cs h hr
  cases S with
  | pair a b=>exact ⟨a,v.1,rfl,h,by simp only[ei,List.drop_zero];exact hr.1⟩
  | _=>cases h
 | succ j ih=>
  intro S v K cs h hr
  cases S with
  | pair a b=>
   obtain ⟨t',v',h1,U,h3⟩:=ih b (v:=v.2) h hr.2
   exact ⟨t',v',h1,U,by grind [ei,List.drop_drop]⟩
  | _=>cases h
theorem CI (h:bE P C A σ a w F) {y:Operand} (ho:o.op=.nilCheck y) (ao:bv P y=true) {K:St->Option R}
  (hk:(match bz σ y with
  | .ptr r p snap=>if σ.ok r snap then K (σ.aQ o.dst (.ptr r p snap)) else none
  | .cp t v=>K (σ.aQ o.dst (.cp t v))
  | .val .fn f=>K (σ.aQ o.dst (.val .fn f))
  | _=>none)=some x):Tk P o a w (Nx P C K x):=by
 rcases cc h ao with hs | ⟨xs,e⟩
 rotate_left
 ·grind
 split at hk
 ·rename_i r p snap hv
  rw[hv] at hs
  split at hk
  ·rename_i iA
   obtain ⟨pl,b,off,g1,g2,g3,g4⟩:=hs.2 iA
   exact cR (v:=a.eval y) (by simp[execOp,ho,g3]) (aY h hk hs (λ_ _ _ _ e=>by cases e))
  ·cases hk
 ·rename_i t v hv
  rw[hv] at hs
  obtain ⟨ad,h1,_⟩:=id hs
  simp only[List.cons.injEq,and_true] at h1
  exact cR (v:=a.eval y) (by simp[execOp,ho,h1]) (aY h hk hs (λ_ _ _ _ e=>by cases e))
 ·rename_i f hv
  rw[hv] at hs
  obtain ⟨cs,h1,qY,U,_⟩:=id hs
  subst U
  exact cR (v:=a.eval y) (by simp[execOp,ho,h1,bq,isAgg]) (aY h hk hs (λ_ _ _ _ e=>by cases e))
 ·cases hk
theorem Bl (h:bE P C A σ a w F) (fq:∀ i T,E.TI i=some T->aC P T (.inl i)=true) {S:Nat} {y:Operand} {j:Nat} (ho:o.op=.fieldAddr S y j) (ao:bv P y=true) {K:St->Option R}
  (hk:uX E σ S (bz σ y) j o.dst K=some x):Tk P o a w (Nx P C K x):=by
 unfold uX at hk
 obtain ⟨T,hT,hk⟩:=cG hk
 have dx:=fq _ _ hT
 have run:∀ t' b off,mV j T=some t'->a.eval y=.pointer (some ⟨b,off,none⟩)->∀ w',mc o w w'->(execOp a.eval o).run P w'=.ok (.value (.pointer (some ⟨b,off+ei j T,none⟩))) w':=λt' b off ht hy w' _=>by
  obtain ⟨fs,f,h1,U,h3,h4,h5⟩:=zM dx ht
  have gn:=run_sizeOf (P:=P) (w:=w') h4
  have dI:¬ t'.sz=0:=by omega
  simp_all [execOp,Instr.fieldAt,Instr.sureAddr,run_underlying,fieldPlace,jE]
 rcases cc h ao with hs | ⟨xs,e⟩
 rotate_left
 ·grind
 split at hk
 ·rename_i t' v hv
  rw[hv] at hs
  split at hk
  ·rename_i e;subst e
   obtain ⟨⟨b,off,sp⟩,h1,U,L,h3,h4,h5⟩:=hs
   simp only[List.cons.injEq,and_true] at h1
   simp only at U;subst U
   obtain ⟨t2,v2,q1,q2,q3⟩:=BZ j t' hk h5
   refine cR (run t2 b off q1 h1) (aY h q2 ⟨_,rfl,rfl,_,Ro.length _ q3,λk u hu=>?_,q3⟩ (λ_ _ _ _ e=>by cases e))
   grind
  ·cases hk
 ·rename_i r p snap hv
  rw[hv] at hs
  split at hk
  ·rename_i iA
   split at hk
   ·rename_i sv
    split at hk
    ·rename_i hf
     obtain ⟨pl,b,off,g1,g2,g3,g4⟩:=hs.2 iA
     rw[zO g1] at sv
     injection sv with sv
     obtain ⟨t',wl⟩:=Option.isSome_iff_exists.1 hf
     refine cR (run t' b off wl g3) (aY h hk ⟨hs.1,λ_=>?_⟩ (λ_ _ _ _ e=>by cases e))
     obtain ⟨m',v',F',dw⟩:=BY h g1
     obtain ⟨tp,Hp,ON,Mq⟩:=pl
     simp only at sv g2 dw
     subst sv
     obtain ⟨H',e⟩:=Gr (ad:=Mq) j tp dw wl
     grind [cT,KU,lP]
    ·cases hk
   ·cases hk
  ·cases hk
 ·cases hk
theorem Hv (h:bE P C A σ a w F) (fq:∀ i T,E.TI i=some T->aC P T (.inl i)=true) {S:Nat} {y:Operand} {j:Nat} (ho:o.op=.field S y j) (ao:bv P y=true) {K:St->Option R}
  (hk:A8 E σ S (bz σ y) j o.dst K=some x):Tk P o a w (Nx P C K x):=by
 unfold A8 at hk
 obtain ⟨T,hT,hk⟩:=cG hk
 have dx:=fq _ _ hT
 have run:∀ t' cs,mV j T=some t'->a.eval y=bq T cs->((cs.drop (ei j T)).take t'.sz).length=t'.sz->∀ w',mc o w w'->(execOp a.eval o).run P w'=.ok (.value (bq t' ((cs.drop (ei j T)).take t'.sz))) w':=λt' cs ht hy hl w' _=>by
  obtain ⟨fs,f,h1,U,h3,h4,h5⟩:=zM dx ht
  have Wq:bq T cs=.agg cs.toArray:=by cases T <;> first | rfl | (cases j <;> cases ht)
  have:=nm (P:=P) (w:=w') h4 (cs:=cs.toArray) (off:=ei j T) (by simpa using hl)
  simp_all [execOp,Instr.field,run_underlying,asAgg]
 rcases cc h ao with hs | ⟨xs,e⟩
 rotate_left
 ·grind
 split at hk
 ·rename_i t' v hv
  rw[hv] at hs
  split at hk
  ·rename_i e;subst e
   obtain ⟨cs,h1,U⟩:=hs
   obtain ⟨t2,v2,q1,q2,q3⟩:=BZ j t' hk U
   exact cR (run t2 cs q1 h1 (Ro.length _ q3)) (aY h q2 ⟨_,rfl,q3⟩ (λ_ _ _ _ e=>by cases e))
  ·cases hk
 ·rename_i r p snap hv
  rw[hv] at hs
  split at hk
  ·rename_i iA
   split at hk
   ·rename_i sv
    obtain ⟨hr,t',m',H',v',aS,bl,F',h1,U,h3,h4,h5,h6⟩:=fk h hk
    obtain ⟨pl,g1,g2,g3⟩:=hs.2 iA
    rw[zO g1] at sv
    injection sv with sv
    obtain ⟨m0,v0,F0,dw⟩:=BY h g1
    obtain ⟨tp,Hp,ON,Mq⟩:=pl
    simp only at sv g2 dw
    subst sv
    have hf:∃ t2,mV j tp=some t2:=by
     have h7:=h3
     rw[lP,g1] at h7
     exact KS j tp (yR _ _ h7)
    obtain ⟨t2,RK⟩:=hf
    obtain ⟨H2,e⟩:=Gr (ad:=Mq) j tp dw RK
    have dh:place σ a w r (p++gY j)=some ⟨t2,H2,(ON.drop (ei j tp)).take t2.sz,cT Mq (ei j tp)⟩:=by grind [lP]
    rw[dh] at h3
    injection h3 with h3
    simp only[Pl.mk.injEq] at h3
    obtain ⟨rfl,rfl,rfl,rfl⟩:=h3
    refine cR (run t2 ON RK g2 (ah.length _ h4)) ?_
    split at h1
    ·rename_i hc
     split at h1
     ·rename_i hH
      have hH:=List.isEmpty_iff.1 hH;subst hH
      refine aY h h1 ⟨_,rfl,?_⟩ (λ_ _ _ _ e=>by cases e)
      grind [ah.flat,ah.ro,cN]
     ·cases h1
    ·exact aY h h1 (vl h dh) (λ_ _ _ _ e=>by cases e)
   ·cases hk
  ·cases hk
 ·cases hk
end
end OT
set_option linter.unusedVariables false
set_option linter.unusedSimpArgs false
namespace OT
open Go
section
variable {P:Program} {C:Ctx} {A:Cells} {X:FP} {σ:St} {a:Act} {w:World} {F:Nat->FP} {R:Type} {x:R} {Q:Exit->Act->World->Prop} {o:Oper} {E:Env}
theorem yS {n:Int} {len:Nat} {K:Nat->Option R} (h:IS n len K=some x):0<=n/\n < (len:Int)/\K n.toNat=some x:=by
 grind [IS]
theorem bind_some {α:Type} {o:Option α} {K:α->Option R} (h:o.bind K=some x):∃ y,o=some y/\K y=some x:=by
 cases o <;> grind
theorem mM {e:Ty} {i:TypeId} (h:aC P (.ae e) (.inl i)=true):∃ el,P.underlying i=some (.slice el)/\1<=e.sz/\aC P e (.inl el)=true:=by
 grind [aC,Nat.ble_eq]
theorem Gt {n:Nat} {e:Ty} {i:TypeId} (h:aC P (.arr n e) (.inl i)=true):∃ el,P.underlying i=some (.array n el)/\1<=e.sz/\aC P e (.inl el)=true:=by
 grind [aC,Nat.ble_eq,Nat.beq_eq]
theorem gi {i:TypeId} (h:aC P .str (.inl i)=true):P.underlying i=some .string:=by
 grind [aC]
theorem jy {k:IntKind} {i:TypeId} (h:aC P (.int k) (.inl i)=true):P.underlying i=some (.int k):=by
 grind [aC]
theorem Fu (p q:Path):bD (p++q)=bD p+bD q:=by
 induction p with
 | nil=>simp[bD]
 | cons s p ih=>cases s <;> simp only[List.cons_append,bD,ih] <;> omega
theorem zP (h:Rel P C A X σ a w F) {r:Nat} {p:Path} {pl:Pl} {b off:Nat} (hp:place σ a w r p=some pl) (ey:pl.ad=some (b,off)):uB σ a w (.pointer (some ⟨b,off,none⟩)) r p (oK σ r p):=by
 have h5:=h.fG r
 refine ⟨?_,λ_=>⟨pl,b,off,hp,ey,rfl,by grind [oK]⟩⟩
 unfold oK
 intro j y hj;grind
theorem Bm (h:bE P C A σ a w F) (fq:∀ i T,E.TI i=some T->aC P T (.inl i)=true) {t:Nat} {y z:Operand} (ho:o.op=.indexAddr t y z) (ao:bv P y=true/\bv P z=true) {K:St->Option R}
  (hk:uY E σ t (bz σ y) (bz σ z) o.dst K=some x):Tk P o a w (Nx P C K x):=by
 unfold uY at hk
 obtain ⟨T,hT,hk⟩:=cG hk
 have dx:=fq _ _ hT
 rcases cc h ao.2 with hz | ⟨xs,e⟩
 rotate_left
 ·rw[e] at hk;cases hk
 obtain ⟨kz,n,Gu,hk⟩:=oN hz hk
 have wT:∀ e ad len cap,T=.ae e->a.eval y=.slice (some ad) len cap->ad.spot=none->0<=n->n < (len:Int)->∀ w',mc o w w'->(execOp a.eval o).run P w'=.ok (.value (.pointer (some ⟨ad.block,ad.off+n.toNat*e.sz,none⟩))) w':=λe ad len cap kO hy i_ h0 h1 w' _=>by
  subst kO
  obtain ⟨el,hu,_,hle⟩:=mM dx
  obtain ⟨b,off,sp⟩:=ad
  simp only at i_;subst i_
  have gn:=run_sizeOf (P:=P) (w:=w') hle
  simp[execOp,ho,hy,Gu,Instr.indexAt,asIntOf,run_underlying hu,h0,h1,gn,jE]
 have OO:∀ m e b off,T=.arr m e->a.eval y=.pointer (some ⟨b,off,none⟩)->0<=n->n < (m:Int)->∀ w',mc o w w'->(execOp a.eval o).run P w'=.ok (.value (.pointer (some ⟨b,off+n.toNat*e.sz,none⟩))) w':=λm e b off kO hy h0 h1 w' _=>by
  subst kO
  obtain ⟨el,hu,_,hle⟩:=Gt dx
  have gn:=run_sizeOf (P:=P) (w:=w') hle
  simp[execOp,ho,hy,Gu,Instr.indexAt,asIntOf,run_underlying hu,h0,h1,gn,jE,Instr.sureAddr]
 have T9:∀ (e:Ty) (v:List e.den) (tv:Value) (yv:e.den),T=.ae e->a.eval y=tv->Ro P w A (.ae e) v [tv]->0<=n->v[n.toNat]?=some yv->K (σ.aQ o.dst (.cp e yv))=some x->Tk P o a w (Nx P C K x):=λe v tv yv kO hy nl h0 wU hk=>by
  obtain ⟨xa,cap,h1,U,h3,h4⟩:=nl
  simp only[List.cons.injEq,and_true] at h1
  subst h1
  have av:=(List.getElem?_eq_some_iff.1 wU).1
  cases xa with
  | none=>grind
  | some ad=>
   obtain ⟨g1,g2⟩:=h4 ad rfl
   obtain ⟨L,l1,l2,l3⟩:=g2 _ _ wU
   exact cR (wT e ad _ cap kO hy (g1 (by omega)) h0 (by omega)) (aY h hk ⟨_,rfl,rfl,L,l1,l2,l3⟩ (λ_ _ _ _ e=>by cases e))
 rcases cc h ao.1 with hs | ⟨xs,e⟩
 rotate_left
 ·grind
 split at hk
 ·rename_i e v hv
  rw[hv] at hs
  split at hk
  ·rename_i kO
   split at hk
   ·rename_i h0
    obtain ⟨yv,wU,hk⟩:=bind_some hk
    obtain ⟨cs,h1,U⟩:=hs
    have hl:=Ro.length _ U
    match cs,hl with
    | [tv],_=>exact T9 e v tv yv kO (by rw[h1,bL _ _ rfl]) U h0 wU hk
   ·cases hk
  ·cases hk
 ·rename_i m e v hv
  rw[hv] at hs
  split at hk
  ·rename_i kO
   split at hk
   ·rename_i h0
    obtain ⟨yv,wU,hk⟩:=bind_some hk
    obtain ⟨⟨b,off,sp⟩,h1,U,L,h3,h4,h5⟩:=hs
    simp only[List.cons.injEq,and_true] at h1
    simp only at U;subst U
    obtain ⟨q1,q2,q3,q4⟩:=h5
    have av:n.toNat < m:=q2 ▸ (List.getElem?_eq_some_iff.1 wU).1
    have nl:=q4 _ _ wU
    refine cR (OO m e b off kO h1 h0 (by omega)) (aY h hk ⟨_,rfl,rfl,_,Ro.length _ nl,λk u hu=>?_,nl⟩ (λ_ _ _ _ e=>by cases e))
    grind
   ·cases hk
  ·cases hk
 ·rename_i r p snap hv
  rw[hv] at hs
  split at hk
  ·rename_i iA
   obtain ⟨hr,t',m',H',v',aS,bl,F',h1,U,h3,h4,h5,h6⟩:=fk h hk
   obtain ⟨pl,g1,g2,g3⟩:=hs.2 iA
   rw[h3] at g1
   injection g1 with g1
   subst g1
   simp only at g2
   split at h1
   ·cases h1
   ·rename_i hH
    have hH:hole H'=false:=Bool.eq_false_iff.2 hH
    split at h1
    ·rename_i kO
     split at h1
     ·rename_i e Gv
      have hl:=ah.length _ h4
      split at h1
      ·rename_i dj
       obtain ⟨i0,i1,h1⟩:=yS h1
       have dw:=h4
       simp only[ah,hH,Bool.false_eq_true,if_false,dj,if_true] at dw
       obtain ⟨xa,cap,rfl,q2,q3,q4,q5⟩:=dw
       cases xa with
       | none=>grind
       | some cO=>
        obtain ⟨r1,r2,r3,Fi,r4,r5⟩:=q5 cO rfl
        rw[bL _ _ rfl] at g2
        have av:n.toNat < List.length Gv:=by omega
        refine cR (wT e cO _ cap kO.symm g2 r2 i0 i1) (aY h h1 (zP (pl:=⟨e,H'.filterMap (fm n.toNat),rd w cO.block (cO.off+n.toNat*e.sz) e.sz,some (cO.block,cO.off+n.toNat*e.sz)⟩) h ?_ rfl) (λ_ _ _ _ e=>by cases e))
        grind [lP,aJ]
      ·rename_i dj
       split at h1
       ·rename_i h0
        obtain ⟨yv,wU,h1⟩:=bind_some h1
        have dw:=h4
        simp only[ah,hH,Bool.false_eq_true,if_false,dj] at dw
        match aS,hl with
        | [tv],_=>
         rw[bL _ _ rfl] at g2
         grind
       ·cases h1
     ·cases h1
    ·cases h1
  ·cases hk
 ·rename_i r p snap lo hi hv
  rw[hv] at hs
  split at hk
  ·rename_i iA
   obtain ⟨hr,t',m',H',v',aS,bl,F',h1,U,h3,h4,h5,h6⟩:=fk h hk
   obtain ⟨pl,e,xa,len,cap,n_,cap',g1,g2,g3,g4,g5,g6,g7,Gn,g8,g9,g10⟩:=hs.2 iA
   rw[h3] at g1
   injection g1 with g1
   subst g1
   simp only at g2 g3
   subst g2;subst g3
   split at h1
   ·cases h1
   ·rename_i hH
    have hH:hole H'=false:=Bool.eq_false_iff.2 hH
    split at h1
    ·rename_i kO
     obtain ⟨i0,i1,h1⟩:=yS h1
     have sm:∃ cO,xa=some cO/\cO.spot=none:=by
      simp only[ah,hH,Bool.false_eq_true,if_false] at h4
      cases xa with
      | none=>
       split at h4
       ·grind
       ·obtain ⟨_,_,OP,Bn,q1,q2,q3,_⟩:=h4
        grind
      | some cO=>
       refine ⟨cO,rfl,?_⟩
       split at h4
       ·grind
       ·obtain ⟨_,_,OP,Bn,q1,q2,q3,q4⟩:=h4
        grind
     obtain ⟨cO,rfl,i_⟩:=sm
     obtain ⟨ym,e1,e2,e3,e4⟩:=g9 cO rfl
     subst e1
     have e4:=e4 (by omega)
     refine cR (wT e ym _ cap' kO.symm g6 (e2.trans i_) i0 i1) ?_
     have DG:(⟨ym.block,ym.off+n.toNat*e.sz,none⟩:Addr)=⟨cO.block,cO.off+(lo+n.toNat)*e.sz,none⟩:=by
      grind
     rw[DG]
     have av:lo+n.toNat < len:=by omega
     refine aY h h1 (zP (pl:=⟨e,H'.filterMap (fm (lo+n.toNat)),rd w cO.block (cO.off+(lo+n.toNat)*e.sz) e.sz,some (cO.block,cO.off+(lo+n.toNat)*e.sz)⟩) h ?_ rfl) (λ_ _ _ _ e=>by cases e)
     grind [lP,aJ]
    ·cases h1
  ·cases hk
 ·rename_i r p snap hv
  rw[hv] at hs
  split at hk
  ·rename_i iA
   obtain ⟨hr,t',m',H',v',aS,bl,F',h1,U,h3,h4,h5,h6⟩:=fk h hk
   obtain ⟨pl,b,off,g1,g2,g3,g4⟩:=hs.2 iA
   rw[h3] at g1
   injection g1 with g1
   subst g1
   simp only at g2
   subst g2
   split at h1
   ·rename_i kO
    split at h1
    ·rename_i m e Gv
     obtain ⟨i0,i1,h1⟩:=yS h1
     obtain ⟨hH,hf,hl,hlen,nl⟩:=h4
     subst hH
     have av:n.toNat < m:=by omega
     refine cR (OO m e b off kO.symm g3 i0 (by omega)) (aY h h1 ⟨hs.1,λ_=>⟨⟨e,[],(aS.drop (n.toNat*e.sz)).take e.sz,some (b,off+n.toNat*e.sz)⟩,b,off+n.toNat*e.sz,?_,rfl,rfl,?_⟩⟩ (λ_ _ _ _ e=>by cases e))
     ·grind [lP,aJ,cT]
     ·rw[Fu];exact g4
    ·cases h1
   ·cases h1
  ·cases hk
 ·cases hk
end
end OT
set_option linter.unusedVariables false
set_option linter.unusedSimpArgs false
namespace OT
open Go
section
variable {P:Program} {C:Ctx} {A:Cells} {X:FP} {σ:St} {a:Act} {w:World} {F:Nat->FP} {R:Type} {x:R} {Q:Exit->Act->World->Prop} {o:Oper} {E:Env}
theorem Jg (s:List UInt8) (n:Nat):(⟨s.toArray⟩:ByteArray)[n]?=s[n]?:=by
 by_cases h:n < s.length
 ·have h1:n < (⟨s.toArray⟩:ByteArray).size:=by simpa [ByteArray.size] using h
  rw[getElem?_pos _ n h1,List.getElem?_eq_getElem h]
  rfl
 grind [ByteArray.size]
theorem Hw (h:bE P C A σ a w F) (fq:∀ i T,E.TI i=some T->aC P T (.inl i)=true) {t:Nat} {y z:Operand} (ho:o.op=.index t y z) (ao:bv P y=true/\bv P z=true) {K:St->Option R}
  (hk:Dh E σ t (bz σ y) (bz σ z) o.dst K=some x):Tk P o a w (Nx P C K x):=by
 unfold Dh at hk
 have zQ:=cG hk
 clear hk
 obtain ⟨T,hT,f8⟩:=zQ
 have dx:=fq _ _ hT
 rcases cc h ao.2 with hz | ⟨xs,e⟩
 rotate_left
 ·rw[e] at f8;cases f8
 have T_:=oN hz f8
 clear f8
 obtain ⟨kz,n,Gu,hk⟩:=T_
 rcases cc h ao.1 with hs | ⟨xs,e⟩
 rotate_left
 ·grind
 split at hk
 ·rename_i s hv
  rw[hv] at hs
  split at hk
  ·rename_i kO;subst kO
   split at hk
   ·rename_i h0
    obtain ⟨c,hc,hk⟩:=bind_some hk
    obtain ⟨cs,h1,U⟩:=hs
    simp only[Ro] at U;subst U
    have hb:=Jg s n.toNat
    rw[hc] at hb
    refine cR (v:=.int .u8 c.toNat) ?_ (aY h hk ⟨[_],rfl,rfl⟩ (λ_ _ _ _ e=>by cases e))
    simp[execOp,ho,h1,bq,isAgg,Gu,Instr.index,asIntOf,run_underlying (gi dx),h0,hb]
   ·cases hk
  ·cases hk
 ·rename_i m e v hv
  rw[hv] at hs
  split at hk
  ·rename_i kO;subst kO
   split at hk
   ·rename_i h0
    obtain ⟨yv,wU,hk⟩:=bind_some hk
    obtain ⟨cs,h1,U⟩:=hs
    obtain ⟨q1,q2,q3,q4⟩:=id U
    obtain ⟨el,hu,_,hle⟩:=Gt dx
    have av:n.toNat < m:=q2 ▸ (List.getElem?_eq_some_iff.1 wU).1
    have vf:n < (m:Int):=by omega
    have nl:=q4 _ _ wU
    refine cR (v:=bq e ((cs.drop (n.toNat*e.sz)).take e.sz)) (λw' _=>?_) (aY h hk ⟨_,rfl,nl⟩ (λ_ _ _ _ e=>by cases e))
    have hp:=nm (P:=P) (w:=w') hle (cs:=cs.toArray) (off:=n.toNat*e.sz) (by grind [Ro.length])
    simp only[List.toList_toArray] at hp
    have gn:=run_sizeOf (P:=P) (w:=w') hle
    simp_all [execOp,bq,isAgg,Instr.index,asIntOf,run_underlying]
   ·cases hk
  ·cases hk
 ·cases hk
theorem sw {t:Ty} {m:Md} {H:List Path} {e:Ty} {v:List e.den} {cs:List Value} {G:FP} (h:ah P w A (.ae e) m H v cs G) (hH:hole H=false) :
  ∃ xa cap,cs=[.slice xa (List.length v) cap]/\List.length v<=cap/\(xa=none->List.length v=0):=by
 simp only[ah,hH,Bool.false_eq_true,if_false] at h
 split at h
 ·grind
 ·obtain ⟨_,_,xa,cap,q1,q2,q3,q4⟩:=h
  grind
theorem sx {t:Nat} {y:Operand} (ho:o.op=.call { callee:=.builtin .len,args:=#[y],argTypes:=#[t] }) :
  (execOp a.eval o).run P w=((Builtin.len_ #[t] o.type #[a.eval y]).run P w).andThen λv w'=>.ok (.value v) w':=by
 simp_all [execOp,resolve,invoke,builtin]
theorem KV (h:bE P C A σ a w F) (fq:∀ i T,E.TI i=some T->aC P T (.inl i)=true) {t:Nat} {y:Operand} (ho:o.op=.call { callee:=.builtin .len,args:=#[y],argTypes:=#[t] }) (ao:bv P y=true) {K:St->Option R}
  (hk:KL E σ t (bz σ y) (λn=>K (σ.aQ o.dst (.val (.int .i64) (n:Int))))=some x):Tk P o a w (Nx P C K x):=by
 unfold KL at hk
 obtain ⟨T,hT,hk⟩:=cG hk
 have dx:=fq _ _ hT
 rcases cc h ao with hs | ⟨xs,e⟩
 rotate_left
 ·grind
 have fin:∀ n:Nat,K (σ.aQ o.dst (.val (.int .i64) (n:Int)))=some x->Nx P C K x (a.put o.dst (.int .i64 (n:Int))) w:=λn hk=>aY h hk ⟨[_],rfl,rfl⟩ (λ_ _ _ _ e=>by cases e)
 split at hk
 ·split at hk
  ·rename_i s hv
   rw[hv] at hs
   obtain ⟨cs,h1,U⟩:=hs
   simp only[Ro] at U;subst U
   refine cR (v:=.int .i64 (s.length:Int)) (λw' _=>?_) (fin _ hk)
   have e:a.eval y=.string ⟨List.toArray s⟩:=h1
   have e2:(⟨List.toArray s⟩:ByteArray).size=s.length:=rfl
   rw[sx ho,e]
   unfold Builtin.len_
   simp only[List.getElem?_toArray,List.getElem?_cons_zero,Sem.run_bind,run_underlying (gi dx),Result.andThen_ok,Sem.run_pure,goInt,e2]
  ·cases hk
 ·rename_i e
  obtain ⟨el,hu,_,hle⟩:=mM dx
  have run:∀ xa n cap,a.eval y=.slice xa n cap->∀ w',mc o w w'->(execOp a.eval o).run P w'=.ok (.value (.int .i64 (n:Int))) w':=λxa n cap hy w' _=>by
   rw[sx ho]
   simp[Builtin.len_,hy,run_underlying hu,goInt]
  split at hk
  ·rename_i e' v hv
   rw[hv] at hs
   obtain ⟨cs,h1,xa,cap,U,_⟩:=hs
   subst U
   exact cR (run xa _ cap h1) (fin _ hk)
  ·rename_i hv
   rw[hv] at hs
   exact cR (run none 0 0 hs) (fin _ hk)
  ·rename_i r p snap hv
   rw[hv] at hs
   split at hk
   ·rename_i iA
    obtain ⟨hr,t',m',H',v',aS,bl,F',h1,U,h3,h4,h5,h6⟩:=fk h hk
    obtain ⟨pl,g1,g2,g3⟩:=hs.2 iA
    rw[h3] at g1
    injection g1 with g1
    subst g1
    simp only at g2
    split at h1
    ·cases h1
    ·rename_i hH
     have hH:hole H'=false:=Bool.eq_false_iff.2 hH
     split at h1
     ·rename_i e' Gv
      obtain ⟨xa,cap,q1,q2,q3⟩:=sw (t:=.unit) h4 hH
      subst q1
      exact cR (run xa _ cap g2) (fin _ h1)
     ·cases h1
   ·cases hk
  ·rename_i r p snap lo hi hv
   rw[hv] at hs
   split at hk
   ·rename_i iA
    obtain ⟨pl,e',xa,len,cap,n_,cap',g1,g2,g3,g4,g5,g6,g7,Gn,g8,g9,g10⟩:=hs.2 iA
    grind [cR]
   ·cases hk
  ·cases hk
 ·cases hk
theorem Jh {len cap:Nat} {lo hi:Option Operand} {K:Nat->Nat->Option R} (jF:len<=cap) (oc:∀ y,lo=some y->bj P A σ a w (a.eval y) (bz σ y) (λ_ _=>0)) (yt:∀ y,hi=some y->bj P A σ a w (a.eval y) (bz σ y) (λ_ _=>0))
  (hk:mL len (lo.map (bz σ)) (hi.map (bz σ)) K=some x):∃ l h,l<=h/\h<=len/\K l h=some x/\(∀ w',(Instr.sliceBounds true len cap (lo.map a.eval) (hi.map a.eval) none).run P w'=.ok (l,h,cap) w') /\
   (len=cap->∀ w',(Instr.sliceBounds false len cap (lo.map a.eval) (hi.map a.eval) none).run P w'=.ok (l,h,cap) w'):=by
 have eI:∀ (k:IntKind) (i:Int) (y:Nat) code,0<=i->i<=(y:Int)->∀ w',(Instr.sliceBound (.int k i) y code).run P w'=.ok i.toNat w':=λk i y code h0 h1 w'=>run_sliceBound w' k i y code h0 h1
 have two:∀ (Ji mH:Option Value) (l h:Nat),(Ji=none/\l=0\/∃ k n,Ji=some (.int k n)/\0<=n/\n<=(h:Int)/\l=n.toNat)->(mH=none/\h=len\/∃ k n,mH=some (.int k n)/\0<=n/\n<=(len:Int)/\h=n.toNat) ->
   (∀ w',(Instr.sliceBounds true len cap Ji mH none).run P w'=.ok (l,h,cap) w')/\(len=cap->∀ w',(Instr.sliceBounds false len cap Ji mH none).run P w'=.ok (l,h,cap) w'):=λJi mH l h h1 U=>by
  rcases U with ⟨rfl,rfl⟩ | ⟨k2,n2,rfl,b1,b2,rfl⟩
  ·rcases h1 with ⟨rfl,rfl⟩ | ⟨k1,n1,rfl,J,a2,rfl⟩
   ·simp_all [Instr.sliceBounds]
   ·exact ⟨by simp_all [Instr.sliceBounds],λ_=>by simp_all [Instr.sliceBounds]⟩
  ·have c1:=eI k2 n2 cap .sliceAcap b1 (by omega)
   have c2:=eI k2 n2 cap .sliceAlen b1 (by omega)
   rcases h1 with ⟨rfl,rfl⟩ | ⟨k1,n1,rfl,J,a2,rfl⟩
   all_goals simp_all [Instr.sliceBounds]
 unfold mL at hk
 cases lo with
 | none=>
  cases hi <;> grind [oN]
 | some yl=>
  cases hi <;> grind [oN]
theorem CJ (s:List UInt8) (l h:Nat) (hl:l<=h) (hh:h<=s.length):(⟨s.toArray⟩:ByteArray).extract l h=⟨((s.take h).drop l).toArray⟩:=by
 apply ByteArray.ext
 grind [ByteArray.data_extract]
theorem Hx (h:bE P C A σ a w F) (fq:∀ i T,E.TI i=some T->aC P T (.inl i)=true) {t:Nat} {y:Operand} {lo hi:Option Operand} (ho:o.op=.slice t y lo hi none)
  (ao:bv P y=true/\(∀ z,lo=some z->bv P z=true)/\(∀ z,hi=some z->bv P z=true)) {K:St->Option R}
  (hk:Di E σ t (bz σ y) (lo.map (bz σ)) (hi.map (bz σ)) o.dst K=some x):Tk P o a w (Nx P C K x):=by
 unfold Di at hk
 have zQ:=cG hk
 clear hk
 obtain ⟨T,hT,hk⟩:=zQ
 have dx:=fq _ _ hT
 have Mr:∀ z,bv P z=true->(∀ xs,bz σ z≠.kM xs)->bj P A σ a w (a.eval z) (bz σ z) (λ_ _=>0):=λz hz hn=>by
  grind [cc]
 have bound:∀ (len cap:Nat) (K':Nat->Nat->Option R),len<=cap->mL len (lo.map (bz σ)) (hi.map (bz σ)) K'=some x->∃ l h,l<=h/\h<=len/\K' l h=some x/\(∀ w',(Instr.sliceBounds true len cap (lo.map a.eval) (hi.map a.eval) none).run P w'=.ok (l,h,cap) w') /\
   (len=cap->∀ w',(Instr.sliceBounds false len cap (lo.map a.eval) (hi.map a.eval) none).run P w'=.ok (l,h,cap) w'):=λlen cap K' hc hb=>by
  refine Jh hc (λz hz=>Mr z (ao.2.1 z hz) λxs e=>?_) (λz hz=>Mr z (ao.2.2 z hz) λxs e=>?_) hb
  ·subst hz
   unfold mL at hb
   grind [oC]
  ·subst hz
   unfold mL at hb
   cases lo with
   | none=>grind [oC]
   | some yl=>
    simp only[Option.map_some,e] at hb
    unfold oC at hb
    grind
 have wT:∀ e xa len cap l h,T=.ae e->a.eval y=.slice xa len cap->l<=cap->(∀ ad,xa=some ad->0 < cap->ad.spot=none)->(∀ w',(Instr.sliceBounds true len cap (lo.map a.eval) (hi.map a.eval) none).run P w'=.ok (l,h,cap) w') ->
   ∀ w',mc o w w'->(execOp a.eval o).run P w'=.ok (.value (.slice (if cap=l then xa else xa.map λad=>⟨ad.block,ad.off+l*e.sz,none⟩) (h - l) (cap - l))) w':=λe xa len cap l h kO hy RL i_ hb w' _=>by
  have hb:=hb w'
  subst kO
  obtain ⟨el,hu,_,hle⟩:=mM dx
  have gn:=run_sizeOf (P:=P) (w:=w') hle
  unfold execOp
  simp only[ho,Option.map_none,Instr.sliceAt,Instr.slice,Sem.run_bind,run_underlying hu,Result.andThen_ok,hy,hb,gn,Sem.run_pure]
  by_cases qI:cap=l
  ·simp[qI]
  ·congr 4
   cases xa with
   | none=>rfl
   | some ad=>
    obtain ⟨b,off,sp⟩:=ad
    grind [jE]
 have addr:∀ (xa:Option Addr) (cap l h n:Nat) (e:Ty),l<=h->h<=n->n<=cap->(∀ ad,xa=some ad->0 < cap->ad.spot=none) ->
   (xa=none->(if cap=l then xa else xa.map λad=>⟨ad.block,ad.off+l*e.sz,none⟩)=none) /\
   (∀ ad,xa=some ad->∃ bl,(if cap=l then xa else xa.map λad=>⟨ad.block,ad.off+l*e.sz,none⟩)=some bl/\bl.spot=ad.spot/\bl.block=ad.block/\(l < h->bl.off=ad.off+l*e.sz)) /\
   (l=0->(if cap=l then xa else xa.map λad=>(⟨ad.block,ad.off+l*e.sz,none⟩:Addr))=xa):=λxa cap l h n e h1 U h3 i_=>by
  refine ⟨λe=>by grind,λad e=>?_,λe0=>?_⟩
  ·grind
  ·subst e0
   split
   ·rfl
   ·cases xa with
    | none=>rfl
    | some ad=>
     obtain ⟨b,off,sp⟩:=ad
     grind
 have Ms:∀ {e:Ty} {v:List e.den} {m:Md} {H:List Path} {xa n cap} {G:FP},ah P w A (.ae e) m H v [.slice xa n cap] G->hole H=false->∀ ad,xa=some ad->0 < cap->ad.spot=none:=λ{e v m H xa n cap G} dw hH ad Jb Bo=>by
  simp only[ah,hH,Bool.false_eq_true,if_false] at dw
  split at dw
  ·grind
  ·obtain ⟨_,_,OP,Bn,q1,q2,q3,q4⟩:=dw
   grind
 rcases cc h ao.1 with hs | ⟨xs,e⟩
 rotate_left
 ·grind
 split at hk
 ·rename_i s hv
  rw[hv] at hs
  split at hk
  ·rename_i kO
   have Mt:=dx
   rw[kO] at Mt
   obtain ⟨l,h',b1,b2,hk,b3,b4⟩:=bound s.length s.length _ (Nat.le_refl _) hk
   obtain ⟨cs,h1,U⟩:=hs
   simp only[Ro] at U;subst U
   have e1:a.eval y=.string ⟨List.toArray s⟩:=h1
   have e2:(⟨List.toArray s⟩:ByteArray).size=s.length:=rfl
   refine cR (v:=.string ⟨((s.take h').drop l).toArray⟩) (λw' _=>?_) (aY h hk ⟨[_],rfl,rfl⟩ (λ_ _ _ _ e=>by cases e))
   unfold execOp
   simp only[ho,Option.map_none,Instr.sliceAt,Instr.slice,Sem.run_bind,run_underlying (gi Mt),Result.andThen_ok,e1,Option.isSome_none,Bool.false_eq_true,if_false,e2,b4 rfl w',Sem.run_pure,CJ s l h' b1 b2]
  ·cases hk
 ·rename_i e v hv
  rw[hv] at hs
  split at hk
  ·rename_i kO
   obtain ⟨cs,h1,U⟩:=hs
   obtain ⟨xa,cap,q1,q2,q3,q4⟩:=id U
   subst q1
   rw[bL _ _ rfl] at h1
   obtain ⟨l,h',b1,b2,hk,b3,_⟩:=bound (List.length v) cap _ q2 hk
   obtain ⟨r1,r2,r3⟩:=addr xa cap l h' _ e b1 b2 q2 (λad e=>(q4 ad e).1)
   exact cR (wT e xa _ cap l h' kO h1 (by omega) (λad e=>(q4 ad e).1) b3) (aY h hk ⟨_,(bL (.ae e) _ rfl).symm,Ro.piece U b1 b2 (by omega) r1 r2⟩ (λ_ _ _ _ e=>by cases e))
  ·cases hk
 ·rename_i r p snap hv
  rw[hv] at hs
  split at hk
  ·rename_i iA
   obtain ⟨hr,t',m',H',v',aS,bl,F',h1,U,h3,h4,h5,h6⟩:=fk h hk
   obtain ⟨pl,g1,g2,g3⟩:=hs.2 iA
   rw[h3] at g1
   injection g1 with g1
   subst g1
   simp only at g2 g3
   split at h1
   ·cases h1
   ·rename_i hH
    have hH:hole H'=false:=Bool.eq_false_iff.2 hH
    split at h1
    ·rename_i kO
     split at h1
     ·rename_i e Gv
      obtain ⟨xa,cap,q1,q2,q3⟩:=sw (t:=.unit) h4 hH
      subst q1
      rw[bL _ _ rfl] at g2
      have i_:=Ms h4 hH
      split at h1
      ·obtain ⟨l,h',b1,b2,h1,b3,_⟩:=bound (List.length Gv) cap _ q2 h1
       obtain ⟨r1,r2,r3⟩:=addr xa cap l h' _ e b1 b2 q2 i_
       refine cR (wT e xa _ cap l h' kO.symm g2 (by omega) i_ b3) (aY h h1 ⟨hs.1,λ_=>⟨_,e,xa,_,cap,_,cap - l,h3,rfl,rfl,b1,b2,rfl,by omega,r3,r1,r2,?_⟩⟩ (λ_ _ _ _ e=>by cases e))
       grind
      ·rename_i dj
       obtain ⟨l,h',b1,b2,h1,b3,_⟩:=bound (List.length Gv) cap _ q2 h1
       obtain ⟨r1,r2,r3⟩:=addr xa cap l h' _ e b1 b2 q2 i_
       simp only[ah,hH,Bool.false_eq_true,if_false,dj] at h4
       exact cR (wT e xa _ cap l h' kO.symm g2 (by omega) i_ b3) (aY h h1 ⟨_,(bL (.ae e) _ rfl).symm,Ro.piece h4.2.2 b1 b2 (by omega) r1 r2⟩ (λ_ _ _ _ e=>by cases e))
     ·cases h1
    ·cases h1
  ·cases hk
 ·rename_i r p snap l0 h0 hv
  rw[hv] at hs
  split at hk
  ·rename_i iA
   obtain ⟨hr,t',m',H',v',aS,bl,F',h1,U,h3,h4,h5,h6⟩:=fk h hk
   obtain ⟨pl,e,xa,n,cap,n_,cap',g1,g2,g3,g4,g5,g6,g7,Gn,g8,g9,g10⟩:=hs.2 iA
   have WP:=g1
   rw[h3] at g1
   injection g1 with g1
   subst g1
   simp only at g2 g3
   subst g2;subst g3
   split at h1
   ·cases h1
   ·rename_i hH
    have hH:hole H'=false:=Bool.eq_false_iff.2 hH
    split at h1
    ·rename_i kO
     obtain ⟨OP,Bn,q1,q2,q3⟩:=sw (t:=.unit) h4 hH
     simp only[List.cons.injEq,Value.slice.injEq,and_true] at q1
     obtain ⟨rfl,rfl,rfl⟩:=q1
     have i_:=Ms h4 hH
     have OQ:∀ ad,n_=some ad->0 < cap'->ad.spot=none:=λad e' Bo=>by
      cases Jb:xa <;> grind
     obtain ⟨l,h',b1,b2,h1,b3,_⟩:=bound (h0 - l0) cap' _ (by omega) h1
     obtain ⟨r1,r2,r3⟩:=addr n_ cap' l h' _ e b1 b2 (by omega) OQ
     refine cR (wT e n_ _ cap' l h' kO.symm g6 (by omega) OQ b3) (aY h h1 ⟨hs.1,λ_=>⟨⟨.ae e,H',[.slice xa (List.length v') cap],bl⟩,e,xa,List.length v',cap,(if cap'=l then n_ else n_.map λad=>⟨ad.block,ad.off+l*e.sz,none⟩),cap' - l,h3,rfl,rfl,by omega,by omega,?_,by omega,λe0=>?_,λe'=>?_,λad e'=>?_,g10⟩⟩ (λ_ _ _ _ e=>by cases e))
     ·grind
     ·grind
     ·grind
     grind
    ·cases h1
  ·cases hk
 ·cases hk
end
end OT
set_option linter.unusedVariables false
set_option linter.unusedSimpArgs false
namespace OT
open Go
theorem kS (k:IntKind) (n:Int):iw k (wg k n)=k.wrap n:=by
 cases k <;> first | rfl | skip
 show ((UInt8.ofNat (n % 2 ^ 8).toNat).toNat:Int)=_
 grind [UInt8.toNat_ofNat',IntKind.wrap,IntKind.bits,IntKind.signed]
theorem Bp (k:IntKind) (n:Int) (h:k=.u8->0<=n/\n < 256):iw k (Mb k n)=n:=by
 cases k <;> first | rfl | skip
 obtain ⟨h1,U⟩:=h rfl
 show ((UInt8.ofNat (n % 2 ^ 8).toNat).toNat:Int)=_
 rw[UInt8.toNat_ofNat']
 omega
theorem Jj (v:uw .u8):0<=iw .u8 v/\iw .u8 v < 256:=by
 have:UInt8.toNat v < 256:=UInt8.toNat_lt v
 show 0<=((UInt8.toNat v:Nat):Int)/\((UInt8.toNat v:Nat):Int) < 256
 omega
section
variable {P:Program} {C:Ctx} {A:Cells} {X:FP} {σ:St} {a:Act} {w:World} {F:Nat->FP} {R:Type} {x:R} {Q:Exit->Act->World->Prop} {o:Oper} {E:Env}
theorem NG {op:BinOp} {k k':IntKind} {na nb:Int} {K:(t:Ty)->t.den->Option R} (hk:Dk op k na nb K=some x) (Gl:k=k'\/op=.shl\/op=.shr) (hu:k=.u8->0<=na/\na < 256) (OR:k'=.u8->0<=nb/\nb < 256) (T:TypeId) :
  ∃ t v tv,K t v=some x/\Ro P w A t v [tv]/\isAgg t=false/\∀ w:World,(binOp op T (.int k na) (.int k' nb)).run P w=.ok tv w:=by
 have same:op≠.shl->op≠.shr->k=k':=λh1 U=>by grind
 unfold Dk at hk
 split at hk
 ·have:=same (by simp) (by simp);subst this
  exact ⟨_,_,.int k (k.wrap (na+nb)),hk,by simp only[Ro,kS],rfl,λw=>by simp[Go.binOp,Op.intArith]⟩
 ·have:=same (by simp) (by simp);subst this
  exact ⟨_,_,.int k (k.wrap (na - nb)),hk,by simp only[Ro,kS],rfl,λw=>by simp[Go.binOp,Op.intArith]⟩
 ·have:=same (by simp) (by simp);subst this
  exact ⟨_,_,.int k (k.wrap (na*nb)),hk,by simp only[Ro,kS],rfl,λw=>by simp[Go.binOp,Op.intArith]⟩
 ·have:=same (by simp) (by simp);subst this
  split at hk
  ·cases hk
  ·rename_i OS
   exact ⟨_,_,.int k (k.wrap (na.tdiv nb)),hk,by simp only[Ro,kS],rfl,λw=>by simp[Go.binOp,Op.intDiv,OS]⟩
 ·have:=same (by simp) (by simp);subst this
  split at hk
  ·cases hk
  ·rename_i OS
   refine ⟨_,_,.int k (na.tmod nb),hk,?_,rfl,λw=>by simp[Go.binOp,Op.intDiv,OS]⟩
   simp only[Ro]
   rw[Bp k _ (λe=>?_)]
   have h1:=hu e;have U:=OR e
   have:=Int.tmod_nonneg nb h1.1
   have h3:na.tmod nb < nb:=Int.tmod_lt_of_pos na (by omega)
   omega
 ·have:=same (by simp) (by simp);subst this
  exact ⟨_,_,.int k (k.wrap ((BitVec.ofInt k.bits na &&& BitVec.ofInt k.bits nb).toNat:Int)),hk,by simp only[Ro,kS],rfl,λw=>by grind [Go.binOp,Op.intBits,Sem.run_pure]⟩
 ·have:=same (by simp) (by simp);subst this
  exact ⟨_,_,.int k (k.wrap ((BitVec.ofInt k.bits na ||| BitVec.ofInt k.bits nb).toNat:Int)),hk,by simp only[Ro,kS],rfl,λw=>by grind [Go.binOp,Op.intBits,Sem.run_pure]⟩
 ·have:=same (by simp) (by simp);subst this
  exact ⟨_,_,.int k (k.wrap ((BitVec.ofInt k.bits na ^^^ BitVec.ofInt k.bits nb).toNat:Int)),hk,by simp only[Ro,kS],rfl,λw=>by grind [Go.binOp,Op.intBits,Sem.run_pure]⟩
 ·split at hk
  ·cases hk
  ·rename_i hn
   exact ⟨_,_,.int k (k.wrap (na*2 ^ (min nb.toNat k.bits))),hk,by simp only[Ro,kS],rfl,λw=>by simp[Go.binOp,Op.shift,hn]⟩
 ·split at hk
  ·cases hk
  ·rename_i hn
   refine ⟨_,_,.int k (na.fdiv (2 ^ (min nb.toNat k.bits))),hk,?_,rfl,λw=>by simp[Go.binOp,Op.shift,hn]⟩
   simp only[Ro]
   rw[Bp k _ (λe=>?_)]
   have h1:=hu e
   have hp:(0:Int) < 2 ^ (min nb.toNat k.bits):=Int.pow_pos (by omega)
   rw[Int.fdiv_eq_ediv_of_nonneg _ (by omega)]
   have U:=Int.ediv_nonneg h1.1 (Int.le_of_lt hp)
   have h3:=Int.ediv_le_self (2 ^ (min nb.toNat k.bits)) h1.1
   omega
 ·have:=same (by simp) (by simp);subst this
  exact ⟨.bool,decide (na=nb),_,hk,rfl,rfl,λw=>by simp[Go.binOp,Op.intCmp];rfl⟩
 ·have:=same (by simp) (by simp);subst this
  exact ⟨.bool,!decide (na=nb),_,hk,rfl,rfl,λw=>by simp[Go.binOp,Op.intCmp,bne];rfl⟩
 ·have:=same (by simp) (by simp);subst this
  exact ⟨.bool,decide (na < nb),_,hk,rfl,rfl,λw=>by simp[Go.binOp,Op.intCmp]⟩
 ·have:=same (by simp) (by simp);subst this
  exact ⟨.bool,decide (na<=nb),_,hk,rfl,rfl,λw=>by simp[Go.binOp,Op.intCmp]⟩
 ·have:=same (by simp) (by simp);subst this
  exact ⟨.bool,decide (nb < na),_,hk,rfl,rfl,λw=>by simp[Go.binOp,Op.intCmp]⟩
 ·have:=same (by simp) (by simp);subst this
  exact ⟨.bool,decide (nb<=na),_,hk,rfl,rfl,λw=>by simp[Go.binOp,Op.intCmp]⟩
 ·cases hk
theorem NH {op:BinOp} {s t:List UInt8} {K:(t:Ty)->t.den->Option R} (hk:KM op s t K=some x) (T:TypeId) :
  ∃ ty v tv,K ty v=some x/\Ro P w A ty v [tv]/\isAgg ty=false/\∀ w:World,(binOp op T (.string ⟨s.toArray⟩) (.string ⟨t.toArray⟩)).run P w=.ok tv w:=by
 have h0:∀ w:World,(binOp op T (.string ⟨s.toArray⟩) (.string ⟨t.toArray⟩)).run P w=(Op.stringOp op ⟨s.toArray⟩ ⟨t.toArray⟩).run P w:=λw=>by cases op <;> rfl
 simp only[h0]
 unfold KM at hk
 split at hk
 ·split at hk
  ·rename_i hc
   refine ⟨.str,s++t,.string ⟨(s++t).toArray⟩,hk,rfl,rfl,λw=>?_⟩
   grind [run_string_add_sum,ByteArray.size,cJ,ByteArray.mk_append_mk]
  ·cases hk
 ·exact ⟨.bool,decide (s=t),_,hk,rfl,rfl,λw=>by simp[Op.stringOp];grind⟩
 ·exact ⟨.bool,!decide (s=t),_,hk,rfl,rfl,λw=>by simp[Op.stringOp];grind⟩
 ·cases hk
theorem rT {tv:Value} {s:List UInt8} {G:FP} (h:bj P A σ a w tv (.val .str s) G):tv=.string ⟨s.toArray⟩:=by
 obtain ⟨cs,h1,U⟩:=h
 simp only[Ro] at U
 subst U
 exact h1
theorem rU {tv:Value} {k:IntKind} {n:uw k} {G:FP} (h:bj P A σ a w tv (.val (.int k) n) G):tv=.int k (iw k n):=by
 obtain ⟨cs,h1,U⟩:=h
 simp only[Ro] at U
 subst U
 exact h1
theorem DH {tv:Value} {b:Bool} {G:FP} (h:bj P A σ a w tv (.val .bool b) G):tv=.bool b:=by
 obtain ⟨cs,h1,U⟩:=h
 simp only[Ro] at U
 subst U
 exact h1
theorem Jk (h:bE P C A σ a w F) {op:UnOp} {t:Nat} {y:Operand} (ho:o.op=.unOp op t y) (ao:bv P y=true) {K:St->Option R}
  (hk:(match op,bz σ y with
  | .not,.val .bool b=>K (σ.aQ o.dst (.val .bool (!b)))
  | .neg,.val (.int k) n=>K (σ.aQ o.dst (.val (.int k) (wg k (0 - iw k n))))
  | _,_=>none)=some x):Tk P o a w (Nx P C K x):=by
 rcases cc h ao with hs | ⟨xs,e⟩
 rotate_left
 ·grind
 split at hk
 ·rename_i b ho hv
  rw[hv] at hs
  have e:=DH hs
  exact cR (v:=.bool (!b)) (by simp[execOp,ho,e,Op.unary]) (aY h hk ⟨[_],rfl,rfl⟩ (λ_ _ _ _ e=>by cases e))
 ·rename_i k n ho hv
  rw[hv] at hs
  have e:=rU hs
  exact cR (v:=.int k (k.wrap (0 - iw k n))) (by simp[execOp,ho,e,Op.unary,Op.intArith]) (aY h hk ⟨[_],rfl,by simp only[Ro,kS]⟩ (λ_ _ _ _ e=>by cases e))
 ·cases hk
end
end OT
set_option linter.unusedVariables false
set_option linter.unusedSimpArgs false
namespace OT
open Go
section
variable {P:Program} {w:World} {A:Cells}
theorem Mu:∀ (t:Ty),(∀ (i:TypeId) (d:Nat) (v1 v2:t.den) (jz bA:List Value),aC P t (.inl i)=true->kN P t (.inl i)=true->dep t<=d->Ro P w A t v1 jz->Ro P w A t v2 bA->(Op.equalIn d i (bq t jz) (bq t bA)).run P w=.ok (t.eq v1 v2) w) /\
  (∀ (fs:List Field) (off d:Nat) (v1 v2:t.den) (xs ys:Array Value),aC P t (.inr (fs,off))=true->kN P t (.inr fs)=true->dep t<=d+1->Ro P w A t v1 (xs.toList.drop off)->Ro P w A t v2 (ys.toList.drop off)->(Op.eqFields d xs ys fs).run P w=.ok (t.eq v1 v2) w):=by
 intro t
 induction t with
 | int k=>
  refine ⟨λi d v1 v2 jz bA hl he hd h1 U=>?_,λfs off d v1 v2 xs ys hl=>by simp[aC] at hl⟩
  simp only[Ro] at h1 U
  subst h1;subst U
  cases d with
  | zero=>simp[dep] at hd
  | succ d=>
   rw[bL _ _ rfl,bL _ _ rfl,run_equalIn_int w d i k k _ _ (jy hl)]
   congr 1
   cases k with
   | u8=>exact Bool.eq_iff_iff.2 (by simp only[iw,Ty.eq,beq_iff_eq];constructor;(intro h;exact UInt8.toNat_inj.1 (by omega));grind)
   | _=>grind [iw,Ty.eq]
 | bool=>
  refine ⟨λi d v1 v2 jz bA hl he hd h1 U=>?_,λfs off d v1 v2 xs ys hl=>by simp[aC] at hl⟩
  simp only[Ro] at h1 U
  subst h1;subst U
  have hu:P.underlying i=some .bool:=by
   grind [aC]
  cases d with
  | zero=>simp[dep] at hd
  | succ d=>rw[bL _ _ rfl,bL _ _ rfl,run_equalIn_bool' w d i _ _ hu];rfl
 | str=>
  refine ⟨λi d v1 v2 jz bA hl he hd h1 U=>?_,λfs off d v1 v2 xs ys hl=>by simp[aC] at hl⟩
  simp only[Ro] at h1 U
  subst h1;subst U
  cases d with
  | zero=>simp[dep] at hd
  | succ d=>
   rw[bL _ _ rfl,bL _ _ rfl,run_equalIn_string w d i _ _ (gi hl),ByteArray.toList_mk,ByteArray.toList_mk]
   grind [Ty.eq]
 | unit=>
  refine ⟨λi d v1 v2 jz bA hl he hd h1 U=>?_,λfs off d v1 v2 xs ys hl he hd h1 U=>?_⟩
  ·simp only[Ro] at h1 U
   subst h1;subst U
   simp only[aC,Bool.and_eq_true] at hl
   have h3:=hl.2
   split at h3
   ·rename_i fs hu
    have hf:P.fieldsOf i=fs:=by simp[Program.fieldsOf,hu]
    cases d with
    | zero=>simp[dep] at hd
    | succ d=>
     have Bq:fs.toList=[]:=List.isEmpty_iff.1 h3
     simp only[kN,Bool.not_eq_true'] at he
     show (Op.equalIn (d+1) i (.agg #[]) (.agg #[])).run P w=_
     rw[run_equalIn_struct w d i _ _ (by grind) he,hf,Bq]
     rfl
   ·cases h3
  ·simp only[aC,List.isEmpty_iff] at hl
   subst hl
   rfl
 | pair a b fQ fI=>
  have second:∀ (fs:List Field) (off d:Nat) (v1 v2:(Ty.pair a b).den) (xs ys:Array Value),aC P (.pair a b) (.inr (fs,off))=true->kN P (.pair a b) (.inr fs)=true->dep (.pair a b)<=d+1->Ro P w A (.pair a b) v1 (xs.toList.drop off)->Ro P w A (.pair a b) v2 (ys.toList.drop off)->(Op.eqFields d xs ys fs).run P w=.ok ((Ty.pair a b).eq v1 v2) w:=by
   intro fs off d v1 v2 xs ys hl he hd h1 U
   cases fs with
   | nil=>simp[aC] at hl
   | cons f r=>
    simp only[aC,Bool.and_eq_true,Nat.beq_eq,Nat.ble_eq] at hl
    simp only[kN,Bool.and_eq_true,bne_iff_ne,ne_eq] at he
    simp only[dep] at hd
    obtain ⟨Jl,Jm⟩:=h1
    obtain ⟨RM,RN⟩:=U
    have p1:=nm (P:=P) (w:=w) hl.1.2 (cs:=xs) (off:=off) (Ro.length _ Jl)
    have p2:=nm (P:=P) (w:=w) hl.1.2 (cs:=ys) (off:=off) (Ro.length _ RM)
    have e1:=fQ.1 f.type d v1.1 v2.1 _ _ hl.1.2 he.1.2 (by omega) Jl RM
    rw[List.drop_drop] at Jm RN
    have e2:=fI.2 r (off+a.sz) d v1.2 v2.2 xs ys hl.2 he.2 (by omega) Jm RN
    simp only[Op.eqFields,ne_eq,he.1.1,not_false_eq_true,if_true,Sem.run_bind,hl.1.1.1,p1,p2,e1,Result.andThen_ok]
    cases hq:a.eq v1.1 v2.1 <;> simp_all [Ty.eq]
  refine ⟨λi d v1 v2 jz bA hl he hd h1 U=>?_,second⟩
  simp only[aC,Bool.and_eq_true] at hl
  simp only[kN,Bool.and_eq_true,Bool.not_eq_true'] at he
  have h3:=hl.2
  have h4:=he.2
  split at h3
  ·rename_i fs hu
   rw[hu] at h4
   simp only at h4
   have hf:P.fieldsOf i=fs:=by simp[Program.fieldsOf,hu]
   split at h3
   ·rename_i f r zN
    rw[zN] at h4
    simp only at h4
    cases d with
    | zero=>grind [dep]
    | succ d=>
     show (Op.equalIn (d+1) i (.agg jz.toArray) (.agg bA.toArray)).run P w=_
     rw[run_equalIn_struct w d i _ _ (by grind) he.1,hf,zN]
     refine second (f::r) 0 d v1 v2 _ _ ?_ ?_ hd (by simpa using h1) (by simpa using U)
     all_goals grind [aC,kN]
   ·cases h3
  ·cases h3
 | arr n e ih=>
  refine ⟨λi d v1 v2 jz bA hl he hd h1 U=>?_,λfs off d v1 v2 xs ys hl=>by simp[aC] at hl⟩
  simp only[aC,Bool.and_eq_true] at hl
  have h3:=hl.2
  simp only[kN] at he
  split at h3
  ·rename_i n' el hu
   simp only[Bool.and_eq_true,Nat.beq_eq,Nat.ble_eq] at h3
   obtain ⟨⟨rfl,_⟩,hle⟩:=h3
   rw[hu] at he
   simp only at he
   obtain ⟨inf,i1,i2,_⟩:=eW (gq hle)
   have gn:P.cellsOf el=e.sz:=by grind [Program.cellsOf]
   obtain ⟨_,l1,_,r1⟩:=h1
   obtain ⟨_,l2,_,r2⟩:=U
   cases d with
   | zero=>simp[dep] at hd
   | succ d=>
    simp only[dep] at hd
    have key:∀ (m j:Nat),j+m=n->(Op.eqItems d el e.sz jz.toArray bA.toArray (List.range' j m)).run P w=.ok (((List.drop j v1).zip (List.drop j v2)).all λp=>e.eq p.1 p.2) w:=by
     intro m
     induction m with
     | zero=>
      intro j hj
      rw[List.drop_of_length_le (by omega)]
      rfl
     | succ m OU=>
      intro j hj
      have g1:=List.getElem?_eq_getElem (l:=v1) (i:=j) (by omega)
      have g2:=List.getElem?_eq_getElem (l:=v2) (i:=j) (by omega)
      have J:=r1 j _ g1
      have a2:=r2 j _ g2
      have p1:=nm (P:=P) (w:=w) hle (cs:=jz.toArray) (off:=j*e.sz) (Ro.length _ J)
      have p2:=nm (P:=P) (w:=w) hle (cs:=bA.toArray) (off:=j*e.sz) (Ro.length _ a2)
      have e1:=ih.1 el d _ _ _ _ hle he (by omega) J a2
      rw[List.range'_succ,List.drop_eq_getElem_cons (l:=v1) (i:=j) (by omega),List.drop_eq_getElem_cons (l:=v2) (i:=j) (by omega)]
      simp only[Op.eqItems,Sem.run_bind,p1,p2,e1,Result.andThen_ok,List.zip_cons_cons,List.all_cons]
      cases hq:e.eq v1[j] v2[j] with
      | true=>grind
      | false=>simp
    show (Op.equalIn (d+1) i (.agg jz.toArray) (.agg bA.toArray)).run P w=_
    rw[run_equalIn_array w d _ _ hu i1,gn,List.range_eq_range']
    exact key n 0 (by omega)
  ·cases h3
 | _=>grind [kN]
end
section
variable {P:Program} {C:Ctx} {A:Cells} {X:FP} {σ:St} {a:Act} {w:World} {F:Nat->FP} {R:Type} {x:R} {Q:Exit->Act->World->Prop} {o:Oper} {E:Env}
def Mv (P:Program) (E:Env):Prop:=∀ i T,E.TI i=some T->T.gW=true->isAgg T=true->kN P T (.inl i)=true/\P.eqGuardType P.depth i=false/\dep T<=10000
theorem vm {op:BinOp} {t:TypeId} {y z:Operand} {u v:Value} (h:¬ (∃ p q,u=.agg p/\v=.agg q)) (U:u≠.nilIface):(eqGuard op t y z u v).run P w=.ok () w:=by
 simp_all [eqGuard]
theorem Ro.gW {w':World} {A':Cells}:∀ (t:Ty) {v:t.den} {cs:List Value},t.gW=true->Ro P w A t v cs->Ro P w' A' t v cs:=by
 intro t
 induction t with
 | pair a b fQ fI=>
  intro v cs hq h
  simp only[Ty.gW,Bool.and_eq_true] at hq
  exact ⟨fQ hq.1 h.1,fI hq.2 h.2⟩
 | arr n e ih=>intro v cs hq h;exact ⟨h.1,h.2.1,h.2.2.1,λi x hx=>ih hq (h.2.2.2 i x hx)⟩
 | ae e ih=>grind [Ty.gW]
 | ptr e ih=>grind [Ty.gW]
 | fn=>grind [Ty.gW]
 | map k v=>grind [Ty.gW]
 | _=>intro v cs hq h;exact h
theorem Hy (h:bE P C A σ a w F) (fq:∀ i T,E.TI i=some T->aC P T (.inl i)=true) (heq:Mv P E) {op:BinOp} {t t2:Nat} {y z:Operand} (ho:o.op=.binOp op t y z t2) (ao:bv P y=true/\bv P z=true) {K:St->Option R}
  (hk:Dl E t op (bz σ y) (bz σ z) (λt v=>K (σ.aQ o.dst (.val t v)))=some x):Tk P o a w (Nx P C K x):=by
 rcases cc h ao.1 with hy | ⟨xs,e⟩
 rotate_left
 ·grind [Dl]
 rcases cc h ao.2 with hz | ⟨xs,e⟩
 rotate_left
 ·grind [Dl]
 have fin:∀ (ty:Ty) (v:ty.den) (tv:Value),K (σ.aQ o.dst (.val ty v))=some x->Ro P w A ty v [tv]->isAgg ty=false->(∀ w',mc o w w'->(eqGuard op t y z (a.eval y) (a.eval z)).run P w'=.ok () w')->(∀ w',mc o w w'->(binOp op t (a.eval y) (a.eval z)).run P w'=.ok tv w')->Tk P o a w (Nx P C K x):=λty v tv hk hr ha hg hb=>by
  refine cR (v:=tv) (λw' lF=>?_) (aY h hk ⟨[tv],(bL ty tv ha).symm,hr⟩ (λ_ _ _ _ e=>by cases e))
  grind [execOp,Sem.run_bind,Result.andThen_ok,Sem.run_pure]
 unfold Dl at hk
 split at hk
 ·rename_i k n1 k' n2 zR DI
  rw[zR] at hy
  rw[DI] at hz
  have e1:=rU hy
  have e2:=rU hz
  have hg:∀ w',mc o w w'->(eqGuard op t y z (a.eval y) (a.eval z)).run P w'=.ok () w':=λw' _=>by grind [vm]
  have Gl:(k=k'\/op=.shl\/op=.shr)/\Dk op k (iw k n1) (iw k' n2) (λt v=>K (σ.aQ o.dst (.val t v)))=some x:=by
   grind
  obtain ⟨ty,v,tv,q1,q2,q3,q4⟩:=NG (P:=P) (A:=A) (w:=w) Gl.2 Gl.1 (λe=>by subst e;exact Jj n1) (λe=>by subst e;exact Jj n2) t
  grind
 ·rename_i s1 s2 zR DI
  rw[zR] at hy
  rw[DI] at hz
  have e1:=rT hy
  have e2:=rT hz
  have hg:∀ w',mc o w w'->(eqGuard op t y z (a.eval y) (a.eval z)).run P w'=.ok () w':=λw' _=>by grind [vm]
  obtain ⟨ty,v,tv,q1,q2,q3,q4⟩:=NH (P:=P) (A:=A) (w:=w) hk t
  grind
 ·rename_i ty v1 Ua v2 WQ Ub zR DI
  rw[zR] at hy
  rw[DI] at hz
  have main:∀ (e:ty=Ua) (hq:ty.gW=true) (hT:E.TI t=some ty) (w':World),mc o w w'->(eqGuard op t y z (a.eval y) (a.eval z)).run P w'=.ok () w'/\(∀ b,b=ty.eq v1 (e ▸ v2)->(op=.eql->(binOp op t (a.eval y) (a.eval z)).run P w'=.ok (.bool b) w')/\(op=.neq->(binOp op t (a.eval y) (a.eval z)).run P w'=.ok (.bool (!b)) w')):=λe hq hT w' lF=>by
   subst e
   obtain ⟨jz,e1,r1⟩:=hy
   obtain ⟨bA,e2,r2⟩:=hz
   have r1:=Ro.gW (w':=w') (A':=A) _ hq r1
   have r2:=Ro.gW (w':=w') (A':=A) _ hq r2
   have dx:=fq _ _ hT
   cases Uc:isAgg ty with
   | true=>
    obtain ⟨q1,q2,q3⟩:=heq _ _ hT hq Uc
    have Wr:=(Mu (P:=P) (w:=w') (A:=A) ty).1 t 10000 v1 v2 jz bA dx q1 q3 r1 r2
    simp_all [bq,run_eqGuard_agg,run_eql_struct,run_neq_struct]
   | false=>
    cases ty with
    | int k=>grind
    | str=>grind
    | bool=>
     simp only[Ro] at r1 r2
     subst r1;subst r2
     rw[bL _ _ rfl] at e1 e2
     have hu:P.underlying t=some .bool:=by
      grind [aC]
     rw[e1,e2]
     refine ⟨vm (by grind) (by grind),λb hb=>⟨λh=>?_,λh=>?_⟩⟩
     ·subst h;subst hb
      have:=run_equalIn_bool' (P:=P) w' 9999 t v1 v2 hu
      simp only[Go.binOp,Op.equal,Op.maxDepth,Sem.run_bind,this,Result.andThen_ok,Sem.run_pure];rfl
     ·subst h;subst hb
      have:=run_equalIn_bool' (P:=P) w' 9999 t v1 v2 hu
      simp only[Go.binOp,Op.equal,Op.maxDepth,Sem.run_bind,this,Result.andThen_ok,Sem.run_pure];rfl
    | _=>grind [Ty.gW,isAgg]
  split at hk
  ·split at hk
   ·rename_i hq
    obtain ⟨T,hT,hk⟩:=cG hk
    split at hk
    ·rename_i e;subst e
     obtain ⟨e,hk⟩:=bh hk
     have m:=main e.symm hq hT
     subst e
     exact fin .bool _ _ hk rfl rfl (λw' lF=>(m w' lF).1) (λw' lF=>((m w' lF).2 _ rfl).1 rfl)
    ·cases hk
   ·cases hk
  ·split at hk
   ·rename_i hq
    obtain ⟨T,hT,hk⟩:=cG hk
    split at hk
    ·rename_i e;subst e
     obtain ⟨e,hk⟩:=bh hk
     have m:=main e.symm hq hT
     subst e
     exact fin .bool _ _ hk rfl rfl (λw' lF=>(m w' lF).1) (λw' lF=>((m w' lF).2 _ rfl).2 rfl)
    ·cases hk
   ·cases hk
  ·cases hk
 ·rename_i e v zR DI
  rw[zR] at hy
  rw[DI] at hz
  obtain ⟨T,hT,hk⟩:=cG hk
  split at hk
  ·rename_i eT
   subst eT
   obtain ⟨te,hu⟩:∃ te,P.underlying t=some (.slice te):=by
    grind [aC]
   obtain ⟨cs,h1,a0,cap,U,h3,h4,h5⟩:=hy
   subst U
   rw[bL _ _ rfl] at h1
   have Mw:a.eval z=.slice none 0 0:=hz
   have hg:∀ w',mc o w w'->(eqGuard op t y z (a.eval y) (a.eval z)).run P w'=.ok () w':=λw' _=>by grind [vm]
   have key:∀ (b:Bool),G8 v (K (σ.aQ o.dst (.val .bool b))) (K (σ.aQ o.dst (.val .bool !b)))=some x->K (σ.aQ o.dst (.val .bool (if a0.isNone then b else !b)))=some x:=λb hb=>by
    cases v with
    | nil=>
     grind [G8,both]
    | cons y v=>
     have:a0.isNone=false:=by
      cases a0 <;> grind
     rw[this]
     exact hb
   unfold Oh at hk
   split at hk
   ·refine fin .bool _ (.bool a0.isNone) (key true hk) ?_ rfl hg λw' _=>?_
    ·cases a0 <;> rfl
    grind [run_equal_slice_nil,Go.binOp,Sem.run_bind,Result.andThen_ok,Sem.run_pure]
   ·refine fin .bool _ (.bool !a0.isNone) (key false hk) ?_ rfl hg λw' _=>?_
    ·cases a0 <;> rfl
    grind [run_neq_slice_nil]
   ·cases hk
  ·cases hk
 ·cases hk
end
end OT
set_option linter.unusedVariables false
set_option linter.unusedSimpArgs false
namespace OT
open Go
section
variable {P:Program} {C:Ctx} {A:Cells} {X:FP} {σ:St} {a:Act} {w:World} {F:Nat->FP} {R:Type} {x:R} {Q:Exit->Act->World->Prop} {o:Oper} {E:Env}
theorem ic (w:World) (ob:Obj):Ext w (w.alloc ob) (λ_ _=>0):=by
 refine ⟨by simp,λb i hb _ u hu=>?_,λb n hn=>?_,λb i hb=>World.frozen?_alloc_old w ob _ (by simp;omega),rfl,rfl,rfl,λb hb _=>?_,Nat.le_refl _⟩
 ·grind [se,World.alloc]
 ·obtain ⟨c,e,fr,h1,U,h3⟩:=hn
  refine ⟨c,e,fr,?_,U,h3⟩
  grind [World.alloc]
 grind [World.alloc]
theorem DJ (w:World):Ext w w.drew (λ_ _=>0):=⟨Nat.le_refl _,λ_ _ _ _ _ h=>h,λ_ _ h=>h,λ_ _ _=>rfl,rfl,rfl,rfl,λ_ _ _=>rfl,Nat.le_succ _⟩
theorem tu (w:World) (c:Array Value) (e:TypeId) (fr:Nat×Nat) (u:Bool) (ez:(u=true/\c.size<=fr.1)\/fr.2<=fr.1):dg (w.alloc (.cells c e fr)) w.heap.size (c.size,u):=
 ⟨c,e,fr,heap_alloc_new w _,rfl,λi hi=>by grind,λhu=>by grind⟩
theorem qJ (w:World) (c:Array Value) (e:TypeId) (fr:Nat×Nat) {k:Nat} {L:List Value} (hL:∀ j u,L[j]?=some u->c[k+j]?=some u) (jN:∀ u ∈ L,u.oneCell'=true):Has (w.alloc (.cells c e fr)) w.heap.size k L:=by
 intro j u hu
 grind [xS,World.cell?,heap_alloc_new]
theorem Rel.alloc (h:Rel P C A X σ a w F) (c:Array Value) (e:TypeId) (fr:Nat×Nat):Rel P C A (λb i=>X b i+bP w.heap.size 0 c.size b i) σ a (w.alloc (.cells c e fr)) F:=by
 refine h.grow (ic w _) (λ_ _ h=>h) (λ_ _ h=>.inl h) (λb i=>?_)
 by_cases hb:b=w.heap.size
 ·subst hb
  right
  have hx:X w.heap.size i=0:=by
   rcases Nat.eq_zero_or_pos (X w.heap.size i) with h0 | h0
   ·exact h0
   ·have:=h.eI w.heap.size i (.inl (by omega));omega
  exact ⟨Nat.le_refl _,by simp,by grind [bP]⟩
 grind [bP]
theorem Rel.drew (h:Rel P C A X σ a w F):Rel P C A X σ a w.drew F:=h.grow (DJ w) (λ_ _ h=>h) (λ_ _ h=>.inl h) (λ_ _=>.inl (Nat.le_refl _))
theorem ah.alloc (h:Rel P C A X σ a w F) {t:Ty} {m:Md} {H:List Path} {v:t.den} {cs:List Value} {G:FP} (hr:ah P w A t m H v cs G) (hG:∀ b i,1<=G b i->b < w.heap.size) {w':World} (hw:Ext w w' (λ_ _=>0)):ah P w' A t m H v cs G:=
 ah.mono (λ_ _ h=>h) (λb i ha u hu=>hw.cell b i (h.eI b i (.inr ha)) rfl u hu) hw.pZ t hr (λ_ _=>Nat.le_refl _) (λb i hp u hu=>hw.cell b i (hG b i hp) rfl u hu)
theorem Gw (h:Rel P C A X σ a w F) {K:St->Option R} {d:Option Tmp} {t:Ty} {m:Md} {v:t.den} {cs:List Value} {Fv:FP} (e:TypeId) (hk:K (σ.aQ d (.box t m [] v))=some x)
  (hr:ah P w A t m [] v cs Fv) (hX:∀ b i,Fv b i<=X b i):∃ A' F',Rel P C A' (λ_ _=>0) (σ.aQ d (.box t m [] v)) (a.put d (.pointer (some ⟨w.heap.size,0,none⟩))) (w.alloc (.cells cs.toArray e)) F':=by
 have hl:=ah.length t hr
 have h1:=h.alloc cs.toArray e (0,0)
 have dj:=tu w cs.toArray e (0,0) false (.inr (Nat.le_refl _))
 simp only[List.size_toArray,hl] at dj h1
 have p5:=ah.alloc h hr (λb i hp=>h.eI b i (.inl (by grind))) (ic w (.cells cs.toArray e))
 obtain ⟨F',hF⟩:=h1.aQ d (s:=.box t m [] v) (v:=.pointer (some ⟨w.heap.size,0,none⟩)) (Fd:=λb i=>bP w.heap.size 0 t.sz b i+Fv b i) (X':=λ_ _=>0)
  ⟨w.heap.size,0,cs,Fv,rfl,hl,qJ w cs.toArray e (0,0) (λj u hu=>by simpa using hu) (ah.one _ hr),λj hj=>by simp_all,λ_ _=>Nat.le_refl _,p5⟩
  (λb i=>by grind) (λt' m' H' v' e'=>by grind)
 grind
theorem np:∀ (t:Ty),t.oI=true->∃ L,zc t=some L:=by
 intro t
 induction t <;> grind [Ty.oI,zc]
theorem Jn (h:bE P C A σ a w F) (fq:∀ i T,E.TI i=some T->aC P T (.inl i)=true) {t:Nat} (ho:o.op=.alloc t) {K:St->Option R}
  (hk:(jp E t λT=>if T.oI then K (σ.aQ o.dst (.box T (ak T) [] T.zero)) else none)=some x):o.wp P a w (λa' w'=>Nx P C K x a' w'/\Ext w w' (λ_ _=>0)) Q:=by
 obtain ⟨T,hT,hk⟩:=cG hk
 split at hk
 ·rename_i Jo
  have dx:=fq _ _ hT
  obtain ⟨L,hL⟩:=np T Jo
  obtain ⟨z,Mx,DK⟩:=rf (P:=P) (w:=w) dx hL
  obtain ⟨r1,r2,r3⟩:=tr (P:=P) (w:=w) (A:=A) T hL dx
  refine h_ (v:=.pointer (some ⟨w.heap.size,0,none⟩)) (w':=w.alloc (.cells L.toArray t)) ?_ ?_
  ·have:z.cells=L.toArray:=by grind
   simp_all [execOp,Instr.alloc,newVar,newRow]
  ·obtain ⟨A',F',hF⟩:=Gw h t hk r1 (λ_ _=>Nat.le_refl _)
   exact ⟨⟨_,hk,A',F',hF⟩,ic w _⟩
 ·cases hk
end
end OT
set_option linter.unusedVariables false
set_option linter.unusedSimpArgs false
namespace OT
open Go
section
variable {P:Program} {C:Ctx} {A:Cells} {X:FP} {σ:St} {a:Act} {w:World} {F:Nat->FP} {R:Type} {x:R} {Q:Exit->Act->World->Prop} {o:Oper} {E:Env}
theorem xX (h:Rel P C A X σ a w F) {K:St->Option R} {d:Option Tmp} {e:Ty} {m:Md} {v:List e.den} {c:Array Value} {cap:Nat} {el:TypeId} {fr:Nat×Nat} {Fi:Nat->FP} (ez:(Bf e=true/\c.size<=fr.1)\/fr.2<=fr.1)
  (hk:K (σ.aQ d (.own (.ae e) (.ae true m) [] v))=some x) (hc:c.size=cap*e.sz) (jF:cap<=maxLen) (hv:List.length v<=cap) (hX:∀ b i,aA (List.length v) Fi b i<=X b i)
  (kX:∀ (i:Nat) (y:e.den),v[i]?=some y->∃ L:List Value,L.length=e.sz/\(∀ j u,L[j]?=some u->c[i*e.sz+j]?=some u)/\ah P w A e m [] y L (Fi i)) :
  Nx P C K x (a.put d (.slice (some ⟨w.heap.size,0,none⟩) (List.length v) cap)) (w.alloc (.cells c el fr)):=by
 have h1:=h.alloc c el fr
 have dj:=tu w c el fr (Bf e) ez
 rw[hc] at dj h1
 refine jd h1 hk (Fd:=λb i=>bP w.heap.size 0 (cap*e.sz) b i+aA (List.length v) Fi b i) ⟨_,(bL (.ae e) _ rfl).symm,?_⟩ (λb i=>by grind) (λ_ _ _ _ e=>by cases e)
 simp only[ah,hole,List.any_nil,Bool.false_eq_true,if_false,Md.own,if_true,Md.e]
 refine ⟨_,cap,rfl,hv,jF,(λe=>by cases e),λad ey=>?_⟩
 injection ey with ey;subst ey
 refine ⟨rfl,rfl,dj,Fi,λ_ _=>Nat.le_refl _,λi y hy=>?_⟩
 obtain ⟨L,l1,l2,l3⟩:=kX i y hy
 have hi:=(List.getElem?_eq_some_iff.1 hy).1
 refine ⟨L,l1,qJ w c el fr l2 (ah.one _ l3),?_⟩
 simp only[List.filterMap_nil]
 exact ah.alloc h l3 (λb k hp=>h.eI b k (.inl (by grind [bu]))) (ic w _)
theorem CK (h:bE P C A σ a w F) (fq:∀ i T,E.TI i=some T->aC P T (.inl i)=true) {t:Nat} {y z:Operand} (ho:o.op=.makeSlice t y z) (ao:bv P y=true/\bv P z=true) {K:St->Option R}
  (hk:(jp E t λt=>match t with
  | .ae e=>oC (bz σ y) λn=>oC (bz σ z) λc=>
   if e.oI then (if 0<=n/\n<=c/\c<=(cJ:Int) then K (σ.aQ o.dst (.own (.ae e) (ak (.ae e)) [] (List.replicate n.toNat e.zero))) else none) else none
  | _=>none)=some x):o.wp P a w (λa' w'=>Nx P C K x a' w'/\Ext w w' (λ_ _=>0)) Q:=by
 obtain ⟨T,hT,hk⟩:=cG hk
 have dx:=fq _ _ hT
 split at hk
 ·rename_i e
  rcases cc h ao.1 with hy | ⟨xs,e'⟩
  rotate_left
  ·rw[e'] at hk;cases hk
  obtain ⟨k1,n,hn,hk⟩:=oN hy hk
  rcases cc h ao.2 with hz | ⟨xs,e'⟩
  rotate_left
  ·rw[e'] at hk;cases hk
  obtain ⟨k2,c,hc,hk⟩:=oN hz hk
  split at hk
  ·rename_i Jo
   split at hk
   ·rename_i hb
    obtain ⟨el,hu,gn,hle⟩:=mM dx
    obtain ⟨inf,i1,i2,i3,i4⟩:=eW (gq hle)
    obtain ⟨L,hL⟩:=np e Jo
    obtain ⟨zv,z1,z2⟩:=i4 L hL
    obtain ⟨r1,r2,r3⟩:=tr (P:=P) (w:=w) (A:=A) e hL hle
    have OV:(inf.bytes:Int)*c<=281474976710656:=by
     have h1:(inf.bytes:Int)<=512:=by omega
     have U:(inf.bytes:Int)*c<=512*c:=Int.mul_le_mul_of_nonneg_right h1 (by omega)
     grind [cJ]
    have eJ:=run_make (P:=P) w t el inf zv hu i1 z1 k1 k2 n c hb.1 hb.2.1 OV (by grind [cJ])
    have Ud:zv.cells.size=e.sz:=by grind
    have hlen:List.length (List.replicate n.toNat e.zero)=n.toNat:=by simp
    refine h_ (v:=.slice (some ⟨w.heap.size,0,none⟩) n.toNat c.toNat) (w':=w.alloc (.cells (madeCells zv.cells (c.toNat*inf.size)) el)) ?_ ?_
    ·grind [execOp,Sem.run_bind,Result.andThen_ok,Sem.run_pure]
    ·refine ⟨?_,ic w _⟩
     have WR:=xX h (K:=K) (d:=o.dst) (v:=List.replicate n.toNat e.zero) (c:=madeCells zv.cells (c.toNat*inf.size)) (cap:=c.toNat) (el:=el) (fr:=(0,0)) (m:=ak e) (Fi:=λ_ _ _=>0) (.inr (Nat.le_refl _)) hk
      (by rw[size_madeCells,i2]) (by grind [cJ,maxLen]) (by grind) (λb i=>by grind [f7])
      (λi y hy=>by
       have hi:i < n.toNat:=by grind
       have hy:y=e.zero:=by grind
       subst hy
       refine ⟨L,r3,λj u hu=>?_,r1⟩
       have hj:j < e.sz:=r3 ▸ (List.getElem?_eq_some_iff.1 hu).1
       have av:i*e.sz+j < c.toNat*e.sz:=by
        have:(i+1)*e.sz<=c.toNat*e.sz:=Nat.mul_le_mul_right _ (by omega)
        grind
       grind [Nat.mul_comm,Nat.mul_add_mod,Nat.mod_eq_of_lt,madeCells])
     grind
   ·cases hk
  ·cases hk
 ·cases hk
theorem DL (h:bE P C A σ a w F) (fq:∀ i T,E.TI i=some T->aC P T (.inl i)=true) {s t:Nat} {y:Operand} (ho:o.op=.convert s t y) (ao:bv P y=true) (Gx:∀ T,E.TI t=some T->T.flat=true) {K:St->Option R}
  (hk:uZ E σ s t (bz σ y) o.dst K=some x):Tk P o a w (Nx P C K x):=by
 unfold uZ at hk
 obtain ⟨S,hS,hk⟩:=cG hk
 obtain ⟨T,hT,hk⟩:=cG hk
 have sk:=fq _ _ hS
 have sy:=fq _ _ hT
 rcases cc h ao with hs | ⟨xs,e⟩
 rotate_left
 ·grind [lH]
 split at hk
 ·rename_i k
  split at hk
  ·rename_i k' n hv
   rw[hv] at hs
   have e:=rU hs
   split at hk
   ·rename_i My
    obtain ⟨dS,hd,_⟩:=rE sk
    refine cR (v:=.int k (k.wrap (iw k' n))) (λw' _=>?_) (aY h hk ⟨[_],rfl,by simp only[Ro,kS]⟩ (λ_ _ _ _ e=>by cases e))
    unfold execOp
    simp only[ho,e,Sem.run_bind]
    have:(convert s t (.int k' (iw k' n))).run P w'=.ok (.int k (k.wrap (iw k' n))) w':=by
     unfold convert
     simp only[Sem.run_bind,run_underlying hd,run_underlying (jy sy),Result.andThen_ok]
     cases dS <;> rfl
    simp_all
   ·cases hk
  ·cases hk
 ·split at hk
  ·split at hk
   ·rename_i b hv
    rw[hv] at hs
    have e:=rT hs
    refine cR (v:=.string ⟨List.toArray b⟩) (λw' _=>?_) (aY h hk ⟨[_],rfl,rfl⟩ (λ_ _ _ _ e=>by cases e))
    unfold execOp
    have:(convert s t (.string ⟨List.toArray b⟩)).run P w'=.ok (.string ⟨List.toArray b⟩) w':=by
     unfold convert
     simp only[Sem.run_bind,run_underlying (gi sk),run_underlying (gi sy),Result.andThen_ok]
     rfl
    simp_all
   ·cases hk
  ·obtain ⟨v,cs,hk,h1,U⟩:=Gp h hs hk
   obtain ⟨el,hu,_,hle⟩:=mM sk
   obtain ⟨xa,cap,q1,q2,q3,q4⟩:=U
   subst q1
   rw[bL _ _ rfl] at h1
   have v8:List UInt8:=v
   have eJ:∀ w',mc o w w'->(convert s t (a.eval y)).run P w'=.ok (.string ⟨List.toArray v⟩) w':=λw' lF=>by
    have lF:=lF (by rw[ho];rfl)
    rw[h1]
    cases xa with
    | none=>
     have:v=[]:=List.eq_nil_of_length_eq_zero (q3 rfl)
     subst this
     exact run_convert_bytes_nil w' s el hu (jy hle) _ _ t (gi sy)
    | some ad=>
     obtain ⟨g1,g2⟩:=q4 _ rfl
     refine run_convert_bytes_back w' s t el _ cap v hu (jy hle) (gi sy) λj hj=>?_
     obtain ⟨L,l1,l2,l3⟩:=g2 j _ (List.getElem?_eq_getElem hj)
     simp only[Ro] at l3
     subst l3
     have:=(l2 0 _ rfl).1
     obtain ⟨b,off,sp⟩:=ad
     have i_:=g1 (by omega)
     simp only at i_
     subst i_
     rw[jE]
     simp only[Ty.sz,Nat.mul_one,Nat.add_zero] at this
     exact nG (lF.cell _ _ (oy this) rfl _ this) rfl
   refine cR (v:=.string ⟨List.toArray v⟩) (λw' lF=>?_) (aY h hk ⟨[_],rfl,rfl⟩ (λ_ _ _ _ e=>by cases e))
   grind [execOp,Sem.run_bind,Result.andThen_ok,Sem.run_pure]
  ·cases hk
 all_goals grind [Ty.flat]
theorem zS (h:bE P C A σ a w F) (fq:∀ i T,E.TI i=some T->aC P T (.inl i)=true) {s t:Nat} {y:Operand} (ho:o.op=.convert s t y) (ao:bv P y=true) (Gx:∀ T,E.TI t=some T->T.flat=true) (zT:(match bz σ y with | .val (.int _) _=>true | .val .str _=>true | .val (.ae (.int .u8)) _=>true | _=>false)=true) {K:St->Option R}
  (hk:uZ E σ s t (bz σ y) o.dst K=some x) :
  ∃ v,(∀ w',(∀ b i,A b i->∀ u,ce w b i=some u->ce w' b i=some u)->(execOp a.eval o).run P w'=.ok (.value v) w')/\Nx P C K x (a.put o.dst v) w:=by
 unfold uZ at hk
 obtain ⟨S,hS,hk⟩:=cG hk
 obtain ⟨T,hT,hk⟩:=cG hk
 have sk:=fq _ _ hS
 have sy:=fq _ _ hT
 rcases cc h ao with hs | ⟨xs,e⟩
 rotate_left
 ·grind
 split at hk
 ·rename_i k
  split at hk
  ·rename_i k' n hv
   rw[hv] at hs
   have e:=rU hs
   split at hk
   ·rename_i My
    obtain ⟨dS,hd,_⟩:=rE sk
    refine ⟨.int k (k.wrap (iw k' n)),(λw' _=>?_),aY h hk ⟨[_],rfl,by simp only[Ro,kS]⟩ (λ_ _ _ _ e=>by cases e)⟩
    unfold execOp
    simp only[ho,e,Sem.run_bind]
    have:(convert s t (.int k' (iw k' n))).run P w'=.ok (.int k (k.wrap (iw k' n))) w':=by
     unfold convert
     simp only[Sem.run_bind,run_underlying hd,run_underlying (jy sy),Result.andThen_ok]
     cases dS <;> rfl
    simp_all
   ·cases hk
  ·cases hk
 ·split at hk
  ·split at hk
   ·rename_i b hv
    rw[hv] at hs
    have e:=rT hs
    refine ⟨.string ⟨List.toArray b⟩,(λw' _=>?_),aY h hk ⟨[_],rfl,rfl⟩ (λ_ _ _ _ e=>by cases e)⟩
    unfold execOp
    have:(convert s t (.string ⟨List.toArray b⟩)).run P w'=.ok (.string ⟨List.toArray b⟩) w':=by
     unfold convert
     simp only[Sem.run_bind,run_underlying (gi sk),run_underlying (gi sy),Result.andThen_ok]
     rfl
    simp_all
   ·cases hk
  ·have Mz:∃ v',bz σ y=.val (.ae (.int .u8)) v':=by
    grind [lH,dJ]
   obtain ⟨v,hv⟩:=Mz
   rw[hv] at hs hk
   simp only[lH] at hk
   obtain ⟨_,hk⟩:=bh hk
   obtain ⟨cs,h1,U⟩:=hs
   obtain ⟨el,hu,_,hle⟩:=mM sk
   obtain ⟨xa,cap,q1,q2,q3,q4⟩:=U
   subst q1
   rw[bL _ _ rfl] at h1
   have v8:List UInt8:=v
   have eJ:∀ w',(∀ b i,A b i->∀ u,ce w b i=some u->ce w' b i=some u)->(convert s t (a.eval y)).run P w'=.ok (.string ⟨List.toArray v⟩) w':=λw' lF=>by
    rw[h1]
    cases xa with
    | none=>
     have:v=[]:=List.eq_nil_of_length_eq_zero (q3 rfl)
     subst this
     exact run_convert_bytes_nil w' s el hu (jy hle) _ _ t (gi sy)
    | some ad=>
     obtain ⟨g1,g2⟩:=q4 _ rfl
     refine run_convert_bytes_back w' s t el _ cap v hu (jy hle) (gi sy) λj hj=>?_
     obtain ⟨L,l1,l2,l3⟩:=g2 j _ (List.getElem?_eq_getElem hj)
     simp only[Ro] at l3
     subst l3
     have rq:=l2 0 _ rfl
     obtain ⟨b,off,sp⟩:=ad
     have i_:=g1 (by omega)
     simp only at i_
     subst i_
     rw[jE]
     simp only[Ty.sz,Nat.mul_one,Nat.add_zero] at rq
     exact nG (lF _ _ rq.2 _ rq.1) rfl
   refine ⟨.string ⟨List.toArray v⟩,(λw' lF=>?_),aY h hk ⟨[_],rfl,rfl⟩ (λ_ _ _ _ e=>by cases e)⟩
   grind [execOp,Sem.run_bind,Result.andThen_ok,Sem.run_pure]
  ·cases hk
 all_goals grind [Ty.flat]
theorem Fx (h:bE P C A σ a w F) (fq:∀ i T,E.TI i=some T->aC P T (.inl i)=true) {s t:Nat} {y:Operand} (ho:o.op=.convert s t y) (ao:bv P y=true) {K:St->Option R}
  (hk:uZ E σ s t (bz σ y) o.dst K=some x):o.wp P a w (λa' w'=>Nx P C K x a' w'/\Ext w w' (λ_ _=>0)) Q:=by
 unfold uZ at hk
 obtain ⟨S,hS,hk⟩:=cG hk
 obtain ⟨T,hT,hk⟩:=cG hk
 have sk:=fq _ _ hS
 have sy:=fq _ _ hT
 rcases cc h ao with hs | ⟨xs,e⟩
 rotate_left
 ·grind [lH]
 split at hk
 ·rename_i k
  split at hk
  ·rename_i k' n hv
   rw[hv] at hs
   have e:=rU hs
   split at hk
   ·rename_i My
    obtain ⟨dS,hd,_⟩:=rE sk
    refine h_ (v:=.int k (k.wrap (iw k' n))) (w':=w) ?_ ⟨aY h hk ⟨[_],rfl,by simp only[Ro,kS]⟩ (λ_ _ _ _ e=>by cases e),Ext.refl _ _⟩
    unfold execOp
    simp only[ho,e,Sem.run_bind]
    have:(convert s t (.int k' (iw k' n))).run P w=.ok (.int k (k.wrap (iw k' n))) w:=by
     unfold convert
     simp only[Sem.run_bind,run_underlying hd,run_underlying (jy sy),Result.andThen_ok]
     cases dS <;> rfl
    simp_all
   ·cases hk
  ·cases hk
 ·split at hk
  ·split at hk
   ·rename_i b hv
    rw[hv] at hs
    have e:=rT hs
    refine h_ (v:=.string ⟨List.toArray b⟩) (w':=w) ?_ ⟨aY h hk ⟨[_],rfl,rfl⟩ (λ_ _ _ _ e=>by cases e),Ext.refl _ _⟩
    unfold execOp
    have:(convert s t (.string ⟨List.toArray b⟩)).run P w=.ok (.string ⟨List.toArray b⟩) w:=by
     unfold convert
     simp only[Sem.run_bind,run_underlying (gi sk),run_underlying (gi sy),Result.andThen_ok]
     rfl
    simp_all
   ·cases hk
  ·obtain ⟨v,cs,hk,h1,U⟩:=Gp h hs hk
   obtain ⟨el,hu,_,hle⟩:=mM sk
   obtain ⟨xa,cap,q1,q2,q3,q4⟩:=U
   subst q1
   rw[bL _ _ rfl] at h1
   have v8:List UInt8:=v
   have eJ:(convert s t (a.eval y)).run P w=.ok (.string ⟨List.toArray v⟩) w:=by
    rw[h1]
    cases xa with
    | none=>
     have:v=[]:=List.eq_nil_of_length_eq_zero (q3 rfl)
     subst this
     exact run_convert_bytes_nil w s el hu (jy hle) _ _ t (gi sy)
    | some ad=>
     obtain ⟨g1,g2⟩:=q4 _ rfl
     refine run_convert_bytes_back w s t el _ cap v hu (jy hle) (gi sy) λj hj=>?_
     obtain ⟨L,l1,l2,l3⟩:=g2 j _ (List.getElem?_eq_getElem hj)
     simp only[Ro] at l3
     subst l3
     have:=(l2 0 _ rfl).1
     obtain ⟨b,off,sp⟩:=ad
     have i_:=g1 (by omega)
     simp only at i_
     subst i_
     rw[jE]
     simp only[Ty.sz,Nat.mul_one,Nat.add_zero] at this
     exact nG (this) rfl
   refine h_ (v:=.string ⟨List.toArray v⟩) (w':=w) ?_ ⟨aY h hk ⟨[_],rfl,rfl⟩ (λ_ _ _ _ e=>by cases e),Ext.refl _ _⟩
   grind [execOp,Sem.run_bind,Result.andThen_ok,Sem.run_pure]
  ·cases hk
 ·split at hk
  ·rename_i b hv
   rw[hv] at hs
   have e:=rT hs
   split at hk
   ·rename_i My
    rw[My] at sk
    split at hk
    rotate_left
    ·cases hk
    rename_i jF
    obtain ⟨el,hu,_,hle⟩:=mM sy
    have eJ:=run_bytes_of_string (P:=P) w s t el ⟨List.toArray b⟩ (gi sk) hu (jy hle)
    have hlen:(⟨List.toArray b⟩:ByteArray).size=List.length b:=rfl
    have MA:=grownCap_ge w (List.length b) 0 el
    have Dv:=grownCap_le_maxLen w (List.length b) 0 el (by grind [cJ,maxLen])
    rw[hlen] at eJ
    have gn:(bytesRow ⟨List.toArray b⟩ (grownCap w (List.length b) 0 el)).size=grownCap w (List.length b) 0 el:=by
     grind [bytesRow]
    refine h_ ?_ ⟨xX (h.drew) (K:=K) (d:=o.dst) (e:=.int .u8) (v:=b) (m:=.leaf) (Fi:=λ_ _ _=>0) (cap:=grownCap w (List.length b) 0 el) (el:=el) (fr:=((bytesRow ⟨List.toArray b⟩ (grownCap w (List.length b) 0 el)).size,(bytesRow ⟨List.toArray b⟩ (grownCap w (List.length b) 0 el)).size+1)) (c:=bytesRow ⟨List.toArray b⟩ (grownCap w (List.length b) 0 el)) (.inl ⟨rfl,Nat.le_refl _⟩) hk
     (by grind [Ty.sz]) Dv MA (λb i=>by grind [f7]) (λi y hy=>?_),(DJ w).trans (ic w.drew _) (λ_ _ _ _=>rfl)⟩
    ·simp_all [execOp]
    ·have hi:=(List.getElem?_eq_some_iff.1 hy).1
     have hb:=bytesRow_at ⟨List.toArray b⟩ (grownCap w (List.length b) 0 el) i (by simpa using hi)
     refine ⟨[.int .u8 (UInt8.toNat y)],rfl,λj u hu=>?_,rfl⟩
     grind [Ty.sz]
   ·cases hk
  ·cases hk
 ·cases hk
end
end OT
set_option linter.unusedVariables false
set_option linter.unusedSimpArgs false
namespace OT
open Go
section
variable {P:Program} {C:Ctx} {A:Cells} {X:FP} {σ:St} {a:Act} {w:World} {F:Nat->FP} {R:Type} {x:R} {Q:Exit->Act->World->Prop} {o:Oper} {E:Env}
theorem DM (h:bE P C A σ a w F) {i j:Nat} (ho:o.op=.extract (.tmp i) j) {K:St->Option R}
  (hk:(match σ.get i with
   | .kM xs=>match xs[j]? with
    | some x=>if x.t=.unit then none else K ((σ.put i (.kM (xs.set j ⟨.unit,.leaf,()⟩))).aQ o.dst (laid x.t x.m x.v))
    | none=>none
   | _=>none)=some x):Tk P o a w (Nx P C K x):=by
 split at hk
 ·rename_i xs hg
  split at hk
  ·rename_i y hy
   split at hk
   ·cases hk
   ·rename_i WS
    have hi:i < σ.n:=by
     grind [fL]
    have hs:=h.cY i hi
    rw[hg] at hs
    obtain ⟨vs,Fi,h1,U,h3⟩:=hs
    obtain ⟨v,h4,h5⟩:=h3 j y hy
    rcases h5 with h5 | ⟨cs,h6,h7⟩
    ·grind
    have hj:=(List.getElem?_eq_some_iff.1 hy).1
    have sr:=h.put hi (s:=.kM (xs.set j ⟨.unit,.leaf,()⟩)) (v:=tmp a i) (Fd:=aA xs.length (cx Fi j λ_ _=>0)) (X':=Fi j)
     ⟨vs,cx Fi j λ_ _=>0,h1,λb k=>by grind,λk y' yn=>by
      rw[List.getElem?_set] at yn
      split at yn
      ·rename_i e;subst e
       injection yn with yn;subst yn;exact ⟨v,h4,.inl rfl⟩
      grind [cx]⟩
     (λb k=>by grind [l8]) (λt m H v e=>by cases e)
    rw[kx] at sr
    refine cR (v:=v) ?_ ?_
    ·unfold execOp
     have e:a.eval (.tmp i)=.tuple vs:=h1
     simp_all [Instr.extract]
    grind [st]
  ·cases hk
 ·cases hk
theorem Rel.SQ (h:Rel P C A X σ a w F) {d n:Nat} (hd:∀ R,bC w (tmp a d) (σ.get d)=some R->bq R.t R.cs=C.args.getD n undef):Rel P C A X { σ with aF:=(d,n,true)::σ.aF } a w F:=by
 have gJ:qb σ a w { σ with aF:=(d,n,true)::σ.aF } a w:=λr p snap hb=>⟨hb,λao=>⟨ao,λhl pl dh=>⟨pl.H,pl.cs,dh,λ_=>rfl⟩⟩⟩
 refine ⟨h.size,h.defers,λi hi=>bj.ge gJ (λ_ _ h=>h) (λ_ _ _ _ h=>h) (λ_ _ h=>h) (λ_ _ _=>⟨λ_ h=>h,rfl⟩) (h.cY i hi),λd r p snap hm=>kw.ge gJ (h.gh d r p snap hm),h.iQ,h.jr,h.eI,h.fG,h.ext,h.own,h.a0,h.J,λj k hm=>?_,λr t m H v hg hl=>h.whole r t m H v hg λk hm=>hl k (List.mem_cons_of_mem _ hm),λj k hm R hR=>?_,h.o_⟩
 ·rcases List.mem_cons.1 hm with e | hm
  ·grind
  ·exact h.il j k hm
 ·rcases List.mem_cons.1 hm with e | hm
  ·injection e with e1 e2;injection e2 with e2 e3
   subst e1;subst e2
   exact hd R hR
  ·exact h.gC j k hm R hR
theorem Hz {l:List (Nat×Nat×Bool)} {i n:Nat} (h:zt l i=some n):(i,n,true) ∈ l:=by
 induction l <;> grind [zt,Nat.beq_eq]
theorem NI (h:bE P C A σ a w F) {t:Nat} {y:Operand} (ho:o.op=.box t y) (ao:bv P y=true) {mv:Bool} {K:St->Option R}
  (hk:(jp E t λt=>fR σ (bz σ y) mv t λm v σ'=>K (Dn σ y o.dst (σ'.aQ o.dst (.box t m [] v))))=some x):o.wp P a w (λa' w'=>Nx P C K x a' w'/\Ext w w' (λ_ _=>0)) Q:=by
 obtain ⟨T,hT,hk⟩:=cG hk
 rcases cc h ao with hs | ⟨xs,e⟩
 rotate_left
 ·grind [fR]
 have Ue:=hk
 obtain ⟨A',σ',F',m,v,cs,Fv,k1,k2,k3,k4,kr,k5,k6⟩:=mJ h hs hk
 have hl:=ah.length _ k6
 have jN:=ah.one _ k6
 have RJ:(bq T cs).cells=cs.toArray:=by grind [eH]
 obtain ⟨A2,F2,hF⟩:=Gw k3 (K:=λs=>some s) (x:=σ'.aQ o.dst (.box T m [] v)) (d:=o.dst) t rfl k6 (λb i=>by omega)
 refine h_ (v:=.pointer (some ⟨w.heap.size,0,none⟩)) (w':=w.alloc (.cells cs.toArray t)) ?_ ?_
 ·simp_all [execOp,Instr.box,newVar,newRow]
 ·refine ⟨⟨_,k1,A2,F2,?_⟩,ic w _⟩
  clear hk
  unfold Dn
  split
  ·rename_i i d hd
   split
   ·rename_i t0 m0 H0 v0 hg
    split
    ·rename_i n hn
     rw[hd] at hF ⊢
     refine Rel.SQ hF λR hR=>?_
     have fX:=h.gC i n (Hz hn) ⟨t0,H0,(tmp a i).cells.toList,none⟩ (by rw[hg];rfl)
     have fq:tmp a i=bq T cs:=k5
     have Uf:t0=T:=by
      simp only[bz,hg] at Ue
      grind [fR,i9,oW,gX,bh]
     subst Uf
     simp only[fq,eH hl jN] at fX
     simp only[St.aQ,qc] at hR
     split at hR
     ·rename_i hc
      have Ug:tmp (a.put (some d) (.pointer (some ⟨w.heap.size,0,none⟩))) d=.pointer (some ⟨w.heap.size,0,none⟩):=by
       rw[hK,if_pos ⟨rfl,by rw[h.size,<- k4];exact hc.2⟩]
      rw[Ug] at hR
      simp only[bC,Option.some.injEq] at hR
      subst hR
      have hh:=qJ w cs.toArray t (0,0) (k:=0) (L:=cs) (λj u hu=>by simpa using hu) jN
      grind [b9]
     ·rename_i hc
      have MA:σ'.n<=d:=by
       grind
      rw[fL (Nat.not_lt.2 MA)] at hR;cases hR
    ·exact hF
   ·exact hF
  ·exact hF
end
end OT
set_option linter.unusedVariables false
set_option linter.unusedSimpArgs false
namespace OT
open Go
section
variable {P:Program} {C:Ctx} {A:Cells} {X:FP} {σ:St} {a:Act} {w:World} {F:Nat->FP} {R:Type} {x:R} {Q:Exit->Act->World->Prop} {o:Oper} {E:Env}
theorem Rel.giveUp (h:Rel P C A X σ a w F) {A1:Cells} {X1:FP} (hA:∀ b i,A b i->A1 b i) (wP:∀ b i,A1 b i->A b i\/(1<=X b i/\X1 b i=0)) (hX:∀ b i,X1 b i<=X b i):Rel P C A1 X1 σ a w F:=by
 have gJ:qb σ a w σ a w:=λr p snap hb=>⟨hb,λao=>⟨ao,λhl pl dh=>⟨pl.H,pl.cs,dh,λ_=>rfl⟩⟩⟩
 refine ⟨h.size,h.defers,λi hi=>bj.ge gJ hA (λ_ _ _ _ h=>h) (λ_ _ h=>h) (λ_ _ _=>⟨λ_ h=>h,rfl⟩) (h.cY i hi),h.gh,λb i=>by have:=h.iQ b i;grind,
  λb i hp ha=>?_,λb i hp=>?_,h.fG,h.ext,λb i hp=>h.own b i (by grind),λb i ha=>hA b i (h.a0 b i ha),λb i ha=>?_,h.il,h.whole,h.gC,h.o_⟩
 ·rcases wP b i ha with ha | ha
  ·exact h.jr b i (by grind) ha
  ·have:=h.iQ b i;omega
 ·rcases hp with hp | ha
  ·exact h.eI b i (.inl (by grind))
  ·rcases wP b i ha with ha | ha
   ·exact h.eI b i (.inr ha)
   ·exact h.eI b i (.inl (by omega))
 ·rcases wP b i ha with ha | ha
  ·exact h.J b i ha
  ·exact .inr (h.own b i (by omega))
theorem Jp {off:Nat} {l cs:List Value} (h:off+l.length<=cs.length) :
  ((l.toArray.zipIdx).foldl (λcs (x:Value×Nat)=>cs.setIfInBounds (off+x.2) x.1) cs.toArray)=(cs.take off++l++cs.drop (off+l.length)).toArray:=by
 obtain ⟨h1,U⟩:=Great.foldl_set off l 0 cs.toArray
 have e:(l.toArray.zipIdx).foldl (λcs (x:Value×Nat)=>cs.setIfInBounds (off+x.2) x.1) cs.toArray=(l.zipIdx 0).foldl (λcs (x:Value×Nat)=>cs.setIfInBounds (off+x.2) x.1) cs.toArray:=by simp
 rw[e]
 apply Array.ext_getElem?
 grind
theorem tw {pl:Nat->Option (Nat×Nat)} {j off sz:Nat} (hp:pl j=some (off,sz)) {t:Ty} {l cs:List Value} (hl:l.length=sz) (h1:(bq t l).cells.toList=l) (h:off+sz<=cs.length) (rest:List (Nat×Value)) :
  Instr.fill pl cs.toArray ((j,bq t l)::rest)=Instr.fill pl (cs.take off++l++cs.drop (off+sz)).toArray rest:=by
 have hc:(bq t l).cells=l.toArray:=Array.ext' (by simpa using h1)
 grind [Instr.fill,Jp]
theorem Jq:∀ (n:Nat) (t:Ty) {t':Ty} {m m':Md} {v:t.den} {y:t'.den} {cs ys:List Value} {G H:FP} {K:Md->t.den->Option R},ah P w A t m [] v cs G->ah P w A t' m' [] y ys H ->
  wz n t m v t' m' y K=some x->∃ m2 v2,K m2 v2=some x/\ah P w A t m2 [] v2 (cs.take (ei n t)++ys++cs.drop (ei n t+t'.sz)) (λb i=>G b i+H b i)/\ei n t+t'.sz<=cs.length:=by
 intro n
 induction n with
 | zero=>
  intro t t' m m' v y cs ys G H K hr hy hk
  cases t with
  | pair a b=>
   simp only[wz] at hk
   obtain ⟨e,hk⟩:=bh hk;subst e
   have hl:=ah.length _ hr
   have Uh:=ah.length _ hy
   obtain ⟨h0,F1,F2,hs,h1,U⟩:=hr
   refine ⟨_,_,hk,⟨rfl,H,F2,λb i=>by grind,?_,?_⟩,?_⟩
   all_goals simp_all [ei,Md.l,Md.r,Ty.sz]
  | _=>cases hk
 | succ n ih=>
  intro t t' m m' v y cs ys G H K hr hy hk
  cases t with
  | pair a b=>
   simp only[wz] at hk
   have hl:=ah.length _ hr
   obtain ⟨h0,F1,F2,hs,h1,U⟩:=hr
   obtain ⟨m2,v2,k1,k2,k3⟩:=ih b U hy hk
   simp only[List.length_drop] at k3
   simp only[Ty.sz] at hl
   refine ⟨_,_,k1,⟨rfl,F1,λb i=>F2 b i+H b i,λb i=>by grind,?_,?_⟩,?_⟩
   ·simp only[ei,List.filterMap_nil,Md.l]
    have:(cs.take (a.sz+ei n b)++ys++cs.drop (a.sz+ei n b+t'.sz)).take a.sz=cs.take a.sz:=by
     simp_all [List.take_append_of_le_length,List.take_take]
    rw[this];exact h1
   ·simp only[ei,List.filterMap_nil,Md.r]
    have:(cs.take (a.sz+ei n b)++ys++cs.drop (a.sz+ei n b+t'.sz)).drop a.sz=(cs.drop a.sz).take (ei n b)++ys++(cs.drop a.sz).drop (ei n b+t'.sz):=by
     rw[List.append_assoc,List.drop_append_of_le_length (by simp;omega),List.drop_take,List.drop_drop,List.append_assoc]
     rw[show a.sz+ei n b - a.sz=ei n b by omega,show a.sz+(ei n b+t'.sz)=a.sz+ei n b+t'.sz by omega]
    grind
   ·simp only[ei];omega
  | _=>cases hk
theorem DN {α β:Type} (g:α->Option β):∀ (l:List α) (ps:List β),l.mapM g=some ps->∀ (j:Nat) (f:α),l[j]?=some f->ps[j]?=g f
 | [],ps,h,j,f,hf=>by cases hf
 | y::l,ps,h,j,f,hf=>by
  simp only[List.mapM_cons,Option.bind_eq_bind,Option.pure_def] at h
  cases hy:g y with
  | none=>simp[hy] at h
  | some z=>
   cases hr:l.mapM g with
   | none=>grind
   | some r=>
    simp only[hy,hr,Option.bind_some,Option.some.injEq] at h
    subst h
    cases j with
    | zero=>grind
    | succ j=>exact DN g l r hr j f hf
theorem HA:∀ (t:Ty) {fs:List Field} {off:Nat},aC P t (.inr (fs,off))=true->∃ ps,fs.mapM (λf=>(P.info? f.type).map λi=>(f.offset,i.size))=some ps:=by
 intro t
 induction t with
 | unit=>
  simp_all [aC]
 | pair a b fQ fI=>
  intro fs off h
  cases fs with
  | nil=>simp_all
  | cons f r=>
   simp only[aC,Bool.and_eq_true] at h
   obtain ⟨ps,po⟩:=fI h.2
   obtain ⟨inf,hi,_⟩:=eW (gq h.1.2)
   grind
 | _=>grind [aC]
theorem CL {T:Ty} {i:TypeId} (hl:aC P T (.inl i)=true) {j:Nat} {t':Ty} (hj:mV j T=some t') :
  ∃ fs ps,P.underlying i=some (.struct fs)/\fs.toList.mapM (λf=>(P.info? f.type).map λi=>(f.offset,i.size))=some ps/\∀ j t',mV j T=some t'->ps.toArray[j]?=some (ei j T,t'.sz):=by
 cases T with
 | pair a b=>
  have OW:=hl
  simp only[aC,Bool.and_eq_true] at hl
  have U:=hl.2
  split at U
  ·rename_i fs hu
   split at U
   ·rename_i f r zN
    have h3:aC P (.pair a b) (.inr (f::r,0))=true:=by
     grind [aC]
    obtain ⟨ps,po⟩:=HA _ h3
    refine ⟨fs,ps,hu,by grind,λj t' hj=>?_⟩
    obtain ⟨f',q1,q2,q3,q4⟩:=Gs j (.pair a b) h3 hj
    have:=DN _ _ _ po j f' q1
    obtain ⟨inf,hi,hs,_⟩:=eW (gq q3)
    grind
   ·cases U
  ·cases U
 | _=>cases j <;> cases hj
theorem Jr {T:Ty} {fz:Nat->Bool} {pl:Nat->Option (Nat×Nat)} (dh:∀ j t',mV j T=some t'->pl j=some (ei j T,t'.sz)) {K:Md->T.den->St->Option R} :
  ∀ (ps:List (Nat×Operand)) {n:Nat} {σ:St} {A:Cells} {X:FP} {F:Nat->FP} {m:Md} {v:T.den} {cs:List Value},ps.all (λp=>bv P p.2)=true->Rel P C A X σ a w F->ah P w A T m [] v cs X ->
   wA E σ T fz ps n m v K=some x->∃ A' σ' F' m' v' aS X',K m' v' σ'=some x/\Rel P C A' X' σ' a w F'/\ah P w A' T m' [] v' aS X'/\Instr.fill pl cs.toArray (ps.map λp=>(p.1,a.eval p.2))=some aS.toArray:=by
 intro ps
 induction ps with
 | nil=>intro n σ A X F m v cs ao h hr hk;exact ⟨A,σ,F,m,v,cs,X,hk,h,hr,rfl⟩
 | cons p ps ih=>
  intro n σ A X F m v cs ao h hr hk
  obtain ⟨j,y⟩:=p
  simp only[List.all_cons,Bool.and_eq_true] at ao
  simp only[wA] at hk
  split at hk
  ·rename_i t' wl
   rcases cc h ao.1 with hs | ⟨xs,e⟩
   rotate_left
   ·grind [fR]
   obtain ⟨A1,iq,F1,m1,v1,jz,Fv,k1,k2,k3,k4,kr,k5,k6⟩:=mJ h hs hk
   have p5:=ah.mono (P:=P) (A':=A1) k2 (λ_ _ _ _ h=>h) (λ_ _ h=>h) T hr (λ_ _=>Nat.le_refl _) (λ_ _ _ _ h=>h)
   obtain ⟨m2,v2,q1,q2,q3⟩:=Jq j T p5 k6 k1
   obtain ⟨A',σ',F',m',v',aS,X',g1,g2,g3,g4⟩:=ih ao.2 k3 q2 q1
   refine ⟨A',σ',F',m',v',aS,X',g1,g2,g3,?_⟩
   rw[List.map_cons,k5,tw (dh j t' wl) (ah.length _ k6) (eH (ah.length _ k6) (ah.one _ k6)) q3]
   exact g4
  ·cases hk
theorem NJ {n j:Nat} {e:Ty} {v:List e.den} {y:e.den} {cs ys:List Value} (h:Ro P w A (.arr n e) v cs) (hy:Ro P w A e y ys) (hj:j < v.length) :
  Ro P w A (.arr n e) (v.set j y) (cs.take (j*e.sz)++ys++cs.drop (j*e.sz+e.sz))/\j*e.sz+e.sz<=cs.length:=by
 obtain ⟨h1,U,h3,h4⟩:=h
 have Uh:=Ro.length _ hy
 have hle:j*e.sz+e.sz<=cs.length:=by
  rw[h3,<- Nat.succ_mul];exact Nat.mul_le_mul_right _ (by omega)
 refine ⟨⟨h1,by simpa using U,by grind,λi z hz=>?_⟩,hle⟩
 rw[List.getElem?_set] at hz
 split at hz
 ·grind
 ·rename_i dI
  have h5:=h4 i z hz
  have:((cs.take (j*e.sz)++ys++cs.drop (j*e.sz+e.sz)).drop (i*e.sz)).take e.sz=(cs.drop (i*e.sz)).take e.sz:=by
   rcases Nat.lt_or_ge i j with ng | ng
   ·have h6:i*e.sz+e.sz<=j*e.sz:=by rw[<-Nat.succ_mul];exact Nat.mul_le_mul_right _ (by omega)
    grind [List.drop_take]
   ·have h6:j*e.sz+e.sz<=i*e.sz:=by rw[<-Nat.succ_mul];exact Nat.mul_le_mul_right _ (by omega)
    have h7:(cs.take (j*e.sz)++ys).length=j*e.sz+e.sz:=by grind
    rw[List.drop_append,h7,List.drop_of_length_le (by omega),List.nil_append,List.drop_drop]
    congr 2;omega
  grind
theorem NK {n0:Nat} {e:Ty} {fz:Nat->Bool} (hf:e.flat=true) {K:List e.den->St->Option R} :
  ∀ (ps:List (Nat×Operand)) {n:Nat} {σ:St} {A:Cells} {F:Nat->FP} {v:List e.den} {cs:List Value},ps.all (λp=>bv P p.2)=true->bE P C A σ a w F->Ro P w A (.arr n0 e) v cs ->
   Dj σ e fz ps n v K=some x->∃ A' σ' F' v' aS,K v' σ'=some x/\bE P C A' σ' a w F'/\Ro P w A' (.arr n0 e) v' aS/\Instr.fill (λi=>some (i*e.sz,e.sz)) cs.toArray (ps.map λp=>(p.1,a.eval p.2))=some aS.toArray:=by
 intro ps
 induction ps with
 | nil=>intro n σ A F v cs ao h hr hk;exact ⟨A,σ,F,v,cs,hk,h,hr,rfl⟩
 | cons p ps ih=>
  intro n σ A F v cs ao h hr hk
  obtain ⟨j,y⟩:=p
  simp only[List.all_cons,Bool.and_eq_true] at ao
  simp only[Dj] at hk
  rcases cc h ao.1 with hs | ⟨xs,e⟩
  rotate_left
  ·grind [fR]
  obtain ⟨A1,iq,F1,m1,v1,jz,Fv,k1,k2,k3,k4,kr,k5,k6⟩:=mJ h hs hk
  split at k1
  ·rename_i hj
   have p5:Ro P w A1 (.arr n0 e) v cs:=Ro.mono (λ_ _ _ _ h=>h) k2 _ hr
   obtain ⟨q1,q2⟩:=NJ p5 (ah.flat _ hf k6) hj
   obtain ⟨A',σ',F',v',aS,g1,g2,g3,g4⟩:=ih ao.2 (k3.less (X':=λ_ _=>0) λ_ _=>Nat.zero_le _) q1 k1
   refine ⟨A',σ',F',v',aS,g1,g2,g3,?_⟩
   rw[List.map_cons,k5,tw (pl:=λi=>some (i*e.sz,e.sz)) rfl (ah.length _ k6) (eH (ah.length _ k6) (ah.one _ k6)) q2]
   exact g4
  ·cases k1
theorem HB (h:bE P C A σ a w F) (fq:∀ i T,E.TI i=some T->aC P T (.inl i)=true) {t:Nat} {ps:Array (Nat×Operand)} {fz:Nat->Bool} (ho:o.op=.build t ps) (ao:ps.toList.all (λp=>bv P p.2)=true) {K:St->Option R}
  (hk:(jp E t λt=>match t with
  | .arr n e=>if e.oI then Dj σ e fz ps.toList 0 (Ty.arr n e).zero λv σ=>K (σ.aQ o.dst (laid (.arr n e) (ak (.arr n e)) v)) else none
  | .pair t1 t2=>if (Ty.pair t1 t2).oI then wA E σ (.pair t1 t2) fz ps.toList 0 (ak (.pair t1 t2)) (Ty.pair t1 t2).zero λm v σ=>K (σ.aQ o.dst (laid (.pair t1 t2) m v)) else none
  | _=>none)=some x):Tk P o a w (Nx P C K x):=by
 obtain ⟨T,hT,hk⟩:=cG hk
 have dx:=fq _ _ hT
 have run:∀ (cells:Array Value),P.built t (ps.map λ(i,x)=>(i,a.eval x)).toList=some cells->∀ w',mc o w w'->(execOp a.eval o).run P w'=.ok (.value (.agg cells)) w':=λcells hc w' _=>by
  simp_all [execOp,run_build]
 have po:(ps.map λ(i,x)=>(i,a.eval x)).toList=ps.toList.map λp=>(p.1,a.eval p.2):=by simp
 rw[po] at run
 split at hk
 ·rename_i n e
  split at hk
  ·rename_i hz
   have QC:e.flat=true:=by
    grind [aC]
   obtain ⟨L,hL⟩:=np (.arr n e) (by simpa [Ty.oI] using hz)
   obtain ⟨r1,r2,r3⟩:=tr (P:=P) (w:=w) (A:=A) _ hL dx
   obtain ⟨inf,i1,i2,i3,i4⟩:=eW (gq dx)
   obtain ⟨z,z1,z2⟩:=i4 L hL
   obtain ⟨A',σ',F',v',aS,g1,g2,g3,g4⟩:=NK QC ps.toList ao h r2 hk
   have hu:∃ el ie,P.underlying t=some (.array n el)/\P.info? el=some ie/\ie.size=e.sz:=by
    have hl:=dx
    simp only[aC,Bool.and_eq_true] at hl
    have U:=hl.2
    split at U
    ·rename_i n' el hu
     simp only[Bool.and_eq_true,Nat.beq_eq] at U
     obtain ⟨ie,j1,j2,_⟩:=eW (gq U.2)
     grind
    ·cases U
   obtain ⟨el,ie,u1,u2,u3⟩:=hu
   have Mw:z.cells=L.toArray:=Array.ext' (by simpa using z2)
   have e1:bq (.arr n e) aS=.agg aS.toArray:=rfl
   refine cR (v:=bq (.arr n e) aS) (run _ ?_) ?_
   ·grind [Program.built]
   ·exact st g2 g1 (Ro.flat _ (λ_ _=>0) (by grind [Ty.flat]) g3) (λ_ _=>Nat.le_refl _)
  ·cases hk
 ·rename_i t1 t2
  split at hk
  ·rename_i hz
   obtain ⟨L,hL⟩:=np (.pair t1 t2) hz
   obtain ⟨r1,r2,r3⟩:=tr (P:=P) (w:=w) (A:=A) _ hL dx
   obtain ⟨inf,i1,i2,i3,i4⟩:=eW (gq dx)
   obtain ⟨z,z1,z2⟩:=i4 L hL
   have Mw:z.cells=L.toArray:=Array.ext' (by simpa using z2)
   obtain ⟨fs,Ui,u1,u2,u3⟩:=CL dx (j:=0) rfl
   obtain ⟨A',σ',F',m',v',aS,X',g1,g2,g3,g4⟩:=Jr (pl:=λj=>Ui.toArray[j]?) u3 ps.toList ao h r1 hk
   refine cR (v:=bq (.pair t1 t2) aS) (run _ ?_) (st g2 g1 g3 (λ_ _=>Nat.le_refl _))
   grind [Program.built]
  ·cases hk
 ·cases hk
theorem NL {e:Ty} {fz:Nat->Bool} (gn:1<=e.sz) {K:Md->List e.den->St->Option R} :
  ∀ (ps:List (Nat×Operand)) {n:Nat} {σ:St} {A:Cells} {X:FP} {F:Nat->FP} {m:Md} {v:List e.den} {L Z:List Value} {Fi:Nat->FP},ps.all (λp=>bv P p.2)=true->Rel P C A X σ a w F ->
   List.length v=n->L.length=n*e.sz->Z.length=ps.length*e.sz->(∀ b i,aA n Fi b i<=X b i)->(∀ (i:Nat) (y:e.den),v[i]?=some y->ah P w A e m [] y ((L.drop (i*e.sz)).take e.sz) (Fi i)) ->
   wB σ e fz ps n m v K=some x->∃ (A':Cells) (σ':St) (F':Nat->FP) (m':Md) (v':List e.den) (L':List Value) (X':FP) (zU:Nat->FP),K m' v' σ'=some x/\Rel P C A' X' σ' a w F'/\List.length v'=n+ps.length/\L'.length=(n+ps.length)*e.sz/\(∀ b i,aA (n+ps.length) zU b i<=X' b i) /\
    (∀ (i:Nat) (y:e.den),v'[i]?=some y->ah P w A' e m' [] y ((L'.drop (i*e.sz)).take e.sz) (zU i))/\Instr.fill (λi=>some (i*e.sz,e.sz)) (L++Z).toArray (ps.map λp=>(p.1,a.eval p.2))=some L'.toArray:=by
 intro ps
 induction ps with
 | nil=>
  intro n σ A X F m v L Z Fi ao h hv hL hZ hX hr hk
  have:Z=[]:=by simpa using hZ
  subst this
  exact ⟨A,σ,F,m,v,L,X,Fi,hk,h,hv,hL,hX,hr,by simp[Instr.fill]⟩
 | cons p ps ih=>
  intro n σ A X F m v L Z Fi ao h hv hL hZ hX hr hk
  obtain ⟨j,y⟩:=p
  simp only[List.all_cons,Bool.and_eq_true] at ao
  simp only[wB] at hk
  split at hk
  ·rename_i hj
   have hj:j=n:=by simpa using hj
   subst hj
   rcases cc h ao.1 with hs | ⟨xs,e⟩
   rotate_left
   ·grind [fR]
   obtain ⟨A1,iq,F1,m1,v1,jz,Fv,k1,k2,k3,k4,kr,k5,k6⟩:=mJ h hs hk
   have rx:=ah.length _ k6
   have Js:Z.length=e.sz+ps.length*e.sz:=by grind
   have RP:∀ {A2:Cells} {X2:FP} {m2:Md} {DO:Nat->FP},Rel P C A2 X2 iq a w F1->(∀ b i,aA (j+1) DO b i<=X2 b i)->(∀ (i:Nat) (y:e.den),v[i]?=some y->ah P w A2 e m2 [] y ((L.drop (i*e.sz)).take e.sz) (DO i)) ->
     ah P w A2 e m2 [] v1 jz (DO j)->wB iq e fz ps (j+1) m2 (v++[v1]) K=some x ->
     ∃ (A':Cells) (σ':St) (F':Nat->FP) (m':Md) (v':List e.den) (L':List Value) (X':FP) (zU:Nat->FP),K m' v' σ'=some x/\Rel P C A' X' σ' a w F'/\List.length v'=j+(ps.length+1)/\L'.length=(j+(ps.length+1))*e.sz/\(∀ b i,aA (j+(ps.length+1)) zU b i<=X' b i) /\
      (∀ (i:Nat) (y:e.den),v'[i]?=some y->ah P w A' e m' [] y ((L'.drop (i*e.sz)).take e.sz) (zU i))/\Instr.fill (λi=>some (i*e.sz,e.sz)) (L++Z).toArray ((j,a.eval y)::ps.map λp=>(p.1,a.eval p.2))=some L'.toArray:=by
    intro A2 X2 m2 DO U Uj nV DP f8
    obtain ⟨A',σ',F',m',v',L',X',zU,g1,g2,g3,g4,g5,g6,g7⟩:=ih (L:=L++jz) (Z:=Z.drop e.sz) (Fi:=DO) ao.2 U (by simp[hv]) (by grind) (by simp[Js]) Uj (λi z hz=>by
     by_cases hi:i=j
     ·grind
     ·have av:i < j:=by
       grind
      rw[List.getElem?_append_left (by omega)] at hz
      have h6:i*e.sz+e.sz<=j*e.sz:=by rw[<-Nat.succ_mul];exact Nat.mul_le_mul_right _ (by omega)
      grind) f8
    refine ⟨A',σ',F',m',v',L',X',zU,g1,g2,by omega,by grind,λb i=>by grind,g6,?_⟩
    rw[k5,tw (pl:=λi=>some (i*e.sz,e.sz)) rfl rx (eH rx (ah.one _ k6)) (by simp[hL,Js])]
    grind [List.drop_append,List.drop_of_length_le,Nat.add_sub_cancel_left]
   have p5:∀ (i:Nat) (y:e.den),v[i]?=some y->ah P w A1 e m [] y ((L.drop (i*e.sz)).take e.sz) (Fi i):=λi y hy=>ah.mono (P:=P) (A':=A1) k2 (λ_ _ _ _ h=>h) (λ_ _ h=>h) e (hr i y hy) (λ_ _=>Nat.le_refl _) (λ_ _ _ _ h=>h)
   split at k1
   ·rename_i hm
    subst hm
    refine RP (DO:=cx Fi j Fv) k3 (λb i=>?_) (λi y hy=>?_) (by grind [cx]) k1
    ·have h1:=qa j 1 (cx Fi j Fv) b i
     have U:aA j (cx Fi j Fv) b i=aA j Fi b i:=by rw[Ds Fi (Nat.le_refl j)]
     have h3:aA 1 (λk=>cx Fi j Fv (j+k)) b i=Fv b i:=by simp[aA,cx]
     grind
    grind [cx]
   ·
    have nl:∃ A2:Cells,(∀ b i,A1 b i->A2 b i)/\Rel P C A2 (λ_ _=>0) iq a w F1/\Ro P w A2 e v1 jz/\∀ (i:Nat) (y:e.den),v[i]?=some y->Ro P w A2 e y ((L.drop (i*e.sz)).take e.sz):=by
     refine ⟨λb i=>A1 b i\/1<=X b i+Fv b i,λ_ _ h=>.inl h,k3.giveUp (λ_ _ h=>.inl h) (λb i ha=>ha.imp id λhp=>⟨hp,rfl⟩) (λ_ _=>Nat.zero_le _),ah.o7 (λ_ _ h=>.inl h) e k6 (λb i hp=>.inr (by omega)),λi y hy=>?_⟩
     grind [ah.o7,bu]
    obtain ⟨A2,J,a2,a3,a4⟩:=nl
    exact RP (DO:=λ_ _ _=>0) a2 (λb i=>by grind [f7]) (λi y hy=>Ro.rep _ _ (cN _) (a4 i y hy)) (Ro.rep _ _ (cN _) a3) k1
  ·cases hk
theorem Br (h:bE P C A σ a w F) (fq:∀ i T,E.TI i=some T->aC P T (.inl i)=true) {t n:Nat} {ps:Array (Nat×Operand)} {fz:Nat->Bool} (ho:o.op=.buildSlice t n ps) (ao:ps.toList.all (λp=>bv P p.2)=true) {K:St->Option R}
  (hk:(jp E t λt=>match t with
  | .ae e=>if Nat.beq n ps.size&&e.oI&&Nat.ble (n*e.sz) 16777216 then wB σ e fz ps.toList 0 (ak e) [] λm v σ=>K (σ.aQ o.dst (.own (.ae e) (.ae true m) [] v)) else none
  | _=>none)=some x):o.wp P a w (λa' w'=>Nx P C K x a' w'/\Ext w w' (λ_ _=>0)) Q:=by
 obtain ⟨T,hT,hk⟩:=cG hk
 have dx:=fq _ _ hT
 split at hk
 ·rename_i e
  split at hk
  ·rename_i hc
   simp only[Bool.and_eq_true,Nat.beq_eq,Nat.ble_eq] at hc
   obtain ⟨⟨hn,hz⟩,jF⟩:=hc
   have hl:=dx
   simp only[aC,Bool.and_eq_true] at hl
   have U:=hl.2
   split at U
   ·rename_i el hu
    simp only[Bool.and_eq_true,Nat.ble_eq] at U
    obtain ⟨gn,kX⟩:=U
    obtain ⟨Lz,Jt⟩:=np e hz
    obtain ⟨r1,r2,r3⟩:=tr (P:=P) (w:=w) (A:=A) _ Jt kX
    obtain ⟨inf,i1,i2,i3,i4⟩:=eW (gq kX)
    obtain ⟨z,z1,z2⟩:=i4 Lz Jt
    have Uk:z.cells.size=e.sz:=by grind
    obtain ⟨A',σ',F',m',v',L',X',zU,g1,g2,g3,g4,g5,g6,g7⟩:=NL (P:=P) gn ps.toList (n:=0) (L:=[]) (Z:=((Array.range (n*e.sz)).map (z.cells[· % z.cells.size]!)).toList) (Fi:=λ_ _ _=>0) (m:=ak e) ao h rfl (by simp) (by simp[hn]) (λb i=>by grind [f7]) (λi y hy=>by cases hy) hk
    simp only[List.nil_append,Array.toArray_toList] at g7
    simp only[Nat.zero_add] at g3 g4 g5
    have zV:ps.toList.length=n:=by simpa using hn.symm
    rw[zV] at g3 g4 g5
    have eJ:(execOp a.eval o).run P w=.ok (.value (.slice (some ⟨w.heap.size,0,none⟩) n n)) (w.alloc (.cells L'.toArray el)):=by
     by_cases zW:n*e.sz=0
     ·have:n=0:=by rcases Nat.mul_eq_zero.1 zW with h | h <;> omega
      subst this
      have po:ps=#[]:=by grind
      subst po
      have Gg:L'=[]:=by simpa using g4
      subst Gg
      simp[execOp,ho,Instr.buildSlice,run_underlying hu,Go.sizeOf,typeInfo,i1,Instr.fill,newRow,show Array.range 0=#[] from rfl]
     simp_all [run_buildSlice,execOp]
    refine h_ (w':=w.alloc (.cells L'.toArray el)) eJ ?_
    have iA:=xX g2 (K:=K) (x:=x) (d:=o.dst) (e:=e) (m:=m') (v:=v') (c:=L'.toArray) (cap:=n) (el:=el) (fr:=(0,0)) (Fi:=zU) (.inr (Nat.le_refl _)) g1 (by simp[g4]) (by simp only[maxLen];have:=Nat.le_mul_of_pos_right n gn;omega) (by omega)
     (λb i=>by grind) (λi y hy=>⟨(L'.drop (i*e.sz)).take e.sz,ah.length _ (g6 i y hy),(λj u hu=>by
      grind),g6 i y hy⟩)
    grind [ic]
   ·cases U
  ·cases hk
 ·cases hk
end
end OT
set_option linter.unusedVariables false
set_option linter.unusedSimpArgs false
namespace OT
open Go
section
variable {P:Program} {C:Ctx} {A:Cells} {X:FP} {σ:St} {a:Act} {w:World} {F:Nat->FP} {R:Type} {x:R} {Q:Exit->Act->World->Prop} {o:Oper} {E:Env}
theorem Rel.world (h:Rel P C A X σ a w F) {w1:World} {G:FP} (hw:Ext w w1 G) (hG:∀ b i,1<=G b i->1<=X b i):Rel P C A X σ a w1 F:=by
 have lM:∀ b i,A b i->∀ u,ce w b i=some u->ce w1 b i=some u:=λb i ha u hu=>by
  refine hw.cell b i (h.eI b i (.inr ha)) ?_ u hu
  rcases Nat.eq_zero_or_pos (G b i) with h0 | h0
  ·exact h0
  ·exact absurd ha (h.jr b i (by grind))
 have wO:∀ j,j < σ.n->∀ b i,1<=F j b i->(∀ u,ce w b i=some u->ce w1 b i=some u)/\w1.frozen? ⟨b,i,none⟩=w.frozen? ⟨b,i,none⟩:=λj hj b i hp=>by
  have hs:=bu F hj b i
  have hb:=h.eI b i (.inl (by omega))
  refine ⟨λu hu=>hw.cell b i hb ?_ u hu,hw.qZ b i hb⟩
  rcases Nat.eq_zero_or_pos (G b i) with h0 | h0
  ·exact h0
  ·have:=hG b i h0;have:=h.iQ b i;omega
 have gJ:qb σ a w σ a w1:=λr p snap hb=>⟨hb,λao=>⟨ao,λhl pl dh=>⟨pl.H,pl.cs,by
  have av:=l_ dh
  exact n9 (h.cY r av) rfl rfl lM (λb i hp=>(wO r av b i hp).1) dh,λ_=>rfl⟩⟩⟩
 refine ⟨h.size,h.defers,λi hi=>bj.ge gJ (λ_ _ h=>h) lM hw.pZ (wO i hi) (h.cY i hi),λd r p snap hm=>kw.ge gJ (h.gh d r p snap hm),h.iQ,h.jr,λb i hp=>Nat.lt_of_lt_of_le (h.eI b i hp) hw.size,
  h.fG,h.ext.trans hw (λb i hb hz=>?_),h.own,h.a0,h.J,h.il,λr t m H v hg hl=>?_,λj k hm R' iR=>?_,h.o_⟩
 ·rcases Nat.eq_zero_or_pos (G b i) with h0 | h0
  ·exact h0
  ·rcases h.own b i (by grind) with h1 | h1 <;> omega
 ·obtain ⟨b,h1,U⟩:=h.whole r t m H v hg hl
  exact ⟨b,h1,hw.pZ _ _ U⟩
 ·rcases Nat.lt_or_ge j σ.n with hj | hj
  ·have fJ:=h.cY j hj
   cases ru:bC w (tmp a j) (σ.get j) with
   | none=>exfalso;cases hg:σ.get j <;> rw[hg] at ru iR <;> simp only[bC] at ru iR <;> first | grind | grind | grind
   | some R0=>
    rw[pc fJ (λb i hp=>(wO j hj b i hp).1) ru] at iR
    injection iR with iR
    subst iR
    exact h.gC j k hm _ ru
  ·rw[fL (Nat.not_lt.2 hj)] at iR;cases iR
theorem zX {b o sz:Nat} {n:Nat} (h:∀ i,i < n->∃ L:List Value,L.length=sz/\Has w b (o+i*sz) L):Has w b o (rd w b o (n*sz))/\∀ i L,i < n->L.length=sz->Has w b (o+i*sz) L->((rd w b o (n*sz)).drop (i*sz)).take sz=L:=by
 have QD:∀ j,j < n*sz->(ce w b (o+j)).isSome=true:=λj hj=>by
  have gn:0 < sz:=by grind
  have hi:j / sz < n:=Nat.div_lt_of_lt_mul (by grind)
  obtain ⟨L,h1,U⟩:=h _ hi
  have hm:j % sz < L.length:=by simp_all [Nat.mod_lt]
  have:=U (j % sz) _ (List.getElem?_eq_getElem hm)
  grind [Nat.div_add_mod]
 refine ⟨λj u hu=>?_,λi L hi hl hL=>?_⟩
 ·have hj:=(List.getElem?_eq_some_iff.1 hu).1
  rw[qG] at hj
  unfold rd at hu
  rw[List.getElem?_map,List.getElem?_range hj] at hu
  simp only[Option.map_some,Option.some.injEq] at hu
  obtain ⟨u',OR⟩:=Option.isSome_iff_exists.1 (QD j hj)
  grind
 ·have h6:i*sz+sz<=n*sz:=by rw[<-Nat.succ_mul];exact Nat.mul_le_mul_right _ (by omega)
  apply List.ext_getElem?
  intro j
  rw[List.getElem?_take,List.getElem?_drop]
  by_cases hj:j < sz
  ·rw[if_pos hj]
   unfold rd
   rw[List.getElem?_map,List.getElem?_range (by omega)]
   have:=hL j L[j] (List.getElem?_eq_getElem (by omega))
   grind
  grind
theorem HC {e:Ty} {m:Md} {H:List Path} (hH:hole H=false) {v:List e.den} {cs:List Value} {Fv:FP} (hr:ah P w A (.ae e) m H v cs Fv) :
  ∃ xa cap news Fi,cs=[.slice xa (List.length v) cap]/\(List.length v<=cap/\(xa=none->List.length v=0))/\(∀ ad,xa=some ad->(0 < cap->ad.spot=none)/\Has w ad.block ad.off news)/\news.length=List.length v*e.sz/\(∀ u ∈ news,u.oneCell'=true) /\
   (∀ (i:Nat) (y:e.den),v[i]?=some y->ah P w A e m.e (H.filterMap (fm i)) y ((news.drop (i*e.sz)).take e.sz) (Fi i))/\(∀ b i,aA (List.length v) Fi b i<=Fv b i) /\
   (m.own=true->List.length v<=cap/\cap<=maxLen/\(xa=none->cap=0)/\∀ ad,xa=some ad->ad.off=0/\ad.spot=none/\dg w ad.block (cap*e.sz,Bf e)/\∀ b i,bP ad.block 0 (cap*e.sz) b i+aA (List.length v) Fi b i<=Fv b i):=by
 have jN:∀ (news:List Value) (Fi:Nat->FP),news.length=List.length v*e.sz->(∀ (i:Nat) (y:e.den),v[i]?=some y->ah P w A e m.e (H.filterMap (fm i)) y ((news.drop (i*e.sz)).take e.sz) (Fi i))->∀ u ∈ news,u.oneCell'=true:=by
  intro news Fi hl kX u hu
  obtain ⟨j,hj,rfl⟩:=List.mem_iff_getElem.1 hu
  have gn:0 < e.sz:=by grind
  have hi:j / e.sz < List.length v:=Nat.div_lt_of_lt_mul (by grind)
  have h1:=ah.one _ (kX _ _ (List.getElem?_eq_getElem hi))
  refine h1 _ (List.mem_of_getElem? (i:=j % e.sz) ?_)
  grind [Nat.mod_lt,Nat.div_add_mod]
 simp only[ah,hH,Bool.false_eq_true,if_false] at hr
 split at hr
 ·rename_i dj
  obtain ⟨xa,cap,rfl,h1,U,h3,h4⟩:=hr
  cases xa with
  | none=>
   have jF:=h3 rfl
   have wV:List.length v=0:=by omega
   have hv:v=[]:=List.eq_nil_of_length_eq_zero wV
   subst hv
   exact ⟨none,cap,[],λ_ _ _=>0,rfl,⟨Nat.zero_le _,λ_=>rfl⟩,(λad e=>by cases e),by simp,(λu hu=>by cases hu),(λi y hy=>by cases hy),λb i=>by grind [f7],λ_=>⟨h1,U,h3,λad e=>by cases e⟩⟩
  | some ad=>
   obtain ⟨g1,g2,g3,Fi,g4,g5⟩:=h4 ad rfl
   have hp:∀ i,i < List.length v->∃ L:List Value,L.length=e.sz/\Has w ad.block (0+i*e.sz) L:=λi hi=>by
    obtain ⟨L,l1,l2,_⟩:=g5 i _ (List.getElem?_eq_getElem hi)
    grind
   obtain ⟨p1,p2⟩:=zX hp
   have kX:∀ (i:Nat) (y:e.den),v[i]?=some y->ah P w A e m.e (H.filterMap (fm i)) y (((rd w ad.block 0 (List.length v*e.sz)).drop (i*e.sz)).take e.sz) (Fi i):=λi y hy=>by
    grind
   refine ⟨some ad,cap,rd w ad.block 0 (List.length v*e.sz),Fi,rfl,⟨h1,(λe=>by cases e)⟩,λbl e=>?_,qG _ _ _ _,jN _ _ (qG _ _ _ _) kX,kX,λb i=>by grind,λ_=>⟨h1,U,h3,λbl e=>?_⟩⟩
   all_goals grind
 ·rename_i dj
  obtain ⟨rfl,iz,xa,cap,rfl,h1,U,h3⟩:=hr
  cases xa with
  | none=>
   have hv:v=[]:=List.eq_nil_of_length_eq_zero (U rfl)
   subst hv
   exact ⟨none,cap,[],λ_ _ _=>0,rfl,⟨Nat.zero_le _,λ_=>rfl⟩,(λad e=>by cases e),by simp,(λu hu=>by cases hu),(λi y hy=>by cases hy),(λb i=>by grind [f7]),λh=>absurd h dj⟩
  | some ad=>
   obtain ⟨g1,g2⟩:=h3 ad rfl
   have hp:∀ i,i < List.length v->∃ L:List Value,L.length=e.sz/\Has w ad.block (ad.off+i*e.sz) L:=λi hi=>by
    obtain ⟨L,l1,l2,_⟩:=g2 i _ (List.getElem?_eq_getElem hi)
    exact ⟨L,l1,λj u hu=>(l2 j u hu).1⟩
   obtain ⟨p1,p2⟩:=zX hp
   have kX:∀ (i:Nat) (y:e.den),v[i]?=some y->ah P w A e m.e (([]:List Path).filterMap (fm i)) y (((rd w ad.block ad.off (List.length v*e.sz)).drop (i*e.sz)).take e.sz) (λ_ _=>0):=λi y hy=>by
    obtain ⟨L,l1,l2,l3⟩:=g2 i y hy
    rw[p2 i L (List.getElem?_eq_some_iff.1 hy).1 l1 (λj u hu=>(l2 j u hu).1)]
    grind [Ro.rep]
   refine ⟨some ad,cap,rd w ad.block ad.off (List.length v*e.sz),λ_ _ _=>0,rfl,⟨h1,(λe=>by cases e)⟩,λbl e=>?_,qG _ _ _ _,jN _ _ (qG _ _ _ _) kX,kX,(λb i=>by grind [f7]),λh=>absurd h dj⟩
   grind
theorem wW {e:Ty} {m:Md} {v:List e.den} {cs:List Value} {Fv:FP} (hr:ah P w A (.ae e) m [] v cs Fv) :
  ∃ xa cap news Fi,cs=[.slice xa (List.length v) cap]/\(List.length v<=cap/\(xa=none->List.length v=0))/\(∀ ad,xa=some ad->(0 < cap->ad.spot=none)/\Has w ad.block ad.off news)/\news.length=List.length v*e.sz/\(∀ u ∈ news,u.oneCell'=true) /\
   (∀ (i:Nat) (y:e.den),v[i]?=some y->ah P w A e m.e [] y ((news.drop (i*e.sz)).take e.sz) (Fi i))/\(∀ b i,aA (List.length v) Fi b i<=Fv b i) /\
   (m.own=true->List.length v<=cap/\cap<=maxLen/\(xa=none->cap=0)/\∀ ad,xa=some ad->ad.off=0/\ad.spot=none/\dg w ad.block (cap*e.sz,Bf e)/\∀ b i,bP ad.block 0 (cap*e.sz) b i+aA (List.length v) Fi b i<=Fv b i):=
 HC rfl hr
theorem Bs (h:Rel P C A X σ a w F) {s:Slot} {tv:Value} {G:FP} (hs:bj P A σ a w tv s G) {mv:Bool} {e:Ty} {tx:TypeId} (tz:(∃ e',P.underlying tx=some (.slice e'))\/P.underlying tx=some .string)
  {K:Md->List e.den->St->Option R} (hk:tn σ s e mv K=some x) :
  ∃ (A':Cells) (σ':St) (F':Nat->FP) (me:Md) (y:List e.den) (news:List Value) (Fv:FP) (Fi:Nat->FP),K me y σ'=some x/\(∀ b i,A b i->A' b i)/\Rel P C A' (λb i=>X b i+Fv b i) σ' a w F'/\jM σ σ' /\
   Src P e.sz tx tv (List.length y) news w/\(∀ k,k<=List.length y->(Builtin.firstCells e.sz k tv).run P w=.ok (news.take (k*e.sz)).toArray w)/\(∀ (i:Nat) (z:e.den),y[i]?=some z->ah P w A' e me [] z ((news.drop (i*e.sz)).take e.sz) (Fi i))/\∀ b i,aA (List.length y) Fi b i<=Fv b i:=by
 unfold tn at hk
 split at hk
 ·rename_i s'
  obtain ⟨e1,hk⟩:=bh hk
  injection e1 with e1
  subst e1
  obtain ⟨cs,h1,U⟩:=hs
  simp only[Ro] at U
  subst U
  have sq:tv=.string ⟨List.toArray s'⟩:=h1
  subst sq
  have hlen:(byteCells ⟨List.toArray s'⟩)=List.map (λ(b:UInt8)=>Value.int .u8 b.toNat) s':=by simp[byteCells]
  have gn:(⟨List.toArray s'⟩:ByteArray).size=List.length s':=rfl
  refine ⟨A,σ,F,.leaf,s',byteCells ⟨List.toArray s'⟩,λ_ _=>0,λ_ _ _=>0,hk,λ_ _ h=>h,h,jM.refl σ,⟨tz,λ_=>rfl,firstCells_string _ w,firstCells_string _ w.drew,by grind [Ty.sz],λu hu=>?_⟩,λk hk=>?_,λi z hz=>?_,λb i=>by grind [f7]⟩
  ·obtain ⟨_,_,rfl⟩:=List.mem_map.1 hu;rfl
  ·rw[hlen]
   have SR:((⟨List.toArray s'⟩:ByteArray).extract 0 k).data.toList=s'.take k:=by simp[ByteArray.data_extract]
   simp only[Builtin.firstCells,Sem.run_pure,Ty.sz,Nat.mul_one]
   simp_all
  ·have:((byteCells ⟨List.toArray s'⟩).drop (i*Ty.sz (.int .u8))).take (Ty.sz (.int .u8))=[Value.int .u8 z.toNat]:=by
    show ((byteCells ⟨List.toArray s'⟩).drop (i*1)).take 1=_
    grind [List.take_one,List.head?_drop]
   exact this
 ·rename_i s' Ub
  obtain ⟨A',σ',F',m,v,cs,Fv,k1,k2,k3,k4,kr,k5,k6⟩:=mJ h hs hk
  obtain ⟨xa,cap,news,Fi,r1,r2,r3,r4,r5,r6,r7,r8⟩:=wW k6
  rw[r1,bL _ _ rfl] at k5
  subst k5
  have DF:∀ ad,xa=some ad->∀ j u,news[j]?=some u->w.cell? (ad.add j)=some u:=λad e1 j u hu=>by
   obtain ⟨g1,g2⟩:=r3 ad e1
   have hj:=(List.getElem?_eq_some_iff.1 hu).1
   have Bo:0 < cap:=by
    grind
   obtain ⟨b,off,sp⟩:=ad
   have:=g1 Bo
   simp only at this
   subst this
   rw[jE]
   exact nG (g2 j u hu) (r5 u (List.mem_of_getElem? hu))
  refine ⟨A',σ',F',m.e,v,news,Fv,Fi,k1,k2,k3,kr,?_,?_,r6,r7⟩
  rotate_left
  ·intro k hk
   cases xa with
   | none=>
    simp_all [run_firstCells_none]
   | some ad=>
    grind [Nat.mul_le_mul_right,run_firstCells_some]
  cases xa with
  | none=>
   have h0:=r2.2 rfl
   have hn:news=[]:=List.eq_nil_of_length_eq_zero (by grind)
   subst hn
   rw[h0]
   exact ⟨tz,λ_=>rfl,run_firstCells_none w e.sz 0 0 cap,run_firstCells_none w.drew e.sz 0 0 cap,by simp,λu hu=>by cases hu⟩
  | some ad=>
   have hc:=DF ad rfl
   exact ⟨tz,λ_=>rfl,run_firstCells_some w e.sz (List.length v) ad (List.length v) cap news r4 hc,run_firstCells_some w.drew e.sz (List.length v) ad (List.length v) cap news r4 (by simpa using hc),r4,r5⟩
theorem DQ {e:Ty} {me:Md} {v y:List e.den} {pp news:List Value} {Fi Gi:Nat->FP} (hl:pp.length=List.length v*e.sz)
  (h1:∀ (i:Nat) (z:e.den),v[i]?=some z->ah P w A e me [] z ((pp.drop (i*e.sz)).take e.sz) (Fi i)) (U:∀ (i:Nat) (z:e.den),y[i]?=some z->ah P w A e me [] z ((news.drop (i*e.sz)).take e.sz) (Gi i)) :
  ∀ (i:Nat) (z:e.den),(v++y)[i]?=some z->ah P w A e me [] z (((pp++news).drop (i*e.sz)).take e.sz) (if i < List.length v then Fi i else Gi (i - List.length v)):=by
 intro i z hz
 by_cases hi:i < List.length v
 ·rw[if_pos hi]
  rw[List.getElem?_append_left hi] at hz
  have h6:i*e.sz+e.sz<=List.length v*e.sz:=by rw[<-Nat.succ_mul];exact Nat.mul_le_mul_right _ (by omega)
  grind
 grind [Nat.mul_le_mul_right,List.drop_append,List.drop_of_length_le,Nat.sub_mul]
theorem KW (n m:Nat) (Fi Gi:Nat->FP) (b i:Nat):aA (n+m) (λi=>if i < n then Fi i else Gi (i - n)) b i=aA n Fi b i+aA m Gi b i:=by
 rw[qa]
 congr 1
 all_goals simp_all [o6,if_neg]
theorem Ro.indep {A':Cells}:∀ (t:Ty) {v:t.den} {cs:List Value},t.flat=true->t.jo=true->Ro P w A t v cs->Ro P w A' t v cs:=by
 intro t
 induction t with
 | pair a b fQ fI=>
  intro v cs hf hn h
  simp only[Ty.flat,Ty.jo,Bool.and_eq_true] at hf hn
  exact ⟨fQ hf.1 hn.1 h.1,fI hf.2 hn.2 h.2⟩
 | arr n e ih=>
  intro v cs hf hn h
  exact ⟨h.1,h.2.1,h.2.2.1,λi x hx=>ih hf hn (h.2.2.2 i x hx)⟩
 | ae e ih=>grind [Ty.flat]
 | ptr e ih=>grind [Ty.flat]
 | fn=>grind [Ty.jo]
 | map k v=>grind [Ty.flat]
 | _=>intro v cs hf hn h;exact h
theorem zY {A1 A2:Cells} {fS:St} {F2:Nat->FP} {t tx:Nat} {y z:Operand} (ho:o.op=.call { callee:=.builtin .append,args:=#[y,z],argTypes:=#[t,tx] }) {e:Ty} {el:Nat} (hu:P.underlying t=some (.slice el)) (kX:aC P e (.inl el)=true)
  {m me:Md} {v yv:List e.den} {cs news:List Value} {Fv Fw:FP} {Gi:Nat->FP} {K:St->Option R} (dj:m.own=true) (k5:a.eval y=bq (.ae e) cs) (k6:ah P w A1 (.ae e) m [] v cs Fv) (jF:v.length+yv.length<=cJ)
  (q1:K (fS.aQ o.dst (.own (.ae e) (.ae true (if me=m.e then me else aw e)) [] (v++yv)))=some x) (q2:∀ b i,A1 b i->A2 b i) (q3:Rel P C A2 (λb i=>0+Fv b i+Fw b i) fS a w F2)
  (q4:Src P e.sz tx (a.eval z) (List.length yv) news w) (q5:∀ (i:Nat) (z:e.den),yv[i]?=some z->ah P w A2 e me [] z ((news.drop (i*e.sz)).take e.sz) (Gi i)) (q6:∀ b i,aA (List.length yv) Gi b i<=Fw b i):o.wp P a w (Nx P C K x) Q:=by
 obtain ⟨inf,zv,i1,i2,i3,i4,i5,_⟩:=yr (gq kX)
 obtain ⟨xa,cap,pp,Fi,r1,r2,r3,r4,r5,r6,r7,r8⟩:=wW k6
 obtain ⟨c1,c2,c3,c4⟩:=r8 dj
 rw[r1,bL _ _ rfl] at k5
 have RR:∀ (i:Nat) (z:e.den),v[i]?=some z->ah P w A2 e m.e [] z ((pp.drop (i*e.sz)).take e.sz) (Fi i):=λi z hz=>ah.mono (P:=P) (A':=A2) q2 (λ_ _ _ _ h=>h) (λ_ _ h=>h) e (r6 i z hz) (λ_ _=>Nat.le_refl _) (λ_ _ _ _ h=>h)
 have rg:∃ (A3:Cells) (X3:FP) (Hi:Nat->FP),Rel P C A3 X3 fS a w F2/\(∀ (i:Nat) (z:e.den),(v++yv)[i]?=some z->ah P w A3 e (if me=m.e then me else aw e) [] z (((pp++news).drop (i*e.sz)).take e.sz) (Hi i)) /\
   (∀ b i,aA (List.length v+List.length yv) Hi b i<=X3 b i)/\∀ ad,xa=some ad->∀ b i,bP ad.block 0 (cap*e.sz) b i+aA (List.length v+List.length yv) Hi b i<=X3 b i:=by
  by_cases wk:me=m.e
  ·subst wk
   refine ⟨A2,_,_,q3,by simp only[if_true];exact DQ r4 RR q5,λb i=>?_,λad ey b i=>?_⟩
   all_goals grind [KW]
  ·simp only[if_neg wk]
   obtain ⟨B,WT,MB,WU⟩:∃ B:FP,(∀ b i,B b i+aA (List.length v) Fi b i<=Fv b i)/\(∀ ad,xa=some ad->∀ b i,bP ad.block 0 (cap*e.sz) b i=B b i)/\∀ b i,B b i<=1:=by
    cases xa with
    | none=>exact ⟨λ_ _=>0,λb i=>by grind,(λad e=>by cases e),λ_ _=>Nat.zero_le _⟩
    | some ad=>exact ⟨bP ad.block 0 (cap*e.sz),(c4 ad rfl).2.2.2,(λbl e=>by grind),λb i=>by grind [bP]⟩
   obtain ⟨A3,ku⟩:∃ A3:Cells,∀ b i,A3 b i↔(A2 b i\/(1<=0+Fv b i+Fw b i/\B b i=0)):=⟨λb i=>A2 b i\/(1<=0+Fv b i+Fw b i/\B b i=0),λ_ _=>Iff.rfl⟩
   refine ⟨A3,B,λ_ _ _=>0,q3.giveUp (λb i h=>(ku b i).2 (.inl h)) (λb i ha=>(ku b i).1 ha) (λb i=>by grind),?_,λb i=>by grind [f7],λad ey b i=>by grind [f7]⟩
   have pe:∀ b i,(0+Fv b i+Fw b i)+aA fS.n F2 b i<=1:=λb i=>q3.iQ b i
   have Ul:∀ (i:Nat) (z:e.den),v[i]?=some z->ah P w A3 e (aw e) [] z ((pp.drop (i*e.sz)).take e.sz) (λ_ _=>0):=λi z hz=>Ro.rep _ _ (cN _) (ah.o7 (λb i h=>(ku b i).2 (.inl h)) e (RR i z hz) λb k hp=>(ku b k).2 (.inr (by
    grind [bu])))
   have Um:∀ (i:Nat) (z:e.den),yv[i]?=some z->ah P w A3 e (aw e) [] z ((news.drop (i*e.sz)).take e.sz) (λ_ _=>0):=λi z hz=>Ro.rep _ _ (cN _) (ah.o7 (λb i h=>(ku b i).2 (.inl h)) e (q5 i z hz) λb k hp=>(ku b k).2 (.inr (by
    grind [bu])))
   exact λi z hz=>by simpa using DQ (Fi:=λ_ _ _=>0) (Gi:=λ_ _ _=>0) r4 Ul Um i z hz
 obtain ⟨A3,X3,Hi,n1,n2,n3,n4⟩:=rg
 have Gj:List.length (v++yv)=List.length v+List.length yv:=by simp
 by_cases zZ:List.length v+List.length yv<=cap
 ·cases xa with
  | none=>
   have WV:=c3 rfl
   have wV:v=[]:=List.eq_nil_of_length_eq_zero (by omega)
   have Un:yv=[]:=List.eq_nil_of_length_eq_zero (by omega)
   subst wV;subst Un
   have qI:(Builtin.firstCells e.sz 0 (a.eval z)).run P w=.ok news.toArray w:=by have:=q4.cells;simpa using this
   have eJ:(execOp a.eval o).run P w=.ok (.value (.slice none 0 cap)) w:=by
    rcases q4.kind with ⟨e',kY⟩ | kY <;>
     simp[execOp,ho,resolve,invoke,builtin,Builtin.append_,k5,run_underlying hu,run_underlying kY,Go.sizeOf,typeInfo,i1,q4.len,i2,qI]
   refine h_ eJ (jd n1 q1 (Fd:=λ_ _=>0) ⟨[.slice none 0 cap],(bL _ _ rfl).symm,?_⟩ (λ_ _=>Nat.zero_le _) (λ_ _ _ _ e=>by cases e))
   grind [ah,Md.own]
  | some ad=>
   obtain ⟨d1,d4,d2,d3⟩:=c4 ad rfl
   obtain ⟨_,d5⟩:=r3 ad rfl
   obtain ⟨b,off,sp⟩:=ad
   simp only at d1 d2 d3 d4 d5
   subst d1;subst d4
   have Uo:∀ b' i,bP b 0 (cap*e.sz) b' i+aA (List.length v+List.length yv) Hi b' i<=X3 b' i:=n4 _ rfl
   have zV:=q4.newsLen
   have sA:List.length v*e.sz+news.length<=cap*e.sz:=by rw[zV,<- Nat.add_mul];exact Nat.mul_le_mul_right _ zZ
   have kZ:∀ j,j < cap*e.sz->(w.cell? ⟨b,j,none⟩).isSome=true:=λj hj=>by
    obtain ⟨c,e',fr,w1,w2,w3⟩:=d2
    grind [World.cell?]
   have eJ:=run_append_room_src (P:=P) w t tx o.type el inf hu i1 b 0 (List.length v) cap (a.eval z) (List.length yv) news (by grind) zZ (λj hj=>by grind) (λj hj=>by rw[i2,Nat.zero_add];exact d2.frozen (by omega))
   rw[i2,Nat.zero_add] at eJ
   have HD:(execOp a.eval o).run P w=.ok (.value (.slice (some ⟨b,0,none⟩) (List.length v+List.length yv) cap)) (w.setCells b (List.length v*e.sz) news):=by
    simp_all [execOp,resolve,invoke,builtin]
   have cr:=ky (b:=b) (o:=List.length v*e.sz) news w (List.length v*e.sz)
   have Up:∀ b' i,1<=bP b (List.length v*e.sz) news.length b' i->1<=bP b 0 (cap*e.sz) b' i:=λb' i hp=>by
    grind [bP]
   have MC:=n1.world cr (λb' i hp=>by grind)
   refine h_ HD (jd MC q1 (Fd:=X3) ⟨[.slice (some ⟨b,0,none⟩) (List.length v+List.length yv) cap],(bL _ _ rfl).symm,?_⟩ (λ_ _=>Nat.le_refl _) (λ_ _ _ _ e=>by cases e))
   simp only[ah,hole,List.any_nil,Bool.false_eq_true,if_false,Md.own,if_true,Md.e]
   refine ⟨some ⟨b,0,none⟩,cap,by rw[Gj],by omega,c2,(λe=>by cases e),λbl e'=>?_⟩
   injection e' with e';subst e'
   refine ⟨rfl,rfl,cr.pZ _ _ d2,Hi,λb' i=>by grind,λi zz hz=>?_⟩
   have dw:=n2 i zz hz
   have DR:i < List.length v+List.length yv:=by grind
   refine ⟨_,ah.length _ dw,?_,?_⟩
   ·
    have mf:Has (w.setCells b (List.length v*e.sz) news) b 0 (pp++news):=λj u hu=>by
     rw[Nat.zero_add]
     by_cases hj:j < pp.length
     ·rw[List.getElem?_append_left hj] at hu
      have hold:=d5 j u hu
      rw[Nat.zero_add] at hold
      refine cr.cell b j (by obtain ⟨c,e',fr,w1,_⟩:=d2;grind) ?_ u hold
      grind [bP]
     ·rw[List.getElem?_append_right (by omega)] at hu
      have:=su (w:=w) (b:=b) (o:=List.length v*e.sz) (L:=news) (λk hk=>kZ _ (by omega)) q4.one _ u hu
      grind
    intro j u hu
    rw[List.getElem?_take] at hu
    split at hu
    ·rw[List.getElem?_drop] at hu
     have:=mf _ u hu
     grind
    ·cases hu
   ·simp only[List.filterMap_nil]
    refine ah.mono (P:=P) (λ_ _ h=>h) (λb' k ha u hu=>cr.cell b' k (n1.eI b' k (.inr ha)) ?_ u hu) cr.pZ e dw (λ_ _=>Nat.le_refl _) (λb' k hp u hu=>cr.cell b' k ?_ ?_ u hu)
    ·rcases Nat.eq_zero_or_pos (bP b (List.length v*e.sz) news.length b' k) with h0 | h0
     ·exact h0
     ·exact absurd ha (n1.jr b' k (by grind))
    ·exact n1.eI b' k (.inl (by grind [bu]))
    ·rcases Nat.eq_zero_or_pos (bP b (List.length v*e.sz) news.length b' k) with h0 | h0
     ·exact h0
     ·have h1:=Up b' k h0;have U:=Uo b' k;have h3:=bu Hi DR b' k;have h4:=n1.iQ b' k;omega
 ·
  have QE:(Builtin.firstCells inf.size (List.length v) (.slice xa (List.length v) cap)).run P w.drew=.ok pp.toArray w.drew:=by
   cases xa with
   | none=>
    simp_all [run_firstCells_none]
   | some ad=>
    obtain ⟨_,d4,_,_⟩:=c4 ad rfl
    obtain ⟨_,d5⟩:=r3 ad rfl
    obtain ⟨b,off,sp⟩:=ad
    simp only at d4 d5
    subst d4
    exact run_firstCells_some w.drew inf.size (List.length v) ⟨b,off,none⟩ (List.length v) cap pp (by grind) (λj u hu=>by rw[jE];exact nG (d5 j u hu) (r5 u (List.mem_of_getElem? hu)))
  simp only[cJ] at jF
  have eJ:=run_append_grow_src (P:=P) w t tx o.type el inf zv hu i1 i4 xa (List.length v) cap pp QE (a.eval z) (List.length yv) news (by grind) (by omega) (by omega)
   (growslice_fits (by omega) (Nat.le_trans (Nat.mul_le_mul jF i3) (by decide)))
  have HD:(execOp a.eval o).run P w=.ok (.value (.slice (some ⟨w.heap.size,0,none⟩) (List.length v+List.length yv) (grownCap w (List.length v+List.length yv) cap el)))
    (w.drew.alloc (.cells ((pp++news).toArray++Builtin.zeroCells zv.cells (grownCap w (List.length v+List.length yv) cap el - (List.length v+List.length yv))) el)):=by
   simp_all [execOp,resolve,invoke,builtin]
  have MA:=grownCap_ge w (List.length v+List.length yv) cap el
  have Uq:=grownCap_le_maxLen w (List.length v+List.length yv) cap el (by grind [maxLen])
  have zV:=q4.newsLen
  have iA:=xX n1.drew (K:=K) (x:=x) (d:=o.dst) (e:=e) (m:=if me=m.e then me else aw e) (v:=v++yv) (c:=(pp++news).toArray++Builtin.zeroCells zv.cells (grownCap w (List.length v+List.length yv) cap el - (List.length v+List.length yv)))
   (cap:=grownCap w (List.length v+List.length yv) cap el) (el:=el) (fr:=(0,0)) (Fi:=Hi) (.inr (Nat.le_refl _)) q1
   (by
    rw[Array.size_append,size_zeroCells,i5,List.size_toArray,List.length_append,r4,zV,<- Nat.add_mul,<- Nat.add_mul]
    congr 1;omega) Uq (by grind)
   (λb i=>by grind) (λi zz hz=>by
    have dw:=n2 i zz hz
    refine ⟨_,ah.length _ dw,λj u hu=>?_,ah.mono (P:=P) (w:=w) (w':=w.drew) (A:=A3) (A':=A3) (λ_ _ h=>h) (λ_ _ _ _ h=>h) (λb n hn=>hn) e dw (λ_ _=>Nat.le_refl _) (λ_ _ _ _ h=>h)⟩
    grind)
  rw[Gj] at iA
  exact h_ HD iA
theorem step_append (h:bE P C A σ a w F) (fq:∀ i T,E.TI i=some T->aC P T (.inl i)=true) {t tx:Nat} {y z:Operand} (ho:o.op=.call { callee:=.builtin .append,args:=#[y,z],argTypes:=#[t,tx] }) (ao:bv P y=true/\bv P z=true)
  (tz:(∃ e',P.underlying tx=some (.slice e'))\/P.underlying tx=some .string) {mv tf:Bool} {K:St->Option R} (hk:A9 E σ t (bz σ y) z mv tf o.dst K=some x):o.wp P a w (Nx P C K x) Q:=by
 unfold A9 at hk
 obtain ⟨T,hT,hk⟩:=cG hk
 have dx:=fq _ _ hT
 split at hk
 ·rename_i e
  have hl:=dx
  simp only[aC,Bool.and_eq_true] at hl
  have U:=hl.2
  split at U
  rotate_left
  ·cases U
  rename_i el hu
  simp only[Bool.and_eq_true,Nat.ble_eq] at U
  obtain ⟨gn,kX⟩:=U
  split at hk
  ·rename_i DS
   simp only[Bool.and_eq_true] at DS
   obtain ⟨_,DS,Gx⟩:=DS
   rcases cc h ao.2 with ry | ⟨xs,e'⟩
   rotate_left
   ·grind [tn,fR]
   obtain ⟨A0,WW,F0,me,yv,news,Fw,Gi,q1,_,_,_,q4,_,q5,_⟩:=Bs h ry tz hk
   rcases cc h ao.1 with hs | ⟨xs,e'⟩
   rotate_left
   ·grind [fR]
   obtain ⟨A1,iq,F1,m,v,cs,Fv,k1,k2,k3,k4,kr,k5,k6⟩:=mJ h hs q1
   split at k1
   rotate_left
   ·cases k1
   rename_i dj
   split at k1
   rotate_left
   ·cases k1
   rename_i jF
   exact zY (me:=aw e) (Fw:=λ_ _=>0) (Gi:=λ_ _ _=>0) ho hu kX dj k5 k6 jF (by grind) (λ_ _ h=>h) k3 q4
    (λi zz hz=>Ro.rep _ _ (cN _) (Ro.indep e DS Gx (ah.flat e DS (q5 i zz hz)))) (λb i=>by grind [f7])
  rcases cc h ao.1 with hs | ⟨xs,e'⟩
  rotate_left
  ·grind [fR]
  obtain ⟨A1,iq,F1,m,v,cs,Fv,k1,k2,k3,k4,kr,k5,k6⟩:=mJ h hs hk
  split at k1
  rotate_left
  ·cases k1
  rename_i dj
  rcases cc k3 ao.2 with ry | ⟨xs,e'⟩
  rotate_left
  ·grind [tn,fR]
  obtain ⟨A2,fS,F2,me,yv,news,Fw,Gi,q1,q2,q3,qr,q4,_,q5,q6⟩:=Bs k3 ry tz k1
  split at q1
  rotate_left
  ·cases q1
  rename_i jF
  exact zY ho hu kX dj k5 k6 jF q1 q2 q3 q4 q5 q6
 ·cases hk
end
end OT
set_option linter.unusedVariables false
set_option linter.unusedSimpArgs false
namespace OT
open Go
section
variable {P:Program} {C:Ctx} {A:Cells} {X:FP} {σ:St} {a:Act} {w:World} {F:Nat->FP} {R:Type} {x:R} {Q:Exit->Act->World->Prop} {o:Oper} {E:Env}
theorem CM (h:bE P C A σ a w F) {f:Nat} {first cs:Array Operand} (ho:o.op=.makeFunc (.func f) first cs) (bk:(P.funcs[f]?).any (λfn=>fn.nfree == cs.size)=true) {K:St->Option R}
  (hk:(if first.size=0 then
   match cs.toList with
   | []=>K (σ.aQ o.dst (.val .fn (f,0)))
   | [.tmp i]=>match σ.get i with
    | .box (.int .i64) _ _ n=>K (((σ.put i .dead).put i (.cp (.int .i64) n)).aQ o.dst (.val .fn (f,n)))
    | _=>none
   | _=>none
  else none)=some x):Tk P o a w (Nx P C K x):=by
 simp only[Option.any_eq_true,beq_iff_eq] at bk
 obtain ⟨fn,hf,hn⟩:=bk
 split at hk
 ·rename_i h0
  have DT:first=#[]:=Array.eq_empty_of_size_eq_zero h0
  subst DT
  split at hk
  ·rename_i mX
   have mX:cs=#[]:=by grind
   subst mX
   refine cR (v:=.func (.func f) #[] #[]) (by simp[execOp,ho,Instr.makeFunc]) (aY h hk ⟨[.func (.func f) #[] #[]],rfl,#[],rfl,fn,hf,.inl ⟨by simpa using hn,rfl⟩⟩ (λ_ _ _ _ e=>by cases e))
  ·rename_i i mX
   have mX:cs=#[.tmp i]:=by grind
   subst mX
   split at hk
   ·rename_i m H n hg
    have hi:i < σ.n:=by
     grind [fL]
    have hs:=h.cY i hi
    rw[hg] at hs
    obtain ⟨b,off,L,F1,s1,s2,s3,s4,s5,s6⟩:=hs
    simp only[ah,Ro] at s6
    subst s6
    have h1:=h.put hi (s:=.dead) (v:=tmp a i) (Fd:=λ_ _=>0) (X':=F i) trivial (λb k=>by omega) (λ_ _ _ _ e=>by cases e)
    rw[kx] at h1
    have hle:∀ b' i',bP b off 1 b' i'<=F i b' i':=λb' i'=>by grind
    have U:=h1.giveUp (A1:=λb' i'=>A b' i'\/1<=bP b off 1 b' i') (X1:=λ_ _=>0) (λ_ _ h=>.inl h) (λb' i' ha=>ha.imp id λhp=>⟨by grind,rfl⟩) (λ_ _=>Nat.zero_le _)
    have kZ:ce w b off=some (.int .i64 n):=s3 0 _ rfl
    have hA:1<=bP b off 1 b off:=by simp[bP]
    have h3:=U.put (d:=i) hi (s:=.cp (.int .i64) n) (v:=tmp a i) (Fd:=λ_ _=>0) (X':=λ_ _=>0)
     ⟨⟨b,off,none⟩,by rw[s1],rfl,[.int .i64 n],rfl,(λj u hu=>by
      grind),rfl⟩ (λb k=>by omega) (λ_ _ _ _ e=>by cases e)
    rw[kx] at h3
    have ev:a.eval (.tmp i)=.pointer (some ⟨b,off,none⟩):=s1
    refine cR (v:=.func (.func f) #[] #[.pointer (some ⟨b,off,none⟩)]) (by simp[execOp,ho,Instr.makeFunc,ev])
     (aY h3 hk ⟨[.func (.func f) #[] #[.pointer (some ⟨b,off,none⟩)]],rfl,_,rfl,fn,hf,.inr ⟨by simpa using hn,_,rfl,rfl,kZ,.inr hA⟩⟩ (λ_ _ _ _ e=>by cases e))
   ·cases hk
  ·cases hk
 ·cases hk
theorem Fy (h:bE P C A σ a w F) {y:Operand} (ho:o.op=.assign y) (ao:bv P y=true) {T:Nat} {mv:Bool} {K:St->Option R} (hk:A_ E σ T y mv o.dst K=some x):Tk P o a w (Nx P C K x):=by
 refine cR (v:=a.eval y) (by simp[execOp,ho]) ?_
 unfold A_ at hk
 by_cases SS:∃ i xs,y=.tmp i/\σ.get i=.kM xs
 ·obtain ⟨i,xs,rfl,hg⟩:=SS
  have e:bz σ (.tmp i)=.kM xs:=by grind [bz]
  rw[e] at hk
  cases xs with
  | nil=>
   have hi:i < σ.n:=by
    grind [fL]
   have hs:=h.cY i hi
   rw[hg] at hs
   obtain ⟨vs,Fi,h1,U,h3⟩:=hs
   exact aY h hk ⟨vs,λ_ _ _=>0,h1,λb i=>by simp[aA],λj y hy=>by cases hy⟩ (λ_ _ _ _ e=>by cases e)
  | cons _ _=>cases hk
 rcases cc h ao with hs | ⟨xs,e⟩
 rotate_left
 ·exfalso
  cases y with
  | tmp i=>
   grind [bz]
  | const v=>simp only[bz] at e;unfold l5 at e;grind
  | func f=>cases e
  | global g=>cases e
 split at hk
 ·grind [aY]
 ·rename_i hv
  rw[hv] at hs
  obtain ⟨t,hT,hk⟩:=cG hk
  split at hk
  ·have hs:a.eval y=.slice none 0 0:=hs
   rw[hs]
   refine aY h hk ⟨[.slice none 0 0],(bL _ _ rfl).symm,?_⟩ (λ_ _ _ _ e=>by cases e)
   grind [ah,hole,m_,Md.own]
  ·cases hk
 ·grind [aY]
 ·cases hk
 ·grind [mJ,st]
 ·grind [mJ,st]
 ·rename_i r p snap hv
  rw[hv] at hs
  split at hk
  ·rename_i t m H v hg
   split at hk
   ·rename_i hc
    simp only[Bool.and_eq_true,Bool.not_eq_true'] at hc
    split at hk
    ·rename_i i hd
     have hr:r < σ.n:=by
      grind [fL]
     have fJ:=h.cY r hr
     rw[hg] at fJ
     obtain ⟨b,off,L,F1,s1,s2,s3,s4,s5,s6⟩:=fJ
     obtain ⟨pl,b',o',g1,g2,g3,g4⟩:=hs.2 hc.1.1
     have dh:place σ a w r []=some ⟨t,H,rd w b off t.sz,some (b,off)⟩:=by
      unfold place;rw[hg,s1];rfl
     rw[dh] at g1
     injection g1 with g1
     subst g1
     simp only[Option.some.injEq,Prod.mk.injEq] at g2
     obtain ⟨rfl,rfl⟩:=g2
     have h1:=h.put hr (s:=.dead) (v:=tmp a r) (Fd:=λ_ _=>0) (X':=F r) trivial (λb k=>by omega) (λ_ _ _ _ e=>by cases e)
     rw[kx] at h1
     obtain ⟨bw,w1,w2⟩:=h.whole r t m H v hg (zK hc.2)
     rw[s1] at w1
     injection w1 with w1;injection w1 with w1;injection w1 with w1 w3
     subst w1
     have:=jd (K:=K) (x:=x) (d:=some i) h1 hk (v:=a.eval y) (s:=.box t m H v) (Fd:=F r) ⟨b,off,L,F1,g3,s2,s3,s4,s5,s6⟩ (λb i=>Nat.le_refl _) (λt' m' H' v' e=>by grind)
     grind
    ·cases hk
   grind [aY]
  grind [aY]
 grind [aY,BW]
theorem ls {α:Type} (v y:List α) {lo n:Nat} (h:lo+n<=v.length) (hy:n<=y.length):(jc v lo n y).length=v.length:=by
 grind [jc]
theorem DU {α:Type} (v y:List α) {lo n:Nat} (h:lo+n<=v.length) (hy:n<=y.length) (i:Nat):(jc v lo n y)[i]?=if lo<=i/\i < lo+n then y[i - lo]? else v[i]?:=by
 unfold jc
 by_cases h1:i < lo
 all_goals grind
theorem B5 (h:bE P C A σ a w F) {r:Nat} {p:Path} {e:Ty} {m:Md} {v y:List e.den} {news:List Value} {Gi:Nat->FP} {me:Md} {lo n:Nat} {K:St->Option R} (gr:At σ r p (.ae e) m [] v) (dj:m.own=true) (hf:e.flat=true) (hn:lo+n<=List.length v) (hy:n<=List.length y)
  (hl:news.length=List.length y*e.sz) (jN:∀ u ∈ news,u.oneCell'=true) (kX:∀ (i:Nat) (z:e.den),y[i]?=some z->ah P w A e me [] z ((news.drop (i*e.sz)).take e.sz) (Gi i))
  (hk:nX σ r p (.ae e) m (jc v lo n y) (λσ'=>K { σ' with vr:=(σ.gc r oV).vr,aF:=σ.aF })=some x) :
  ∃ (xa:Option Addr) (cap:Nat) (ad:Option (Nat×Nat)) (w2:World) (A3:Cells) (σ':St) (F3:Nat->FP),place σ a w r p=some ⟨.ae e,[],[.slice xa (List.length v) cap],ad⟩/\K σ'=some x/\bE P C A3 σ' a w2 F3 /\
   (xa=none->w2=w/\List.length v=0)/\∀ ad,xa=some ad->ad.off=0/\ad.spot=none/\(n=0->w2=w)/\(storeCells ⟨ad.block,lo*e.sz,none⟩ (news.take (n*e.sz))).run P w=.ok () w2:=by
 obtain ⟨hr,m2,H2,v2,bA,uD,F2,q1,q2,q3,q4,q5,q6⟩:=uC h hk
 obtain ⟨_,e2,e3,e4⟩:=gr.inj q1
 subst e2;subst e3
 have e4:=eq_of_heq e4
 subst e4
 have dw:=q3
 simp only[ah,hole,List.any_nil,Bool.false_eq_true,if_false,dj,if_true] at q3
 obtain ⟨xa,cap,rfl,c1,c2,c3,c4⟩:=q3
 have Gj:=ls v y hn hy
 have yq:∀ b i,F r b i<=1:=λb i=>by have:=h.iQ b i;grind [bu]
 have fin:∀ (w2:World),Ext w w2 (λb i=>0+(F2 b i+eV uD (Ty.ae e).sz b i))->(∀ b o,uD=some (b,o)->Has w2 b o [.slice xa (List.length v) cap])->ah P w2 A (.ae e) m [] (jc v lo n y) [.slice xa (List.length v) cap] F2 ->
   (∀ (i:Nat) (z:e.den),(jc v lo n y)[i]?=some z->∀ ad,xa=some ad->∃ L,L.length=e.sz/\Has w2 ad.block (ad.off+i*e.sz) L/\ah P w2 A e .leaf [] z L (λ_ _=>0)) ->
   ∃ (A3:Cells) (σ':St) (F3:Nat->FP),K σ'=some x/\bE P C A3 σ' a w2 F3:=by
  intro w2 g1 g2 g3 g4
  obtain ⟨A3,tt,Fr,n1,n2,n3,n4,n5⟩:=q6 w2 A _ F2 (λ_ _=>0) g1 (λ_ _ h=>h) (λ_ _ h=>.inl h) (λb i=>by omega) g2 (λ_=>rfl) g3
  refine ⟨A3,_,_,n1,n5 oV (qt (h.fG r)) (wL (h.fG r)) rfl λp' snap hb ao hlen=>?_⟩
  have h5:=yQ (h.fG r) hb ao
  refine ⟨bD p'+1,False,by omega,λ_=>.inl (by omega),λ_=>by omega,?_⟩
  intro q pl hq hp
  cases q with
  | nil=>
   simp only[aJ,Option.some.injEq] at hp
   subst hp
   exact ⟨_,_,rfl,λ_=>rfl⟩
  | cons s q=>
   cases s with
   | idx i=>
    cases xa with
    | none=>grind [aJ]
    | some ad=>
     simp only[aJ,hole,List.any_nil,Bool.false_eq_true,if_false,List.filterMap_nil] at hp ⊢
     split at hp
     ·rename_i hi
      rw[if_pos hi]
      have mH:i < (jc v lo n y).length:=by grind
      obtain ⟨L,l1,l2,l3⟩:=g4 i _ (List.getElem?_eq_getElem mH) ad rfl
      rw[b9 l2 l1]
      obtain ⟨H',aS,h1,U⟩:=tq (A:=A) (m:=.leaf) (v:=(jc v lo n y)[i]) (F:=λ_ _=>0) q e l3 (.inr hf) hp
      grind
     ·cases hp
   | _=>simp[aJ] at hp
 cases xa with
 | none=>
  have h0:=c3 rfl
  have wV:List.length v=0:=by omega
  grind [Ext.refl]
 | some ad=>
  obtain ⟨d1,d2,d3,Fi,d4,d5⟩:=c4 ad rfl
  obtain ⟨b,off,sp⟩:=ad
  simp only at d1 d2 d3 d4 d5
  subst d1;subst d2
  have hle:lo*e.sz+n*e.sz<=cap*e.sz:=by rw[<-Nat.add_mul];exact Nat.mul_le_mul_right _ (by omega)
  have zV:(news.take (n*e.sz)).length=n*e.sz:=by
   grind [Nat.mul_le_mul_right]
  have kZ:∀ j,j < cap*e.sz->(w.cell? ⟨b,j,none⟩).isSome=true:=λj hj=>by
   obtain ⟨c,e',fr,w1,w2,w3⟩:=d3
   grind [World.cell?]
  have bk:=run_storeCells_cells (P:=P) b (lo*e.sz) (news.take (n*e.sz)) 0 w (λj hj=>by grind) (λj hj=>by rw[Nat.add_zero];exact d3.frozen (by omega)) (λu hu=>jN u (List.mem_of_mem_take hu))
  rw[Nat.add_zero] at bk
  have cr:=ky (b:=b) (o:=lo*e.sz) (news.take (n*e.sz)) w (lo*e.sz)
  rw[zV] at cr
  have ve:∀ b' i,bP b (lo*e.sz) (n*e.sz) b' i<=bP b 0 (cap*e.sz) b' i:=λb' i=>by
   grind [bP]
  have hA:∀ b' i,A b' i->∀ u,ce w b' i=some u->ce (w.setCells b (lo*e.sz) (news.take (n*e.sz))) b' i=some u:=λb' i ha u hu=>by
   refine cr.cell b' i (h.eI b' i (.inr ha)) ?_ u hu
   rcases Nat.eq_zero_or_pos (bP b (lo*e.sz) (n*e.sz) b' i) with h0 | h0
   ·exact h0
   ·exact absurd ha (h.jr b' i (by grind [bu]))
  have ST:∀ (i:Nat) (z:e.den),(jc v lo n y)[i]?=some z->∃ L,L.length=e.sz/\Has (w.setCells b (lo*e.sz) (news.take (n*e.sz))) b (i*e.sz) L/\Ro P (w.setCells b (lo*e.sz) (news.take (n*e.sz))) A e z L:=by
   intro i z hz
   rw[DU v y hn hy] at hz
   split at hz
   ·rename_i hi
    have p5:=ah.flat _ hf (kX _ z hz)
    refine ⟨_,Ro.length _ p5,λj u hu=>?_,Ro.mono hA (λ_ _ h=>h) e p5⟩
    rw[List.getElem?_take] at hu
    split at hu
    ·rename_i hj
     rw[List.getElem?_drop] at hu
     have h6:(i - lo)*e.sz+e.sz<=n*e.sz:=by rw[<-Nat.succ_mul];exact Nat.mul_le_mul_right _ (by omega)
     have:=su (w:=w) (b:=b) (o:=lo*e.sz) (L:=news.take (n*e.sz)) (λk hk=>kZ _ (by omega)) (λu hu=>jN u (List.mem_of_mem_take hu)) ((i - lo)*e.sz+j) u (by grind)
     rw[<-this]
     have h7:i*e.sz=lo*e.sz+(i - lo)*e.sz:=by rw[<-Nat.add_mul];congr 1;omega
     congr 1;omega
    ·cases hu
   ·rename_i hi
    obtain ⟨L,l1,l2,l3⟩:=d5 i z hz
    have p5:=ah.flat _ hf l3
    refine ⟨L,l1,λj u hu=>?_,Ro.mono hA (λ_ _ h=>h) e p5⟩
    refine cr.cell b _ (by obtain ⟨c,e',fr,w1,_⟩:=d3;grind) ?_ u (l2 j u hu)
    have hj:=(List.getElem?_eq_some_iff.1 hu).1
    simp only[bP]
    rw[if_neg]
    rintro ⟨_,h8,h9⟩
    rcases Nat.lt_or_ge i lo with RS | RS
    ·have h6:i*e.sz+e.sz<=lo*e.sz:=by rw[<-Nat.succ_mul];exact Nat.mul_le_mul_right _ (by omega)
     omega
    ·have h6:lo*e.sz+n*e.sz<=i*e.sz:=by rw[<-Nat.add_mul];exact Nat.mul_le_mul_right _ (by omega)
     omega
  have xV:ah P (w.setCells b (lo*e.sz) (news.take (n*e.sz))) A (.ae e) m [] (jc v lo n y) [.slice (some ⟨b,0,none⟩) (List.length v) cap] F2:=by
   simp only[ah,hole,List.any_nil,Bool.false_eq_true,if_false,dj,if_true]
   refine ⟨some ⟨b,0,none⟩,cap,by rw[Gj],by omega,c2,(λe=>by cases e),λbl e'=>?_⟩
   injection e' with e';subst e'
   refine ⟨rfl,rfl,cr.pZ _ _ d3,λ_ _ _=>0,λb' i=>by grind [f7],λi z hz=>?_⟩
   obtain ⟨L,l1,l2,l3⟩:=ST i z hz
   grind [Ro.flat]
  have pk:∀ b' o',uD=some (b',o')->Has (w.setCells b (lo*e.sz) (news.take (n*e.sz))) b' o' [.slice (some ⟨b,0,none⟩) (List.length v) cap]:=λb' o' ea j u hu=>by
   have h1:=(q5 b' o' ea).1 j u hu
   have hj:=(List.getElem?_eq_some_iff.1 hu).1
   have U:=q4 b' (o'+j);have h3:=d4 b' (o'+j);have h4:=ve b' (o'+j);have h5:=yq b' (o'+j);have h7:=bu F hr b' (o'+j)
   have h6:eV uD (Ty.ae e).sz b' (o'+j)=1:=by
    grind [eV,bP,Ty.sz]
   exact cr.cell _ _ (h.eI b' (o'+j) (.inl (by grind))) (by omega) u h1
  obtain ⟨A3,tt,F3,n1,n2⟩:=fin _ (cr.mono λb' i hz=>by
    grind) pk xV (λi z hz ad e=>by
    grind [Ro.flat])
  refine ⟨_,cap,uD,_,A3,tt,F3,q2,n1,n2,(λe=>by cases e),λbl e'=>?_⟩
  injection e' with e';subst e'
  refine ⟨rfl,rfl,λzW=>?_,bk⟩
  subst zW
  simp[World.setCells]
theorem Ju (h:bE P C A σ a w F) (fq:∀ i T,E.TI i=some T->aC P T (.inl i)=true) {t tx:Nat} {y z:Operand} (ho:o.op=.call { callee:=.builtin .copy,args:=#[y,z],argTypes:=#[t,tx] }) (ao:bv P y=true/\bv P z=true)
  (tz:(∃ e',P.underlying tx=some (.slice e'))\/P.underlying tx=some .string) {K:St->Option R} (hk:G7 E σ t y (bz σ z) o.dst K=some x):o.wp P a w (Nx P C K x) Q:=by
 unfold G7 at hk
 obtain ⟨T,hT,hk⟩:=cG hk
 have dx:=fq _ _ hT
 split at hk
 ·rename_i e
  have hl:=dx
  simp only[aC,Bool.and_eq_true] at hl
  have U:=hl.2
  split at U
  rotate_left
  ·cases U
  rename_i el hu
  simp only[Bool.and_eq_true,Nat.ble_eq] at U
  obtain ⟨gn,kX⟩:=U
  have OX:=run_sizeOf (P:=P) (w:=w) kX
  split at hk
  rotate_left
  ·cases hk
  rename_i hf
  rcases cc h ao.2 with ry | ⟨xs,e'⟩
  rotate_left
  ·grind [tn,fR]
  obtain ⟨A2,fS,F2,me,yv,news,Fw,Gi,q1,q2,q3,qr,q4,Ur,q5,q6⟩:=Bs h ry tz hk
  have U:bE P C A2 fS a w F2:=q3.less λ_ _=>Nat.zero_le _
  have run:∀ (xa:Option Addr) (n cap:Nat) (w2:World),a.eval y=.slice xa n cap->(match (generalizing:=false) xa with | none=>w2=w | some ad=>(storeCells ad (news.take (min (List.length yv) n*e.sz))).run P w=.ok () w2) ->
    (execOp a.eval o).run P w=.ok (.value (.int .i64 ((min (List.length yv) n:Nat):Int))) w2:=by
   intro xa n cap w2 hy bk
   have MD:=Ur (min (List.length yv) n) (Nat.min_le_left _ _)
   cases xa with
   | none=>
    simp only at bk
    subst bk
    simp[execOp,ho,resolve,invoke,builtin,Builtin.copy_,hy,run_underlying hu,q4.len,OX,Nat.min_def] at MD ⊢
    simp[MD,goInt]
   | some ad=>
    simp only at bk
    simp[execOp,ho,resolve,invoke,builtin,Builtin.copy_,hy,run_underlying hu,q4.len,OX,Nat.min_def] at MD bk ⊢
    simp[MD,bk,goInt]
  rcases cc U ao.1 with hs | ⟨xs,e'⟩
  rotate_left
  ·grind
  split at q1
  ·rename_i r p snap lo hi hv
   rw[hv] at hs
   split at q1
   ·rename_i iA
    obtain ⟨hr,t',m',H',v',aS,bl,F',h1,gr,h3,h4,h5,h6⟩:=fk U q1
    split at h1
    ·rename_i hc
     simp only[Bool.and_eq_true,List.isEmpty_iff] at hc
     obtain ⟨dj,hH⟩:=hc
     subst hH
     obtain ⟨e1,h1⟩:=bh h1
     subst e1
     obtain ⟨pl,e2,xa,n,cap,n_,cap',g1,g2,g3,g4,g5,g6,g7,g8,g9,g10,g11⟩:=hs.2 iA
     have RU:n=List.length v':=by
      grind [ah,hole]
     obtain ⟨xb,Bn,uD,w2,A3,tt,F3,c1,c2,c3,c4,c5⟩:=B5 U (K:=λσ'=>K (σ'.aQ o.dst (.val (.int .i64) ((min (List.length yv) (hi - lo):Nat):Int)))) ⟨gr⟩ dj hf (lo:=lo) (n:=min (List.length yv) (hi - lo)) (by omega) (Nat.min_le_left _ _) q4.newsLen q4.one q5 h1
     rw[c1] at g1
     injection g1 with g1
     subst g1
     simp only[List.cons.injEq,Value.slice.injEq,and_true] at g3
     obtain ⟨rfl,g3,rfl⟩:=g3
     injection g2 with g2
     subst g2
     refine h_ (run n_ (hi - lo) cap' w2 g6 ?_) (aY c3 c2 ⟨[.int .i64 _],rfl,rfl⟩ (λ_ _ _ _ e=>by cases e))
     cases xb with
     | none=>grind
     | some ad=>
      obtain ⟨OY,k1,k2,k3,k4⟩:=g10 ad rfl
      rw[k1]
      obtain ⟨j1,j2,j3,j4⟩:=c5 ad rfl
      simp only
      by_cases av:lo < hi
      ·have:OY=⟨ad.block,lo*e.sz,none⟩:=by
        have h1:=k4 av
        obtain ⟨x1,x2,x3⟩:=OY
        grind
       grind
      ·have zW:min (List.length yv) (hi - lo)=0:=by omega
       rw[zW,Nat.zero_mul,List.take_zero]
       rw[j3 zW];rfl
    ·cases h1
   ·cases q1
  ·rename_i r p snap hv
   rw[hv] at hs
   split at q1
   ·rename_i iA
    obtain ⟨hr,t',m',H',v',aS,bl,F',h1,gr,h3,h4,h5,h6⟩:=fk U q1
    split at h1
    ·rename_i hc
     simp only[Bool.and_eq_true,List.isEmpty_iff] at hc
     obtain ⟨dj,hH⟩:=hc
     subst hH
     obtain ⟨e1,h1⟩:=bh h1
     subst e1
     obtain ⟨pl,g1,g2,g3⟩:=hs.2 iA
     obtain ⟨xb,Bn,uD,w2,A3,tt,F3,c1,c2,c3,c4,c5⟩:=B5 U (K:=λσ'=>K (σ'.aQ o.dst (.val (.int .i64) ((min (List.length yv) (List.length v'):Nat):Int)))) ⟨gr⟩ dj hf (lo:=0) (n:=min (List.length yv) (List.length v')) (by omega) (Nat.min_le_left _ _) q4.newsLen q4.one q5 h1
     rw[c1] at g1
     injection g1 with g1
     subst g1
     simp only[bL (.ae e) _ rfl] at g2
     refine h_ (run xb (List.length v') Bn w2 g2 ?_) (aY c3 c2 ⟨[.int .i64 _],rfl,rfl⟩ (λ_ _ _ _ e=>by cases e))
     cases xb with
     | none=>grind
     | some ad=>
      obtain ⟨j1,j2,j3,j4⟩:=c5 ad rfl
      obtain ⟨b,off,sp⟩:=ad
      grind
    ·cases h1
   ·cases q1
  ·cases q1
 ·cases hk
end
end OT
set_option linter.unusedVariables false
set_option linter.unusedSimpArgs false
namespace OT
open Go
def eK (w:World):(t:Ty)->Md->List Path->List Value->FP
 | .pair a b,m,H,cs=>λx i=>eK w a m.l (H.filterMap n7) (cs.take a.sz) x i+eK w b m.r (H.filterMap n8) (cs.drop a.sz) x i
 | .ae e,m,H,cs=>
  if hole H then λ_ _=>0 else if m.own then
   match cs with
   | [.slice (some ad) n cap]=>λx i=>bP ad.block 0 (cap*e.sz) x i+aA n (λj=>eK w e m.e (H.filterMap (fm j)) (rd w ad.block (j*e.sz) e.sz)) x i
   | _=>λ_ _=>0
  else λ_ _=>0
 | .ptr e,m,H,cs=>
  if hole H then λ_ _=>0 else if m.own then
   match cs with
   | [.pointer (some ad)]=>λx i=>bP ad.block 0 e.sz x i+eK w e m.e [] (rd w ad.block 0 e.sz) x i
   | _=>λ_ _=>0
  else λ_ _=>0
 | .map _ _,m,H,cs=>
  if hole H then λ_ _=>0 else if m.own then
   match cs with
   | [.map (some r)]=>bP r 0 1
   | _=>λ_ _=>0
  else λ_ _=>0
 | _,_,_,_=>λ_ _=>0
section
variable {P:Program} {w w1:World} {A:Cells}
theorem ah.fp:∀ (t:Ty) {m:Md} {H:List Path} {v:t.den} {cs:List Value} {F:FP},ah P w A t m H v cs F->ah P w A t m H v cs (eK w t m H cs)/\∀ b i,eK w t m H cs b i<=F b i:=by
 intro t
 induction t with
 | pair a b fQ fI=>
  intro m H v cs F h
  obtain ⟨h0,F1,F2,hs,h1,U⟩:=h
  obtain ⟨J,a2⟩:=fQ h1
  obtain ⟨b1,b2⟩:=fI U
  exact ⟨⟨h0,_,_,λ_ _=>Nat.le_refl _,J,b1⟩,λb i=>by grind [eK]⟩
 | ae e ih=>
  intro m H v cs F h
  have h':=h
  simp only[ah] at h
  split at h
  ·simp_all [ah,eK]
  ·rename_i hh
   split at h
   ·rename_i hm
    obtain ⟨xa,cap,rfl,h1,U,h3,h4⟩:=h
    cases xa with
    | none=>
     grind [eK,ah]
    | some ad=>
     obtain ⟨g1,g2,g3,Fi,g4,g5⟩:=h4 ad rfl
     have each:∀ (i:Nat) (x:e.den),v[i]?=some x->∃ L:List Value,L.length=e.sz/\Has w ad.block (i*e.sz) L/\ah P w A e m.e (H.filterMap (fm i)) x L (eK w e m.e (H.filterMap (fm i)) (rd w ad.block (i*e.sz) e.sz)) /\
       ∀ b k,eK w e m.e (H.filterMap (fm i)) (rd w ad.block (i*e.sz) e.sz) b k<=Fi i b k:=λi x hx=>by
      grind [b9]
     have hle:∀ b i,aA (List.length v) (λj=>eK w e m.e (H.filterMap (fm j)) (rd w ad.block (j*e.sz) e.sz)) b i<=aA (List.length v) Fi b i:=λb i=>Bg b i λj hj=>by
      obtain ⟨_,_,_,_,q⟩:=each j _ (List.getElem?_eq_getElem hj)
      exact q b i
     refine ⟨?_,λb i=>by grind [eK]⟩
     simp only[ah,hh,hm,if_true,Bool.false_eq_true,if_false]
     refine ⟨some ad,cap,rfl,h1,U,h3,λbl e'=>?_⟩
     injection e' with e';subst e'
     refine ⟨g1,g2,g3,λj=>eK w e m.e (H.filterMap (fm j)) (rd w ad.block (j*e.sz) e.sz),λb i=>by grind [eK],λi x hx=>?_⟩
     grind
   simp_all [ah,eK]
 | ptr e ih=>
  intro m H v cs F h
  simp only[ah] at h
  split at h
  ·simp_all [ah,eK]
  ·rename_i hh
   split at h
   ·grind [eK,b9,ah]
   simp_all [ah,eK]
 | arr n e ih=>intro m H v cs F h;exact ⟨h,λ_ _=>Nat.zero_le _⟩
 | map k v=>
  intro m H x cs F h
  simp only[ah] at h
  split at h
  ·simp_all [ah,eK]
  ·rename_i hh
   split at h
   ·rename_i hm
    obtain ⟨h1,U,r,mD,rfl,h4,h5,h6,h7⟩:=h
    refine ⟨?_,λb i=>?_⟩
    ·simp only[ah,hh,hm,if_true,Bool.false_eq_true,if_false]
     exact ⟨h1,U,r,mD,rfl,h4,by simp[eK,hh,hm,bP],h6,h7⟩
    ·simp only[eK,hh,hm,if_true,Bool.false_eq_true,if_false,bP]
     grind
   simp_all [ah,eK]
 | _=>intro m H v cs F h;exact ⟨h,λ_ _=>Nat.zero_le _⟩
theorem HE:∀ (t:Ty) {m:Md} {H:List Path} {v:t.den} {cs:List Value} {F:FP},ah P w A t m H v cs F->(∀ b i,1<=F b i->∀ u,ce w b i=some u->ce w1 b i=some u)->eK w1 t m H cs=eK w t m H cs:=by
 intro t
 induction t with
 | pair a b fQ fI=>
  intro m H v cs F h hF
  obtain ⟨h0,F1,F2,hs,h1,U⟩:=h
  have e1:=fQ h1 (λb i hp=>hF b i (by grind))
  have e2:=fI U (λb i hp=>hF b i (by grind))
  simp_all [eK]
 | ae e ih=>
  intro m H v cs F h hF
  simp only[ah] at h
  split at h
  ·simp_all [eK]
  ·rename_i hh
   split at h
   ·rename_i hm
    obtain ⟨xa,cap,rfl,h1,U,h3,h4⟩:=h
    cases xa with
    | none=>simp only[eK]
    | some ad=>
     obtain ⟨g1,g2,g3,Fi,g4,g5⟩:=h4 ad rfl
     simp only[eK,hh,hm,if_true,Bool.false_eq_true,if_false]
     funext b i
     congr 1
     refine congrFun (congrFun (o6 λj hj=>?_) b) i
     obtain ⟨L,l1,l2,l3⟩:=g5 j _ (List.getElem?_eq_getElem hj)
     have hle:j*e.sz+e.sz<=cap*e.sz:=by rw[<-Nat.succ_mul];exact Nat.mul_le_mul_right _ (by omega)
     have WX:Has w1 ad.block (j*e.sz) L:=λk u hu=>hF _ _ (by
      grind [bP]) u (l2 k u hu)
     grind [b9,bu]
   simp_all [eK]
 | ptr e ih=>
  intro m H v cs F h hF
  simp only[ah] at h
  split at h
  ·simp_all [eK]
  ·rename_i hh
   split at h
   ·rename_i hm
    obtain ⟨b0,rfl,h1,L,F1,U,h3,h4,h5⟩:=h
    have RV:Has w1 b0 0 L:=λk u hu=>hF _ _ (by
     grind [bP]) u (h3 k u hu)
    simp only[eK,hh,hm,if_true,Bool.false_eq_true,if_false,b9 h3 U,b9 RV U]
    rw[ih h5 (λb i hp=>hF b i (by grind))]
   simp_all [eK]
 | _=>intro m H v cs F h hF;rfl
theorem ah.indep {A':Cells}:∀ (t:Ty) {v:t.den} {cs:List Value} {F:FP},t.jo=true->ah P w A t (ak t) [] v cs F->ah P w A' t (ak t) [] v cs F:=by
 intro t
 induction t with
 | pair a b fQ fI=>
  intro v cs F hn h
  simp only[Ty.jo,Bool.and_eq_true] at hn
  obtain ⟨h0,F1,F2,hs,h1,U⟩:=h
  exact ⟨h0,F1,F2,hs,fQ hn.1 h1,fI hn.2 U⟩
 | ae e ih=>
  intro v cs F hn h
  simp only[ah,hole,List.any_nil,Bool.false_eq_true,if_false,ak,m_,Md.own,if_true] at h ⊢
  obtain ⟨xa,cap,h1,U,h3,h4,h5⟩:=h
  refine ⟨xa,cap,h1,U,h3,h4,λad e'=>?_⟩
  obtain ⟨g1,g2,g3,Fi,g4,g5⟩:=h5 ad e'
  refine ⟨g1,g2,g3,Fi,g4,λi x hx=>?_⟩
  obtain ⟨L,l1,l2,l3⟩:=g5 i x hx
  exact ⟨L,l1,l2,ih hn l3⟩
 | ptr e ih=>
  intro v cs F hn h
  simp only[ah,hole,List.any_nil,Bool.false_eq_true,if_false,ak,m_,Md.own,if_true] at h ⊢
  obtain ⟨b,h1,U,L,F1,h3,h4,h5,h6⟩:=h
  exact ⟨b,h1,U,L,F1,h3,h4,h5,ih hn h6⟩
 | arr n e ih=>
  intro v cs F hn h
  exact ⟨h.1,Ro.indep _ (by have:=h.2.1;grind [Ty.flat]) hn h.2⟩
 | fn=>grind [Ty.jo]
 | map k v=>
  grind [Ty.jo,ah,m_,Md.own,Ro.indep]
 | _=>intro v cs F hn h;exact h
theorem ah.free {A':Cells} {t:Ty} {m:Md} {v:t.den} {cs:List Value} {F:FP} (ho:(t.flat||decide (m=ak t))=true) (hn:t.jo=true) (h:ah P w A t m [] v cs F):ah P w A' t m [] v cs F:=by
 grind [Ro.flat,Ro.indep,ah.flat,ah.indep]
def World.news (w w2:World):World:={ w2 with heap:=(w.heap.toList++w2.heap.toList.drop w.heap.size).toArray }
theorem B6 {w2:World} (h:w.heap.size<=w2.heap.size) (k:Nat):(World.news w w2).heap[k]?=if k < w.heap.size then w.heap[k]? else w2.heap[k]?:=by
 grind [World.news]
theorem qK {w2:World} (h:w.heap.size<=w2.heap.size):(World.news w w2).heap.size=w2.heap.size:=by grind [World.news]
theorem nq {w2:World} (h:w.heap.size<=w2.heap.size) {b:Nat} (hb:b < w.heap.size):(World.news w w2).heap[b]?=w.heap[b]?:=by grind [B6]
theorem vn {w2:World} (h:w.heap.size<=w2.heap.size) {b:Nat} (hb:w.heap.size<=b):(World.news w w2).heap[b]?=w2.heap[b]?:=by grind [B6]
theorem ua {w2:World} {b:Nat} (h:w2.heap[b]?=w.heap[b]?) (i:Nat):ce w2 b i=ce w b i:=se h i
theorem qw {w2:World} {b:Nat} (h:w2.heap[b]?=w.heap[b]?) (i:Nat):w2.frozen? ⟨b,i,none⟩=w.frozen? ⟨b,i,none⟩:=by simp[World.frozen?,h]
theorem pq {w2:World} {b:Nat} (h:w2.heap[b]?=w.heap[b]?) (n:Nat×Bool):dg w b n↔dg w2 b n:=by grind [dg]
theorem dg.lt {b:Nat} {n:Nat×Bool} (h:dg w b n):b < w.heap.size:=by
 obtain ⟨c,e,fr,h1,_⟩:=h;grind
theorem yT {w2:World} {F:FP} (h:Ext w w2 F):Ext w (World.news w w2) (λ_ _=>0)/\Ext (World.news w w2) w2 F:=by
 have hs:=h.size
 refine ⟨⟨by grind [qK],λb i hb _ u hu=>by grind [ua,nq],λb n hn=>(pq (nq hs hn.lt) n).1 hn,λb i hb=>qw (nq hs hb) i,h.os,h.tape,h.output,λb hb _=>nq hs hb,h.drawn⟩,
  ⟨by grind [qK],λb i hb hz u hu=>?_,λb n hn=>?_,λb i hb=>?_,rfl,rfl,rfl,λb hb hz=>?_,Nat.le_refl _⟩⟩
 ·by_cases sB:b < w.heap.size
  ·rw[ua (nq hs sB)] at hu
   exact h.cell b i sB hz u hu
  grind [ua,vn]
 ·by_cases sB:b < w.heap.size
  ·exact h.pZ b n ((pq (nq hs sB) n).2 hn)
  grind [pq,vn]
 ·by_cases sB:b < w.heap.size
  ·rw[qw (nq hs sB)];exact h.qZ b i sB
  grind [qw,vn]
 ·by_cases sB:b < w.heap.size
  ·rw[nq hs sB];exact h.obj b sB hz
  grind [vn]
end
def ArgRel (P:Program) (w:World) (A:Cells) (ho:List Path->Bool) (pm:PM) (t:Ty) (v:t.den) (x:Value) (F:FP):Prop:=
 match pm with
 | .ro=>∃ cs,x=bq t cs/\Ro P w A t v cs
 | .fix f=>(∃ cs,x=bq t cs/\Ro P w A t v cs)/\∀ e:t=.fn,(e ▸ v:Ty.fn.den).1=f
 | .cZ m _=>∃ b o L F1,x=.pointer (some ⟨b,o,none⟩)/\L.length=t.sz/\Has w b o L/\(∀ j,j < t.sz->w.frozen? ⟨b,o+j,none⟩=false)/\(∀ b' i,bP b o t.sz b' i+F1 b' i<=F b' i)/\ah P w A t m [] v L F1
 | .gj m=>∃ cs,x=bq t cs/\ah P w A t m [] v cs F
 | .iy m=>∃ H cs,ho H=true/\x=bq t cs/\ah P w A t m H v cs F
 | .jX m=>∃ b o L F1,x=.pointer (some ⟨b,o,none⟩)/\L.length=t.sz/\Has w b o L/\(∀ j,j < t.sz->w.frozen? ⟨b,o+j,none⟩=false)/\(∀ b' i,bP b o t.sz b' i+F1 b' i<=F b' i)/\ah P w A t m [] v L F1
def iN (P:Program) (w:World) (A:Cells) (ho:List Path->Bool):(ps:List (PM×Ty))->(bK (ps.map (·.2))).den->List Value->FP->Prop
 | [],_,xs,_=>xs=[]
 | (pm,t)::ps,v,xs,F=>∃ (x:Value) (Jv:List Value) (F1 F2:FP),xs=x::Jv/\(∀ b i,F1 b i+F2 b i<=F b i)/\ArgRel P w A ho pm t v.1 x F1/\iN P w A ho ps v.2 Jv F2
abbrev DV:List Path->Bool:=λH=>H.isEmpty
theorem iN.none {P:Program} {w:World} {A:Cells} {ho:List Path->Bool} (hh:∀ H,ho H=true->H=[]):∀ (ps:List (PM×Ty)) {v:(bK (ps.map (·.2))).den} {xs:List Value} {F:FP},iN P w A ho ps v xs F->iN P w A DV ps v xs F
 | [],_,_,_,h=>h
 | (pm,t)::ps,_,_,_,⟨x,Jv,F1,F2,h1,U,h3,h4⟩=>⟨x,Jv,F1,F2,h1,U,by
  cases pm with
  | iy m=>obtain ⟨H,cs,g1,g2⟩:=h3;rw[hh H g1] at g2;exact ⟨[],cs,rfl,g2⟩
  | _=>exact h3,iN.none hh ps h4⟩
def iP (P:Program) (w:World) (A:Cells):(ps:List (PM×Ty))->(bK (e_ ps)).den->List Value->FP->Prop
 | [],_,_,_=>True
 | (.ro,_)::ps,v,xs,F=>iP P w A ps v xs.tail F
 | (.fix _,_)::ps,v,xs,F=>iP P w A ps v xs.tail F
 | (.jX _,_)::ps,v,xs,F=>iP P w A ps v xs.tail F
 | (.iy _,_)::ps,v,xs,F=>iP P w A ps v xs.tail F
 | (.cZ _ m,t)::ps,v,xs,F=>∃ (F1 F2:FP),(∀ b i,F1 b i+F2 b i<=F b i)/\(∃ b o L F3,xs.head?=some (.pointer (some ⟨b,o,none⟩))/\L.length=t.sz/\Has w b o L/\(∀ b' i,bP b o t.sz b' i+F3 b' i<=F1 b' i)/\ah P w A t m [] v.1 L F3)/\iP P w A ps v.2 xs.tail F2
 | (.gj m,t)::ps,v,xs,F=>∃ (F1 F2:FP),(∀ b i,F1 b i+F2 b i<=F b i)/\(∃ cs,xs.head?=some (bq t cs)/\ah P w A t m [] v.1 cs F1)/\iP P w A ps v.2 xs.tail F2
def gL (P:Program) (w:World) (A:Cells) (rs:List zs) (rv:Value) (F:FP):Prop:=
 match rs with
 | []=>True
 | [x]=>∃ cs,rv=bq x.t cs/\ah P w A x.t x.m [] x.v cs F
 | xs=>∃ (vs:Array Value) (Fi:Nat->FP),rv=.tuple vs/\(∀ b i,aA xs.length Fi b i<=F b i)/\∀ j x,xs[j]?=some x->∃ v cs,vs[j]?=some v/\v=bq x.t cs/\ah P w A x.t x.m [] x.v cs (Fi j)
def Sound (P:Program) (f:FuncId) (g:nc):Prop:=
 ∀ (w:World) (A:Cells) (F0:FP) (v:(bK (g.ps.map (·.2))).den) (xs:List Value),iN P w A (g.yh v) g.ps v xs F0->(∀ b i,F0 b i<=1)->(∀ b i,1<=F0 b i->¬ A b i)->(∀ b i,1<=F0 b i\/A b i->b < w.heap.size)->ox P w F0 ->
  ∀ out,g.F v=some out->Calls P f xs.toArray w λe w'=>∃ rv,e=.returned rv/\Ext w w' F0/\∃ (A':Cells) (G GR GM:FP),(∀ b i,A b i->A' b i)/\(∀ b i,A' b i->A b i\/1<=F0 b i\/w.heap.size<=b) /\
   (∀ b i,1<=G b i->1<=F0 b i\/w.heap.size<=b)/\(∀ b i,G b i<=1)/\(∀ b i,1<=G b i->¬ A' b i)/\(∀ b i,1<=G b i\/A' b i->b < w'.heap.size)/\(∀ b i,GR b i+GM b i<=G b i) /\
   gL P w' A' (fa g.rs out).1 rv GR/\iP P w' A' g.ps (fa g.rs out).2 xs GM
def oO (P:Program) (f:FuncId) (cap:Bool):Prop:=∃ fn,P.funcs[f]?=some fn/\(fn.name == "runtime.NumGoroutine")=false/\fn.body.isNone=false/\fn.nfree=(match cap with | true=>1 | false=>0)
end OT
set_option linter.unusedVariables false
set_option linter.unusedSimpArgs false
namespace OT
open Go
section
variable {P:Program} {C:Ctx} {A:Cells} {X:FP} {σ:St} {a:Act} {w:World} {F:Nat->FP} {R:Type} {x:R}
theorem NM {K:St->Option R}:∀ (ps:List (PM×Ty)) (xs:List Operand) {σ:St} {A:Cells} {F:Nat->FP},bE P C A σ a w F->kU σ ps xs K=some x ->
  ∃ (A':Cells) (σ':St) (F':Nat->FP),K σ'=some x/\(∀ b i,A b i->A' b i)/\bE P C A' σ' a w F'/\σ'.n=σ.n:=by
 intro ps
 induction ps with
 | nil=>intro xs σ A F h hk;exact ⟨A,σ,F,by cases xs <;> exact hk,λ_ _ h=>h,h,rfl⟩
 | cons p ps ih=>
  intro xs σ A F h hk
  cases xs with
  | nil=>obtain ⟨pm,t⟩:=p;exact ⟨A,σ,F,by cases pm <;> exact hk,λ_ _ h=>h,h,rfl⟩
  | cons y xs=>
   obtain ⟨pm,t⟩:=p
   have fin:∀ {m' m:Md} {r:Nat} {p:Path},(if m'=m then kU σ ps xs K else oJ σ r p m λσ=>kU σ ps xs K)=some x ->
     ∃ (A':Cells) (σ':St) (F':Nat->FP),K σ'=some x/\(∀ b i,A b i->A' b i)/\bE P C A' σ' a w F'/\σ'.n=σ.n:=λhk=>by
    grind [Fs]
   cases pm with
   | ro=>exact ih xs h hk
   | fix f=>exact ih xs h hk
   | cZ m m'=>
    simp only[kU] at hk
    split at hk
    ·split at hk
     ·obtain ⟨hr,t',m',H',v',aS,bl,F',h1,_⟩:=fk h hk
      exact fin h1
     ·cases hk
    ·cases hk
   | jX m=>
    simp only[kU] at hk
    split at hk
    ·split at hk
     ·obtain ⟨hr,t',m',H',v',aS,bl,F',h1,_⟩:=fk h hk
      exact fin h1
     ·cases hk
    ·cases hk
   | gj m=>
    simp only[kU] at hk
    split at hk
    ·split at hk
     ·obtain ⟨hr,t',m',H',v',aS,bl,F',h1,_⟩:=fk h hk
      exact fin h1
     ·cases hk
    ·cases hk
   | iy m=>
    simp only[kU] at hk
    split at hk
    ·split at hk
     ·obtain ⟨hr,t',m',H',v',aS,bl,F',h1,_⟩:=fk h hk
      exact fin h1
     ·cases hk
    ·cases hk
theorem Jw (h:bE P C A σ a w F) {r:Nat} {t:Ty} {m:Md} {v:t.den} (hg:σ.get r=.box t m [] v):∃ (A':Cells) (F':Nat->FP),(∀ b i,A b i->A' b i)/\bE P C A' ((σ.put r .dead).put r (.cp t v)) a w F'/\Ro P w A' (.ptr t) v [tmp a r]/\r < σ.n:=by
 have hi:r < σ.n:=by
  grind [fL]
 have hs:=h.cY r hi
 rw[hg] at hs
 obtain ⟨b,off,L,F1,s1,s2,s3,s4,s5,s6⟩:=hs
 have h1:=h.put hi (s:=.dead) (v:=tmp a r) (Fd:=λ_ _=>0) (X':=F r) trivial (λb k=>by omega) (λ_ _ _ _ e=>by cases e)
 rw[kx] at h1
 have U:=h1.giveUp (A1:=λb' i'=>A b' i'\/1<=F r b' i') (X1:=λ_ _=>0) (λ_ _ h=>.inl h) (λb' i' ha=>ha.imp id λhp=>⟨hp,rfl⟩) (λ_ _=>Nat.zero_le _)
 have nl:Ro P w (λb' i'=>A b' i'\/1<=F r b' i') (.ptr t) v [tmp a r]:=
  ⟨⟨b,off,none⟩,by rw[s1],rfl,L,s2,(λj u hu=>⟨s3 j u hu,.inr (by
   grind [bP])⟩),ah.o7 (λ_ _ h=>.inl h) t s6 (λb' i' hp=>.inr (by grind))⟩
 have h3:=U.put (d:=r) hi (s:=.cp t v) (v:=tmp a r) (Fd:=λ_ _=>0) (X':=λ_ _=>0) nl (λb k=>by omega) (λ_ _ _ _ e=>by cases e)
 grind [kx]
theorem NN (h:bE P C A σ a w F) {i:Nat} (hi:i < σ.n) {t:Ty} {v:t.den} (nl:Ro P w A (.ptr t) v [tmp a i]):∃ F':Nat->FP,bE P C A ((σ.put i .dead).put i (.cp t v)) a w F':=by
 have h1:=h.put hi (s:=.dead) (v:=tmp a i) (Fd:=λ_ _=>0) (X':=F i) trivial (λb k=>by omega) (λ_ _ _ _ e=>by cases e)
 rw[kx] at h1
 have U:=h1.giveUp (A1:=A) (X1:=λ_ _=>0) (λ_ _ h=>h) (λb' i' ha=>.inl ha) (λ_ _=>Nat.zero_le _)
 have h3:=U.put (d:=i) hi (s:=.cp t v) (v:=tmp a i) (Fd:=λ_ _=>0) (X':=λ_ _=>0) nl (λb k=>by omega) (λ_ _ _ _ e=>by cases e)
 grind [kx]
theorem KX (h:bE P C A σ a w F) {i r:Nat} {snap:List Nat} {t:Ty} {m:Md} {H:List Path} {v:t.den} (hi:i < σ.n) (hs:σ.get i=.ptr r [] snap) (ao:σ.ok r snap=true) (hg:σ.get r=.box t m H v):tmp a i=tmp a r:=by
 have h1:=h.cY i hi
 rw[hs] at h1
 obtain ⟨pl,b,o,p1,p2,p3,p4⟩:=h1.2 ao
 have hr:r < σ.n:=by
  grind [fL]
 have U:=h.cY r hr
 rw[hg] at U
 obtain ⟨b2,off,L,F1,s1,_⟩:=U
 grind [place,bC,aJ]
theorem OZ {K:St->Option R}:∀ (ps:List (PM×Ty)) (xs:List Operand) {σ:St} {A:Cells} {F:Nat->FP},bE P C A σ a w F->sc σ ps xs K=some x ->
  ∃ (A':Cells) (σ':St) (F':Nat->FP),K σ'=some x/\(∀ b i,A b i->A' b i)/\bE P C A' σ' a w F'/\σ'.n=σ.n:=by
 intro ps
 induction ps with
 | nil=>intro xs σ A F h hk;exact ⟨A,σ,F,by cases xs <;> exact hk,λ_ _ h=>h,h,rfl⟩
 | cons p ps ih=>
  intro xs σ A F h hk
  cases xs with
  | nil=>obtain ⟨pm,t⟩:=p;exact ⟨A,σ,F,by cases pm <;> exact hk,λ_ _ h=>h,h,rfl⟩
  | cons y xs=>
   obtain ⟨pm,t⟩:=p
   have fin:∀ {r:Nat} {p:Path},(p_ σ r p λσ=>sc σ ps xs K)=some x ->
     ∃ (A':Cells) (σ':St) (F':Nat->FP),K σ'=some x/\(∀ b i,A b i->A' b i)/\bE P C A' σ' a w F'/\σ'.n=σ.n:=λhk=>by
    grind [qH]
   cases pm with
   | fix f=>exact ih xs h hk
   | cZ m m'=>exact ih xs h hk
   | jX m=>exact ih xs h hk
   | gj m=>exact ih xs h hk
   | iy m=>exact ih xs h hk
   | ro=>
    simp only[sc] at hk
    split at hk
    ·grind
    ·split at hk
     ·grind
     ·grind
     ·rename_i r p snap Mz
      split at hk
      ·rename_i ao
       split at hk
       ·rename_i t m H v hg
        split at hk
        ·rename_i hc
         simp only[Bool.and_eq_true,List.isEmpty_iff] at hc
         obtain ⟨hH,sA⟩:=hc
         subst hH
         obtain ⟨A1,F1,wP,h3,h4,h5⟩:=Jw h hg
         have go:∀ {fS:St} {F2:Nat->FP},bE P C A1 fS a w F2->sc fS ps xs K=some x->fS.n=σ.n->∃ (A':Cells) (σ':St) (F':Nat->FP),K σ'=some x/\(∀ b i,A b i->A' b i)/\bE P C A' σ' a w F'/\σ'.n=σ.n:=λh3 hk hn=>by
          grind
         cases y with
         | tmp i=>
          simp only[Oi] at hk
          split at hk
          ·exact go h3 hk rfl
          ·rename_i B7
           simp only[Bool.or_eq_false_iff,Bool.not_eq_false',Nat.blt_eq] at B7
           obtain ⟨g1,g2⟩:=B7
           have hi:i < σ.n:=g2
           have Gk:i≠r:=λe=>by simp_all
           have hs:σ.get i=.ptr r [] snap:=by
            grind [bz]
           have he:=KX h hi hs ao hg
           rw[<-he] at h4
           obtain ⟨F3,h6⟩:=NN h3 (i:=i) g2 h4
           exact go h6 hk rfl
         | const c=>exact go h3 hk rfl
         | func f=>exact go h3 hk rfl
         | global g=>exact go h3 hk rfl
        ·cases hk
       ·cases hk
      ·cases hk
     grind
def AX (A:Cells) (F:Nat->FP) (n r0:Nat) (ow:Bool):Cells:=λb i=>A b i\/(ow=true/\∃ j,j < n/\j≠r0/\1<=F j b i)
def ME (P:Program) (A:Cells) (σ:St) (a:Act) (w:World) (F:Nat->FP) (ow:Bool) (pm:PM) (t:Ty) (v:t.den) (s:Slot) (tv:Value) (wp:Option (Nat×Path)):Prop:=
 match pm with
 | .ro=>wp=none/\∃ cs,tv=bq t cs/\Ro P w (λb i=>A b i\/(ow=true/\∃ r ∈ gk s,r < σ.n/\1<=F r b i)) t v cs
 | .fix f=>wp=none/\(∃ cs,tv=bq t cs/\Ro P w A t v cs)/\∀ e:t=.fn,(e ▸ v:Ty.fn.den).1=f
 | .cZ m _=>∃ r p snap b o cs,s=.ptr r p snap/\wp=some (r,p)/\At σ r p t m [] v/\tv=.pointer (some ⟨b,o,none⟩)/\place σ a w r p=some ⟨t,[],cs,some (b,o)⟩
 | .gj m=>∃ r p snap cs ad,s=.ref r p snap/\wp=some (r,p)/\At σ r p t m [] v/\tv=bq t cs/\place σ a w r p=some ⟨t,[],cs,ad⟩
 | .iy m=>∃ H r p snap cs ad,s=.ref r p snap/\wp=some (r,p)/\At σ r p t m H v/\tv=bq t cs/\place σ a w r p=some ⟨t,H,cs,ad⟩
 | .jX m=>∃ r p snap b o cs,s=.ptr r p snap/\wp=some (r,p)/\At σ r p t m [] v/\tv=.pointer (some ⟨b,o,none⟩)/\place σ a w r p=some ⟨t,[],cs,some (b,o)⟩
def qL (P:Program) (A:Cells) (σ:St) (a:Act) (w:World) (F:Nat->FP) (ow:Bool):(ps:List (PM×Ty))->(bK (ps.map (·.2))).den->List Slot->List Value->List (Nat×Path)->Prop
 | [],_,ss,iB,ws=>ss=[]/\iB=[]/\ws=[]
 | (pm,t)::ps,v,ss,iB,ws=>∃ s z6 tv nr wp pr,ss=s::z6/\iB=tv::nr/\ws=(match (generalizing:=false) wp with | some x=>x::pr | none=>pr)/\ME P A σ a w F ow pm t v.1 s tv wp/\qL P A σ a w F ow ps v.2 z6 nr pr
def oD (P:Program) (A:Cells) (σ:St) (a:Act) (w:World):List Slot->List Value->Prop
 | [],[]=>True
 | s::ss,tv::iB=>(bj P A σ a w tv s (λ_ _=>0)\/∃ xs,s=.kM xs)/\oD P A σ a w ss iB
 | _,_=>False
theorem z7 (h:bE P C A σ a w F):∀ (xs:List Operand) {ss:List Slot} {iB:List Value},xs.all (bv P)=true->oD P A σ a w ss iB->oD P A σ a w (xs.map (bz σ)++ss) (xs.map a.eval++iB)
 | [],_,_,_,U=>U
 | y::xs,_,_,ao,U=>by
  simp only[List.all_cons,Bool.and_eq_true] at ao
  exact ⟨cc h ao.1,z7 h xs ao.2 U⟩
theorem QF (h:bE P C A σ a w F) {s:Slot} {tv:Value} {G:FP} (hs:bj P A σ a w tv s G) {t:Ty} {K:t.den->Option R} (hk:Dm σ s t K=some x) :
  ∃ (v:t.den) (cs:List Value),K v=some x/\tv=bq t cs/\Ro P w A t v cs:=by
 cases s with
 | val t' v=>
  obtain ⟨e,hk⟩:=bh hk;subst e
  obtain ⟨cs,h1,U⟩:=hs
  grind
 | cp t' v=>
  obtain ⟨e,hk⟩:=bh hk;subst e
  exact ⟨v,[tv],hk,(bL _ _ rfl).symm,hs⟩
 | oU=>
  simp only[Dm] at hk
  split at hk
  ·rename_i t e
   have hs:tv=.slice none 0 0:=hs
   subst hs
   exact ⟨[],_,hk,(bL _ _ rfl).symm,none,0,rfl,Nat.le_refl _,λ_=>rfl,λad ey=>by cases ey⟩
  ·cases hk
 | ref r p snap=>
  simp only[Dm] at hk
  split at hk
  ·rename_i ao
   obtain ⟨hr,t',m',H',v',aS,bl,F',h1,U,h3,h4,h5,h6⟩:=fk h hk
   obtain ⟨pl,g1,g2,g3⟩:=hs.2 ao
   grind [bh,ah.flat,ah.ro,cN]
  ·cases hk
 | sub r p snap lo hi=>
  simp only[Dm] at hk
  split at hk
  ·rename_i ao
   obtain ⟨hr,t',m',H',v',aS,bl,F',h1,U,h3,h4,h5,h6⟩:=fk h hk
   obtain ⟨pl,e,xa,n,cap,n_,cap',g1,g2,g3,g4,g5,g6,g7,Gn,g8,g9,g10⟩:=hs.2 ao
   rw[h3] at g1
   injection g1 with g1
   subst g1
   simp only at g2 g3
   subst g2;subst g3
   split at h1
   ·rename_i hc
    simp only[Bool.and_eq_true,List.isEmpty_iff,decide_eq_true_eq] at hc
    obtain ⟨hH,hm⟩:=hc
    subst hH;subst hm
    obtain ⟨e',h1⟩:=bh h1;subst e'
    exact ⟨_,_,h1,by rw[bL _ _ rfl];exact g6,Ro.piece (ah.ro _ (cN _) h4) g4 g5 g7 g8 g9⟩
   ·cases h1
  ·cases hk
 | _=>simp[Dm] at hk
theorem O0 (h:bE P C A σ a w F) {ow:Bool} {pm:PM} {t:Ty} {s:Slot} {tv:Value} (hs:bj P A σ a w tv s (λ_ _=>0)\/∃ xs,s=.kM xs) {K:t.den->Option (Nat×Path)->Option R} (hk:sb σ ow pm t s K=some x) :
  ∃ v wp,K v wp=some x/\ME P A σ a w F ow pm t v s tv wp:=by
 rcases hs with hs | ⟨xs,rfl⟩
 rotate_left
 ·cases pm with
  | ro=>cases ow <;> simp[sb,lH,Dm] at hk
  | _=>simp[sb] at hk
 cases pm with
 | ro=>
  cases ow with
  | true=>
   simp only[sb] at hk
   have av:=wQ h hk
   obtain ⟨v,cs,h1,U,h3⟩:=BV h hs hk
   exact ⟨v,none,h1,rfl,cs,U,Ro.mono (λ_ _ _ _ h=>h) (λb i ha=>ha.imp id λ⟨r,hr,hp⟩=>⟨rfl,r,hr,av r hr,hp⟩) t h3⟩
  | false=>
   simp only[sb] at hk
   obtain ⟨v,cs,h1,U,h3⟩:=QF h hs hk
   exact ⟨v,none,h1,rfl,cs,U,Ro.mono (λ_ _ _ _ h=>h) (λb i ha=>.inl ha) t h3⟩
 | fix f=>
  simp only[sb] at hk
  split at hk
  ·rename_i v
   split at hk
   ·rename_i hf
    obtain ⟨e,hk⟩:=bh hk
    subst e
    obtain ⟨cs,h1,U⟩:=hs
    exact ⟨v,none,hk,rfl,⟨cs,h1,U⟩,λe=>by simpa using hf⟩
   ·cases hk
  ·cases hk
 | cZ m m'=>
  simp only[sb] at hk
  split at hk
  ·rename_i r p snap
   split at hk
   ·rename_i ao
    obtain ⟨hr,t',m',H',v',aS,bl,F',h1,U,h3,h4,h5,h6⟩:=fk h hk
    obtain ⟨pl,b,o,g1,g2,g3,g4⟩:=hs.2 ao
    rw[h3] at g1
    injection g1 with g1
    subst g1
    simp only at g2
    subst g2
    split at h1
    ·rename_i hc
     simp only[Bool.and_eq_true,List.isEmpty_iff,decide_eq_true_eq] at hc
     obtain ⟨hH,hm⟩:=hc
     subst hH;subst hm
     obtain ⟨e,h1⟩:=bh h1
     subst e
     exact ⟨v',_,h1,r,p,snap,b,o,aS,rfl,rfl,⟨U⟩,g3,h3⟩
    ·cases h1
   ·cases hk
  ·cases hk
 | jX m=>
  simp only[sb] at hk
  split at hk
  ·rename_i r p snap
   split at hk
   ·rename_i ao
    obtain ⟨hr,t',m',H',v',aS,bl,F',h1,U,h3,h4,h5,h6⟩:=fk h hk
    obtain ⟨pl,b,o,g1,g2,g3,g4⟩:=hs.2 ao
    rw[h3] at g1
    injection g1 with g1
    subst g1
    simp only at g2
    subst g2
    split at h1
    ·rename_i hc
     simp only[Bool.and_eq_true,List.isEmpty_iff,decide_eq_true_eq] at hc
     obtain ⟨hH,hm⟩:=hc
     subst hH;subst hm
     obtain ⟨e,h1⟩:=bh h1
     subst e
     exact ⟨v',_,h1,r,p,snap,b,o,aS,rfl,rfl,⟨U⟩,g3,h3⟩
    ·cases h1
   ·cases hk
  ·cases hk
 | gj m=>
  simp only[sb] at hk
  split at hk
  ·rename_i r p snap
   split at hk
   ·rename_i ao
    obtain ⟨hr,t',m',H',v',aS,bl,F',h1,U,h3,h4,h5,h6⟩:=fk h hk
    obtain ⟨pl,g1,g2,g3⟩:=hs.2 ao
    rw[h3] at g1
    injection g1 with g1
    subst g1
    split at h1
    ·rename_i hc
     simp only[Bool.and_eq_true,List.isEmpty_iff,decide_eq_true_eq] at hc
     obtain ⟨hH,hm⟩:=hc
     subst hH;subst hm
     obtain ⟨e,h1⟩:=bh h1
     subst e
     exact ⟨v',_,h1,r,p,snap,aS,bl,rfl,rfl,⟨U⟩,g2,h3⟩
    ·cases h1
   ·cases hk
  ·cases hk
 | iy m=>
  simp only[sb] at hk
  split at hk
  ·rename_i r p snap
   split at hk
   ·rename_i ao
    obtain ⟨hr,t',m',H',v',aS,bl,F',h1,U,h3,h4,h5,h6⟩:=fk h hk
    obtain ⟨pl,g1,g2,g3⟩:=hs.2 ao
    rw[h3] at g1
    injection g1 with g1
    subst g1
    split at h1
    ·rename_i hm
     subst hm
     obtain ⟨e,h1⟩:=bh h1
     subst e
     exact ⟨v',_,h1,H',r,p,snap,aS,bl,rfl,rfl,⟨U⟩,g2,h3⟩
    ·cases h1
   ·cases hk
  ·cases hk
theorem NO (h:bE P C A σ a w F) {ow:Bool}:∀ (ps:List (PM×Ty)) {ss:List Slot} {iB:List Value} {K:(bK (ps.map (·.2))).den->List (Nat×Path)->Option R},oD P A σ a w ss iB->CX σ ow ps ss K=some x ->
  ∃ v ws,K v ws=some x/\qL P A σ a w F ow ps v ss iB ws:=by
 intro ps
 induction ps with
 | nil=>
  intro ss iB K hs hk
  cases ss with
  | nil=>
   cases iB with
   | nil=>exact ⟨(),[],hk,rfl,rfl,rfl⟩
   | cons _ _=>exact hs.elim
  | cons _ _=>cases hk
 | cons p ps ih=>
  intro ss iB K hs hk
  obtain ⟨pm,t⟩:=p
  cases ss with
  | nil=>cases hk
  | cons s ss=>
   cases iB with
   | nil=>exact hs.elim
   | cons tv iB=>
    simp only[CX] at hk
    obtain ⟨v,wp,h1,U⟩:=O0 h hs.1 hk
    obtain ⟨vs,ws,h3,h4⟩:=ih hs.2 h1
    exact ⟨(v,vs),_,h3,s,ss,tv,iB,wp,ws,rfl,rfl,rfl,U,h4⟩
theorem jj {ow:Bool} {A0:Cells} (hA:∀ b i,A b i->A0 b i) {r0:Nat} (hX:ow=true->∀ b i j,j < σ.n->j≠r0->1<=F j b i->A0 b i):∀ (ps:List (PM×Ty)) {v:(bK (ps.map (·.2))).den} {ss:List Slot} {iB:List Value},
  qL P A σ a w F ow ps v ss iB []->(∀ r ∈ ss.flatMap gk,r < σ.n->r≠r0)->(∀ ho,iN P w A0 ho ps v iB (λ_ _=>0))/\(∀ (σ':St) (K:St->Option R) (out:(bK (e_ ps)).den),kV σ' ps [] out K=K σ'):=by
 intro ps
 induction ps with
 | nil=>intro v ss iB h hr;exact ⟨λ_=>h.2.1,λσ' K out=>rfl⟩
 | cons p ps ih=>
  intro v ss iB h hr
  obtain ⟨pm,t⟩:=p
  obtain ⟨s,z6,tv,nr,wp,pr,rfl,rfl,hw,fe,im⟩:=h
  have mX:∀ b i,A b i->∀ u,ce w b i=some u->ce w b i=some u:=λ_ _ _ _ h=>h
  cases wp with
  | some y=>cases hw
  | none=>
   have hw:[]=pr:=hw
   subst hw
   obtain ⟨i1,i2⟩:=ih im (λr hm=>hr r (by grind))
   cases pm with
   | ro=>
    obtain ⟨_,cs,h1,U⟩:=fe
    refine ⟨λho=>⟨tv,nr,λ_ _=>0,λ_ _=>0,rfl,λ_ _=>Nat.le_refl _,⟨cs,h1,Ro.mono (λ_ _ _ _ h=>h) (λb i ha=>?_) t U⟩,i1 ho⟩,λσ' K out=>i2 σ' K out⟩
    grind
   | fix f=>
    obtain ⟨_,⟨cs,h1,U⟩,h3⟩:=fe
    exact ⟨λho=>⟨tv,nr,λ_ _=>0,λ_ _=>0,rfl,λ_ _=>Nat.le_refl _,⟨⟨cs,h1,Ro.mono (λ_ _ _ _ h=>h) hA t U⟩,h3⟩,i1 ho⟩,λσ' K out=>i2 σ' K out⟩
   | cZ m m'=>obtain ⟨r,p,snap,b,o,cs,_,e,_⟩:=fe;cases e
   | jX m=>obtain ⟨r,p,snap,b,o,cs,_,e,_⟩:=fe;cases e
   | gj m=>obtain ⟨r,p,snap,cs,ad,_,e,_⟩:=fe;cases e
   | iy m=>obtain ⟨H,r,p,snap,cs,ad,_,e,_⟩:=fe;cases e
theorem NP {t:Ty} {cs aS:List Value} (h1:cs.length=t.sz) (U:∀ x ∈ cs,x.oneCell'=true) (h3:aS.length=t.sz) (h4:∀ x ∈ aS,x.oneCell'=true) (h:bq t cs=bq t aS):cs=aS:=by
 grind [eH]
theorem HF {ow:Bool} {r:Nat} {p:Path}:∀ (ps:List (PM×Ty)) {v:(bK (ps.map (·.2))).den} {ss:List Slot} {iB:List Value},
  qL P A σ a w F ow ps v ss iB [(r,p)]->(ss.flatMap gk).count r<=1 ->
  1<=(ss.flatMap gk).count r/\∃ (wX jZ wm:Bool) (t:Ty) (m:Md) (H:List Path) (v1:t.den) (cs:List Value) (ad:Option (Nat×Nat)),((wm=false->H=[])/\(wm=true->G9 ps=true)/\(zx ps=true->wX=false)/\(lE ps=true->yi t=true))/\At σ r p t m H v1/\place σ a w r p=some ⟨t,H,cs,ad⟩/\(jZ=true->∃ b o,ad=some (b,o)) /\
   (gg ps=true->(t.flat||decide (m=ak t))=true/\t.jo=true) /\
   (∀ (A0:Cells) (F0 Fp:FP),(∀ b i,A b i->A0 b i)->(ow=true->∀ b i j,j < σ.n->j≠r->1<=F j b i->A0 b i)->ah P w A0 t m H v1 cs Fp ->
    (jZ=true->∀ b o,ad=some (b,o)->Has w b o cs/\(∀ j,j < t.sz->w.frozen? ⟨b,o+j,none⟩=false)/\∀ b' i,bP b o t.sz b' i+Fp b' i<=F0 b' i)->(jZ=false->∀ b i,Fp b i<=F0 b i)->∀ ho,(wm=true->ho H=true)->iN P w A0 ho ps v iB F0) /\
   (wm=true->wX=true/\jZ=false/\∀ (σ':St) (K:St->Option R) (out:(bK (e_ ps)).den),kV σ' ps [(r,p)] out K=rA σ' r p K) /\
   (wX=true->wm=false->∀ (σ':St) (K:St->Option R) (out:(bK (e_ ps)).den),kV σ' ps [(r,p)] out K=match nX σ' r p t m t.zero (λ_=>some ()) with | some _=>K (σ'.put r .dead) | none=>none) /\
   (wX=false->∀ out:(bK (e_ ps)).den,∃ (m2:Md) (o1:t.den),(gg ps=true->(t.flat||decide (m2=ak t))=true) /\
    (∀ (σ':St) (K:St->Option R),kV σ' ps [(r,p)] out K=nX σ' r p t m2 o1 λqd=>K (match jZ with | true=>qd | false=>{ qd with vr:=(σ'.gc r (mC (bD p+1))).vr,aF:=σ'.aF })) /\
    ∀ (w':World) (A':Cells) (GM:FP),iP P w' A' ps out iB GM->∃ aS F3,ah P w' A' t m2 [] o1 aS F3/\(∀ b i,F3 b i<=GM b i)/\(jZ=true->∀ b o,ad=some (b,o)->Has w' b o aS/\∀ b' i,bP b o t.sz b' i+F3 b' i<=GM b' i) /\
     (jZ=false->bq t aS=bq t cs)):=by
 intro ps
 induction ps with
 | nil=>intro v ss iB h hc;cases h.2.2
 | cons p0 ps ih=>
  intro v ss iB h hc
  obtain ⟨pm,t⟩:=p0
  obtain ⟨s,z6,tv,nr,wp,pr,rfl,rfl,hw,fe,im⟩:=h
  simp only[List.flatMap_cons,List.count_append] at hc ⊢
  cases pm with
  | ro=>
   obtain ⟨qM,cs,h1,U⟩:=fe
   subst qM
   have hw:[(r,p)]=pr:=hw
   subst hw
   obtain ⟨c1,wX,jZ,wm,t1,m1,H1,v1,jz,ym,q0,q1,q2,q3,q4,q5,q8,q7,q6⟩:=ih im (by omega)
   refine ⟨by omega,wX,jZ,wm,t1,m1,H1,v1,jz,ym,⟨q0.1,q0.2.1,q0.2.2.1,λe=>q0.2.2.2 (by simp only[lE,Bool.and_eq_true] at e;exact e.2)⟩,q1,q2,q3,q4,λA0 F0 Fp J a2 a3 a4 a5 ho a6=>⟨tv,nr,λ_ _=>0,F0,rfl,λb i=>by simp,⟨cs,h1,Ro.mono (λ_ _ _ _ h=>h) (λb i ha=>?_) t U⟩,q5 A0 F0 Fp J a2 a3 a4 a5 ho a6⟩,λhV=>⟨(q8 hV).1,(q8 hV).2.1,λσ' K out=>(q8 hV).2.2 σ' K out⟩,λhE hV σ' K out=>q7 hE hV σ' K out,λhE out=>q6 hE out⟩
   rcases ha with ha | ⟨pt,r',hm,av,hp⟩
   ·exact J b i ha
   ·refine a2 pt b i r' av (λe=>?_) hp
    subst e
    have:=List.count_pos_iff.2 hm
    omega
  | fix f=>
   obtain ⟨qM,⟨cs,h1,U⟩,h3⟩:=fe
   subst qM
   have hw:[(r,p)]=pr:=hw
   subst hw
   obtain ⟨c1,wX,jZ,wm,t1,m1,H1,v1,jz,ym,q0,q1,q2,q3,q4,q5,q8,q7,q6⟩:=ih im (by omega)
   exact ⟨by omega,wX,jZ,wm,t1,m1,H1,v1,jz,ym,⟨q0.1,q0.2.1,q0.2.2.1,λe=>q0.2.2.2 (by simp only[lE] at e;exact e)⟩,q1,q2,q3,q4,λA0 F0 Fp J a2 a3 a4 a5 ho a6=>⟨tv,nr,λ_ _=>0,F0,rfl,λb i=>by simp,⟨⟨cs,h1,Ro.mono (λ_ _ _ _ h=>h) J t U⟩,h3⟩,q5 A0 F0 Fp J a2 a3 a4 a5 ho a6⟩,λhV=>⟨(q8 hV).1,(q8 hV).2.1,λσ' K out=>(q8 hV).2.2 σ' K out⟩,λhE hV σ' K out=>q7 hE hV σ' K out,λhE out=>q6 hE out⟩
  | jX m=>
   obtain ⟨r1,p1,snap,b,o,cs,rfl,qM,gr,sq,dh⟩:=fe
   subst qM
   have hw:[(r,p)]=(r1,p1)::pr:=hw
   injection hw with qN tA
   injection qN with qN DW
   subst qN;subst tA;subst DW
   have z8:(gk (.ptr r p snap)).count r=1:=by simp[gk]
   obtain ⟨n1,n2⟩:=jj (R:=R) (P:=P) (A0:=λb i=>True) (λ_ _ _=>trivial) (r0:=r) (λ_ _ _ _ _ _ _=>trivial) ps im (λr' hm _ e=>by subst e;have:=List.count_pos_iff.2 hm;omega)
   refine ⟨by omega,true,true,false,t,m,[],v.1,cs,some (b,o),⟨λ_=>rfl,(λe=>by cases e),(λe=>absurd e (by simp[zx])),λe=>absurd e (by simp[lE])⟩,gr,dh,λ_=>⟨b,o,rfl⟩,λho=>?_,λA0 F0 Fp J a2 a3 a4 a5 ho _=>?_,(λe=>by cases e),λ_ _ σ' K out=>?_,λe=>by cases e⟩
   ·simp only[gg,Bool.and_eq_true] at ho;exact ho.1
   ·obtain ⟨b1,b2,b3⟩:=a4 rfl b o rfl
    obtain ⟨k1,_⟩:=jj (R:=R) (P:=P) J (r0:=r) a2 ps im (λr' hm _ e=>by subst e;have:=List.count_pos_iff.2 hm;omega)
    exact ⟨tv,nr,F0,λ_ _=>0,rfl,λb i=>Nat.le_refl _,⟨b,o,cs,Fp,sq,ah.length _ a3,b1,b2,b3,a3⟩,k1 ho⟩
   ·show (match nX σ' r p t m t.zero (λ_=>some ()) with | some _=>kV (σ'.put r .dead) ps [] out K | none=>none)=_
    split
    ·exact n2 _ K out
    ·rfl
  | cZ m m'=>
   obtain ⟨r1,p1,snap,b,o,cs,rfl,qM,gr,sq,dh⟩:=fe
   subst qM
   have hw:[(r,p)]=(r1,p1)::pr:=hw
   injection hw with qN tA
   injection qN with qN DW
   subst qN;subst tA;subst DW
   have z8:(gk (.ptr r p snap)).count r=1:=by simp[gk]
   obtain ⟨n1,n2⟩:=jj (R:=R) (P:=P) (A0:=λb i=>True) (λ_ _ _=>trivial) (r0:=r) (λ_ _ _ _ _ _ _=>trivial) ps im (λr' hm _ e=>by subst e;have:=List.count_pos_iff.2 hm;omega)
   refine ⟨by omega,false,true,false,t,m,[],v.1,cs,some (b,o),⟨λ_=>rfl,(λe=>by cases e),(λ_=>rfl),λe=>by simp only[lE,Bool.and_eq_true] at e;exact e.1⟩,gr,dh,λ_=>⟨b,o,rfl⟩,λho=>?_,λA0 F0 Fp J a2 a3 a4 a5 ho _=>?_,(λe=>by cases e),(λe=>by cases e),λ_ out=>⟨m',out.1,λho=>?_,λσ' K=>?_,λw' A' GM hm=>?_⟩⟩
   ·simp only[gg,Bool.and_eq_true] at ho;exact ho.1
   ·obtain ⟨b1,b2,b3⟩:=a4 rfl b o rfl
    obtain ⟨k1,_⟩:=jj (R:=R) (P:=P) J (r0:=r) a2 ps im (λr' hm _ e=>by subst e;have:=List.count_pos_iff.2 hm;omega)
    exact ⟨tv,nr,F0,λ_ _=>0,rfl,λb i=>Nat.le_refl _,⟨b,o,cs,Fp,sq,ah.length _ a3,b1,b2,b3,a3⟩,k1 ho⟩
   ·simp only[gg,Bool.and_eq_true] at ho;exact ho.2.1
   ·show nX σ' r p t m' out.1 (λσ=>kV σ ps [] out.2 K)=_
    congr 1
    funext qd
    exact n2 qd K out.2
   ·obtain ⟨F1,F2,h1,⟨b',o',L,F3,U,h3,h4,h5,h6⟩,h7⟩:=hm
    simp only[List.head?_cons,Option.some.injEq,sq,Value.pointer.injEq,Addr.mk.injEq,and_true] at U
    obtain ⟨rfl,rfl⟩:=U
    refine ⟨L,F3,h6,λb' i=>by have:=h5 b' i;have:=h1 b' i;omega,λ_ b2 o2 e=>?_,λe=>by cases e⟩
    simp only[Option.some.injEq,Prod.mk.injEq] at e
    obtain ⟨rfl,rfl⟩:=e
    exact ⟨h4,λb' i=>by have:=h5 b' i;have:=h1 b' i;omega⟩
  | gj m=>
   obtain ⟨r1,p1,snap,cs,ad,rfl,qM,gr,sq,dh⟩:=fe
   subst qM
   have hw:[(r,p)]=(r1,p1)::pr:=hw
   injection hw with qN tA
   injection qN with qN DW
   subst qN;subst tA;subst DW
   have z8:(gk (.ref r p snap)).count r=1:=by simp[gk]
   obtain ⟨n1,n2⟩:=jj (R:=R) (P:=P) (A0:=λb i=>True) (λ_ _ _=>trivial) (r0:=r) (λ_ _ _ _ _ _ _=>trivial) ps im (λr' hm _ e=>by subst e;have:=List.count_pos_iff.2 hm;omega)
   refine ⟨by omega,false,false,false,t,m,[],v.1,cs,ad,⟨λ_=>rfl,(λe=>by cases e),(λ_=>rfl),λe=>absurd e (by simp[lE])⟩,gr,dh,(λe=>by cases e),λho=>?_,λA0 F0 Fp J a2 a3 a4 a5 ho _=>?_,(λe=>by cases e),(λe=>by cases e),λ_ out=>⟨m,out.1,λho=>?_,λσ' K=>?_,λw' A' GM hm=>?_⟩⟩
   ·simp only[gg,Bool.and_eq_true] at ho;exact ho.1
   ·obtain ⟨k1,_⟩:=jj (R:=R) (P:=P) J (r0:=r) a2 ps im (λr' hm _ e=>by subst e;have:=List.count_pos_iff.2 hm;omega)
    exact ⟨tv,nr,F0,λ_ _=>0,rfl,λb i=>Nat.le_refl _,⟨cs,sq,a3.le (a5 rfl)⟩,k1 ho⟩
   ·simp only[gg,Bool.and_eq_true] at ho;exact ho.1.1
   ·show nX σ' r p t m out.1 (λqd=>kV { qd with vr:=(σ'.gc r (mC (bD p+1))).vr,aF:=σ'.aF } ps [] out.2 K)=_
    congr 1
    funext qd
    exact n2 _ K out.2
   ·obtain ⟨F1,F2,h1,⟨aS,U,h3⟩,h7⟩:=hm
    simp only[List.head?_cons,Option.some.injEq,sq] at U
    exact ⟨aS,F1,h3,λb' i=>by have:=h1 b' i;omega,(λe=>by cases e),λ_=>U.symm⟩
  | iy m=>
   obtain ⟨H,r1,p1,snap,cs,ad,rfl,qM,gr,sq,dh⟩:=fe
   subst qM
   have hw:[(r,p)]=(r1,p1)::pr:=hw
   injection hw with qN tA
   injection qN with qN DW
   subst qN;subst tA;subst DW
   have z8:(gk (.ref r p snap)).count r=1:=by simp[gk]
   obtain ⟨n1,n2⟩:=jj (R:=R) (P:=P) (A0:=λb i=>True) (λ_ _ _=>trivial) (r0:=r) (λ_ _ _ _ _ _ _=>trivial) ps im (λr' hm _ e=>by subst e;have:=List.count_pos_iff.2 hm;omega)
   refine ⟨by omega,true,false,true,t,m,H,v.1,cs,ad,⟨λe=>(by cases e),(λ_=>rfl),(λe=>absurd e (by simp[zx])),λe=>absurd e (by simp[lE])⟩,gr,dh,(λe=>by cases e),λho=>?_,λA0 F0 Fp J a2 a3 a4 a5 ho a6=>?_,λ_=>⟨rfl,rfl,λσ' K out=>?_⟩,(λ_ e=>by cases e),λe=>by cases e⟩
   ·simp only[gg,Bool.and_eq_true] at ho;exact ho.1
   ·obtain ⟨k1,_⟩:=jj (R:=R) (P:=P) J (r0:=r) a2 ps im (λr' hm _ e=>by subst e;have:=List.count_pos_iff.2 hm;omega)
    exact ⟨tv,nr,F0,λ_ _=>0,rfl,λb i=>Nat.le_refl _,⟨H,cs,a6 rfl,sq,a3.le (a5 rfl)⟩,k1 ho⟩
   ·show rA σ' r p (λqd=>kV qd ps [] out K)=_
    congr 1
    funext qd
    exact n2 _ K out
def DX:Option Value->Bool
 | some (.int .u8 _)=>false
 | none=>false
 | _=>true
def yU (w:World) (F:Nat->FP):Nat->FP:=λj b i=>if DX (ce w b i) then F j b i else 0
theorem NQ (w:World) (F:Nat->FP) (j b i:Nat):yU w F j b i<=F j b i:=by
 unfold yU
 split
 ·exact Nat.le_refl _
 ·exact Nat.zero_le _
theorem KY {w:World} {F:Nat->FP} {j b i:Nat} (h:1<=yU w F j b i):DX (ce w b i)=true:=by
 unfold yU at h
 split at h
 ·assumption
 ·omega
theorem Ro.nb:∀ (t:Ty) {v:t.den} {cs:List Value},wh t=true->Ro P w A t v cs->(∀ u ∈ cs,DX (some u)=true)/\Ro P w (λb i=>A b i/\DX (ce w b i)=true) t v cs:=by
 intro t
 induction t with
 | int k=>
  intro v cs hn h
  have h:cs=[.int k (iw k v)]:=h
  refine ⟨λu hu=>?_,h⟩
  rw[h,List.mem_singleton] at hu
  subst hu
  cases k <;> first | rfl | (simp[wh] at hn)
 | bool=>
  intro v cs hn h
  have h:cs=[.bool v]:=h
  exact ⟨λu hu=>by rw[h,List.mem_singleton] at hu;subst hu;rfl,h⟩
 | str=>
  intro v cs hn h
  have h:cs=[.string ⟨List.toArray v⟩]:=h
  exact ⟨λu hu=>by rw[h,List.mem_singleton] at hu;subst hu;rfl,h⟩
 | unit=>
  intro v cs hn h
  have h:cs=[]:=h
  exact ⟨λu hu=>(by rw[h] at hu;cases hu),h⟩
 | pair a b fQ fI=>
  intro v cs hn h
  simp only[wh,Bool.and_eq_true] at hn
  obtain ⟨h1,U⟩:=h
  obtain ⟨J,a2⟩:=fQ hn.1 h1
  obtain ⟨b1,b2⟩:=fI hn.2 U
  refine ⟨λu hu=>?_,a2,b2⟩
  rw[<-List.take_append_drop a.sz cs] at hu
  rcases List.mem_append.1 hu with g | g
  ·exact J u g
  ·exact b1 u g
 | arr n e ih=>
  intro v cs hn h
  simp only[wh] at hn
  obtain ⟨h1,U,h3,h4⟩:=h
  refine ⟨λu hu=>?_,h1,U,h3,λi x hx=>(ih hn (h4 i x hx)).2⟩
  obtain ⟨q,hq,rfl⟩:=List.getElem_of_mem hu
  have hs:0 < e.sz:=by
   rcases Nat.eq_zero_or_pos e.sz with h0 | h0
   ·rw[h0,Nat.mul_zero] at h3;omega
   ·exact h0
  have hi:q / e.sz < n:=by rw[Nat.div_lt_iff_lt_mul hs];omega
  have hx:=h4 (q / e.sz) (v[q / e.sz]'(by omega)) (List.getElem?_eq_getElem (by omega))
  refine (ih hn hx).1 _ ?_
  have hm:=Nat.mod_lt q hs
  have he:q / e.sz*e.sz+q % e.sz=q:=Nat.div_add_mod' q e.sz
  refine List.mem_iff_getElem?.2 ⟨q % e.sz,?_⟩
  rw[List.getElem?_take,if_pos hm,List.getElem?_drop,he,List.getElem?_eq_getElem hq]
 | ae e ih=>
  intro v cs hn h
  simp only[wh] at hn
  obtain ⟨a,cap,h1,U,h3,h4⟩:=h
  refine ⟨λu hu=>by rw[h1,List.mem_singleton] at hu;subst hu;rfl,a,cap,h1,U,h3,λad ey=>⟨(h4 ad ey).1,λi x hx=>?_⟩⟩
  obtain ⟨L,l1,l2,l3⟩:=(h4 ad ey).2 i x hx
  obtain ⟨g1,g2⟩:=ih hn l3
  exact ⟨L,l1,λj u hu=>⟨(l2 j u hu).1,(l2 j u hu).2,by rw[(l2 j u hu).1];exact g1 u (List.mem_of_getElem? hu)⟩,g2⟩
 | ptr e ih=>
  intro v cs hn h
  simp only[wh] at hn
  obtain ⟨ad,h1,U,L,l1,l2,l3⟩:=h
  obtain ⟨g1,g2⟩:=ih hn l3
  exact ⟨λu hu=>by rw[h1,List.mem_singleton] at hu;subst hu;rfl,ad,h1,U,L,l1,λj u hu=>⟨(l2 j u hu).1,(l2 j u hu).2,by rw[(l2 j u hu).1];exact g1 u (List.mem_of_getElem? hu)⟩,g2⟩
 | fn=>intro v cs hn h;simp[wh] at hn
 | map k v _ _=>intro v cs hn h;simp[wh] at hn
theorem rF {ow:Bool}:∀ (ps:List (PM×Ty)) {v:(bK (ps.map (·.2))).den} {ss:List Slot} {iB:List Value} {ws:List (Nat×Path)},lE ps=true->qL P A σ a w F ow ps v ss iB ws->qL P A σ a w (yU w F) ow ps v ss iB ws
 | [],_,_,_,_,_,h=>h
 | (pm,t)::ps,v,_,_,_,hu,h=>by
  obtain ⟨s,z6,tv,nr,wp,pr,e1,e2,hw,fe,im⟩:=h
  cases pm with
  | ro=>
   simp only[lE,Bool.and_eq_true,Bool.or_eq_true] at hu
   refine ⟨s,z6,tv,nr,wp,pr,e1,e2,hw,?_,rF ps hu.2 im⟩
   obtain ⟨qM,cs,h1,U⟩:=fe
   refine ⟨qM,cs,h1,?_⟩
   rcases hu.1 with ⟨f1,f2⟩ | hn
   ·exact Ro.indep t f1 f2 U
   ·refine Ro.mono (λ_ _ _ _ h=>h) (λb i ha=>?_) t (Ro.nb t hn U).2
    obtain ⟨g | ⟨pt,r,g1,g2,g3⟩,hb⟩:=ha
    ·exact .inl g
    ·refine .inr ⟨pt,r,g1,g2,?_⟩
     unfold yU
     rw[if_pos hb]
     exact g3
  | fix f=>
   simp only[lE] at hu
   exact ⟨s,z6,tv,nr,wp,pr,e1,e2,hw,fe,rF ps hu im⟩
  | cZ m m'=>
   simp only[lE,Bool.and_eq_true] at hu
   exact ⟨s,z6,tv,nr,wp,pr,e1,e2,hw,fe,rF ps hu.2 im⟩
  | gj m=>simp[lE] at hu
  | jX m=>simp[lE] at hu
  | iy m=>simp[lE] at hu
theorem tB:∀ (ps:List (PM×Ty)),lE ps=true->zx ps=true
 | [],_=>rfl
 | (pm,t)::ps,h=>by
  cases pm with
  | ro=>simp only[lE,Bool.and_eq_true] at h;exact tB ps h.2
  | fix f=>simp only[lE] at h;exact tB ps h
  | cZ m m'=>simp only[lE,Bool.and_eq_true] at h;exact tB ps h.2
  | gj m=>simp[lE] at h
  | jX m=>simp[lE] at h
  | iy m=>simp[lE] at h
theorem ah.u8 {A2:Cells} (hA:∀ b i n,A b i->ce w b i=some (.int .u8 n)->A2 b i):∀ (t:Ty) {m:Md} {H:List Path} {v:t.den} {cs:List Value} {G:FP},yi t=true->ah P w A t m H v cs G->ah P w A2 t m H v cs G:=by
 intro t
 induction t with
 | pair a b fQ fI=>
  intro m H v cs G hu h
  simp only[yi,Bool.and_eq_true] at hu
  obtain ⟨h0,F1,F2,h1,U,h3⟩:=h
  exact ⟨h0,F1,F2,h1,fQ hu.1 U,fI hu.2 h3⟩
 | ae e _=>
  intro m H v cs G hu h
  unfold yi at hu
  split at hu
  ·rename_i heq;cases heq
  ·rename_i heq
   injection heq with heq
   subst heq
   simp only[ah] at h ⊢
   split
   ·rename_i hh;rw[if_pos hh] at h;exact h
   ·rename_i hh
    rw[if_neg hh] at h
    split
    ·rename_i hm;rw[if_pos hm] at h;exact h
    ·rename_i hm
     rw[if_neg hm] at h
     obtain ⟨h1,U,a,cap,h3,h4,h5,h6⟩:=h
     refine ⟨h1,U,a,cap,h3,h4,h5,λad ey=>⟨(h6 ad ey).1,λi x hx=>?_⟩⟩
     obtain ⟨L,l1,l2,l3⟩:=(h6 ad ey).2 i x hx
     refine ⟨L,l1,λj u hu=>⟨(l2 j u hu).1,hA _ _ (iw .u8 x) (l2 j u hu).2 ?_⟩,l3⟩
     have l3:L=[.int .u8 (iw .u8 x)]:=l3
     rw[(l2 j u hu).1]
     rw[l3] at hu
     cases j with
     | zero=>injection hu with hu;rw[hu]
     | succ j=>cases hu
  ·rename_i RW MF
   simp[Ty.flat] at hu
 | int k=>intro m H v cs G _ h;exact h
 | bool=>intro m H v cs G _ h;exact h
 | str=>intro m H v cs G _ h;exact h
 | unit=>intro m H v cs G _ h;exact h
 | arr n e _=>
  intro m H v cs G hu h
  have hu:((Ty.arr n e).flat&&(Ty.arr n e).jo)=true:=hu
  simp only[Bool.and_eq_true] at hu
  obtain ⟨h1,U⟩:=h
  exact ⟨h1,Ro.indep _ hu.1 hu.2 U⟩
 | ptr e _=>intro m H v cs G hu h;simp[yi,Ty.flat] at hu
 | fn=>intro m H v cs G hu h;simp[yi,Ty.jo] at hu
 | map k v _ _=>intro m H v cs G hu h;simp[yi,Ty.flat] at hu
theorem uE {rs:List zs} {rv:Value} {G:FP} (h:gL P w A rs rv G):bj P A σ a w rv (nF rs) G/\∀ t m H v,nF rs=.box t m H v->∃ b,rv=.pointer (some ⟨b,0,none⟩)/\dg w b (t.sz,false):=by
 match rs,h with
 | [],_=>exact ⟨trivial,λ_ _ _ _ e=>by cases e⟩
 | [x],h=>
  obtain ⟨cs,rfl,U⟩:=h
  exact xW U
 | x::y::rs,h=>
  obtain ⟨vs,Fi,h1,U,h3⟩:=h
  exact ⟨⟨vs,Fi,h1,U,λj z hz=>by
   obtain ⟨v,cs,g1,g2,g3⟩:=h3 j z hz
   exact ⟨v,g1,.inr ⟨cs,g2,g3⟩⟩⟩,λ_ _ _ _ e=>by cases e⟩
theorem gL.free {A':Cells}:∀ {rs:List zs} {rv:Value} {G:FP},(∀ x ∈ rs,(x.t.flat||decide (x.m=ak x.t))=true/\x.t.jo=true)->gL P w A rs rv G->gL P w A' rs rv G
 | [],_,_,_,_=>trivial
 | [x],_,_,ho,⟨cs,h1,U⟩=>⟨cs,h1,ah.free (ho x (by simp)).1 (ho x (by simp)).2 U⟩
 | x::y::rs,_,_,ho,⟨vs,Fi,h1,U,h3⟩=>⟨vs,Fi,h1,U,λj z hz=>by
  grind [ah.free]⟩
theorem oP:∀ (rs:List (Ty×Md)) {ts:List Ty} (out:(bK (rs.map (·.1)++ts)).den),oX rs=true->∀ x ∈ (fa rs out).1,(x.t.flat||decide (x.m=ak x.t))=true/\x.t.jo=true
 | [],_,_,_=>λx hx=>by cases hx
 | (t,m)::rs,_,out,h=>λx hx=>by
  simp only[oX,Bool.and_eq_true] at h
  simp only[fa,List.mem_cons] at hx
  rcases hx with rfl | hx
  ·exact h.1
  ·exact oP rs out.2 h.2 x hx
theorem gL.mono {A':Cells} (hA:∀ b i,A b i->A' b i):∀ {rs:List zs} {rv:Value} {G:FP},gL P w A rs rv G->gL P w A' rs rv G
 | [],_,_,_=>trivial
 | [x],_,_,⟨cs,h1,U⟩=>⟨cs,h1,ah.mono hA (λ_ _ _ _ h=>h) (λ_ _ h=>h) _ U (λ_ _=>Nat.le_refl _) (λ_ _ _ _ h=>h)⟩
 | x::y::rs,_,_,⟨vs,Fi,h1,U,h3⟩=>⟨vs,Fi,h1,U,λj z hz=>by
  obtain ⟨v,cs,g1,g2,g3⟩:=h3 j z hz
  exact ⟨v,cs,g1,g2,ah.mono hA (λ_ _ _ _ h=>h) (λ_ _ h=>h) _ g3 (λ_ _=>Nat.le_refl _) (λ_ _ _ _ h=>h)⟩⟩
end
end OT
