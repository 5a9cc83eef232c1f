/- The proof's parts, merged: Operations, first part.. No conditions but those that each states. -/
import Derived.Test.YtaebhfnbgkbdhaaQa
import Derived.Laws.Slices
import Derived.Laws.Concat
import Derived.Laws.StructEq
import Derived.Laws.Cover3
import Derived.ChangeKeysEq
import Derived.Laws.MakeOwn
import Derived.Laws.IdiomStrings
import Derived.Laws.BytesArg
import Derived.Laws.Tables
import Derived.Great.BuildSlice
import Derived.Deep.AppendSrc
set_option linter.unusedVariables false
set_option linter.unusedSimpArgs false
namespace OT
open Go
section
variable {P:Program} {C:Ctx} {A:Cells} {X:FP} {σ:St} {a:Act} {w:World} {F:Nat->FP} {R:Type} {x:R} {Q:Exit->Act->World->Prop} {o:Oper} {E:Env}
def Nx (P:Program) (C:Ctx) {R:Type} (K:St->Option R) (x:R) (a:Act) (w:World):Prop:=∃ σ',K σ'=some x/\rT P C σ' a w
abbrev bd (P:Program) (C:Ctx) (A:Cells) (σ:St) (a:Act) (w:World) (F:Nat->FP):Prop:=Rel P C A (λ_ _=>0) σ a w F
theorem e8 {v:Value} {w':World} {next:Act->World->Prop} (cX:(execOp a.eval o).run P w=.ok (.value v) w') (hn:next (a.put o.dst v) w'):o.wp P a w next Q:=by
 unfold Oper.wp;rw[cX];exact hn
theorem yS {w':World} {next:Act->World->Prop} (cX:(execOp a.eval o).run P w=.ok .skip w') (hd:o.dst=none) (hn:next a w'):o.wp P a w next Q:=by
 unfold Oper.wp;rw[cX,Oper.upon,hd];exact hn
def reads:Op->Bool
 | .load .. | .convert ..=>true
 | _=>false
def iU (o:Oper) (w w':World):Prop:=reads o.op=true->Ext w w' (λ_ _=>0)
theorem iU.ext {o:Oper} {w w':World} (h:iU o w w') (hr:reads o.op=true):Ext w w' (λ_ _=>0):=h hr
def Tk (P:Program) (o:Oper) (a:Act) (w:World) (next:Act->World->Prop):Prop:=
 ∃ v,(∀ w',iU o w w'->(execOp a.eval o).run P w'=.ok (.value v) w')/\next (a.put o.dst v) w
theorem bN {v:Value} {next:Act->World->Prop} (cX:∀ w',iU o w w'->(execOp a.eval o).run P w'=.ok (.value v) w') (hn:next (a.put o.dst v) w):Tk P o a w next:=⟨v,cX,hn⟩
theorem Tk.wp {next:Act->World->Prop} (h:Tk P o a w next):o.wp P a w next Q:=by
 obtain ⟨v,h1,Y⟩:=h
 exact e8 (h1 w λ_=>Ext.refl _ _) Y
theorem kC {b i:Nat} {u:Value} (h:ce w b i=some u):b < w.heap.size:=by
 grind [ce,World.cell?]
theorem Has.ext {b o:Nat} {L:List Value} {w':World} (h:Has w b o L) (hw:Ext w w' (λ_ _=>0)):Has w' b o L:=λj u hu=>hw.cell b (o+j) (kC (h j u hu)) rfl u (h j u hu)
theorem fJ (h:Rel P C A X σ a w F) {K:St->Option R} {d:Option Tmp} {s:Slot} {v:Value} {Fd:FP} (hk:K (σ.aB d s)=some x) (hs:aQ P A σ a w v s Fd) (ht:∀ b i,Fd b i<=X b i)
  (Gq:∀ t m H v',s=.box t m H v'->∃ b,v=.pointer (some ⟨b,0,none⟩)/\cf w b (t.sz,false)):Nx P C K x (a.put d v) w:=by
 obtain ⟨F',hF⟩:=h.aB d (X':=λ_ _=>0) hs (λb i=>by grind) Gq
 exact ⟨_,hk,A,F',hF⟩
theorem aK (h:Rel P C A X σ a w F) {K:St->Option R} {d:Option Tmp} {s:Slot} {v:Value} (hk:K (σ.aB d s)=some x) (hs:aQ P A σ a w v s (λ_ _=>0))
  (hb:∀ t m H v',s≠.box t m H v'):Nx P C K x (a.put d v) w:=
 fJ h hk hs (λ_ _=>Nat.zero_le _) (λt m H v' e=>absurd e (hb t m H v'))
theorem ov (h:Rel P C A X σ a w F) {K:St->Option R} {d:Option Tmp} {t:Ty} {m:Md} {v:t.den} {cs:List Value} {Fd:FP} (hk:K (σ.aB d (laid t m v))=some x) (hr:ae P w A t m [] v cs Fd) (ht:∀ b i,Fd b i<=X b i) :
  Nx P C K x (a.put d (aY t cs)) w:=
 fJ h hk (sR (σ:=σ) (a:=a) hr).1 ht (sR (σ:=σ) (a:=a) hr).2
theorem bE {t:Nat} {K:Ty->Option R} (h:fU E t K=some x):∃ T,E.TI t=some T/\K T=some x:=by
 grind [fU]
theorem uS {s:Slot} {K:Bool->Option R} {tv:Value} {G:FP} (hs:aQ P A σ a w tv s G) (h:uD s K=some x):∃ b,tv=.bool b/\K b=some x:=by
 unfold uD at h
 split at h
 ·rename_i b;obtain ⟨cs,h1,Y⟩:=hs;simp only[Ro] at Y;subst Y;exact ⟨b,by rw[h1];rfl,h⟩
 ·cases h
theorem kW {s:Slot} {K:Int->Option R} {tv:Value} {G:FP} (hs:aQ P A σ a w tv s G) (h:kJ s K=some x):∃ k n,tv=.int k n/\K n=some x:=by
 unfold kJ at h
 split at h
 ·rename_i k n;obtain ⟨cs,h1,Y⟩:=hs;simp only[Ro] at Y;subst Y;exact ⟨k,_,by rw[h1];rfl,h⟩
 ·cases h
theorem qz (h:Rel P C A X σ a w F) {r:Nat} {p:Path} {pl:Pl} (hp:place σ a w r p=some pl):gF σ a w (aY pl.t pl.cs) r p (jR σ r p pl.t):=by
 have h5:=h.dK r
 refine ⟨?_,λ_=>⟨_,hp,rfl,?_⟩⟩
 ·unfold jR
  split
  ·intro j y hj;grind
  ·intro j y hj;grind
  ·exact Below.refl _
 ·unfold jR
  split
  ·rename_i e he;left;exact ⟨by rw[he];rfl,by grind⟩
  ·rename_i k v he;left;exact ⟨by rw[he];rfl,by grind⟩
  grind
theorem wQ (σ:St) (y:Operand) (t:Ty) (m:Md) (H:List Path) (v:t.den):a9 σ y≠.box t m H v:=by
 intro e
 cases y with
 | tmp i=>grind [a9]
 | const v=>simp only[a9] at e;unfold iP at e;grind
 | func f=>cases e
 | global g=>cases e
theorem DA (h:bd P C A σ a w F) {y:Operand} (ho:o.op=.move y) (am:aZ P y=true) {K:St->Option R} (hk:BS σ y o.dst K=some x):Tk P o a w (Nx P C K x):=by
 refine bN (v:=a.eval y) (by simp[execOp,ho]) ?_
 unfold BS at hk
 have hs:=bt h am
 split at hk
 ·rename_i xs i hx
  have hi:i < σ.n:=by
   grind [a9,dN]
  have hg:σ.get i=.gN xs:=by
   grind [a9]
  have gP:=h.bX i hi
  rw[hg] at gP
  have Y:=h.put hi (s:=.dead) (v:=tmp a i) (Fd:=λ_ _=>0) (X':=λb k=>F i b k) trivial (λb k=>by omega) (λt m H v e=>by cases e)
  rw[gG] at Y
  refine fJ Y hk (Fd:=F i) ?_ (λb i=>Nat.le_refl _) (λt m H v e=>by cases e)
  obtain ⟨vs,Fi,h3,h4,h5⟩:=gP
  exact ⟨vs,Fi,h3,h4,h5⟩
 all_goals grind [aK,wQ]
theorem DB (h:bd P C A σ a w F) {c y z:Operand} (ho:o.op=.pick c y z) (am:aZ P c=true/\aZ P y=true/\aZ P z=true) {K:St->Option R}
  (hk:(uD (a9 σ c) λc=>match a9 σ (bif c then y else z) with
   | .val .bool b=>K (σ.aB o.dst (.val .bool b))
   | _=>none)=some x):Tk P o a w (Nx P C K x):=by
 have hc:=bt h am.1
 rcases hc with hc | ⟨xs,e⟩
 ·obtain ⟨b,hb,hk⟩:=uS hc hk
  have Oe:∀ y':Operand,aZ P y'=true->(match a9 σ y' with
   | .val .bool b=>K (σ.aB o.dst (.val .bool b))
   | _=>none)=some x->Nx P C K x (a.put o.dst (a.eval y')) w:=λy' hy hk=>by
   grind [bt,aK]
  cases b <;> simp_all [bN,execOp,asBool]
 ·rw[e] at hk;cases hk
theorem DC (h:bd P C A σ a w F) (dr:∀ i T,E.TI i=some T->ao P T (.inl i)=true) {t:Nat} {y:Operand} (ho:o.op=.load t y) (am:aZ P y=true) {K:St->Option R}
  {mv:Bool} (hk:qi E σ t (a9 σ y) mv o.dst K=some x):Tk P o a w (Nx P C K x):=by
 unfold qi at hk
 obtain ⟨T,hT,hk⟩:=bE hk
 have cn:=dr _ _ hT
 have run:∀ b off L,a.eval y=.pointer (some ⟨b,off,none⟩)->Has w b off L->L.length=T.sz->(∀ u ∈ L,u.oneCell'=true)->∀ w',iU o w w'->(execOp a.eval o).run P w'=.ok (.value (aY T L)) w':=λb off L hy hL hl gj w' ip=>by
  have ip:=ip (by rw[ho];rfl)
  simp[execOp,ho,hy,Instr.loadAt,Instr.sureAddr,mB cn (hL.ext ip) hl gj]
 rcases bt h am with hs | ⟨xs,e⟩
 rotate_left
 ·grind
 split at hk
 ·rename_i t' v hv
  rw[hv] at hs
  split at hk
  ·rename_i e;subst e
   obtain ⟨⟨b,off,sp⟩,h1,Y,L,h3,h4,h5⟩:=hs
   simp only[List.cons.injEq,and_true] at h1
   simp only at Y;subst Y
   exact bN (run b off L h1 (λj u hu=>(h4 j u hu).1) h3 (Ro.one _ h5)) (aK h hk ⟨L,rfl,h5⟩ (λ_ _ _ _ e=>by cases e))
  ·cases hk
 ·rename_i r p snap hv
  rw[hv] at hs
  split at hk
  ·rename_i fm
   obtain ⟨hr,t',m',H',v',aC,aS,F',h1,Y,h3,h4,h5,h6⟩:=du h hk
   obtain ⟨pl,b,off,g1,g2,g3,g4⟩:=hs.2 fm
   rw[h3] at g1
   injection g1 with g1
   subst g1
   simp only at g2
   subst g2
   split at h1
   ·rename_i e;subst e
    refine bN (run b off aC g3 (h6 b off rfl) (ae.length _ h4) (ae.one _ h4)) ?_
    split at h1
    ·rename_i hf
     split at h1
     ·exact aK h h1 ⟨aC,rfl,ae.flat _ hf h4⟩ (λ_ _ _ _ e=>by cases e)
     ·cases h1
    ·split at h1
     ·rename_i hm
      split at h1
      ·rename_i hH
       have hH:=List.isEmpty_iff.1 hH;subst hH;subst hm
       cases mv with
       | false=>exact aK h h1 ⟨aC,rfl,ae.ro _ (bI _) h4⟩ (λ_ _ _ _ e=>by cases e)
       | true=>exact aK h h1 (qz h h3) (λ_ _ _ _ e=>by cases e)
      ·cases h1
     ·cases mv with
      | false=>exact aK h h1 (qz h h3) (λ_ _ _ _ e=>by cases e)
      | true=>
       simp only at h1
       split at h1
       ·rename_i hH
        have hH:=List.isEmpty_iff.1 hH;subst hH
        obtain ⟨A2,dU,F2,a_,pW,Fv,k1,k2,k3,k4,k5,k6,k7⟩:=wd h h1 ⟨Y⟩
        rw[h3] at k6
        simp only[Option.some.injEq,Pl.mk.injEq,true_and] at k6
        obtain ⟨rfl,rfl⟩:=k6
        have hl:=sR (σ:=dU) (a:=a) (ae.mono k2 (λ_ _ _ _ h=>h) (λ_ _ h=>h) _ k7 (λ_ _=>Nat.le_refl _) (λ_ _ _ _ h=>h))
        exact fJ k3 k1 hl.1 (λb i=>by omega) hl.2
       ·cases h1
   ·cases h1
  ·cases hk
 ·cases hk
theorem B_ (h:bd P C A σ a w F) (dr:∀ i T,E.TI i=some T->ao P T (.inl i)=true) {t:Nat} {y:Operand} (ho:o.op=.load t y) (am:aZ P y=true) {K:St->Option R}
  {mv fr:Bool} (hk:uE E σ t y mv fr o.dst K=some x):Tk P o a w (Nx P C K x):=by
 unfold uE at hk
 grind [DC,mO]
theorem Ca {b o b' i:Nat} {v u:Value} (bG:¬ (b=b'/\o=i)) (h:ce w b' i=some u):ce (w.setCell ⟨b,o,none⟩ v) b' i=some u:=by
 by_cases hb:b=b'
 ·subst hb
  cases hh:w.heap[b]? with
  | none=>grind [ce,World.cell?]
  | some ob=>
   cases ob <;> simp_all [World.setCell,Array.getElem?_modify,ce,World.cell?]
 grind [World.setCell,qo]
theorem gH {b o:Nat}:∀ (L:List Value) (w:World) (o:Nat),Ext w (w.setCells b o L) (bm b o L.length)
 | [],w,o=>Ext.refl _ _
 | v::L,w,o=>by
  have ih:=gH (b:=b) (o:=o+1) L (w.setCell ⟨b,o,none⟩ v) (o+1)
  have h1:Ext w (w.setCell ⟨b,o,none⟩ v) (bm b o (L.length+1)):=by
   refine ⟨by simp,λb' i hb hz u hu=>?_,λb' n hn=>?_,λb' i hb=>by simp,rfl,rfl,rfl,λb' hb hz=>?_,Nat.le_refl _⟩
   ·grind [Ca,bm]
   ·obtain ⟨c,e,fr,h1,Y,h3⟩:=hn
    by_cases Be:b=b'
    ·subst Be
     exact ⟨c.setIfInBounds o v,e,fr,by grind [World.setCell],by simp[Y],h3⟩
    ·exact ⟨c,e,fr,by grind [World.setCell],Y,h3⟩
   ·have bG:b≠b':=λe=>by
     subst e
     have:=hz o
     grind [bm]
    grind [World.setCell]
  exact h1.trans ih λb' i hb hz=>by
   grind [bm]
theorem ox {w:World} {b o:Nat} {L:List Value} (h:∀ j,j < L.length->(w.cell? ⟨b,o+j,none⟩).isSome=true) (gj:∀ u ∈ L,u.oneCell'=true):Has (w.setCells b o L) b o L:=by
 intro j u hu
 grind [vZ,World.cell?_setCells_in]
theorem Cb (h:bd P C A σ a w F) (dr:∀ i T,E.TI i=some T->ao P T (.inl i)=true) {t:Nat} {y z:Operand} (ho:o.op=.store t y z) (hd:o.dst=none) (am:aZ P y=true/\aZ P z=true) {mv:Bool} {K:St->Option R}
  (hk:yq E σ t (a9 σ y) (a9 σ z) mv K=some x):o.wp P a w (Nx P C K x) Q:=by
 unfold yq at hk
 obtain ⟨T,hT,hk⟩:=bE hk
 have cn:=dr _ _ hT
 rcases bt h am.1 with hs | ⟨xs,e⟩
 rotate_left
 ·grind
 split at hk
 ·rename_i r p snap hv
  rw[hv] at hs
  split at hk
  ·rename_i fm
   split at hk
   ·obtain ⟨pl,b,off,g1,g2,g3,g4⟩:=hs.2 fm
    rcases bt h am.2 with hz | ⟨xs,e⟩
    rotate_left
    ·grind [dR]
    obtain ⟨A',σ',F',m,v,cs,Fv,k1,k2,k3,k4,kr,k5,k6⟩:=jk h hz hk
    obtain ⟨hr,m2,H2,v2,a_,pW,F2,q1,q2,q3,q4,q5,q6⟩:=pV k3 k1
    have cI:pW=some (b,off):=by
     unfold place at g1 q2
     cases hR:ba w (tmp a r) (σ'.get r) with
     | none=>grind
     | some R1=>
      rw[hR] at q2
      obtain ⟨H0,nn⟩:=kr w (tmp a r) r R1 hR
      rw[nn] at g1
      have:=(J9 p R1.t g1 q2).2.2
      grind
    subst cI
    obtain ⟨rQ,gn⟩:=q5 b off rfl
    have hl:=ae.length _ k6
    have mN:=ae.length _ q3
    have gj:=ae.one _ k6
    have Kh:=ae.one _ q3
    have yT:∀ j,j < cs.length->(w.cell? ⟨b,off+j,none⟩).isSome=true:=λj hj=>by
     rw[kT (rQ j _ (List.getElem?_eq_getElem (by omega))) (Kh _ (List.getElem_mem _))];rfl
    have bh:=run_storeCells_cells (P:=P) b off cs 0 w (by simpa using yT) (λj hj=>by grind) gj
    have KW:(aY T cs).cells.toList=cs:=cV hl gj
    have eN:(aY T cs).cells.size=T.sz:=by grind
    have cX:(execOp a.eval o).run P w=.ok .skip (w.setCells b off cs):=by
     simp[execOp,ho,g3,k5,Instr.storeAt,Instr.sureAddr,storeVar,run_sizeOf cn,eN,KW,bh]
    refine yS cX hd ?_
    have cC:ae P (w.setCells b off cs) A' T m [] v cs Fv:=by
     refine ae.mono (λ_ _ h=>h) (λb' i ha u hu=>?_) (gH (b:=b) (o:=off) cs w off).l_ _ k6 (λ_ _=>Nat.le_refl _) (λb' i hp u hu=>?_)
     ·refine (gH (b:=b) (o:=off) cs w off).cell b' i (k3.cW b' i (.inr ha)) ?_ u hu
      have h1:=q4 b' i;have Y:=aW F' hr b' i
      rcases Nat.eq_zero_or_pos (dc (some (b,off)) T.sz b' i) with h0 | h0
      ·rw[hl];exact h0
      ·exact absurd ha (k3.fW b' i (by omega))
     ·have h1:=q4 b' i;have Y:=aW F' hr b' i;have h3:=k3.fA b' i
      refine (gH (b:=b) (o:=off) cs w off).cell b' i (k3.cW b' i (.inl (by omega))) ?_ u hu
      grind [dc]
    have bO:Ext w (w.setCells b off cs) (λb' i=>(0+Fv b' i)+(F2 b' i+dc (some (b,off)) T.sz b' i)):=(gH (b:=b) (o:=off) cs w off).mono λb' i hz=>by
     grind [dc]
    obtain ⟨A3,o9,Fr,n1,n2,n3,_⟩:=q6 (w.setCells b off cs) A' cs Fv (λ_ _=>0) bO (λ_ _ h=>h) (λ_ _ h=>.inl h) (λb i=>by omega) (λb' o' e=>by
      grind [ox]) (λe=>by cases e) cC
    exact ⟨o9,n1,A3,_,n3⟩
   ·cases hk
  ·cases hk
 ·cases hk
end
end OT
set_option linter.unusedVariables false
set_option linter.unusedSimpArgs false
namespace OT
open Go
section
variable {P:Program} {w:World} {A:Cells}
theorem Cc:∀ (p q:Path) (t:Ty) {H:List Path} {cs:List Value} {ad:Option (Nat×Nat)},ay w (p++q) t H cs ad=(ay w p t H cs ad).bind λpl=>ay w q pl.t pl.H pl.cs pl.ad:=by
 intro p
 induction p with
 | nil=>intro q t H cs ad;rfl
 | cons s p ih=>
  intro q t H cs ad
  cases t with
  | pair a b=>
   cases s <;> grind [ay]
  | af e=>
   cases s with
   | idx i=>
    simp only[List.cons_append,ay]
    split
    ·rfl
    ·split
     all_goals grind
   | _=>simp[ay]
  | arr n e=>
   cases s <;> grind [ay]
  | _=>grind [ay]
theorem tU:∀ (p:Path) (t:Ty) {H:List Path} {cs:List Value} {ad:Option (Nat×Nat)} {pl:Pl},ay w p t H cs ad=some pl->pA p t=some pl.t:=by
 intro p
 induction p with
 | nil=>intro t H cs ad pl h;simp only[ay,Option.some.injEq] at h;subst h;rfl
 | cons s p ih=>
  intro t H cs ad pl h
  cases t with
  | pair a b=>
   cases s with
   | fst=>simp only[ay] at h;split at h;cases h;exact ih a h
   | snd=>simp only[ay] at h;split at h;cases h;exact ih b h
   | _=>simp[ay] at h
  | af e=>
   cases s with
   | idx i=>
    simp only[ay] at h
    split at h
    ·cases h
    ·split at h
     ·split at h
      ·exact ih e h
      ·cases h
     ·cases h
   | _=>simp[ay] at h
  | arr n e=>
   cases s with
   | gm i=>
    simp only[ay] at h
    split at h
    ·split at h
     ·exact ih e h
     ·cases h
    ·cases h
   | _=>simp[ay] at h
  | _=>grind [ay]
theorem HG:∀ (q:Path) (t:Ty) {m:Md} {H:List Path} {v:t.den} {cs:List Value} {F:FP} {ad:Option (Nat×Nat)} {pl:Pl},ae P w A t m H v cs F->ay w q t H cs ad=some pl ->
  ∃ (m':Md) (v':pl.t.den) (F':FP),ae P w A pl.t m' pl.H v' pl.cs F':=by
 intro q
 induction q with
 | nil=>grind [ay]
 | cons s q ih=>
  intro t m H v cs F ad pl hr h
  cases t with
  | pair a b=>
   obtain ⟨h0,F1,F2,hs,h1,Y⟩:=hr
   cases s <;> grind [ay]
  | af e=>
   cases s with
   | idx i=>
    simp only[ae] at hr
    simp only[ay] at h
    split at h
    ·cases h
    ·rename_i hh
     rw[if_neg hh] at hr
     split at hr
     ·obtain ⟨a,cap,rfl,Y,h3,h4,h5⟩:=hr
      cases a with
      | none=>cases h
      | some bJ=>
       obtain ⟨g1,g2,g3,Fi,g4,g5⟩:=h5 bJ rfl
       simp only at h
       split at h
       ·rename_i hi
        obtain ⟨L,hl,hL,cC⟩:=g5 i _ (List.getElem?_eq_getElem hi)
        rw[g1,Nat.zero_add,bq hL hl] at h
        grind
       ·cases h
     ·obtain ⟨rfl,il,a,cap,rfl,Y,h3,h4⟩:=hr
      cases a with
      | none=>cases h
      | some bJ=>
       simp only at h
       split at h
       ·rename_i hi
        obtain ⟨L,hl,hL,cC⟩:=(h4 bJ rfl).2 i _ (List.getElem?_eq_getElem hi)
        rw[bq (λj u hu=>(hL j u hu).1) hl] at h
        exact ih e (Ro.rep e (λ_ _=>0) il cC) h
       ·cases h
   | _=>simp[ay] at h
  | arr n e=>
   cases s with
   | gm i=>
    obtain ⟨rfl,hf,hl,hlen,hr⟩:=hr
    simp only[ay,List.isEmpty_nil,if_true] at h
    split at h
    ·rename_i hi
     exact ih e (Ro.flat e (m:=.leaf) (λ_ _=>0) hf (hr i _ (List.getElem?_eq_getElem (by grind)))) h
    ·cases h
   | _=>simp[ay] at h
  | _=>grind [ay]
def cO:Nat->Ty->Nat
 | j+1,.pair a b=>a.sz+cO j b
 | _,_=>0
theorem Aj (ad:Option (Nat×Nat)):bR ad 0=ad:=by simp_all [bR]
theorem Cd (ad:Option (Nat×Nat)) (j k:Nat):bR (bR ad j) k=bR ad (j+k):=by cases ad <;> simp[bR,Nat.add_assoc]
theorem Bf:∀ (j:Nat) (S:Ty) {t':Ty} {m:Md} {H:List Path} {v:S.den} {cs:List Value} {F:FP} {ad:Option (Nat×Nat)},ae P w A S m H v cs F->ju j S=some t' ->
  ∃ H',ay w (eW j) S H cs ad=some ⟨t',H',(cs.drop (cO j S)).take t'.sz,bR ad (cO j S)⟩:=by
 intro j
 induction j with
 | zero=>
  intro S t' m H v cs F ad hr h
  cases S with
  | pair a b=>
   injection h with h;subst h
   obtain ⟨h0,F1,F2,hs,h1,Y⟩:=hr
   simp_all [eW,ay,cO,Aj]
  | _=>cases h
 | succ j ih=>
  intro S t' m H v cs F ad hr h
  cases S with
  | pair a b=>
   obtain ⟨h0,F1,F2,hs,h1,Y⟩:=hr
   obtain ⟨H',e⟩:=ih b (ad:=bR ad a.sz) Y h
   grind [eW,ay,cO,List.drop_drop,Cd]
  | _=>cases h
theorem EZ:∀ (j:Nat) (T:Ty) {t:Ty},pA (eW j) T=some t->∃ t2,ju j T=some t2:=by
 intro j
 induction j with
 | zero=>intro T t h;cases T <;> first | exact ⟨_,rfl⟩ | grind [eW,pA]
 | succ j ih=>intro T t h;cases T <;> first | (simp[eW,pA] at h;done) | exact ih _ (by simpa [eW,pA] using h)
theorem Bg:∀ (j:Nat) (S:Ty) {t':Ty} {fs:List Field} {off:Nat},ao P S (.inr (fs,off))=true->ju j S=some t' ->
  ∃ f,fs[j]?=some f/\f.offset=off+cO j S/\ao P t' (.inl f.type)=true/\1<=t'.sz:=by
 intro j
 induction j with
 | zero=>
  intro S t' fs off hl h
  cases S with
  | pair a b=>
   injection h with h;subst h
   cases fs <;> simp_all [ao,cO]
  | _=>cases h
 | succ j ih=>
  intro S t' fs off hl h
  cases S with
  | pair a b=>
   cases fs with
   | nil=>simp[ao] at hl
   | cons f r=>
    simp only[ao,Bool.and_eq_true,Nat.beq_eq,Nat.ble_eq] at hl
    obtain ⟨f',h1,Y,h3⟩:=ih b hl.2 h
    grind [cO]
  | _=>cases h
theorem uT {j:Nat} {S t':Ty} {i:TypeId} (hl:ao P S (.inl i)=true) (h:ju j S=some t') :
  ∃ fs f,P.underlying i=some (.struct fs)/\fs[j]?=some f/\f.offset=cO j S/\ao P t' (.inl f.type)=true/\1<=t'.sz:=by
 cases S with
 | pair a b=>
  simp only[ao,Bool.and_eq_true] at hl
  have Y:=hl.2
  split at Y
  ·rename_i fs hu
   split at Y
   ·rename_i f r uU
    have h3:ao P (.pair a b) (.inr (f::r,0))=true:=by
     grind [ao]
    grind [Bg]
   ·cases Y
  ·cases Y
 | _=>cases j <;> cases h
theorem jD {t:Ty} {i:TypeId} (h:ao P t (.inl i)=true) {cs:Array Value} {off:Nat} (hl:((cs.toList.drop off).take t.sz).length=t.sz):(part i cs off).run P w=.ok (aY t ((cs.toList.drop off).take t.sz)) w:=by
 unfold part
 simp only[Sem.run_bind,wP h,Result.andThen_ok]
 cases ht:isAgg t with
 | true=>
  simp only[if_true,Sem.run_bind,run_sizeOf h,Result.andThen_ok,Sem.run_pure,aY,ht]
  congr 2
  grind
 | false=>
  simp_all [yR,List.take_one,aY]
end
section
variable {P:Program} {C:Ctx} {A:Cells} {X:FP} {σ:St} {a:Act} {w:World} {F:Nat->FP} {R:Type} {x:R} {Q:Exit->Act->World->Prop} {o:Oper} {E:Env}
theorem wR (h:Rel P C A X σ a w F) {r:Nat} {p:Path} {pl:Pl} (hp:place σ a w r p=some pl):∃ (m':Md) (v':pl.t.den) (F':FP),ae P w A pl.t m' pl.H v' pl.cs F':=by
 have aH:=iT hp
 unfold place at hp
 cases hR:ba w (tmp a r) (σ.get r) with
 | none=>grind
 | some R0=>
  rw[hR] at hp
  obtain ⟨m0,v0,F1,q1,q2,q3,_⟩:=lw (h.bX r aH) hR
  grind [HG]
theorem iF (r:Nat) (p q:Path):place σ a w r (p++q)=(place σ a w r p).bind λpl=>ay w q pl.t pl.H pl.cs pl.ad:=by
 unfold place
 cases ba w (tmp a r) (σ.get r) <;> grind [Cc]
theorem uV {r:Nat} {p:Path} {pl:Pl} (hp:place σ a w r p=some pl):tN σ r p=some pl.t:=by
 unfold place at hp
 unfold tN yp
 cases hg:σ.get r with
 | own t m H v=>grind [ba,tU]
 | box t m H v=>
  rw[hg] at hp
  simp only[ba] at hp
  grind [tU]
 | _=>grind [ba]
theorem E0 (p:Path) (j:Nat):bc (p++eW j)=bc p:=by
 induction p with
 | nil=>induction j <;> grind [eW,bc]
 | cons s p ih=>cases s <;> simp only[List.cons_append,bc,ih]
theorem wS {A':Cells}:∀ (j:Nat) (S:Ty) {v:S.den} {K:(t':Ty)->t'.den->Option R} {cs:List Value},BP j S v K=some x->Ro P w A' S v cs ->
  ∃ t' v',ju j S=some t'/\K t' v'=some x/\Ro P w A' t' v' ((cs.drop (cO j S)).take t'.sz):=by
 intro j
 induction j with
 | zero=>
  intro S v K cs h hr
  cases S with
  | pair a b=>exact ⟨a,v.1,rfl,h,by simp only[cO,List.drop_zero];exact hr.1⟩
  | _=>cases h
 | succ j ih=>
  intro S v K cs h hr
  cases S with
  | pair a b=>
   obtain ⟨t',v',h1,Y,h3⟩:=ih b (v:=v.2) h hr.2
   exact ⟨t',v',h1,Y,by grind [cO,List.drop_drop]⟩
  | _=>cases h
theorem xM (h:bd P C A σ a w F) {y:Operand} (ho:o.op=.nilCheck y) (am:aZ P y=true) {K:St->Option R}
  (hk:(match a9 σ y with
  | .ptr r p snap=>if σ.ok r snap then K (σ.aB o.dst (.ptr r p snap)) else none
  | .cp t v=>K (σ.aB o.dst (.cp t v))
  | .val .fn f=>K (σ.aB o.dst (.val .fn f))
  | _=>none)=some x):Tk P o a w (Nx P C K x):=by
 rcases bt h am with hs | ⟨xs,e⟩
 rotate_left
 ·grind
 split at hk
 ·rename_i r p snap hv
  rw[hv] at hs
  split at hk
  ·rename_i fm
   obtain ⟨pl,b,off,g1,g2,g3,g4⟩:=hs.2 fm
   exact bN (v:=a.eval y) (by simp[execOp,ho,g3]) (aK h hk hs (λ_ _ _ _ e=>by cases e))
  ·cases hk
 ·rename_i t v hv
  rw[hv] at hs
  obtain ⟨ad,h1,_⟩:=id hs
  simp only[List.cons.injEq,and_true] at h1
  exact bN (v:=a.eval y) (by simp[execOp,ho,h1]) (aK h hk hs (λ_ _ _ _ e=>by cases e))
 ·rename_i f hv
  rw[hv] at hs
  obtain ⟨cs,h1,pC,Y,_⟩:=id hs
  subst Y
  exact bN (v:=a.eval y) (by simp[execOp,ho,h1,aY,isAgg]) (aK h hk hs (λ_ _ _ _ e=>by cases e))
 ·cases hk
theorem wg (h:bd P C A σ a w F) (dr:∀ i T,E.TI i=some T->ao P T (.inl i)=true) {S:Nat} {y:Operand} {j:Nat} (ho:o.op=.fieldAddr S y j) (am:aZ P y=true) {K:St->Option R}
  (hk:qj E σ S (a9 σ y) j o.dst K=some x):Tk P o a w (Nx P C K x):=by
 unfold qj at hk
 obtain ⟨T,hT,hk⟩:=bE hk
 have cn:=dr _ _ hT
 have run:∀ t' b off,ju j T=some t'->a.eval y=.pointer (some ⟨b,off,none⟩)->∀ w',iU o w w'->(execOp a.eval o).run P w'=.ok (.value (.pointer (some ⟨b,off+cO j T,none⟩))) w':=λt' b off ht hy w' _=>by
  obtain ⟨fs,f,h1,Y,h3,h4,h5⟩:=uT cn ht
  have eN:=run_sizeOf (P:=P) (w:=w') h4
  have bG:¬ t'.sz=0:=by omega
  simp_all [execOp,Instr.fieldAt,Instr.sureAddr,run_underlying,fieldPlace,gi]
 rcases bt h am with hs | ⟨xs,e⟩
 rotate_left
 ·grind
 split at hk
 ·rename_i t' v hv
  rw[hv] at hs
  split at hk
  ·rename_i e;subst e
   obtain ⟨⟨b,off,sp⟩,h1,Y,L,h3,h4,h5⟩:=hs
   simp only[List.cons.injEq,and_true] at h1
   simp only at Y;subst Y
   obtain ⟨t2,v2,q1,q2,q3⟩:=wS j t' hk h5
   refine bN (run t2 b off q1 h1) (aK h q2 ⟨_,rfl,rfl,_,Ro.length _ q3,λk u hu=>?_,q3⟩ (λ_ _ _ _ e=>by cases e))
   grind
  ·cases hk
 ·rename_i r p snap hv
  rw[hv] at hs
  split at hk
  ·rename_i fm
   split at hk
   ·rename_i oy
    split at hk
    ·rename_i hf
     obtain ⟨pl,b,off,g1,g2,g3,g4⟩:=hs.2 fm
     rw[uV g1] at oy
     injection oy with oy
     obtain ⟨t',pX⟩:=Option.isSome_iff_exists.1 hf
     refine bN (run t' b off pX g3) (aK h hk ⟨hs.1,λ_=>?_⟩ (λ_ _ _ _ e=>by cases e))
     obtain ⟨m',v',F',cC⟩:=wR h g1
     obtain ⟨tp,Hp,IM,Gy⟩:=pl
     simp only at oy g2 cC
     subst oy
     obtain ⟨H',e⟩:=Bf (ad:=Gy) j tp cC pX
     grind [bR,E0,iF]
    ·cases hk
   ·cases hk
  ·cases hk
 ·cases hk
theorem Ce (h:bd P C A σ a w F) (dr:∀ i T,E.TI i=some T->ao P T (.inl i)=true) {S:Nat} {y:Operand} {j:Nat} (ho:o.op=.field S y j) (am:aZ P y=true) {K:St->Option R}
  (hk:vR E σ S (a9 σ y) j o.dst K=some x):Tk P o a w (Nx P C K x):=by
 unfold vR at hk
 obtain ⟨T,hT,hk⟩:=bE hk
 have cn:=dr _ _ hT
 have run:∀ t' cs,ju j T=some t'->a.eval y=aY T cs->((cs.drop (cO j T)).take t'.sz).length=t'.sz->∀ w',iU o w w'->(execOp a.eval o).run P w'=.ok (.value (aY t' ((cs.drop (cO j T)).take t'.sz))) w':=λt' cs ht hy hl w' _=>by
  obtain ⟨fs,f,h1,Y,h3,h4,h5⟩:=uT cn ht
  have Oq:aY T cs=.agg cs.toArray:=by cases T <;> first | rfl | (cases j <;> cases ht)
  have:=jD (P:=P) (w:=w') h4 (cs:=cs.toArray) (off:=cO j T) (by simpa using hl)
  simp_all [execOp,Instr.field,run_underlying,asAgg]
 rcases bt h am with hs | ⟨xs,e⟩
 rotate_left
 ·grind
 split at hk
 ·rename_i t' v hv
  rw[hv] at hs
  split at hk
  ·rename_i e;subst e
   obtain ⟨cs,h1,Y⟩:=hs
   obtain ⟨t2,v2,q1,q2,q3⟩:=wS j t' hk Y
   exact bN (run t2 cs q1 h1 (Ro.length _ q3)) (aK h q2 ⟨_,rfl,q3⟩ (λ_ _ _ _ e=>by cases e))
  ·cases hk
 ·rename_i r p snap hv
  rw[hv] at hs
  split at hk
  ·rename_i fm
   split at hk
   ·rename_i oy
    obtain ⟨hr,t',m',H',v',aC,aS,F',h1,Y,h3,h4,h5,h6⟩:=du h hk
    obtain ⟨pl,g1,g2,g3⟩:=hs.2 fm
    rw[uV g1] at oy
    injection oy with oy
    obtain ⟨m0,v0,F0,cC⟩:=wR h g1
    obtain ⟨tp,Hp,IM,Gy⟩:=pl
    simp only at oy g2 cC
    subst oy
    have hf:∃ t2,ju j tp=some t2:=by
     have h7:=h3
     rw[iF,g1] at h7
     exact EZ j tp (tU _ _ h7)
    obtain ⟨t2,KX⟩:=hf
    obtain ⟨H2,e⟩:=Bf (ad:=Gy) j tp cC KX
    have cI:place σ a w r (p++eW j)=some ⟨t2,H2,(IM.drop (cO j tp)).take t2.sz,bR Gy (cO j tp)⟩:=by grind [iF]
    rw[cI] at h3
    injection h3 with h3
    simp only[Pl.mk.injEq] at h3
    obtain ⟨rfl,rfl,rfl,rfl⟩:=h3
    refine bN (run t2 IM KX g2 (ae.length _ h4)) ?_
    split at h1
    ·rename_i hc
     split at h1
     ·rename_i hH
      have hH:=List.isEmpty_iff.1 hH;subst hH
      refine aK h h1 ⟨_,rfl,?_⟩ (λ_ _ _ _ e=>by cases e)
      grind [ae.flat,ae.ro,bI]
     ·cases h1
    ·exact aK h h1 (qz h cI) (λ_ _ _ _ e=>by cases e)
   ·cases hk
  ·cases hk
 ·cases hk
end
end OT
set_option linter.unusedVariables false
set_option linter.unusedSimpArgs false
namespace OT
open Go
section
variable {P:Program} {C:Ctx} {A:Cells} {X:FP} {σ:St} {a:Act} {w:World} {F:Nat->FP} {R:Type} {x:R} {Q:Exit->Act->World->Prop} {o:Oper} {E:Env}
theorem tV {n:Int} {len:Nat} {K:Nat->Option R} (h:Dg n len K=some x):0<=n/\n < (len:Int)/\K n.toNat=some x:=by
 grind [Dg]
theorem bind_some {α:Type} {o:Option α} {K:α->Option R} (h:o.bind K=some x):∃ y,o=some y/\K y=some x:=by
 cases o <;> grind
theorem jr {e:Ty} {i:TypeId} (h:ao P (.af e) (.inl i)=true):∃ el,P.underlying i=some (.slice el)/\1<=e.sz/\ao P e (.inl el)=true:=by
 grind [ao,Nat.ble_eq]
theorem Bh {n:Nat} {e:Ty} {i:TypeId} (h:ao P (.arr n e) (.inl i)=true):∃ el,P.underlying i=some (.array n el)/\1<=e.sz/\ao P e (.inl el)=true:=by
 grind [ao,Nat.ble_eq,Nat.beq_eq]
theorem ef {i:TypeId} (h:ao P .str (.inl i)=true):P.underlying i=some .string:=by
 grind [ao]
theorem gd {k:IntKind} {i:TypeId} (h:ao P (.int k) (.inl i)=true):P.underlying i=some (.int k):=by
 grind [ao]
theorem Ak (p q:Path):bc (p++q)=bc p+bc q:=by
 induction p with
 | nil=>simp[bc]
 | cons s p ih=>cases s <;> simp only[List.cons_append,bc,ih] <;> omega
theorem uW (h:Rel P C A X σ a w F) {r:Nat} {p:Path} {pl:Pl} {b off:Nat} (hp:place σ a w r p=some pl) (cR:pl.ad=some (b,off)):pU σ a w (.pointer (some ⟨b,off,none⟩)) r p (kS σ r p):=by
 have h5:=h.dK r
 refine ⟨?_,λ_=>⟨pl,b,off,hp,cR,rfl,by grind [kS]⟩⟩
 unfold kS
 intro j y hj;grind
theorem wh (h:bd P C A σ a w F) (dr:∀ i T,E.TI i=some T->ao P T (.inl i)=true) {t:Nat} {y z:Operand} (ho:o.op=.indexAddr t y z) (am:aZ P y=true/\aZ P z=true) {K:St->Option R}
  (hk:qk E σ t (a9 σ y) (a9 σ z) o.dst K=some x):Tk P o a w (Nx P C K x):=by
 unfold qk at hk
 obtain ⟨T,hT,hk⟩:=bE hk
 have cn:=dr _ _ hT
 rcases bt h am.2 with hz | ⟨xs,e⟩
 rotate_left
 ·rw[e] at hk;cases hk
 obtain ⟨kz,n,Bi,hk⟩:=kW hz hk
 have rU:∀ e ad len cap,T=.af e->a.eval y=.slice (some ad) len cap->ad.spot=none->0<=n->n < (len:Int)->∀ w',iU o w w'->(execOp a.eval o).run P w'=.ok (.value (.pointer (some ⟨ad.block,ad.off+n.toNat*e.sz,none⟩))) w':=λe ad len cap gR hy gZ h0 h1 w' _=>by
  subst gR
  obtain ⟨el,hu,_,hle⟩:=jr cn
  obtain ⟨b,off,sp⟩:=ad
  simp only at gZ;subst gZ
  have eN:=run_sizeOf (P:=P) (w:=w') hle
  simp[execOp,ho,hy,Bi,Instr.indexAt,asIntOf,run_underlying hu,h0,h1,eN,gi]
 have IN:∀ m e b off,T=.arr m e->a.eval y=.pointer (some ⟨b,off,none⟩)->0<=n->n < (m:Int)->∀ w',iU o w w'->(execOp a.eval o).run P w'=.ok (.value (.pointer (some ⟨b,off+n.toNat*e.sz,none⟩))) w':=λm e b off gR hy h0 h1 w' _=>by
  subst gR
  obtain ⟨el,hu,_,hle⟩:=Bh cn
  have eN:=run_sizeOf (P:=P) (w:=w') hle
  simp[execOp,ho,hy,Bi,Instr.indexAt,asIntOf,run_underlying hu,h0,h1,eN,gi,Instr.sureAddr]
 have MI:∀ (e:Ty) (v:List e.den) (tv:Value) (yv:e.den),T=.af e->a.eval y=tv->Ro P w A (.af e) v [tv]->0<=n->v[n.toNat]?=some yv->K (σ.aB o.dst (.cp e yv))=some x->Tk P o a w (Nx P C K x):=λe v tv yv gR hy im h0 rV hk=>by
  obtain ⟨xa,cap,h1,Y,h3,h4⟩:=im
  simp only[List.cons.injEq,and_true] at h1
  subst h1
  have aH:=(List.getElem?_eq_some_iff.1 rV).1
  cases xa with
  | none=>grind
  | some ad=>
   obtain ⟨g1,g2⟩:=h4 ad rfl
   obtain ⟨L,l1,l2,l3⟩:=g2 _ _ rV
   exact bN (rU e ad _ cap gR hy (g1 (by omega)) h0 (by omega)) (aK h hk ⟨_,rfl,rfl,L,l1,l2,l3⟩ (λ_ _ _ _ e=>by cases e))
 rcases bt h am.1 with hs | ⟨xs,e⟩
 rotate_left
 ·grind
 split at hk
 ·rename_i e v hv
  rw[hv] at hs
  split at hk
  ·rename_i gR
   split at hk
   ·rename_i h0
    obtain ⟨yv,rV,hk⟩:=bind_some hk
    obtain ⟨cs,h1,Y⟩:=hs
    have hl:=Ro.length _ Y
    match cs,hl with
    | [tv],_=>exact MI e v tv yv gR (by rw[h1,bj _ _ rfl]) Y h0 rV hk
   ·cases hk
  ·cases hk
 ·rename_i m e v hv
  rw[hv] at hs
  split at hk
  ·rename_i gR
   split at hk
   ·rename_i h0
    obtain ⟨yv,rV,hk⟩:=bind_some hk
    obtain ⟨⟨b,off,sp⟩,h1,Y,L,h3,h4,h5⟩:=hs
    simp only[List.cons.injEq,and_true] at h1
    simp only at Y;subst Y
    obtain ⟨q1,q2,q3,q4⟩:=h5
    have aH:n.toNat < m:=q2 ▸ (List.getElem?_eq_some_iff.1 rV).1
    have im:=q4 _ _ rV
    refine bN (IN m e b off gR h1 h0 (by omega)) (aK h hk ⟨_,rfl,rfl,_,Ro.length _ im,λk u hu=>?_,im⟩ (λ_ _ _ _ e=>by cases e))
    grind
   ·cases hk
  ·cases hk
 ·rename_i r p snap hv
  rw[hv] at hs
  split at hk
  ·rename_i fm
   obtain ⟨hr,t',m',H',v',aC,aS,F',h1,Y,h3,h4,h5,h6⟩:=du h hk
   obtain ⟨pl,g1,g2,g3⟩:=hs.2 fm
   rw[h3] at g1
   injection g1 with g1
   subst g1
   simp only at g2
   split at h1
   ·cases h1
   ·rename_i hH
    have hH:hole H'=false:=Bool.eq_false_iff.2 hH
    split at h1
    ·rename_i gR
     split at h1
     ·rename_i e Bj
      have hl:=ae.length _ h4
      split at h1
      ·rename_i cm
       obtain ⟨i0,i1,h1⟩:=tV h1
       have cC:=h4
       simp only[ae,hH,Bool.false_eq_true,if_false,cm,if_true] at cC
       obtain ⟨xa,cap,rfl,q2,q3,q4,q5⟩:=cC
       cases xa with
       | none=>grind
       | some bJ=>
        obtain ⟨r1,r2,r3,Fi,r4,r5⟩:=q5 bJ rfl
        rw[bj _ _ rfl] at g2
        have aH:n.toNat < List.length Bj:=by omega
        refine bN (rU e bJ _ cap gR.symm g2 r2 i0 i1) (aK h h1 (uW (pl:=⟨e,H'.filterMap (dx n.toNat),rd w bJ.block (bJ.off+n.toNat*e.sz) e.sz,some (bJ.block,bJ.off+n.toNat*e.sz)⟩) h ?_ rfl) (λ_ _ _ _ e=>by cases e))
        grind [iF,ay]
      ·rename_i cm
       split at h1
       ·rename_i h0
        obtain ⟨yv,rV,h1⟩:=bind_some h1
        have cC:=h4
        simp only[ae,hH,Bool.false_eq_true,if_false,cm] at cC
        match aC,hl with
        | [tv],_=>
         rw[bj _ _ rfl] at g2
         grind
       ·cases h1
     ·cases h1
    ·cases h1
  ·cases hk
 ·rename_i r p snap lo hi hv
  rw[hv] at hs
  split at hk
  ·rename_i fm
   obtain ⟨hr,t',m',H',v',aC,aS,F',h1,Y,h3,h4,h5,h6⟩:=du h hk
   obtain ⟨pl,e,xa,len,cap,kw,cap',g1,g2,g3,g4,g5,g6,g7,Bb,g8,g9,g10⟩:=hs.2 fm
   rw[h3] at g1
   injection g1 with g1
   subst g1
   simp only at g2 g3
   subst g2;subst g3
   split at h1
   ·cases h1
   ·rename_i hH
    have hH:hole H'=false:=Bool.eq_false_iff.2 hH
    split at h1
    ·rename_i gR
     obtain ⟨i0,i1,h1⟩:=tV h1
     have oo:∃ bJ,xa=some bJ/\bJ.spot=none:=by
      simp only[ae,hH,Bool.false_eq_true,if_false] at h4
      cases xa with
      | none=>
       split at h4
       ·grind
       ·obtain ⟨_,_,IP,wi,q1,q2,q3,_⟩:=h4
        grind
      | some bJ=>
       refine ⟨bJ,rfl,?_⟩
       split at h4
       ·grind
       ·obtain ⟨_,_,IP,wi,q1,q2,q3,q4⟩:=h4
        grind
     obtain ⟨bJ,rfl,gZ⟩:=oo
     obtain ⟨tc,e1,e2,e3,e4⟩:=g9 bJ rfl
     subst e1
     have e4:=e4 (by omega)
     refine bN (rU e tc _ cap' gR.symm g6 (e2.trans gZ) i0 i1) ?_
     have yU:(⟨tc.block,tc.off+n.toNat*e.sz,none⟩:Addr)=⟨bJ.block,bJ.off+(lo+n.toNat)*e.sz,none⟩:=by
      grind
     rw[yU]
     have aH:lo+n.toNat < len:=by omega
     refine aK h h1 (uW (pl:=⟨e,H'.filterMap (dx (lo+n.toNat)),rd w bJ.block (bJ.off+(lo+n.toNat)*e.sz) e.sz,some (bJ.block,bJ.off+(lo+n.toNat)*e.sz)⟩) h ?_ rfl) (λ_ _ _ _ e=>by cases e)
     grind [iF,ay]
    ·cases h1
  ·cases hk
 ·rename_i r p snap hv
  rw[hv] at hs
  split at hk
  ·rename_i fm
   obtain ⟨hr,t',m',H',v',aC,aS,F',h1,Y,h3,h4,h5,h6⟩:=du h hk
   obtain ⟨pl,b,off,g1,g2,g3,g4⟩:=hs.2 fm
   rw[h3] at g1
   injection g1 with g1
   subst g1
   simp only at g2
   subst g2
   split at h1
   ·rename_i gR
    split at h1
    ·rename_i m e Bj
     obtain ⟨i0,i1,h1⟩:=tV h1
     obtain ⟨hH,hf,hl,hlen,im⟩:=h4
     subst hH
     have aH:n.toNat < m:=by omega
     refine bN (IN m e b off gR.symm g3 i0 (by omega)) (aK h h1 ⟨hs.1,λ_=>⟨⟨e,[],(aC.drop (n.toNat*e.sz)).take e.sz,some (b,off+n.toNat*e.sz)⟩,b,off+n.toNat*e.sz,?_,rfl,rfl,?_⟩⟩ (λ_ _ _ _ e=>by cases e))
     ·grind [iF,ay,bR]
     ·rw[Ak];exact g4
    ·cases h1
   ·cases h1
  ·cases hk
 ·cases hk
end
end OT
set_option linter.unusedVariables false
set_option linter.unusedSimpArgs false
namespace OT
open Go
section
variable {P:Program} {C:Ctx} {A:Cells} {X:FP} {σ:St} {a:Act} {w:World} {F:Nat->FP} {R:Type} {x:R} {Q:Exit->Act->World->Prop} {o:Oper} {E:Env}
theorem DD (s:List UInt8) (n:Nat):(⟨s.toArray⟩:ByteArray)[n]?=s[n]?:=by
 by_cases h:n < s.length
 ·have h1:n < (⟨s.toArray⟩:ByteArray).size:=by simpa [ByteArray.size] using h
  rw[getElem?_pos _ n h1,List.getElem?_eq_getElem h]
  rfl
 grind [ByteArray.size]
theorem Cf (h:bd P C A σ a w F) (dr:∀ i T,E.TI i=some T->ao P T (.inl i)=true) {t:Nat} {y z:Operand} (ho:o.op=.index t y z) (am:aZ P y=true/\aZ P z=true) {K:St->Option R}
  (hk:yr E σ t (a9 σ y) (a9 σ z) o.dst K=some x):Tk P o a w (Nx P C K x):=by
 unfold yr at hk
 have wT:=bE hk
 clear hk
 obtain ⟨T,hT,eF⟩:=wT
 have cn:=dr _ _ hT
 rcases bt h am.2 with hz | ⟨xs,e⟩
 rotate_left
 ·rw[e] at eF;cases eF
 have MJ:=kW hz eF
 clear eF
 obtain ⟨kz,n,Bi,hk⟩:=MJ
 rcases bt h am.1 with hs | ⟨xs,e⟩
 rotate_left
 ·grind
 split at hk
 ·rename_i s hv
  rw[hv] at hs
  split at hk
  ·rename_i gR;subst gR
   split at hk
   ·rename_i h0
    obtain ⟨c,hc,hk⟩:=bind_some hk
    obtain ⟨cs,h1,Y⟩:=hs
    simp only[Ro] at Y;subst Y
    have hb:=DD s n.toNat
    rw[hc] at hb
    refine bN (v:=.int .u8 c.toNat) ?_ (aK h hk ⟨[_],rfl,rfl⟩ (λ_ _ _ _ e=>by cases e))
    simp[execOp,ho,h1,aY,isAgg,Bi,Instr.index,asIntOf,run_underlying (ef cn),h0,hb]
   ·cases hk
  ·cases hk
 ·rename_i m e v hv
  rw[hv] at hs
  split at hk
  ·rename_i gR;subst gR
   split at hk
   ·rename_i h0
    obtain ⟨yv,rV,hk⟩:=bind_some hk
    obtain ⟨cs,h1,Y⟩:=hs
    obtain ⟨q1,q2,q3,q4⟩:=id Y
    obtain ⟨el,hu,_,hle⟩:=Bh cn
    have aH:n.toNat < m:=q2 ▸ (List.getElem?_eq_some_iff.1 rV).1
    have qu:n < (m:Int):=by omega
    have im:=q4 _ _ rV
    refine bN (v:=aY e ((cs.drop (n.toNat*e.sz)).take e.sz)) (λw' _=>?_) (aK h hk ⟨_,rfl,im⟩ (λ_ _ _ _ e=>by cases e))
    have hp:=jD (P:=P) (w:=w') hle (cs:=cs.toArray) (off:=n.toNat*e.sz) (by grind [Ro.length])
    simp only[List.toList_toArray] at hp
    have eN:=run_sizeOf (P:=P) (w:=w') hle
    simp_all [execOp,aY,isAgg,Instr.index,asIntOf,run_underlying]
   ·cases hk
  ·cases hk
 ·cases hk
theorem oz {t:Ty} {m:Md} {H:List Path} {e:Ty} {v:List e.den} {cs:List Value} {G:FP} (h:ae P w A (.af e) m H v cs G) (hH:hole H=false) :
  ∃ xa cap,cs=[.slice xa (List.length v) cap]/\List.length v<=cap/\(xa=none->List.length v=0):=by
 simp only[ae,hH,Bool.false_eq_true,if_false] at h
 split at h
 ·grind
 ·obtain ⟨_,_,xa,cap,q1,q2,q3,q4⟩:=h
  grind
theorem oA {t:Nat} {y:Operand} (ho:o.op=.call { callee:=.builtin .len,args:=#[y],argTypes:=#[t] }) :
  (execOp a.eval o).run P w=((Builtin.len_ #[t] o.type #[a.eval y]).run P w).andThen λv w'=>.ok (.value v) w':=by
 simp_all [execOp,resolve,invoke,builtin]
theorem E1 (h:bd P C A σ a w F) (dr:∀ i T,E.TI i=some T->ao P T (.inl i)=true) {t:Nat} {y:Operand} (ho:o.op=.call { callee:=.builtin .len,args:=#[y],argTypes:=#[t] }) (am:aZ P y=true) {K:St->Option R}
  (hk:ES E σ t (a9 σ y) (λn=>K (σ.aB o.dst (.val (.int .i64) (n:Int))))=some x):Tk P o a w (Nx P C K x):=by
 unfold ES at hk
 obtain ⟨T,hT,hk⟩:=bE hk
 have cn:=dr _ _ hT
 rcases bt h am with hs | ⟨xs,e⟩
 rotate_left
 ·grind
 have fin:∀ n:Nat,K (σ.aB o.dst (.val (.int .i64) (n:Int)))=some x->Nx P C K x (a.put o.dst (.int .i64 (n:Int))) w:=λn hk=>aK h hk ⟨[_],rfl,rfl⟩ (λ_ _ _ _ e=>by cases e)
 split at hk
 ·split at hk
  ·rename_i s hv
   rw[hv] at hs
   obtain ⟨cs,h1,Y⟩:=hs
   simp only[Ro] at Y;subst Y
   refine bN (v:=.int .i64 (s.length:Int)) (λw' _=>?_) (fin _ hk)
   have e:a.eval y=.string ⟨List.toArray s⟩:=h1
   have e2:(⟨List.toArray s⟩:ByteArray).size=s.length:=rfl
   rw[oA ho,e]
   unfold Builtin.len_
   simp only[List.getElem?_toArray,List.getElem?_cons_zero,Sem.run_bind,run_underlying (ef cn),Result.andThen_ok,Sem.run_pure,goInt,e2]
  ·cases hk
 ·rename_i e
  obtain ⟨el,hu,_,hle⟩:=jr cn
  have run:∀ xa n cap,a.eval y=.slice xa n cap->∀ w',iU o w w'->(execOp a.eval o).run P w'=.ok (.value (.int .i64 (n:Int))) w':=λxa n cap hy w' _=>by
   rw[oA ho]
   simp[Builtin.len_,hy,run_underlying hu,goInt]
  split at hk
  ·rename_i e' v hv
   rw[hv] at hs
   obtain ⟨cs,h1,xa,cap,Y,_⟩:=hs
   subst Y
   exact bN (run xa _ cap h1) (fin _ hk)
  ·rename_i hv
   rw[hv] at hs
   exact bN (run none 0 0 hs) (fin _ hk)
  ·rename_i r p snap hv
   rw[hv] at hs
   split at hk
   ·rename_i fm
    obtain ⟨hr,t',m',H',v',aC,aS,F',h1,Y,h3,h4,h5,h6⟩:=du h hk
    obtain ⟨pl,g1,g2,g3⟩:=hs.2 fm
    rw[h3] at g1
    injection g1 with g1
    subst g1
    simp only at g2
    split at h1
    ·cases h1
    ·rename_i hH
     have hH:hole H'=false:=Bool.eq_false_iff.2 hH
     split at h1
     ·rename_i e' Bj
      obtain ⟨xa,cap,q1,q2,q3⟩:=oz (t:=.unit) h4 hH
      subst q1
      exact bN (run xa _ cap g2) (fin _ h1)
     ·cases h1
   ·cases hk
  ·rename_i r p snap lo hi hv
   rw[hv] at hs
   split at hk
   ·rename_i fm
    obtain ⟨pl,e',xa,len,cap,kw,cap',g1,g2,g3,g4,g5,g6,g7,Bb,g8,g9,g10⟩:=hs.2 fm
    grind [bN]
   ·cases hk
  ·cases hk
 ·cases hk
theorem DE {len cap:Nat} {lo hi:Option Operand} {K:Nat->Nat->Option R} (kK:len<=cap) (yQ:∀ y,lo=some y->aQ P A σ a w (a.eval y) (a9 σ y) (λ_ _=>0)) (MK:∀ y,hi=some y->aQ P A σ a w (a.eval y) (a9 σ y) (λ_ _=>0))
  (hk:jq len (lo.map (a9 σ)) (hi.map (a9 σ)) K=some x):∃ l h,l<=h/\h<=len/\K l h=some x/\(∀ w',(Instr.sliceBounds true len cap (lo.map a.eval) (hi.map a.eval) none).run P w'=.ok (l,h,cap) w') /\
   (len=cap->∀ w',(Instr.sliceBounds false len cap (lo.map a.eval) (hi.map a.eval) none).run P w'=.ok (l,h,cap) w'):=by
 have cW:∀ (k:IntKind) (i:Int) (y:Nat) code,0<=i->i<=(y:Int)->∀ w',(Instr.sliceBound (.int k i) y code).run P w'=.ok i.toNat w':=λk i y code h0 h1 w'=>run_sliceBound w' k i y code h0 h1
 have two:∀ (DF jj:Option Value) (l h:Nat),(DF=none/\l=0\/∃ k n,DF=some (.int k n)/\0<=n/\n<=(h:Int)/\l=n.toNat)->(jj=none/\h=len\/∃ k n,jj=some (.int k n)/\0<=n/\n<=(len:Int)/\h=n.toNat) ->
   (∀ w',(Instr.sliceBounds true len cap DF jj none).run P w'=.ok (l,h,cap) w')/\(len=cap->∀ w',(Instr.sliceBounds false len cap DF jj none).run P w'=.ok (l,h,cap) w'):=λDF jj l h h1 Y=>by
  rcases Y with ⟨rfl,rfl⟩ | ⟨k2,n2,rfl,b1,b2,rfl⟩
  ·rcases h1 with ⟨rfl,rfl⟩ | ⟨k1,n1,rfl,J,a2,rfl⟩
   ·simp_all [Instr.sliceBounds]
   ·exact ⟨by simp_all [Instr.sliceBounds],λ_=>by simp_all [Instr.sliceBounds]⟩
  ·have c1:=cW k2 n2 cap .sliceAcap b1 (by omega)
   have c2:=cW k2 n2 cap .sliceAlen b1 (by omega)
   rcases h1 with ⟨rfl,rfl⟩ | ⟨k1,n1,rfl,J,a2,rfl⟩
   all_goals simp_all [Instr.sliceBounds]
 unfold jq at hk
 cases lo with
 | none=>
  cases hi <;> grind [kW]
 | some yl=>
  cases hi <;> grind [kW]
theorem xN (s:List UInt8) (l h:Nat) (hl:l<=h) (hh:h<=s.length):(⟨s.toArray⟩:ByteArray).extract l h=⟨((s.take h).drop l).toArray⟩:=by
 apply ByteArray.ext
 grind [ByteArray.data_extract]
theorem Cg (h:bd P C A σ a w F) (dr:∀ i T,E.TI i=some T->ao P T (.inl i)=true) {t:Nat} {y:Operand} {lo hi:Option Operand} (ho:o.op=.slice t y lo hi none)
  (am:aZ P y=true/\(∀ z,lo=some z->aZ P z=true)/\(∀ z,hi=some z->aZ P z=true)) {K:St->Option R}
  (hk:yt E σ t (a9 σ y) (lo.map (a9 σ)) (hi.map (a9 σ)) o.dst K=some x):Tk P o a w (Nx P C K x):=by
 unfold yt at hk
 have wT:=bE hk
 clear hk
 obtain ⟨T,hT,hk⟩:=wT
 have cn:=dr _ _ hT
 have Gz:∀ z,aZ P z=true->(∀ xs,a9 σ z≠.gN xs)->aQ P A σ a w (a.eval z) (a9 σ z) (λ_ _=>0):=λz hz hn=>by
  grind [bt]
 have bound:∀ (len cap:Nat) (K':Nat->Nat->Option R),len<=cap->jq len (lo.map (a9 σ)) (hi.map (a9 σ)) K'=some x->∃ l h,l<=h/\h<=len/\K' l h=some x/\(∀ w',(Instr.sliceBounds true len cap (lo.map a.eval) (hi.map a.eval) none).run P w'=.ok (l,h,cap) w') /\
   (len=cap->∀ w',(Instr.sliceBounds false len cap (lo.map a.eval) (hi.map a.eval) none).run P w'=.ok (l,h,cap) w'):=λlen cap K' hc hb=>by
  refine DE hc (λz hz=>Gz z (am.2.1 z hz) λxs e=>?_) (λz hz=>Gz z (am.2.2 z hz) λxs e=>?_) hb
  ·subst hz
   unfold jq at hb
   grind [kJ]
  ·subst hz
   unfold jq at hb
   cases lo with
   | none=>grind [kJ]
   | some yl=>
    simp only[Option.map_some,e] at hb
    unfold kJ at hb
    grind
 have rU:∀ e xa len cap l h,T=.af e->a.eval y=.slice xa len cap->l<=cap->(∀ ad,xa=some ad->0 < cap->ad.spot=none)->(∀ w',(Instr.sliceBounds true len cap (lo.map a.eval) (hi.map a.eval) none).run P w'=.ok (l,h,cap) w') ->
   ∀ w',iU o w w'->(execOp a.eval o).run P w'=.ok (.value (.slice (if cap=l then xa else xa.map λad=>⟨ad.block,ad.off+l*e.sz,none⟩) (h - l) (cap - l))) w':=λe xa len cap l h gR hy KY gZ hb w' _=>by
  have hb:=hb w'
  subst gR
  obtain ⟨el,hu,_,hle⟩:=jr cn
  have eN:=run_sizeOf (P:=P) (w:=w') hle
  unfold execOp
  simp only[ho,Option.map_none,Instr.sliceAt,Instr.slice,Sem.run_bind,run_underlying hu,Result.andThen_ok,hy,hb,eN,Sem.run_pure]
  by_cases GA:cap=l
  ·simp[GA]
  ·congr 4
   cases xa with
   | none=>rfl
   | some ad=>
    obtain ⟨b,off,sp⟩:=ad
    grind [gi]
 have addr:∀ (xa:Option Addr) (cap l h n:Nat) (e:Ty),l<=h->h<=n->n<=cap->(∀ ad,xa=some ad->0 < cap->ad.spot=none) ->
   (xa=none->(if cap=l then xa else xa.map λad=>⟨ad.block,ad.off+l*e.sz,none⟩)=none) /\
   (∀ ad,xa=some ad->∃ aS,(if cap=l then xa else xa.map λad=>⟨ad.block,ad.off+l*e.sz,none⟩)=some aS/\aS.spot=ad.spot/\aS.block=ad.block/\(l < h->aS.off=ad.off+l*e.sz)) /\
   (l=0->(if cap=l then xa else xa.map λad=>(⟨ad.block,ad.off+l*e.sz,none⟩:Addr))=xa):=λxa cap l h n e h1 Y h3 gZ=>by
  refine ⟨λe=>by grind,λad e=>?_,λe0=>?_⟩
  ·grind
  ·subst e0
   split
   ·rfl
   ·cases xa with
    | none=>rfl
    | some ad=>
     obtain ⟨b,off,sp⟩:=ad
     grind
 have GB:∀ {e:Ty} {v:List e.den} {m:Md} {H:List Path} {xa n cap} {G:FP},ae P w A (.af e) m H v [.slice xa n cap] G->hole H=false->∀ ad,xa=some ad->0 < cap->ad.spot=none:=λ{e v m H xa n cap G} cC hH ad Dy qA=>by
  simp only[ae,hH,Bool.false_eq_true,if_false] at cC
  split at cC
  ·grind
  ·obtain ⟨_,_,IP,wi,q1,q2,q3,q4⟩:=cC
   grind
 rcases bt h am.1 with hs | ⟨xs,e⟩
 rotate_left
 ·grind
 split at hk
 ·rename_i s hv
  rw[hv] at hs
  split at hk
  ·rename_i gR
   have GC:=cn
   rw[gR] at GC
   obtain ⟨l,h',b1,b2,hk,b3,b4⟩:=bound s.length s.length _ (Nat.le_refl _) hk
   obtain ⟨cs,h1,Y⟩:=hs
   simp only[Ro] at Y;subst Y
   have e1:a.eval y=.string ⟨List.toArray s⟩:=h1
   have e2:(⟨List.toArray s⟩:ByteArray).size=s.length:=rfl
   refine bN (v:=.string ⟨((s.take h').drop l).toArray⟩) (λw' _=>?_) (aK h hk ⟨[_],rfl,rfl⟩ (λ_ _ _ _ e=>by cases e))
   unfold execOp
   simp only[ho,Option.map_none,Instr.sliceAt,Instr.slice,Sem.run_bind,run_underlying (ef GC),Result.andThen_ok,e1,Option.isSome_none,Bool.false_eq_true,if_false,e2,b4 rfl w',Sem.run_pure,xN s l h' b1 b2]
  ·cases hk
 ·rename_i e v hv
  rw[hv] at hs
  split at hk
  ·rename_i gR
   obtain ⟨cs,h1,Y⟩:=hs
   obtain ⟨xa,cap,q1,q2,q3,q4⟩:=id Y
   subst q1
   rw[bj _ _ rfl] at h1
   obtain ⟨l,h',b1,b2,hk,b3,_⟩:=bound (List.length v) cap _ q2 hk
   obtain ⟨r1,r2,r3⟩:=addr xa cap l h' _ e b1 b2 q2 (λad e=>(q4 ad e).1)
   exact bN (rU e xa _ cap l h' gR h1 (by omega) (λad e=>(q4 ad e).1) b3) (aK h hk ⟨_,(bj (.af e) _ rfl).symm,Ro.piece Y b1 b2 (by omega) r1 r2⟩ (λ_ _ _ _ e=>by cases e))
  ·cases hk
 ·rename_i r p snap hv
  rw[hv] at hs
  split at hk
  ·rename_i fm
   obtain ⟨hr,t',m',H',v',aC,aS,F',h1,Y,h3,h4,h5,h6⟩:=du h hk
   obtain ⟨pl,g1,g2,g3⟩:=hs.2 fm
   rw[h3] at g1
   injection g1 with g1
   subst g1
   simp only at g2 g3
   split at h1
   ·cases h1
   ·rename_i hH
    have hH:hole H'=false:=Bool.eq_false_iff.2 hH
    split at h1
    ·rename_i gR
     split at h1
     ·rename_i e Bj
      obtain ⟨xa,cap,q1,q2,q3⟩:=oz (t:=.unit) h4 hH
      subst q1
      rw[bj _ _ rfl] at g2
      have gZ:=GB h4 hH
      split at h1
      ·obtain ⟨l,h',b1,b2,h1,b3,_⟩:=bound (List.length Bj) cap _ q2 h1
       obtain ⟨r1,r2,r3⟩:=addr xa cap l h' _ e b1 b2 q2 gZ
       refine bN (rU e xa _ cap l h' gR.symm g2 (by omega) gZ b3) (aK h h1 ⟨hs.1,λ_=>⟨_,e,xa,_,cap,_,cap - l,h3,rfl,rfl,b1,b2,rfl,by omega,r3,r1,r2,?_⟩⟩ (λ_ _ _ _ e=>by cases e))
       grind
      ·rename_i cm
       obtain ⟨l,h',b1,b2,h1,b3,_⟩:=bound (List.length Bj) cap _ q2 h1
       obtain ⟨r1,r2,r3⟩:=addr xa cap l h' _ e b1 b2 q2 gZ
       simp only[ae,hH,Bool.false_eq_true,if_false,cm] at h4
       exact bN (rU e xa _ cap l h' gR.symm g2 (by omega) gZ b3) (aK h h1 ⟨_,(bj (.af e) _ rfl).symm,Ro.piece h4.2.2 b1 b2 (by omega) r1 r2⟩ (λ_ _ _ _ e=>by cases e))
     ·cases h1
    ·cases h1
  ·cases hk
 ·rename_i r p snap l0 h0 hv
  rw[hv] at hs
  split at hk
  ·rename_i fm
   obtain ⟨hr,t',m',H',v',aC,aS,F',h1,Y,h3,h4,h5,h6⟩:=du h hk
   obtain ⟨pl,e,xa,n,cap,kw,cap',g1,g2,g3,g4,g5,g6,g7,Bb,g8,g9,g10⟩:=hs.2 fm
   have OI:=g1
   rw[h3] at g1
   injection g1 with g1
   subst g1
   simp only at g2 g3
   subst g2;subst g3
   split at h1
   ·cases h1
   ·rename_i hH
    have hH:hole H'=false:=Bool.eq_false_iff.2 hH
    split at h1
    ·rename_i gR
     obtain ⟨IP,wi,q1,q2,q3⟩:=oz (t:=.unit) h4 hH
     simp only[List.cons.injEq,Value.slice.injEq,and_true] at q1
     obtain ⟨rfl,rfl,rfl⟩:=q1
     have gZ:=GB h4 hH
     have IQ:∀ ad,kw=some ad->0 < cap'->ad.spot=none:=λad e' qA=>by
      cases Dy:xa <;> grind
     obtain ⟨l,h',b1,b2,h1,b3,_⟩:=bound (h0 - l0) cap' _ (by omega) h1
     obtain ⟨r1,r2,r3⟩:=addr kw cap' l h' _ e b1 b2 (by omega) IQ
     refine bN (rU e kw _ cap' l h' gR.symm g6 (by omega) IQ b3) (aK h h1 ⟨hs.1,λ_=>⟨⟨.af e,H',[.slice xa (List.length v') cap],aS⟩,e,xa,List.length v',cap,(if cap'=l then kw else kw.map λad=>⟨ad.block,ad.off+l*e.sz,none⟩),cap' - l,h3,rfl,rfl,by omega,by omega,?_,by omega,λe0=>?_,λe'=>?_,λad e'=>?_,g10⟩⟩ (λ_ _ _ _ e=>by cases e))
     ·grind
     ·grind
     ·grind
     grind
    ·cases h1
  ·cases hk
 ·cases hk
end
end OT
set_option linter.unusedVariables false
set_option linter.unusedSimpArgs false
namespace OT
open Go
theorem gU (k:IntKind) (n:Int):fy k (rj k n)=k.wrap n:=by
 cases k <;> first | rfl | skip
 show ((UInt8.ofNat (n % 2 ^ 8).toNat).toNat:Int)=_
 grind [UInt8.toNat_ofNat',IntKind.wrap,IntKind.bits,IntKind.signed]
theorem wj (k:IntKind) (n:Int) (h:k=.u8->0<=n/\n < 256):fy k (Gj k n)=n:=by
 cases k <;> first | rfl | skip
 obtain ⟨h1,Y⟩:=h rfl
 show ((UInt8.ofNat (n % 2 ^ 8).toNat).toNat:Int)=_
 rw[UInt8.toNat_ofNat']
 omega
theorem DG (v:pP .u8):0<=fy .u8 v/\fy .u8 v < 256:=by
 have:UInt8.toNat v < 256:=UInt8.toNat_lt v
 show 0<=((UInt8.toNat v:Nat):Int)/\((UInt8.toNat v:Nat):Int) < 256
 omega
section
variable {P:Program} {C:Ctx} {A:Cells} {X:FP} {σ:St} {a:Act} {w:World} {F:Nat->FP} {R:Type} {x:R} {Q:Exit->Act->World->Prop} {o:Oper} {E:Env}
theorem HH {op:BinOp} {k k':IntKind} {na nb:Int} {K:(t:Ty)->t.den->Option R} (hk:yw op k na nb K=some x) (A_:k=k'\/op=.shl\/op=.shr) (hu:k=.u8->0<=na/\na < 256) (KZ:k'=.u8->0<=nb/\nb < 256) (T:TypeId) :
  ∃ t v tv,K t v=some x/\Ro P w A t v [tv]/\isAgg t=false/\∀ w:World,(binOp op T (.int k na) (.int k' nb)).run P w=.ok tv w:=by
 have same:op≠.shl->op≠.shr->k=k':=λh1 Y=>by grind
 unfold yw at hk
 split at hk
 ·have:=same (by simp) (by simp);subst this
  exact ⟨_,_,.int k (k.wrap (na+nb)),hk,by simp only[Ro,gU],rfl,λw=>by simp[Go.binOp,Op.intArith]⟩
 ·have:=same (by simp) (by simp);subst this
  exact ⟨_,_,.int k (k.wrap (na - nb)),hk,by simp only[Ro,gU],rfl,λw=>by simp[Go.binOp,Op.intArith]⟩
 ·have:=same (by simp) (by simp);subst this
  exact ⟨_,_,.int k (k.wrap (na*nb)),hk,by simp only[Ro,gU],rfl,λw=>by simp[Go.binOp,Op.intArith]⟩
 ·have:=same (by simp) (by simp);subst this
  split at hk
  ·cases hk
  ·rename_i IR
   exact ⟨_,_,.int k (k.wrap (na.tdiv nb)),hk,by simp only[Ro,gU],rfl,λw=>by simp[Go.binOp,Op.intDiv,IR]⟩
 ·have:=same (by simp) (by simp);subst this
  split at hk
  ·cases hk
  ·rename_i IR
   refine ⟨_,_,.int k (na.tmod nb),hk,?_,rfl,λw=>by simp[Go.binOp,Op.intDiv,IR]⟩
   simp only[Ro]
   rw[wj k _ (λe=>?_)]
   have h1:=hu e;have Y:=KZ e
   have:=Int.tmod_nonneg nb h1.1
   have h3:na.tmod nb < nb:=Int.tmod_lt_of_pos na (by omega)
   omega
 ·have:=same (by simp) (by simp);subst this
  exact ⟨_,_,.int k (k.wrap ((BitVec.ofInt k.bits na &&& BitVec.ofInt k.bits nb).toNat:Int)),hk,by simp only[Ro,gU],rfl,λw=>by grind [Go.binOp,Op.intBits,Sem.run_pure]⟩
 ·have:=same (by simp) (by simp);subst this
  exact ⟨_,_,.int k (k.wrap ((BitVec.ofInt k.bits na ||| BitVec.ofInt k.bits nb).toNat:Int)),hk,by simp only[Ro,gU],rfl,λw=>by grind [Go.binOp,Op.intBits,Sem.run_pure]⟩
 ·have:=same (by simp) (by simp);subst this
  exact ⟨_,_,.int k (k.wrap ((BitVec.ofInt k.bits na ^^^ BitVec.ofInt k.bits nb).toNat:Int)),hk,by simp only[Ro,gU],rfl,λw=>by grind [Go.binOp,Op.intBits,Sem.run_pure]⟩
 ·split at hk
  ·cases hk
  ·rename_i hn
   exact ⟨_,_,.int k (k.wrap (na*2 ^ (min nb.toNat k.bits))),hk,by simp only[Ro,gU],rfl,λw=>by simp[Go.binOp,Op.shift,hn]⟩
 ·split at hk
  ·cases hk
  ·rename_i hn
   refine ⟨_,_,.int k (na.fdiv (2 ^ (min nb.toNat k.bits))),hk,?_,rfl,λw=>by simp[Go.binOp,Op.shift,hn]⟩
   simp only[Ro]
   rw[wj k _ (λe=>?_)]
   have h1:=hu e
   have hp:(0:Int) < 2 ^ (min nb.toNat k.bits):=Int.pow_pos (by omega)
   rw[Int.fdiv_eq_ediv_of_nonneg _ (by omega)]
   have Y:=Int.ediv_nonneg h1.1 (Int.le_of_lt hp)
   have h3:=Int.ediv_le_self (2 ^ (min nb.toNat k.bits)) h1.1
   omega
 ·have:=same (by simp) (by simp);subst this
  exact ⟨.bool,decide (na=nb),_,hk,rfl,rfl,λw=>by simp[Go.binOp,Op.intCmp];rfl⟩
 ·have:=same (by simp) (by simp);subst this
  exact ⟨.bool,!decide (na=nb),_,hk,rfl,rfl,λw=>by simp[Go.binOp,Op.intCmp,bne];rfl⟩
 ·have:=same (by simp) (by simp);subst this
  exact ⟨.bool,decide (na < nb),_,hk,rfl,rfl,λw=>by simp[Go.binOp,Op.intCmp]⟩
 ·have:=same (by simp) (by simp);subst this
  exact ⟨.bool,decide (na<=nb),_,hk,rfl,rfl,λw=>by simp[Go.binOp,Op.intCmp]⟩
 ·have:=same (by simp) (by simp);subst this
  exact ⟨.bool,decide (nb < na),_,hk,rfl,rfl,λw=>by simp[Go.binOp,Op.intCmp]⟩
 ·have:=same (by simp) (by simp);subst this
  exact ⟨.bool,decide (nb<=na),_,hk,rfl,rfl,λw=>by simp[Go.binOp,Op.intCmp]⟩
 ·cases hk
theorem HI {op:BinOp} {s t:List UInt8} {K:(t:Ty)->t.den->Option R} (hk:ET op s t K=some x) (T:TypeId) :
  ∃ ty v tv,K ty v=some x/\Ro P w A ty v [tv]/\isAgg ty=false/\∀ w:World,(binOp op T (.string ⟨s.toArray⟩) (.string ⟨t.toArray⟩)).run P w=.ok tv w:=by
 have h0:∀ w:World,(binOp op T (.string ⟨s.toArray⟩) (.string ⟨t.toArray⟩)).run P w=(Op.stringOp op ⟨s.toArray⟩ ⟨t.toArray⟩).run P w:=λw=>by cases op <;> rfl
 simp only[h0]
 unfold ET at hk
 split at hk
 ·split at hk
  ·rename_i hc
   refine ⟨.str,s++t,.string ⟨(s++t).toArray⟩,hk,rfl,rfl,λw=>?_⟩
   grind [run_string_add_sum,ByteArray.size,cU,ByteArray.mk_append_mk]
  ·cases hk
 ·exact ⟨.bool,decide (s=t),_,hk,rfl,rfl,λw=>by simp[Op.stringOp];grind⟩
 ·exact ⟨.bool,!decide (s=t),_,hk,rfl,rfl,λw=>by simp[Op.stringOp];grind⟩
 ·cases hk
theorem nS {tv:Value} {s:List UInt8} {G:FP} (h:aQ P A σ a w tv (.val .str s) G):tv=.string ⟨s.toArray⟩:=by
 obtain ⟨cs,h1,Y⟩:=h
 simp only[Ro] at Y
 subst Y
 exact h1
theorem nT {tv:Value} {k:IntKind} {n:pP k} {G:FP} (h:aQ P A σ a w tv (.val (.int k) n) G):tv=.int k (fy k n):=by
 obtain ⟨cs,h1,Y⟩:=h
 simp only[Ro] at Y
 subst Y
 exact h1
theorem yV {tv:Value} {b:Bool} {G:FP} (h:aQ P A σ a w tv (.val .bool b) G):tv=.bool b:=by
 obtain ⟨cs,h1,Y⟩:=h
 simp only[Ro] at Y
 subst Y
 exact h1
theorem DH (h:bd P C A σ a w F) {op:UnOp} {t:Nat} {y:Operand} (ho:o.op=.unOp op t y) (am:aZ P y=true) {K:St->Option R}
  (hk:(match op,a9 σ y with
  | .not,.val .bool b=>K (σ.aB o.dst (.val .bool (!b)))
  | .neg,.val (.int k) n=>K (σ.aB o.dst (.val (.int k) (rj k (0 - fy k n))))
  | _,_=>none)=some x):Tk P o a w (Nx P C K x):=by
 rcases bt h am with hs | ⟨xs,e⟩
 rotate_left
 ·grind
 split at hk
 ·rename_i b ho hv
  rw[hv] at hs
  have e:=yV hs
  exact bN (v:=.bool (!b)) (by simp[execOp,ho,e,Op.unary]) (aK h hk ⟨[_],rfl,rfl⟩ (λ_ _ _ _ e=>by cases e))
 ·rename_i k n ho hv
  rw[hv] at hs
  have e:=nT hs
  exact bN (v:=.int k (k.wrap (0 - fy k n))) (by simp[execOp,ho,e,Op.unary,Op.intArith]) (aK h hk ⟨[_],rfl,by simp only[Ro,gU]⟩ (λ_ _ _ _ e=>by cases e))
 ·cases hk
end
end OT
set_option linter.unusedVariables false
set_option linter.unusedSimpArgs false
namespace OT
open Go
section
variable {P:Program} {w:World} {A:Cells}
theorem GD:∀ (t:Ty),(∀ (i:TypeId) (d:Nat) (v1 v2:t.den) (ge a_:List Value),ao P t (.inl i)=true->gQ P t (.inl i)=true->dep t<=d->Ro P w A t v1 ge->Ro P w A t v2 a_->(Op.equalIn d i (aY t ge) (aY t a_)).run P w=.ok (t.eq v1 v2) w) /\
  (∀ (fs:List Field) (off d:Nat) (v1 v2:t.den) (xs ys:Array Value),ao P t (.inr (fs,off))=true->gQ P t (.inr fs)=true->dep t<=d+1->Ro P w A t v1 (xs.toList.drop off)->Ro P w A t v2 (ys.toList.drop off)->(Op.eqFields d xs ys fs).run P w=.ok (t.eq v1 v2) w):=by
 intro t
 induction t with
 | int k=>
  refine ⟨λi d v1 v2 ge a_ hl he hd h1 Y=>?_,λfs off d v1 v2 xs ys hl=>by simp[ao] at hl⟩
  simp only[Ro] at h1 Y
  subst h1;subst Y
  cases d with
  | zero=>simp[dep] at hd
  | succ d=>
   rw[bj _ _ rfl,bj _ _ rfl,run_equalIn_int w d i k k _ _ (gd hl)]
   congr 1
   cases k with
   | u8=>exact Bool.eq_iff_iff.2 (by simp only[fy,Ty.eq,beq_iff_eq];constructor;(intro h;exact UInt8.toNat_inj.1 (by omega));grind)
   | _=>grind [fy,Ty.eq]
 | bool=>
  refine ⟨λi d v1 v2 ge a_ hl he hd h1 Y=>?_,λfs off d v1 v2 xs ys hl=>by simp[ao] at hl⟩
  simp only[Ro] at h1 Y
  subst h1;subst Y
  have hu:P.underlying i=some .bool:=by
   grind [ao]
  cases d with
  | zero=>simp[dep] at hd
  | succ d=>rw[bj _ _ rfl,bj _ _ rfl,run_equalIn_bool' w d i _ _ hu];rfl
 | str=>
  refine ⟨λi d v1 v2 ge a_ hl he hd h1 Y=>?_,λfs off d v1 v2 xs ys hl=>by simp[ao] at hl⟩
  simp only[Ro] at h1 Y
  subst h1;subst Y
  cases d with
  | zero=>simp[dep] at hd
  | succ d=>
   rw[bj _ _ rfl,bj _ _ rfl,run_equalIn_string w d i _ _ (ef hl),ByteArray.toList_mk,ByteArray.toList_mk]
   grind [Ty.eq]
 | unit=>
  refine ⟨λi d v1 v2 ge a_ hl he hd h1 Y=>?_,λfs off d v1 v2 xs ys hl he hd h1 Y=>?_⟩
  ·simp only[Ro] at h1 Y
   subst h1;subst Y
   simp only[ao,Bool.and_eq_true] at hl
   have h3:=hl.2
   split at h3
   ·rename_i fs hu
    have hf:P.fieldsOf i=fs:=by simp[Program.fieldsOf,hu]
    cases d with
    | zero=>simp[dep] at hd
    | succ d=>
     have IS:fs.toList=[]:=List.isEmpty_iff.1 h3
     simp only[gQ,Bool.not_eq_true'] at he
     show (Op.equalIn (d+1) i (.agg #[]) (.agg #[])).run P w=_
     rw[run_equalIn_struct w d i _ _ (by grind) he,hf,IS]
     rfl
   ·cases h3
  ·simp only[ao,List.isEmpty_iff] at hl
   subst hl
   rfl
 | pair a b d_ dT=>
  have second:∀ (fs:List Field) (off d:Nat) (v1 v2:(Ty.pair a b).den) (xs ys:Array Value),ao P (.pair a b) (.inr (fs,off))=true->gQ P (.pair a b) (.inr fs)=true->dep (.pair a b)<=d+1->Ro P w A (.pair a b) v1 (xs.toList.drop off)->Ro P w A (.pair a b) v2 (ys.toList.drop off)->(Op.eqFields d xs ys fs).run P w=.ok ((Ty.pair a b).eq v1 v2) w:=by
   intro fs off d v1 v2 xs ys hl he hd h1 Y
   cases fs with
   | nil=>simp[ao] at hl
   | cons f r=>
    simp only[ao,Bool.and_eq_true,Nat.beq_eq,Nat.ble_eq] at hl
    simp only[gQ,Bool.and_eq_true,bne_iff_ne,ne_eq] at he
    simp only[dep] at hd
    obtain ⟨DI,DJ⟩:=h1
    obtain ⟨K1,K3⟩:=Y
    have p1:=jD (P:=P) (w:=w) hl.1.2 (cs:=xs) (off:=off) (Ro.length _ DI)
    have p2:=jD (P:=P) (w:=w) hl.1.2 (cs:=ys) (off:=off) (Ro.length _ K1)
    have e1:=d_.1 f.type d v1.1 v2.1 _ _ hl.1.2 he.1.2 (by omega) DI K1
    rw[List.drop_drop] at DJ K3
    have e2:=dT.2 r (off+a.sz) d v1.2 v2.2 xs ys hl.2 he.2 (by omega) DJ K3
    simp only[Op.eqFields,ne_eq,he.1.1,not_false_eq_true,if_true,Sem.run_bind,hl.1.1.1,p1,p2,e1,Result.andThen_ok]
    cases hq:a.eq v1.1 v2.1 <;> simp_all [Ty.eq]
  refine ⟨λi d v1 v2 ge a_ hl he hd h1 Y=>?_,second⟩
  simp only[ao,Bool.and_eq_true] at hl
  simp only[gQ,Bool.and_eq_true,Bool.not_eq_true'] at he
  have h3:=hl.2
  have h4:=he.2
  split at h3
  ·rename_i fs hu
   rw[hu] at h4
   simp only at h4
   have hf:P.fieldsOf i=fs:=by simp[Program.fieldsOf,hu]
   split at h3
   ·rename_i f r uU
    rw[uU] at h4
    simp only at h4
    cases d with
    | zero=>grind [dep]
    | succ d=>
     show (Op.equalIn (d+1) i (.agg ge.toArray) (.agg a_.toArray)).run P w=_
     rw[run_equalIn_struct w d i _ _ (by grind) he.1,hf,uU]
     refine second (f::r) 0 d v1 v2 _ _ ?_ ?_ hd (by simpa using h1) (by simpa using Y)
     all_goals grind [ao,gQ]
   ·cases h3
  ·cases h3
 | arr n e ih=>
  refine ⟨λi d v1 v2 ge a_ hl he hd h1 Y=>?_,λfs off d v1 v2 xs ys hl=>by simp[ao] at hl⟩
  simp only[ao,Bool.and_eq_true] at hl
  have h3:=hl.2
  simp only[gQ] at he
  split at h3
  ·rename_i n' el hu
   simp only[Bool.and_eq_true,Nat.beq_eq,Nat.ble_eq] at h3
   obtain ⟨⟨rfl,_⟩,hle⟩:=h3
   rw[hu] at he
   simp only at he
   obtain ⟨inf,i1,i2,_⟩:=de (ei hle)
   have eN:P.cellsOf el=e.sz:=by grind [Program.cellsOf]
   obtain ⟨_,l1,_,r1⟩:=h1
   obtain ⟨_,l2,_,r2⟩:=Y
   cases d with
   | zero=>simp[dep] at hd
   | succ d=>
    simp only[dep] at hd
    have key:∀ (m j:Nat),j+m=n->(Op.eqItems d el e.sz ge.toArray a_.toArray (List.range' j m)).run P w=.ok (((List.drop j v1).zip (List.drop j v2)).all λp=>e.eq p.1 p.2) w:=by
     intro m
     induction m with
     | zero=>
      intro j hj
      rw[List.drop_of_length_le (by omega)]
      rfl
     | succ m IT=>
      intro j hj
      have g1:=List.getElem?_eq_getElem (l:=v1) (i:=j) (by omega)
      have g2:=List.getElem?_eq_getElem (l:=v2) (i:=j) (by omega)
      have J:=r1 j _ g1
      have a2:=r2 j _ g2
      have p1:=jD (P:=P) (w:=w) hle (cs:=ge.toArray) (off:=j*e.sz) (Ro.length _ J)
      have p2:=jD (P:=P) (w:=w) hle (cs:=a_.toArray) (off:=j*e.sz) (Ro.length _ a2)
      have e1:=ih.1 el d _ _ _ _ hle he (by omega) J a2
      rw[List.range'_succ,List.drop_eq_getElem_cons (l:=v1) (i:=j) (by omega),List.drop_eq_getElem_cons (l:=v2) (i:=j) (by omega)]
      simp only[Op.eqItems,Sem.run_bind,p1,p2,e1,Result.andThen_ok,List.zip_cons_cons,List.all_cons]
      cases hq:e.eq v1[j] v2[j] with
      | true=>grind
      | false=>simp
    show (Op.equalIn (d+1) i (.agg ge.toArray) (.agg a_.toArray)).run P w=_
    rw[run_equalIn_array w d _ _ hu i1,eN,List.range_eq_range']
    exact key n 0 (by omega)
  ·cases h3
 | _=>grind [gQ]
end
section
variable {P:Program} {C:Ctx} {A:Cells} {X:FP} {σ:St} {a:Act} {w:World} {F:Nat->FP} {R:Type} {x:R} {Q:Exit->Act->World->Prop} {o:Oper} {E:Env}
def GE (P:Program) (E:Env):Prop:=∀ i T,E.TI i=some T->T.eS=true->isAgg T=true->gQ P T (.inl i)=true/\P.eqGuardType P.depth i=false/\dep T<=10000
theorem qB {op:BinOp} {t:TypeId} {y z:Operand} {u v:Value} (h:¬ (∃ p q,u=.agg p/\v=.agg q)) (Y:u≠.nilIface):(eqGuard op t y z u v).run P w=.ok () w:=by
 simp_all [eqGuard]
theorem Ro.eS {w':World} {A':Cells}:∀ (t:Ty) {v:t.den} {cs:List Value},t.eS=true->Ro P w A t v cs->Ro P w' A' t v cs:=by
 intro t
 induction t with
 | pair a b d_ dT=>
  intro v cs hq h
  simp only[Ty.eS,Bool.and_eq_true] at hq
  exact ⟨d_ hq.1 h.1,dT hq.2 h.2⟩
 | arr n e ih=>intro v cs hq h;exact ⟨h.1,h.2.1,h.2.2.1,λi x hx=>ih hq (h.2.2.2 i x hx)⟩
 | af e ih=>grind [Ty.eS]
 | ptr e ih=>grind [Ty.eS]
 | fn=>grind [Ty.eS]
 | map k v=>grind [Ty.eS]
 | _=>intro v cs hq h;exact h
theorem Ch (h:bd P C A σ a w F) (dr:∀ i T,E.TI i=some T->ao P T (.inl i)=true) (heq:GE P E) {op:BinOp} {t t2:Nat} {y z:Operand} (ho:o.op=.binOp op t y z t2) (am:aZ P y=true/\aZ P z=true) {K:St->Option R}
  (hk:yx E t op (a9 σ y) (a9 σ z) (λt v=>K (σ.aB o.dst (.val t v)))=some x):Tk P o a w (Nx P C K x):=by
 rcases bt h am.1 with hy | ⟨xs,e⟩
 rotate_left
 ·grind [yx]
 rcases bt h am.2 with hz | ⟨xs,e⟩
 rotate_left
 ·grind [yx]
 have fin:∀ (ty:Ty) (v:ty.den) (tv:Value),K (σ.aB o.dst (.val ty v))=some x->Ro P w A ty v [tv]->isAgg ty=false->(∀ w',iU o w w'->(eqGuard op t y z (a.eval y) (a.eval z)).run P w'=.ok () w')->(∀ w',iU o w w'->(binOp op t (a.eval y) (a.eval z)).run P w'=.ok tv w')->Tk P o a w (Nx P C K x):=λty v tv hk hr ha hg hb=>by
  refine bN (v:=tv) (λw' ip=>?_) (aK h hk ⟨[tv],(bj ty tv ha).symm,hr⟩ (λ_ _ _ _ e=>by cases e))
  grind [execOp,Sem.run_bind,Result.andThen_ok,Sem.run_pure]
 unfold yx at hk
 split at hk
 ·rename_i k n1 k' n2 yW yX
  rw[yW] at hy
  rw[yX] at hz
  have e1:=nT hy
  have e2:=nT hz
  have hg:∀ w',iU o w w'->(eqGuard op t y z (a.eval y) (a.eval z)).run P w'=.ok () w':=λw' _=>by grind [qB]
  have A_:(k=k'\/op=.shl\/op=.shr)/\yw op k (fy k n1) (fy k' n2) (λt v=>K (σ.aB o.dst (.val t v)))=some x:=by
   grind
  obtain ⟨ty,v,tv,q1,q2,q3,q4⟩:=HH (P:=P) (A:=A) (w:=w) A_.2 A_.1 (λe=>by subst e;exact DG n1) (λe=>by subst e;exact DG n2) t
  grind
 ·rename_i s1 s2 yW yX
  rw[yW] at hy
  rw[yX] at hz
  have e1:=nS hy
  have e2:=nS hz
  have hg:∀ w',iU o w w'->(eqGuard op t y z (a.eval y) (a.eval z)).run P w'=.ok () w':=λw' _=>by grind [qB]
  obtain ⟨ty,v,tv,q1,q2,q3,q4⟩:=HI (P:=P) (A:=A) (w:=w) hk t
  grind
 ·rename_i ty v1 ML v2 OJ MM yW yX
  rw[yW] at hy
  rw[yX] at hz
  have main:∀ (e:ty=ML) (hq:ty.eS=true) (hT:E.TI t=some ty) (w':World),iU o w w'->(eqGuard op t y z (a.eval y) (a.eval z)).run P w'=.ok () w'/\(∀ b,b=ty.eq v1 (e ▸ v2)->(op=.eql->(binOp op t (a.eval y) (a.eval z)).run P w'=.ok (.bool b) w')/\(op=.neq->(binOp op t (a.eval y) (a.eval z)).run P w'=.ok (.bool (!b)) w')):=λe hq hT w' ip=>by
   subst e
   obtain ⟨ge,e1,r1⟩:=hy
   obtain ⟨a_,e2,r2⟩:=hz
   have r1:=Ro.eS (w':=w') (A':=A) _ hq r1
   have r2:=Ro.eS (w':=w') (A':=A) _ hq r2
   have cn:=dr _ _ hT
   cases MN:isAgg ty with
   | true=>
    obtain ⟨q1,q2,q3⟩:=heq _ _ hT hq MN
    have Or:=(GD (P:=P) (w:=w') (A:=A) ty).1 t 10000 v1 v2 ge a_ cn q1 q3 r1 r2
    simp_all [aY,run_eqGuard_agg,run_eql_struct,run_neq_struct]
   | false=>
    cases ty with
    | int k=>grind
    | str=>grind
    | bool=>
     simp only[Ro] at r1 r2
     subst r1;subst r2
     rw[bj _ _ rfl] at e1 e2
     have hu:P.underlying t=some .bool:=by
      grind [ao]
     rw[e1,e2]
     refine ⟨qB (by grind) (by grind),λb hb=>⟨λh=>?_,λh=>?_⟩⟩
     ·subst h;subst hb
      have:=run_equalIn_bool' (P:=P) w' 9999 t v1 v2 hu
      simp only[Go.binOp,Op.equal,Op.maxDepth,Sem.run_bind,this,Result.andThen_ok,Sem.run_pure];rfl
     ·subst h;subst hb
      have:=run_equalIn_bool' (P:=P) w' 9999 t v1 v2 hu
      simp only[Go.binOp,Op.equal,Op.maxDepth,Sem.run_bind,this,Result.andThen_ok,Sem.run_pure];rfl
    | _=>grind [Ty.eS,isAgg]
  split at hk
  ·split at hk
   ·rename_i hq
    obtain ⟨T,hT,hk⟩:=bE hk
    split at hk
    ·rename_i e;subst e
     obtain ⟨e,hk⟩:=aP hk
     have m:=main e.symm hq hT
     subst e
     exact fin .bool _ _ hk rfl rfl (λw' ip=>(m w' ip).1) (λw' ip=>((m w' ip).2 _ rfl).1 rfl)
    ·cases hk
   ·cases hk
  ·split at hk
   ·rename_i hq
    obtain ⟨T,hT,hk⟩:=bE hk
    split at hk
    ·rename_i e;subst e
     obtain ⟨e,hk⟩:=aP hk
     have m:=main e.symm hq hT
     subst e
     exact fin .bool _ _ hk rfl rfl (λw' ip=>(m w' ip).1) (λw' ip=>((m w' ip).2 _ rfl).2 rfl)
    ·cases hk
   ·cases hk
  ·cases hk
 ·rename_i e v yW yX
  rw[yW] at hy
  rw[yX] at hz
  obtain ⟨T,hT,hk⟩:=bE hk
  split at hk
  ·rename_i eT
   subst eT
   obtain ⟨te,hu⟩:∃ te,P.underlying t=some (.slice te):=by
    grind [ao]
   obtain ⟨cs,h1,a0,cap,Y,h3,h4,h5⟩:=hy
   subst Y
   rw[bj _ _ rfl] at h1
   have K4:a.eval z=.slice none 0 0:=hz
   have hg:∀ w',iU o w w'->(eqGuard op t y z (a.eval y) (a.eval z)).run P w'=.ok () w':=λw' _=>by grind [qB]
   have key:∀ (b:Bool),pB v (K (σ.aB o.dst (.val .bool b))) (K (σ.aB o.dst (.val .bool !b)))=some x->K (σ.aB o.dst (.val .bool (if a0.isNone then b else !b)))=some x:=λb hb=>by
    cases v with
    | nil=>
     grind [pB,both]
    | cons y v=>
     have:a0.isNone=false:=by
      cases a0 <;> grind
     rw[this]
     exact hb
   unfold Ik at hk
   split at hk
   ·refine fin .bool _ (.bool a0.isNone) (key true hk) ?_ rfl hg λw' _=>?_
    ·cases a0 <;> rfl
    grind [run_equal_slice_nil,Go.binOp,Sem.run_bind,Result.andThen_ok,Sem.run_pure]
   ·refine fin .bool _ (.bool !a0.isNone) (key false hk) ?_ rfl hg λw' _=>?_
    ·cases a0 <;> rfl
    grind [run_neq_slice_nil]
   ·cases hk
  ·cases hk
 ·cases hk
end
end OT
set_option linter.unusedVariables false
set_option linter.unusedSimpArgs false
namespace OT
open Go
section
variable {P:Program} {C:Ctx} {A:Cells} {X:FP} {σ:St} {a:Act} {w:World} {F:Nat->FP} {R:Type} {x:R} {Q:Exit->Act->World->Prop} {o:Oper} {E:Env}
theorem e9 (w:World) (ob:Obj):Ext w (w.alloc ob) (λ_ _=>0):=by
 refine ⟨by simp,λb i hb _ u hu=>?_,λb n hn=>?_,λb i hb=>World.frozen?_alloc_old w ob _ (by simp;omega),rfl,rfl,rfl,λb hb _=>?_,Nat.le_refl _⟩
 ·grind [qo,World.alloc]
 ·obtain ⟨c,e,fr,h1,Y,h3⟩:=hn
  refine ⟨c,e,fr,?_,Y,h3⟩
  grind [World.alloc]
 grind [World.alloc]
theorem yY (w:World):Ext w w.drew (λ_ _=>0):=⟨Nat.le_refl _,λ_ _ _ _ _ h=>h,λ_ _ h=>h,λ_ _ _=>rfl,rfl,rfl,rfl,λ_ _ _=>rfl,Nat.le_succ _⟩
theorem o_ (w:World) (c:Array Value) (e:TypeId) (fr:Nat×Nat) (u:Bool) (gn:(u=true/\c.size<=fr.1)\/fr.2<=fr.1):cf (w.alloc (.cells c e fr)) w.heap.size (c.size,u):=
 ⟨c,e,fr,heap_alloc_new w _,rfl,λi hi=>by grind,λhu=>by grind⟩
theorem mP (w:World) (c:Array Value) (e:TypeId) (fr:Nat×Nat) {k:Nat} {L:List Value} (hL:∀ j u,L[j]?=some u->c[k+j]?=some u) (gj:∀ u ∈ L,u.oneCell'=true):Has (w.alloc (.cells c e fr)) w.heap.size k L:=by
 intro j u hu
 grind [vZ,World.cell?,heap_alloc_new]
theorem Rel.alloc (h:Rel P C A X σ a w F) (c:Array Value) (e:TypeId) (fr:Nat×Nat):Rel P C A (λb i=>X b i+bm w.heap.size 0 c.size b i) σ a (w.alloc (.cells c e fr)) F:=by
 refine h.grow (e9 w _) (λ_ _ h=>h) (λ_ _ h=>.inl h) (λb i=>?_)
 by_cases hb:b=w.heap.size
 ·subst hb
  right
  have hx:X w.heap.size i=0:=by
   rcases Nat.eq_zero_or_pos (X w.heap.size i) with h0 | h0
   ·exact h0
   ·have:=h.cW w.heap.size i (.inl (by omega));omega
  exact ⟨Nat.le_refl _,by simp,by grind [bm]⟩
 grind [bm]
theorem Rel.drew (h:Rel P C A X σ a w F):Rel P C A X σ a w.drew F:=h.grow (yY w) (λ_ _ h=>h) (λ_ _ h=>.inl h) (λ_ _=>.inl (Nat.le_refl _))
theorem ae.alloc (h:Rel P C A X σ a w F) {t:Ty} {m:Md} {H:List Path} {v:t.den} {cs:List Value} {G:FP} (hr:ae P w A t m H v cs G) (hG:∀ b i,1<=G b i->b < w.heap.size) {w':World} (hw:Ext w w' (λ_ _=>0)):ae P w' A t m H v cs G:=
 ae.mono (λ_ _ h=>h) (λb i ha u hu=>hw.cell b i (h.cW b i (.inr ha)) rfl u hu) hw.l_ t hr (λ_ _=>Nat.le_refl _) (λb i hp u hu=>hw.cell b i (hG b i hp) rfl u hu)
theorem Bk (h:Rel P C A X σ a w F) {K:St->Option R} {d:Option Tmp} {t:Ty} {m:Md} {v:t.den} {cs:List Value} {Fv:FP} (e:TypeId) (hk:K (σ.aB d (.box t m [] v))=some x)
  (hr:ae P w A t m [] v cs Fv) (hX:∀ b i,Fv b i<=X b i):∃ A' F',Rel P C A' (λ_ _=>0) (σ.aB d (.box t m [] v)) (a.put d (.pointer (some ⟨w.heap.size,0,none⟩))) (w.alloc (.cells cs.toArray e)) F':=by
 have hl:=ae.length t hr
 have h1:=h.alloc cs.toArray e (0,0)
 have cm:=o_ w cs.toArray e (0,0) false (.inr (Nat.le_refl _))
 simp only[List.size_toArray,hl] at cm h1
 have nm:=ae.alloc h hr (λb i hp=>h.cW b i (.inl (by grind))) (e9 w (.cells cs.toArray e))
 obtain ⟨F',hF⟩:=h1.aB d (s:=.box t m [] v) (v:=.pointer (some ⟨w.heap.size,0,none⟩)) (Fd:=λb i=>bm w.heap.size 0 t.sz b i+Fv b i) (X':=λ_ _=>0)
  ⟨w.heap.size,0,cs,Fv,rfl,hl,mP w cs.toArray e (0,0) (λj u hu=>by simpa using hu) (ae.one _ hr),λj hj=>by simp_all,λ_ _=>Nat.le_refl _,nm⟩
  (λb i=>by grind) (λt' m' H' v' e'=>by grind)
 grind
theorem jE:∀ (t:Ty),t.kQ=true->∃ L,zc t=some L:=by
 intro t
 induction t <;> grind [Ty.kQ,zc]
theorem DK (h:bd P C A σ a w F) (dr:∀ i T,E.TI i=some T->ao P T (.inl i)=true) {t:Nat} (ho:o.op=.alloc t) {K:St->Option R}
  (hk:(fU E t λT=>if T.kQ then K (σ.aB o.dst (.box T (aF T) [] T.zero)) else none)=some x):o.wp P a w (λa' w'=>Nx P C K x a' w'/\Ext w w' (λ_ _=>0)) Q:=by
 obtain ⟨T,hT,hk⟩:=bE hk
 split at hk
 ·rename_i DL
  have cn:=dr _ _ hT
  obtain ⟨L,hL⟩:=jE T DL
  obtain ⟨z,GF,IU⟩:=ng (P:=P) (w:=w) cn hL
  obtain ⟨r1,r2,r3⟩:=o8 (P:=P) (w:=w) (A:=A) T hL cn
  refine e8 (v:=.pointer (some ⟨w.heap.size,0,none⟩)) (w':=w.alloc (.cells L.toArray t)) ?_ ?_
  ·have:z.cells=L.toArray:=by grind
   simp_all [execOp,Instr.alloc,newVar,newRow]
  ·obtain ⟨A',F',hF⟩:=Bk h t hk r1 (λ_ _=>Nat.le_refl _)
   exact ⟨⟨_,hk,A',F',hF⟩,e9 w _⟩
 ·cases hk
end
end OT
set_option linter.unusedVariables false
set_option linter.unusedSimpArgs false
namespace OT
open Go
section
variable {P:Program} {C:Ctx} {A:Cells} {X:FP} {σ:St} {a:Act} {w:World} {F:Nat->FP} {R:Type} {x:R} {Q:Exit->Act->World->Prop} {o:Oper} {E:Env}
theorem sS (h:Rel P C A X σ a w F) {K:St->Option R} {d:Option Tmp} {e:Ty} {m:Md} {v:List e.den} {c:Array Value} {cap:Nat} {el:TypeId} {fr:Nat×Nat} {Fi:Nat->FP} (gn:(v9 e=true/\c.size<=fr.1)\/fr.2<=fr.1)
  (hk:K (σ.aB d (.own (.af e) (.af true m) [] v))=some x) (hc:c.size=cap*e.sz) (kK:cap<=maxLen) (hv:List.length v<=cap) (hX:∀ b i,al (List.length v) Fi b i<=X b i)
  (jl:∀ (i:Nat) (y:e.den),v[i]?=some y->∃ L:List Value,L.length=e.sz/\(∀ j u,L[j]?=some u->c[i*e.sz+j]?=some u)/\ae P w A e m [] y L (Fi i)) :
  Nx P C K x (a.put d (.slice (some ⟨w.heap.size,0,none⟩) (List.length v) cap)) (w.alloc (.cells c el fr)):=by
 have h1:=h.alloc c el fr
 have cm:=o_ w c el fr (v9 e) gn
 rw[hc] at cm h1
 refine fJ h1 hk (Fd:=λb i=>bm w.heap.size 0 (cap*e.sz) b i+al (List.length v) Fi b i) ⟨_,(bj (.af e) _ rfl).symm,?_⟩ (λb i=>by grind) (λ_ _ _ _ e=>by cases e)
 simp only[ae,hole,List.any_nil,Bool.false_eq_true,if_false,Md.own,if_true,Md.e]
 refine ⟨_,cap,rfl,hv,kK,(λe=>by cases e),λad cR=>?_⟩
 injection cR with cR;subst cR
 refine ⟨rfl,rfl,cm,Fi,λ_ _=>Nat.le_refl _,λi y hy=>?_⟩
 obtain ⟨L,l1,l2,l3⟩:=jl i y hy
 have hi:=(List.getElem?_eq_some_iff.1 hy).1
 refine ⟨L,l1,mP w c el fr l2 (ae.one _ l3),?_⟩
 simp only[List.filterMap_nil]
 exact ae.alloc h l3 (λb k hp=>h.cW b k (.inl (by grind [aW]))) (e9 w _)
theorem xO (h:bd P C A σ a w F) (dr:∀ i T,E.TI i=some T->ao P T (.inl i)=true) {t:Nat} {y z:Operand} (ho:o.op=.makeSlice t y z) (am:aZ P y=true/\aZ P z=true) {K:St->Option R}
  (hk:(fU E t λt=>match t with
  | .af e=>kJ (a9 σ y) λn=>kJ (a9 σ z) λc=>
   if e.kQ then (if 0<=n/\n<=c/\c<=(cU:Int) then K (σ.aB o.dst (.own (.af e) (aF (.af e)) [] (List.replicate n.toNat e.zero))) else none) else none
  | _=>none)=some x):o.wp P a w (λa' w'=>Nx P C K x a' w'/\Ext w w' (λ_ _=>0)) Q:=by
 obtain ⟨T,hT,hk⟩:=bE hk
 have cn:=dr _ _ hT
 split at hk
 ·rename_i e
  rcases bt h am.1 with hy | ⟨xs,e'⟩
  rotate_left
  ·rw[e'] at hk;cases hk
  obtain ⟨k1,n,hn,hk⟩:=kW hy hk
  rcases bt h am.2 with hz | ⟨xs,e'⟩
  rotate_left
  ·rw[e'] at hk;cases hk
  obtain ⟨k2,c,hc,hk⟩:=kW hz hk
  split at hk
  ·rename_i DL
   split at hk
   ·rename_i hb
    obtain ⟨el,hu,eN,hle⟩:=jr cn
    obtain ⟨inf,i1,i2,i3,i4⟩:=de (ei hle)
    obtain ⟨L,hL⟩:=jE e DL
    obtain ⟨zv,z1,z2⟩:=i4 L hL
    obtain ⟨r1,r2,r3⟩:=o8 (P:=P) (w:=w) (A:=A) e hL hle
    have IV:(inf.bytes:Int)*c<=281474976710656:=by
     have h1:(inf.bytes:Int)<=512:=by omega
     have Y:(inf.bytes:Int)*c<=512*c:=Int.mul_le_mul_of_nonneg_right h1 (by omega)
     grind [cU]
    have cX:=run_make (P:=P) w t el inf zv hu i1 z1 k1 k2 n c hb.1 hb.2.1 IV (by grind [cU])
    have OK:zv.cells.size=e.sz:=by grind
    have hlen:List.length (List.replicate n.toNat e.zero)=n.toNat:=by simp
    refine e8 (v:=.slice (some ⟨w.heap.size,0,none⟩) n.toNat c.toNat) (w':=w.alloc (.cells (madeCells zv.cells (c.toNat*inf.size)) el)) ?_ ?_
    ·grind [execOp,Sem.run_bind,Result.andThen_ok,Sem.run_pure]
    ·refine ⟨?_,e9 w _⟩
     have oB:=sS h (K:=K) (d:=o.dst) (v:=List.replicate n.toNat e.zero) (c:=madeCells zv.cells (c.toNat*inf.size)) (cap:=c.toNat) (el:=el) (fr:=(0,0)) (m:=aF e) (Fi:=λ_ _ _=>0) (.inr (Nat.le_refl _)) hk
      (by rw[size_madeCells,i2]) (by grind [cU,maxLen]) (by grind) (λb i=>by grind [d9])
      (λi y hy=>by
       have hi:i < n.toNat:=by grind
       have hy:y=e.zero:=by grind
       subst hy
       refine ⟨L,r3,λj u hu=>?_,r1⟩
       have hj:j < e.sz:=r3 ▸ (List.getElem?_eq_some_iff.1 hu).1
       have aH:i*e.sz+j < c.toNat*e.sz:=by
        have:(i+1)*e.sz<=c.toNat*e.sz:=Nat.mul_le_mul_right _ (by omega)
        grind
       grind [Nat.mul_comm,Nat.mul_add_mod,Nat.mod_eq_of_lt,madeCells])
     grind
   ·cases hk
  ·cases hk
 ·cases hk
theorem yZ (h:bd P C A σ a w F) (dr:∀ i T,E.TI i=some T->ao P T (.inl i)=true) {s t:Nat} {y:Operand} (ho:o.op=.convert s t y) (am:aZ P y=true) (Bl:∀ T,E.TI t=some T->T.flat=true) {K:St->Option R}
  (hk:ql E σ s t (a9 σ y) o.dst K=some x):Tk P o a w (Nx P C K x):=by
 unfold ql at hk
 obtain ⟨S,hS,hk⟩:=bE hk
 obtain ⟨T,hT,hk⟩:=bE hk
 have om:=dr _ _ hS
 have oC:=dr _ _ hT
 rcases bt h am with hs | ⟨xs,e⟩
 rotate_left
 ·grind [it]
 split at hk
 ·rename_i k
  split at hk
  ·rename_i k' n hv
   rw[hv] at hs
   have e:=nT hs
   split at hk
   ·rename_i GG
    obtain ⟨dS,hd,_⟩:=nv om
    refine bN (v:=.int k (k.wrap (fy k' n))) (λw' _=>?_) (aK h hk ⟨[_],rfl,by simp only[Ro,gU]⟩ (λ_ _ _ _ e=>by cases e))
    unfold execOp
    simp only[ho,e,Sem.run_bind]
    have:(convert s t (.int k' (fy k' n))).run P w'=.ok (.int k (k.wrap (fy k' n))) w':=by
     unfold convert
     simp only[Sem.run_bind,run_underlying hd,run_underlying (gd oC),Result.andThen_ok]
     cases dS <;> rfl
    simp_all
   ·cases hk
  ·cases hk
 ·split at hk
  ·split at hk
   ·rename_i b hv
    rw[hv] at hs
    have e:=nS hs
    refine bN (v:=.string ⟨List.toArray b⟩) (λw' _=>?_) (aK h hk ⟨[_],rfl,rfl⟩ (λ_ _ _ _ e=>by cases e))
    unfold execOp
    have:(convert s t (.string ⟨List.toArray b⟩)).run P w'=.ok (.string ⟨List.toArray b⟩) w':=by
     unfold convert
     simp only[Sem.run_bind,run_underlying (ef om),run_underlying (ef oC),Result.andThen_ok]
     rfl
    simp_all
   ·cases hk
  ·obtain ⟨v,cs,hk,h1,Y⟩:=Bc h hs hk
   obtain ⟨el,hu,_,hle⟩:=jr om
   obtain ⟨xa,cap,q1,q2,q3,q4⟩:=Y
   subst q1
   rw[bj _ _ rfl] at h1
   have v8:List UInt8:=v
   have cX:∀ w',iU o w w'->(convert s t (a.eval y)).run P w'=.ok (.string ⟨List.toArray v⟩) w':=λw' ip=>by
    have ip:=ip (by rw[ho];rfl)
    rw[h1]
    cases xa with
    | none=>
     have:v=[]:=List.eq_nil_of_length_eq_zero (q3 rfl)
     subst this
     exact run_convert_bytes_nil w' s el hu (gd hle) _ _ t (ef oC)
    | some ad=>
     obtain ⟨g1,g2⟩:=q4 _ rfl
     refine run_convert_bytes_back w' s t el _ cap v hu (gd hle) (ef oC) λj hj=>?_
     obtain ⟨L,l1,l2,l3⟩:=g2 j _ (List.getElem?_eq_getElem hj)
     simp only[Ro] at l3
     subst l3
     have:=(l2 0 _ rfl).1
     obtain ⟨b,off,sp⟩:=ad
     have gZ:=g1 (by omega)
     simp only at gZ
     subst gZ
     rw[gi]
     simp only[Ty.sz,Nat.mul_one,Nat.add_zero] at this
     exact kT (ip.cell _ _ (kC this) rfl _ this) rfl
   refine bN (v:=.string ⟨List.toArray v⟩) (λw' ip=>?_) (aK h hk ⟨[_],rfl,rfl⟩ (λ_ _ _ _ e=>by cases e))
   grind [execOp,Sem.run_bind,Result.andThen_ok,Sem.run_pure]
  ·cases hk
 all_goals grind [Ty.flat]
theorem uX (h:bd P C A σ a w F) (dr:∀ i T,E.TI i=some T->ao P T (.inl i)=true) {s t:Nat} {y:Operand} (ho:o.op=.convert s t y) (am:aZ P y=true) (Bl:∀ T,E.TI t=some T->T.flat=true) (uY:(match a9 σ y with | .val (.int _) _=>true | .val .str _=>true | .val (.af (.int .u8)) _=>true | _=>false)=true) {K:St->Option R}
  (hk:ql E σ s t (a9 σ y) o.dst K=some x) :
  ∃ v,(∀ w',(∀ b i,A b i->∀ u,ce w b i=some u->ce w' b i=some u)->(execOp a.eval o).run P w'=.ok (.value v) w')/\Nx P C K x (a.put o.dst v) w:=by
 unfold ql at hk
 obtain ⟨S,hS,hk⟩:=bE hk
 obtain ⟨T,hT,hk⟩:=bE hk
 have om:=dr _ _ hS
 have oC:=dr _ _ hT
 rcases bt h am with hs | ⟨xs,e⟩
 rotate_left
 ·grind
 split at hk
 ·rename_i k
  split at hk
  ·rename_i k' n hv
   rw[hv] at hs
   have e:=nT hs
   split at hk
   ·rename_i GG
    obtain ⟨dS,hd,_⟩:=nv om
    refine ⟨.int k (k.wrap (fy k' n)),(λw' _=>?_),aK h hk ⟨[_],rfl,by simp only[Ro,gU]⟩ (λ_ _ _ _ e=>by cases e)⟩
    unfold execOp
    simp only[ho,e,Sem.run_bind]
    have:(convert s t (.int k' (fy k' n))).run P w'=.ok (.int k (k.wrap (fy k' n))) w':=by
     unfold convert
     simp only[Sem.run_bind,run_underlying hd,run_underlying (gd oC),Result.andThen_ok]
     cases dS <;> rfl
    simp_all
   ·cases hk
  ·cases hk
 ·split at hk
  ·split at hk
   ·rename_i b hv
    rw[hv] at hs
    have e:=nS hs
    refine ⟨.string ⟨List.toArray b⟩,(λw' _=>?_),aK h hk ⟨[_],rfl,rfl⟩ (λ_ _ _ _ e=>by cases e)⟩
    unfold execOp
    have:(convert s t (.string ⟨List.toArray b⟩)).run P w'=.ok (.string ⟨List.toArray b⟩) w':=by
     unfold convert
     simp only[Sem.run_bind,run_underlying (ef om),run_underlying (ef oC),Result.andThen_ok]
     rfl
    simp_all
   ·cases hk
  ·have GH:∃ v',a9 σ y=.val (.af (.int .u8)) v':=by
    grind [it,cy]
   obtain ⟨v,hv⟩:=GH
   rw[hv] at hs hk
   simp only[it] at hk
   obtain ⟨_,hk⟩:=aP hk
   obtain ⟨cs,h1,Y⟩:=hs
   obtain ⟨el,hu,_,hle⟩:=jr om
   obtain ⟨xa,cap,q1,q2,q3,q4⟩:=Y
   subst q1
   rw[bj _ _ rfl] at h1
   have v8:List UInt8:=v
   have cX:∀ w',(∀ b i,A b i->∀ u,ce w b i=some u->ce w' b i=some u)->(convert s t (a.eval y)).run P w'=.ok (.string ⟨List.toArray v⟩) w':=λw' ip=>by
    rw[h1]
    cases xa with
    | none=>
     have:v=[]:=List.eq_nil_of_length_eq_zero (q3 rfl)
     subst this
     exact run_convert_bytes_nil w' s el hu (gd hle) _ _ t (ef oC)
    | some ad=>
     obtain ⟨g1,g2⟩:=q4 _ rfl
     refine run_convert_bytes_back w' s t el _ cap v hu (gd hle) (ef oC) λj hj=>?_
     obtain ⟨L,l1,l2,l3⟩:=g2 j _ (List.getElem?_eq_getElem hj)
     simp only[Ro] at l3
     subst l3
     have mN:=l2 0 _ rfl
     obtain ⟨b,off,sp⟩:=ad
     have gZ:=g1 (by omega)
     simp only at gZ
     subst gZ
     rw[gi]
     simp only[Ty.sz,Nat.mul_one,Nat.add_zero] at mN
     exact kT (ip _ _ mN.2 _ mN.1) rfl
   refine ⟨.string ⟨List.toArray v⟩,(λw' ip=>?_),aK h hk ⟨[_],rfl,rfl⟩ (λ_ _ _ _ e=>by cases e)⟩
   grind [execOp,Sem.run_bind,Result.andThen_ok,Sem.run_pure]
  ·cases hk
 all_goals grind [Ty.flat]
theorem Al (h:bd P C A σ a w F) (dr:∀ i T,E.TI i=some T->ao P T (.inl i)=true) {s t:Nat} {y:Operand} (ho:o.op=.convert s t y) (am:aZ P y=true) {K:St->Option R}
  (hk:ql E σ s t (a9 σ y) o.dst K=some x):o.wp P a w (λa' w'=>Nx P C K x a' w'/\Ext w w' (λ_ _=>0)) Q:=by
 unfold ql at hk
 obtain ⟨S,hS,hk⟩:=bE hk
 obtain ⟨T,hT,hk⟩:=bE hk
 have om:=dr _ _ hS
 have oC:=dr _ _ hT
 rcases bt h am with hs | ⟨xs,e⟩
 rotate_left
 ·grind [it]
 split at hk
 ·rename_i k
  split at hk
  ·rename_i k' n hv
   rw[hv] at hs
   have e:=nT hs
   split at hk
   ·rename_i GG
    obtain ⟨dS,hd,_⟩:=nv om
    refine e8 (v:=.int k (k.wrap (fy k' n))) (w':=w) ?_ ⟨aK h hk ⟨[_],rfl,by simp only[Ro,gU]⟩ (λ_ _ _ _ e=>by cases e),Ext.refl _ _⟩
    unfold execOp
    simp only[ho,e,Sem.run_bind]
    have:(convert s t (.int k' (fy k' n))).run P w=.ok (.int k (k.wrap (fy k' n))) w:=by
     unfold convert
     simp only[Sem.run_bind,run_underlying hd,run_underlying (gd oC),Result.andThen_ok]
     cases dS <;> rfl
    simp_all
   ·cases hk
  ·cases hk
 ·split at hk
  ·split at hk
   ·rename_i b hv
    rw[hv] at hs
    have e:=nS hs
    refine e8 (v:=.string ⟨List.toArray b⟩) (w':=w) ?_ ⟨aK h hk ⟨[_],rfl,rfl⟩ (λ_ _ _ _ e=>by cases e),Ext.refl _ _⟩
    unfold execOp
    have:(convert s t (.string ⟨List.toArray b⟩)).run P w=.ok (.string ⟨List.toArray b⟩) w:=by
     unfold convert
     simp only[Sem.run_bind,run_underlying (ef om),run_underlying (ef oC),Result.andThen_ok]
     rfl
    simp_all
   ·cases hk
  ·obtain ⟨v,cs,hk,h1,Y⟩:=Bc h hs hk
   obtain ⟨el,hu,_,hle⟩:=jr om
   obtain ⟨xa,cap,q1,q2,q3,q4⟩:=Y
   subst q1
   rw[bj _ _ rfl] at h1
   have v8:List UInt8:=v
   have cX:(convert s t (a.eval y)).run P w=.ok (.string ⟨List.toArray v⟩) w:=by
    rw[h1]
    cases xa with
    | none=>
     have:v=[]:=List.eq_nil_of_length_eq_zero (q3 rfl)
     subst this
     exact run_convert_bytes_nil w s el hu (gd hle) _ _ t (ef oC)
    | some ad=>
     obtain ⟨g1,g2⟩:=q4 _ rfl
     refine run_convert_bytes_back w s t el _ cap v hu (gd hle) (ef oC) λj hj=>?_
     obtain ⟨L,l1,l2,l3⟩:=g2 j _ (List.getElem?_eq_getElem hj)
     simp only[Ro] at l3
     subst l3
     have:=(l2 0 _ rfl).1
     obtain ⟨b,off,sp⟩:=ad
     have gZ:=g1 (by omega)
     simp only at gZ
     subst gZ
     rw[gi]
     simp only[Ty.sz,Nat.mul_one,Nat.add_zero] at this
     exact kT (this) rfl
   refine e8 (v:=.string ⟨List.toArray v⟩) (w':=w) ?_ ⟨aK h hk ⟨[_],rfl,rfl⟩ (λ_ _ _ _ e=>by cases e),Ext.refl _ _⟩
   grind [execOp,Sem.run_bind,Result.andThen_ok,Sem.run_pure]
  ·cases hk
 ·split at hk
  ·rename_i b hv
   rw[hv] at hs
   have e:=nS hs
   split at hk
   ·rename_i GG
    rw[GG] at om
    split at hk
    rotate_left
    ·cases hk
    rename_i kK
    obtain ⟨el,hu,_,hle⟩:=jr oC
    have cX:=run_bytes_of_string (P:=P) w s t el ⟨List.toArray b⟩ (ef om) hu (gd hle)
    have hlen:(⟨List.toArray b⟩:ByteArray).size=List.length b:=rfl
    have GI:=grownCap_ge w (List.length b) 0 el
    have yI:=grownCap_le_maxLen w (List.length b) 0 el (by grind [cU,maxLen])
    rw[hlen] at cX
    have eN:(bytesRow ⟨List.toArray b⟩ (grownCap w (List.length b) 0 el)).size=grownCap w (List.length b) 0 el:=by
     grind [bytesRow]
    refine e8 ?_ ⟨sS (h.drew) (K:=K) (d:=o.dst) (e:=.int .u8) (v:=b) (m:=.leaf) (Fi:=λ_ _ _=>0) (cap:=grownCap w (List.length b) 0 el) (el:=el) (fr:=((bytesRow ⟨List.toArray b⟩ (grownCap w (List.length b) 0 el)).size,(bytesRow ⟨List.toArray b⟩ (grownCap w (List.length b) 0 el)).size+1)) (c:=bytesRow ⟨List.toArray b⟩ (grownCap w (List.length b) 0 el)) (.inl ⟨rfl,Nat.le_refl _⟩) hk
     (by grind [Ty.sz]) yI GI (λb i=>by grind [d9]) (λi y hy=>?_),(yY w).trans (e9 w.drew _) (λ_ _ _ _=>rfl)⟩
    ·simp_all [execOp]
    ·have hi:=(List.getElem?_eq_some_iff.1 hy).1
     have hb:=bytesRow_at ⟨List.toArray b⟩ (grownCap w (List.length b) 0 el) i (by simpa using hi)
     refine ⟨[.int .u8 (UInt8.toNat y)],rfl,λj u hu=>?_,rfl⟩
     grind [Ty.sz]
   ·cases hk
  ·cases hk
 ·cases hk
end
end OT
set_option linter.unusedVariables false
set_option linter.unusedSimpArgs false
namespace OT
open Go
section
variable {P:Program} {C:Ctx} {A:Cells} {X:FP} {σ:St} {a:Act} {w:World} {F:Nat->FP} {R:Type} {x:R} {Q:Exit->Act->World->Prop} {o:Oper} {E:Env}
theorem y5 (h:bd P C A σ a w F) {i j:Nat} (ho:o.op=.extract (.tmp i) j) {K:St->Option R}
  (hk:(match σ.get i with
   | .gN xs=>match xs[j]? with
    | some x=>if x.t=.unit then none else K ((σ.put i (.gN (xs.set j ⟨.unit,.leaf,()⟩))).aB o.dst (laid x.t x.m x.v))
    | none=>none
   | _=>none)=some x):Tk P o a w (Nx P C K x):=by
 split at hk
 ·rename_i xs hg
  split at hk
  ·rename_i y hy
   split at hk
   ·cases hk
   ·rename_i OL
    have hi:i < σ.n:=by
     grind [dN]
    have hs:=h.bX i hi
    rw[hg] at hs
    obtain ⟨vs,Fi,h1,Y,h3⟩:=hs
    obtain ⟨v,h4,h5⟩:=h3 j y hy
    rcases h5 with h5 | ⟨cs,h6,h7⟩
    ·grind
    have hj:=(List.getElem?_eq_some_iff.1 hy).1
    have pE:=h.put hi (s:=.gN (xs.set j ⟨.unit,.leaf,()⟩)) (v:=tmp a i) (Fd:=al xs.length (bD Fi j λ_ _=>0)) (X':=Fi j)
     ⟨vs,bD Fi j λ_ _=>0,h1,λb k=>by grind,λk y' td=>by
      rw[List.getElem?_set] at td
      split at td
      ·rename_i e;subst e
       injection td with td;subst td;exact ⟨v,h4,.inl rfl⟩
      grind [bD]⟩
     (λb k=>by grind [iR]) (λt m H v e=>by cases e)
    rw[gG] at pE
    refine bN (v:=v) ?_ ?_
    ·unfold execOp
     have e:a.eval (.tmp i)=.tuple vs:=h1
     simp_all [Instr.extract]
    grind [ov]
  ·cases hk
 ·cases hk
theorem Rel.LV (h:Rel P C A X σ a w F) {d n:Nat} (hd:∀ R,ba w (tmp a d) (σ.get d)=some R->aY R.t R.cs=C.args.getD n undef):Rel P C A X { σ with ax:=(d,n,true)::σ.ax } a w F:=by
 have eH:mg σ a w { σ with ax:=(d,n,true)::σ.ax } a w:=λr p snap hb=>⟨hb,λam=>⟨am,λhl pl cI=>⟨pl.H,pl.cs,cI,λ_=>rfl⟩⟩⟩
 refine ⟨h.size,h.defers,λi hi=>aQ.ed eH (λ_ _ h=>h) (λ_ _ _ _ h=>h) (λ_ _ h=>h) (λ_ _ _=>⟨λ_ h=>h,rfl⟩) (h.bX i hi),λd r p snap hm=>gF.ed eH (h.gh d r p snap hm),h.fA,h.fW,h.cW,h.dK,h.ext,h.own,h.a0,h.J,λj k hm=>?_,λr t m H v hg hl=>h.whole r t m H v hg λk hm=>hl k (List.mem_cons_of_mem _ hm),λj k hm R hR=>?_,h.lu⟩
 ·rcases List.mem_cons.1 hm with e | hm
  ·grind
  ·exact h.fe j k hm
 ·rcases List.mem_cons.1 hm with e | hm
  ·injection e with e1 e2;injection e2 with e2 e3
   subst e1;subst e2
   exact hd R hR
  ·exact h.eB j k hm R hR
theorem Ci {l:List (Nat×Nat×Bool)} {i n:Nat} (h:uC l i=some n):(i,n,true) ∈ l:=by
 induction l <;> grind [uC,Nat.beq_eq]
theorem HJ (h:bd P C A σ a w F) {t:Nat} {y:Operand} (ho:o.op=.box t y) (am:aZ P y=true) {mv:Bool} {K:St->Option R}
  (hk:(fU E t λt=>dR σ (a9 σ y) mv t λm v σ'=>K (yz σ y o.dst (σ'.aB o.dst (.box t m [] v))))=some x):o.wp P a w (λa' w'=>Nx P C K x a' w'/\Ext w w' (λ_ _=>0)) Q:=by
 obtain ⟨T,hT,hk⟩:=bE hk
 rcases bt h am with hs | ⟨xs,e⟩
 rotate_left
 ·grind [dR]
 have IW:=hk
 obtain ⟨A',σ',F',m,v,cs,Fv,k1,k2,k3,k4,kr,k5,k6⟩:=jk h hs hk
 have hl:=ae.length _ k6
 have gj:=ae.one _ k6
 have KW:(aY T cs).cells=cs.toArray:=by grind [cV]
 obtain ⟨A2,F2,hF⟩:=Bk k3 (K:=λs=>some s) (x:=σ'.aB o.dst (.box T m [] v)) (d:=o.dst) t rfl k6 (λb i=>by omega)
 refine e8 (v:=.pointer (some ⟨w.heap.size,0,none⟩)) (w':=w.alloc (.cells cs.toArray t)) ?_ ?_
 ·simp_all [execOp,Instr.box,newVar,newRow]
 ·refine ⟨⟨_,k1,A2,F2,?_⟩,e9 w _⟩
  clear hk
  unfold yz
  split
  ·rename_i i d hd
   split
   ·rename_i t0 m0 H0 v0 hg
    split
    ·rename_i n hn
     rw[hd] at hF ⊢
     refine Rel.LV hF λR hR=>?_
     have eI:=h.eB i n (Ci hn) ⟨t0,H0,(tmp a i).cells.toList,none⟩ (by rw[hg];rfl)
     have dr:tmp a i=aY T cs:=k5
     have wU:t0=T:=by
      simp only[a9,hg] at IW
      grind [dR,fG,lj,eU,aP]
     subst wU
     simp only[dr,cV hl gj] at eI
     simp only[St.aB,mh] at hR
     split at hR
     ·rename_i hc
      have MO:tmp (a.put (some d) (.pointer (some ⟨w.heap.size,0,none⟩))) d=.pointer (some ⟨w.heap.size,0,none⟩):=by
       rw[eZ,if_pos ⟨rfl,by rw[h.size,<- k4];exact hc.2⟩]
      rw[MO] at hR
      simp only[ba,Option.some.injEq] at hR
      subst hR
      have hh:=mP w cs.toArray t (0,0) (k:=0) (L:=cs) (λj u hu=>by simpa using hu) gj
      grind [bq]
     ·rename_i hc
      have GI:σ'.n<=d:=by
       grind
      rw[dN (Nat.not_lt.2 GI)] at hR;cases hR
    ·exact hF
   ·exact hF
  ·exact hF
end
end OT
set_option linter.unusedVariables false
set_option linter.unusedSimpArgs false
namespace OT
open Go
section
variable {P:Program} {C:Ctx} {A:Cells} {X:FP} {σ:St} {a:Act} {w:World} {F:Nat->FP} {R:Type} {x:R} {Q:Exit->Act->World->Prop} {o:Oper} {E:Env}
theorem Rel.giveUp (h:Rel P C A X σ a w F) {A1:Cells} {X1:FP} (hA:∀ b i,A b i->A1 b i) (rR:∀ b i,A1 b i->A b i\/(1<=X b i/\X1 b i=0)) (hX:∀ b i,X1 b i<=X b i):Rel P C A1 X1 σ a w F:=by
 have eH:mg σ a w σ a w:=λr p snap hb=>⟨hb,λam=>⟨am,λhl pl cI=>⟨pl.H,pl.cs,cI,λ_=>rfl⟩⟩⟩
 refine ⟨h.size,h.defers,λi hi=>aQ.ed eH hA (λ_ _ _ _ h=>h) (λ_ _ h=>h) (λ_ _ _=>⟨λ_ h=>h,rfl⟩) (h.bX i hi),h.gh,λb i=>by have:=h.fA b i;grind,
  λb i hp ha=>?_,λb i hp=>?_,h.dK,h.ext,λb i hp=>h.own b i (by grind),λb i ha=>hA b i (h.a0 b i ha),λb i ha=>?_,h.fe,h.whole,h.eB,h.lu⟩
 ·rcases rR b i ha with ha | ha
  ·exact h.fW b i (by grind) ha
  ·have:=h.fA b i;omega
 ·rcases hp with hp | ha
  ·exact h.cW b i (.inl (by grind))
  ·rcases rR b i ha with ha | ha
   ·exact h.cW b i (.inr ha)
   ·exact h.cW b i (.inl (by omega))
 ·rcases rR b i ha with ha | ha
  ·exact h.J b i ha
  ·exact .inr (h.own b i (by omega))
theorem DM {off:Nat} {l cs:List Value} (h:off+l.length<=cs.length) :
  ((l.toArray.zipIdx).foldl (λcs (x:Value×Nat)=>cs.setIfInBounds (off+x.2) x.1) cs.toArray)=(cs.take off++l++cs.drop (off+l.length)).toArray:=by
 obtain ⟨h1,Y⟩:=Great.foldl_set off l 0 cs.toArray
 have e:(l.toArray.zipIdx).foldl (λcs (x:Value×Nat)=>cs.setIfInBounds (off+x.2) x.1) cs.toArray=(l.zipIdx 0).foldl (λcs (x:Value×Nat)=>cs.setIfInBounds (off+x.2) x.1) cs.toArray:=by simp
 rw[e]
 apply Array.ext_getElem?
 grind
theorem pa {pl:Nat->Option (Nat×Nat)} {j off sz:Nat} (hp:pl j=some (off,sz)) {t:Ty} {l cs:List Value} (hl:l.length=sz) (h1:(aY t l).cells.toList=l) (h:off+sz<=cs.length) (rest:List (Nat×Value)) :
  Instr.fill pl cs.toArray ((j,aY t l)::rest)=Instr.fill pl (cs.take off++l++cs.drop (off+sz)).toArray rest:=by
 have hc:(aY t l).cells=l.toArray:=Array.ext' (by simpa using h1)
 grind [Instr.fill,DM]
theorem DN:∀ (n:Nat) (t:Ty) {t':Ty} {m m':Md} {v:t.den} {y:t'.den} {cs ys:List Value} {G H:FP} {K:Md->t.den->Option R},ae P w A t m [] v cs G->ae P w A t' m' [] y ys H ->
  rB n t m v t' m' y K=some x->∃ m2 v2,K m2 v2=some x/\ae P w A t m2 [] v2 (cs.take (cO n t)++ys++cs.drop (cO n t+t'.sz)) (λb i=>G b i+H b i)/\cO n t+t'.sz<=cs.length:=by
 intro n
 induction n with
 | zero=>
  intro t t' m m' v y cs ys G H K hr hy hk
  cases t with
  | pair a b=>
   simp only[rB] at hk
   obtain ⟨e,hk⟩:=aP hk;subst e
   have hl:=ae.length _ hr
   have MP:=ae.length _ hy
   obtain ⟨h0,F1,F2,hs,h1,Y⟩:=hr
   refine ⟨_,_,hk,⟨rfl,H,F2,λb i=>by grind,?_,?_⟩,?_⟩
   all_goals simp_all [cO,Md.l,Md.r,Ty.sz]
  | _=>cases hk
 | succ n ih=>
  intro t t' m m' v y cs ys G H K hr hy hk
  cases t with
  | pair a b=>
   simp only[rB] at hk
   have hl:=ae.length _ hr
   obtain ⟨h0,F1,F2,hs,h1,Y⟩:=hr
   obtain ⟨m2,v2,k1,k2,k3⟩:=ih b Y hy hk
   simp only[List.length_drop] at k3
   simp only[Ty.sz] at hl
   refine ⟨_,_,k1,⟨rfl,F1,λb i=>F2 b i+H b i,λb i=>by grind,?_,?_⟩,?_⟩
   ·simp only[cO,List.filterMap_nil,Md.l]
    have:(cs.take (a.sz+cO n b)++ys++cs.drop (a.sz+cO n b+t'.sz)).take a.sz=cs.take a.sz:=by
     simp_all [List.take_append_of_le_length,List.take_take]
    rw[this];exact h1
   ·simp only[cO,List.filterMap_nil,Md.r]
    have:(cs.take (a.sz+cO n b)++ys++cs.drop (a.sz+cO n b+t'.sz)).drop a.sz=(cs.drop a.sz).take (cO n b)++ys++(cs.drop a.sz).drop (cO n b+t'.sz):=by
     rw[List.append_assoc,List.drop_append_of_le_length (by simp;omega),List.drop_take,List.drop_drop,List.append_assoc]
     rw[show a.sz+cO n b - a.sz=cO n b by omega,show a.sz+(cO n b+t'.sz)=a.sz+cO n b+t'.sz by omega]
    grind
   ·simp only[cO];omega
  | _=>cases hk
theorem y8 {α β:Type} (g:α->Option β):∀ (l:List α) (ps:List β),l.mapM g=some ps->∀ (j:Nat) (f:α),l[j]?=some f->ps[j]?=g f
 | [],ps,h,j,f,hf=>by cases hf
 | y::l,ps,h,j,f,hf=>by
  simp only[List.mapM_cons,Option.bind_eq_bind,Option.pure_def] at h
  cases hy:g y with
  | none=>simp[hy] at h
  | some z=>
   cases hr:l.mapM g with
   | none=>grind
   | some r=>
    simp only[hy,hr,Option.bind_some,Option.some.injEq] at h
    subst h
    cases j with
    | zero=>grind
    | succ j=>exact y8 g l r hr j f hf
theorem Cj:∀ (t:Ty) {fs:List Field} {off:Nat},ao P t (.inr (fs,off))=true->∃ ps,fs.mapM (λf=>(P.info? f.type).map λi=>(f.offset,i.size))=some ps:=by
 intro t
 induction t with
 | unit=>
  simp_all [ao]
 | pair a b d_ dT=>
  intro fs off h
  cases fs with
  | nil=>simp_all
  | cons f r=>
   simp only[ao,Bool.and_eq_true] at h
   obtain ⟨ps,lD⟩:=dT h.2
   obtain ⟨inf,hi,_⟩:=de (ei h.1.2)
   grind
 | _=>grind [ao]
theorem xP {T:Ty} {i:TypeId} (hl:ao P T (.inl i)=true) {j:Nat} {t':Ty} (hj:ju j T=some t') :
  ∃ fs ps,P.underlying i=some (.struct fs)/\fs.toList.mapM (λf=>(P.info? f.type).map λi=>(f.offset,i.size))=some ps/\∀ j t',ju j T=some t'->ps.toArray[j]?=some (cO j T,t'.sz):=by
 cases T with
 | pair a b=>
  have K5:=hl
  simp only[ao,Bool.and_eq_true] at hl
  have Y:=hl.2
  split at Y
  ·rename_i fs hu
   split at Y
   ·rename_i f r uU
    have h3:ao P (.pair a b) (.inr (f::r,0))=true:=by
     grind [ao]
    obtain ⟨ps,lD⟩:=Cj _ h3
    refine ⟨fs,ps,hu,by grind,λj t' hj=>?_⟩
    obtain ⟨f',q1,q2,q3,q4⟩:=Bg j (.pair a b) h3 hj
    have:=y8 _ _ _ lD j f' q1
    obtain ⟨inf,hi,hs,_⟩:=de (ei q3)
    grind
   ·cases Y
  ·cases Y
 | _=>cases j <;> cases hj
theorem DO {T:Ty} {fz:Nat->Bool} {pl:Nat->Option (Nat×Nat)} (cI:∀ j t',ju j T=some t'->pl j=some (cO j T,t'.sz)) {K:Md->T.den->St->Option R} :
  ∀ (ps:List (Nat×Operand)) {n:Nat} {σ:St} {A:Cells} {X:FP} {F:Nat->FP} {m:Md} {v:T.den} {cs:List Value},ps.all (λp=>aZ P p.2)=true->Rel P C A X σ a w F->ae P w A T m [] v cs X ->
   rC E σ T fz ps n m v K=some x->∃ A' σ' F' m' v' aC X',K m' v' σ'=some x/\Rel P C A' X' σ' a w F'/\ae P w A' T m' [] v' aC X'/\Instr.fill pl cs.toArray (ps.map λp=>(p.1,a.eval p.2))=some aC.toArray:=by
 intro ps
 induction ps with
 | nil=>intro n σ A X F m v cs am h hr hk;exact ⟨A,σ,F,m,v,cs,X,hk,h,hr,rfl⟩
 | cons p ps ih=>
  intro n σ A X F m v cs am h hr hk
  obtain ⟨j,y⟩:=p
  simp only[List.all_cons,Bool.and_eq_true] at am
  simp only[rC] at hk
  split at hk
  ·rename_i t' pX
   rcases bt h am.1 with hs | ⟨xs,e⟩
   rotate_left
   ·grind [dR]
   obtain ⟨A1,fi,F1,m1,v1,ge,Fv,k1,k2,k3,k4,kr,k5,k6⟩:=jk h hs hk
   have nm:=ae.mono (P:=P) (A':=A1) k2 (λ_ _ _ _ h=>h) (λ_ _ h=>h) T hr (λ_ _=>Nat.le_refl _) (λ_ _ _ _ h=>h)
   obtain ⟨m2,v2,q1,q2,q3⟩:=DN j T nm k6 k1
   obtain ⟨A',σ',F',m',v',aC,X',g1,g2,g3,g4⟩:=ih am.2 k3 q2 q1
   refine ⟨A',σ',F',m',v',aC,X',g1,g2,g3,?_⟩
   rw[List.map_cons,k5,pa (cI j t' pX) (ae.length _ k6) (cV (ae.length _ k6) (ae.one _ k6)) q3]
   exact g4
  ·cases hk
theorem HK {n j:Nat} {e:Ty} {v:List e.den} {y:e.den} {cs ys:List Value} (h:Ro P w A (.arr n e) v cs) (hy:Ro P w A e y ys) (hj:j < v.length) :
  Ro P w A (.arr n e) (v.set j y) (cs.take (j*e.sz)++ys++cs.drop (j*e.sz+e.sz))/\j*e.sz+e.sz<=cs.length:=by
 obtain ⟨h1,Y,h3,h4⟩:=h
 have MP:=Ro.length _ hy
 have hle:j*e.sz+e.sz<=cs.length:=by
  rw[h3,<- Nat.succ_mul];exact Nat.mul_le_mul_right _ (by omega)
 refine ⟨⟨h1,by simpa using Y,by grind,λi z hz=>?_⟩,hle⟩
 rw[List.getElem?_set] at hz
 split at hz
 ·grind
 ·rename_i bG
  have h5:=h4 i z hz
  have:((cs.take (j*e.sz)++ys++cs.drop (j*e.sz+e.sz)).drop (i*e.sz)).take e.sz=(cs.drop (i*e.sz)).take e.sz:=by
   rcases Nat.lt_or_ge i j with iB | iB
   ·have h6:i*e.sz+e.sz<=j*e.sz:=by rw[<-Nat.succ_mul];exact Nat.mul_le_mul_right _ (by omega)
    grind [List.drop_take]
   ·have h6:j*e.sz+e.sz<=i*e.sz:=by rw[<-Nat.succ_mul];exact Nat.mul_le_mul_right _ (by omega)
    have h7:(cs.take (j*e.sz)++ys).length=j*e.sz+e.sz:=by grind
    rw[List.drop_append,h7,List.drop_of_length_le (by omega),List.nil_append,List.drop_drop]
    congr 2;omega
  grind
theorem HL {n0:Nat} {e:Ty} {fz:Nat->Bool} (hf:e.flat=true) {K:List e.den->St->Option R} :
  ∀ (ps:List (Nat×Operand)) {n:Nat} {σ:St} {A:Cells} {F:Nat->FP} {v:List e.den} {cs:List Value},ps.all (λp=>aZ P p.2)=true->bd P C A σ a w F->Ro P w A (.arr n0 e) v cs ->
   yu σ e fz ps n v K=some x->∃ A' σ' F' v' aC,K v' σ'=some x/\bd P C A' σ' a w F'/\Ro P w A' (.arr n0 e) v' aC/\Instr.fill (λi=>some (i*e.sz,e.sz)) cs.toArray (ps.map λp=>(p.1,a.eval p.2))=some aC.toArray:=by
 intro ps
 induction ps with
 | nil=>intro n σ A F v cs am h hr hk;exact ⟨A,σ,F,v,cs,hk,h,hr,rfl⟩
 | cons p ps ih=>
  intro n σ A F v cs am h hr hk
  obtain ⟨j,y⟩:=p
  simp only[List.all_cons,Bool.and_eq_true] at am
  simp only[yu] at hk
  rcases bt h am.1 with hs | ⟨xs,e⟩
  rotate_left
  ·grind [dR]
  obtain ⟨A1,fi,F1,m1,v1,ge,Fv,k1,k2,k3,k4,kr,k5,k6⟩:=jk h hs hk
  split at k1
  ·rename_i hj
   have nm:Ro P w A1 (.arr n0 e) v cs:=Ro.mono (λ_ _ _ _ h=>h) k2 _ hr
   obtain ⟨q1,q2⟩:=HK nm (ae.flat _ hf k6) hj
   obtain ⟨A',σ',F',v',aC,g1,g2,g3,g4⟩:=ih am.2 (k3.less (X':=λ_ _=>0) λ_ _=>Nat.zero_le _) q1 k1
   refine ⟨A',σ',F',v',aC,g1,g2,g3,?_⟩
   rw[List.map_cons,k5,pa (pl:=λi=>some (i*e.sz,e.sz)) rfl (ae.length _ k6) (cV (ae.length _ k6) (ae.one _ k6)) q2]
   exact g4
  ·cases k1
theorem Ck (h:bd P C A σ a w F) (dr:∀ i T,E.TI i=some T->ao P T (.inl i)=true) {t:Nat} {ps:Array (Nat×Operand)} {fz:Nat->Bool} (ho:o.op=.build t ps) (am:ps.toList.all (λp=>aZ P p.2)=true) {K:St->Option R}
  (hk:(fU E t λt=>match t with
  | .arr n e=>if e.kQ then yu σ e fz ps.toList 0 (Ty.arr n e).zero λv σ=>K (σ.aB o.dst (laid (.arr n e) (aF (.arr n e)) v)) else none
  | .pair t1 t2=>if (Ty.pair t1 t2).kQ then rC E σ (.pair t1 t2) fz ps.toList 0 (aF (.pair t1 t2)) (Ty.pair t1 t2).zero λm v σ=>K (σ.aB o.dst (laid (.pair t1 t2) m v)) else none
  | _=>none)=some x):Tk P o a w (Nx P C K x):=by
 obtain ⟨T,hT,hk⟩:=bE hk
 have cn:=dr _ _ hT
 have run:∀ (cells:Array Value),P.built t (ps.map λ(i,x)=>(i,a.eval x)).toList=some cells->∀ w',iU o w w'->(execOp a.eval o).run P w'=.ok (.value (.agg cells)) w':=λcells hc w' _=>by
  simp_all [execOp,run_build]
 have lD:(ps.map λ(i,x)=>(i,a.eval x)).toList=ps.toList.map λp=>(p.1,a.eval p.2):=by simp
 rw[lD] at run
 split at hk
 ·rename_i n e
  split at hk
  ·rename_i hz
   have jU:e.flat=true:=by
    grind [ao]
   obtain ⟨L,hL⟩:=jE (.arr n e) (by simpa [Ty.kQ] using hz)
   obtain ⟨r1,r2,r3⟩:=o8 (P:=P) (w:=w) (A:=A) _ hL cn
   obtain ⟨inf,i1,i2,i3,i4⟩:=de (ei cn)
   obtain ⟨z,z1,z2⟩:=i4 L hL
   obtain ⟨A',σ',F',v',aC,g1,g2,g3,g4⟩:=HL jU ps.toList am h r2 hk
   have hu:∃ el ie,P.underlying t=some (.array n el)/\P.info? el=some ie/\ie.size=e.sz:=by
    have hl:=cn
    simp only[ao,Bool.and_eq_true] at hl
    have Y:=hl.2
    split at Y
    ·rename_i n' el hu
     simp only[Bool.and_eq_true,Nat.beq_eq] at Y
     obtain ⟨ie,j1,j2,_⟩:=de (ei Y.2)
     grind
    ·cases Y
   obtain ⟨el,ie,u1,u2,u3⟩:=hu
   have K4:z.cells=L.toArray:=Array.ext' (by simpa using z2)
   have e1:aY (.arr n e) aC=.agg aC.toArray:=rfl
   refine bN (v:=aY (.arr n e) aC) (run _ ?_) ?_
   ·grind [Program.built]
   ·exact ov g2 g1 (Ro.flat _ (λ_ _=>0) (by grind [Ty.flat]) g3) (λ_ _=>Nat.le_refl _)
  ·cases hk
 ·rename_i t1 t2
  split at hk
  ·rename_i hz
   obtain ⟨L,hL⟩:=jE (.pair t1 t2) hz
   obtain ⟨r1,r2,r3⟩:=o8 (P:=P) (w:=w) (A:=A) _ hL cn
   obtain ⟨inf,i1,i2,i3,i4⟩:=de (ei cn)
   obtain ⟨z,z1,z2⟩:=i4 L hL
   have K4:z.cells=L.toArray:=Array.ext' (by simpa using z2)
   obtain ⟨fs,MQ,u1,u2,u3⟩:=xP cn (j:=0) rfl
   obtain ⟨A',σ',F',m',v',aC,X',g1,g2,g3,g4⟩:=DO (pl:=λj=>MQ.toArray[j]?) u3 ps.toList am h r1 hk
   refine bN (v:=aY (.pair t1 t2) aC) (run _ ?_) (ov g2 g1 g3 (λ_ _=>Nat.le_refl _))
   grind [Program.built]
  ·cases hk
 ·cases hk
theorem HM {e:Ty} {fz:Nat->Bool} (eN:1<=e.sz) {K:Md->List e.den->St->Option R} :
  ∀ (ps:List (Nat×Operand)) {n:Nat} {σ:St} {A:Cells} {X:FP} {F:Nat->FP} {m:Md} {v:List e.den} {L Z:List Value} {Fi:Nat->FP},ps.all (λp=>aZ P p.2)=true->Rel P C A X σ a w F ->
   List.length v=n->L.length=n*e.sz->Z.length=ps.length*e.sz->(∀ b i,al n Fi b i<=X b i)->(∀ (i:Nat) (y:e.den),v[i]?=some y->ae P w A e m [] y ((L.drop (i*e.sz)).take e.sz) (Fi i)) ->
   rD σ e fz ps n m v K=some x->∃ (A':Cells) (σ':St) (F':Nat->FP) (m':Md) (v':List e.den) (L':List Value) (X':FP) (uZ:Nat->FP),K m' v' σ'=some x/\Rel P C A' X' σ' a w F'/\List.length v'=n+ps.length/\L'.length=(n+ps.length)*e.sz/\(∀ b i,al (n+ps.length) uZ b i<=X' b i) /\
    (∀ (i:Nat) (y:e.den),v'[i]?=some y->ae P w A' e m' [] y ((L'.drop (i*e.sz)).take e.sz) (uZ i))/\Instr.fill (λi=>some (i*e.sz,e.sz)) (L++Z).toArray (ps.map λp=>(p.1,a.eval p.2))=some L'.toArray:=by
 intro ps
 induction ps with
 | nil=>
  intro n σ A X F m v L Z Fi am h hv hL hZ hX hr hk
  have:Z=[]:=by simpa using hZ
  subst this
  exact ⟨A,σ,F,m,v,L,X,Fi,hk,h,hv,hL,hX,hr,by simp[Instr.fill]⟩
 | cons p ps ih=>
  intro n σ A X F m v L Z Fi am h hv hL hZ hX hr hk
  obtain ⟨j,y⟩:=p
  simp only[List.all_cons,Bool.and_eq_true] at am
  simp only[rD] at hk
  split at hk
  ·rename_i hj
   have hj:j=n:=by simpa using hj
   subst hj
   rcases bt h am.1 with hs | ⟨xs,e⟩
   rotate_left
   ·grind [dR]
   obtain ⟨A1,fi,F1,m1,v1,ge,Fv,k1,k2,k3,k4,kr,k5,k6⟩:=jk h hs hk
   have pc:=ae.length _ k6
   have DP:Z.length=e.sz+ps.length*e.sz:=by grind
   have K6:∀ {A2:Cells} {X2:FP} {m2:Md} {y9:Nat->FP},Rel P C A2 X2 fi a w F1->(∀ b i,al (j+1) y9 b i<=X2 b i)->(∀ (i:Nat) (y:e.den),v[i]?=some y->ae P w A2 e m2 [] y ((L.drop (i*e.sz)).take e.sz) (y9 i)) ->
     ae P w A2 e m2 [] v1 ge (y9 j)->rD fi e fz ps (j+1) m2 (v++[v1]) K=some x ->
     ∃ (A':Cells) (σ':St) (F':Nat->FP) (m':Md) (v':List e.den) (L':List Value) (X':FP) (uZ:Nat->FP),K m' v' σ'=some x/\Rel P C A' X' σ' a w F'/\List.length v'=j+(ps.length+1)/\L'.length=(j+(ps.length+1))*e.sz/\(∀ b i,al (j+(ps.length+1)) uZ b i<=X' b i) /\
      (∀ (i:Nat) (y:e.den),v'[i]?=some y->ae P w A' e m' [] y ((L'.drop (i*e.sz)).take e.sz) (uZ i))/\Instr.fill (λi=>some (i*e.sz,e.sz)) (L++Z).toArray ((j,a.eval y)::ps.map λp=>(p.1,a.eval p.2))=some L'.toArray:=by
    intro A2 X2 m2 y9 Y MR mM pe eF
    obtain ⟨A',σ',F',m',v',L',X',uZ,g1,g2,g3,g4,g5,g6,g7⟩:=ih (L:=L++ge) (Z:=Z.drop e.sz) (Fi:=y9) am.2 Y (by simp[hv]) (by grind) (by simp[DP]) MR (λi z hz=>by
     by_cases hi:i=j
     ·grind
     ·have aH:i < j:=by
       grind
      rw[List.getElem?_append_left (by omega)] at hz
      have h6:i*e.sz+e.sz<=j*e.sz:=by rw[<-Nat.succ_mul];exact Nat.mul_le_mul_right _ (by omega)
      grind) eF
    refine ⟨A',σ',F',m',v',L',X',uZ,g1,g2,by omega,by grind,λb i=>by grind,g6,?_⟩
    rw[k5,pa (pl:=λi=>some (i*e.sz,e.sz)) rfl pc (cV pc (ae.one _ k6)) (by simp[hL,DP])]
    grind [List.drop_append,List.drop_of_length_le,Nat.add_sub_cancel_left]
   have nm:∀ (i:Nat) (y:e.den),v[i]?=some y->ae P w A1 e m [] y ((L.drop (i*e.sz)).take e.sz) (Fi i):=λi y hy=>ae.mono (P:=P) (A':=A1) k2 (λ_ _ _ _ h=>h) (λ_ _ h=>h) e (hr i y hy) (λ_ _=>Nat.le_refl _) (λ_ _ _ _ h=>h)
   split at k1
   ·rename_i hm
    subst hm
    refine K6 (y9:=bD Fi j Fv) k3 (λb i=>?_) (λi y hy=>?_) (by grind [bD]) k1
    ·have h1:=mf j 1 (bD Fi j Fv) b i
     have Y:al j (bD Fi j Fv) b i=al j Fi b i:=by rw[yF Fi (Nat.le_refl j)]
     have h3:al 1 (λk=>bD Fi j Fv (j+k)) b i=Fv b i:=by simp[al,bD]
     grind
    grind [bD]
   ·
    have im:∃ A2:Cells,(∀ b i,A1 b i->A2 b i)/\Rel P C A2 (λ_ _=>0) fi a w F1/\Ro P w A2 e v1 ge/\∀ (i:Nat) (y:e.den),v[i]?=some y->Ro P w A2 e y ((L.drop (i*e.sz)).take e.sz):=by
     refine ⟨λb i=>A1 b i\/1<=X b i+Fv b i,λ_ _ h=>.inl h,k3.giveUp (λ_ _ h=>.inl h) (λb i ha=>ha.imp id λhp=>⟨hp,rfl⟩) (λ_ _=>Nat.zero_le _),ae.lq (λ_ _ h=>.inl h) e k6 (λb i hp=>.inr (by omega)),λi y hy=>?_⟩
     grind [ae.lq,aW]
    obtain ⟨A2,J,a2,a3,a4⟩:=im
    exact K6 (y9:=λ_ _ _=>0) a2 (λb i=>by grind [d9]) (λi y hy=>Ro.rep _ _ (bI _) (a4 i y hy)) (Ro.rep _ _ (bI _) a3) k1
  ·cases hk
theorem wk (h:bd P C A σ a w F) (dr:∀ i T,E.TI i=some T->ao P T (.inl i)=true) {t n:Nat} {ps:Array (Nat×Operand)} {fz:Nat->Bool} (ho:o.op=.buildSlice t n ps) (am:ps.toList.all (λp=>aZ P p.2)=true) {K:St->Option R}
  (hk:(fU E t λt=>match t with
  | .af e=>if Nat.beq n ps.size&&e.kQ&&Nat.ble (n*e.sz) 16777216 then rD σ e fz ps.toList 0 (aF e) [] λm v σ=>K (σ.aB o.dst (.own (.af e) (.af true m) [] v)) else none
  | _=>none)=some x):o.wp P a w (λa' w'=>Nx P C K x a' w'/\Ext w w' (λ_ _=>0)) Q:=by
 obtain ⟨T,hT,hk⟩:=bE hk
 have cn:=dr _ _ hT
 split at hk
 ·rename_i e
  split at hk
  ·rename_i hc
   simp only[Bool.and_eq_true,Nat.beq_eq,Nat.ble_eq] at hc
   obtain ⟨⟨hn,hz⟩,kK⟩:=hc
   have hl:=cn
   simp only[ao,Bool.and_eq_true] at hl
   have Y:=hl.2
   split at Y
   ·rename_i el hu
    simp only[Bool.and_eq_true,Nat.ble_eq] at Y
    obtain ⟨eN,jl⟩:=Y
    obtain ⟨Lz,DQ⟩:=jE e hz
    obtain ⟨r1,r2,r3⟩:=o8 (P:=P) (w:=w) (A:=A) _ DQ jl
    obtain ⟨inf,i1,i2,i3,i4⟩:=de (ei jl)
    obtain ⟨z,z1,z2⟩:=i4 Lz DQ
    have MS:z.cells.size=e.sz:=by grind
    obtain ⟨A',σ',F',m',v',L',X',uZ,g1,g2,g3,g4,g5,g6,g7⟩:=HM (P:=P) eN ps.toList (n:=0) (L:=[]) (Z:=((Array.range (n*e.sz)).map (z.cells[· % z.cells.size]!)).toList) (Fi:=λ_ _ _=>0) (m:=aF e) am h rfl (by simp) (by simp[hn]) (λb i=>by grind [d9]) (λi y hy=>by cases hy) hk
    simp only[List.nil_append,Array.toArray_toList] at g7
    simp only[Nat.zero_add] at g3 g4 g5
    have rr:ps.toList.length=n:=by simpa using hn.symm
    rw[rr] at g3 g4 g5
    have cX:(execOp a.eval o).run P w=.ok (.value (.slice (some ⟨w.heap.size,0,none⟩) n n)) (w.alloc (.cells L'.toArray el)):=by
     by_cases tm:n*e.sz=0
     ·have:n=0:=by rcases Nat.mul_eq_zero.1 tm with h | h <;> omega
      subst this
      have lD:ps=#[]:=by grind
      subst lD
      have A6:L'=[]:=by simpa using g4
      subst A6
      simp[execOp,ho,Instr.buildSlice,run_underlying hu,Go.sizeOf,typeInfo,i1,Instr.fill,newRow,show Array.range 0=#[] from rfl]
     simp_all [run_buildSlice,execOp]
    refine e8 (w':=w.alloc (.cells L'.toArray el)) cX ?_
    have fm:=sS g2 (K:=K) (x:=x) (d:=o.dst) (e:=e) (m:=m') (v:=v') (c:=L'.toArray) (cap:=n) (el:=el) (fr:=(0,0)) (Fi:=uZ) (.inr (Nat.le_refl _)) g1 (by simp[g4]) (by simp only[maxLen];have:=Nat.le_mul_of_pos_right n eN;omega) (by omega)
     (λb i=>by grind) (λi y hy=>⟨(L'.drop (i*e.sz)).take e.sz,ae.length _ (g6 i y hy),(λj u hu=>by
      grind),g6 i y hy⟩)
    grind [e9]
   ·cases Y
  ·cases hk
 ·cases hk
end
end OT
set_option linter.unusedVariables false
set_option linter.unusedSimpArgs false
namespace OT
open Go
section
variable {P:Program} {C:Ctx} {A:Cells} {X:FP} {σ:St} {a:Act} {w:World} {F:Nat->FP} {R:Type} {x:R} {Q:Exit->Act->World->Prop} {o:Oper} {E:Env}
theorem Rel.world (h:Rel P C A X σ a w F) {w1:World} {G:FP} (hw:Ext w w1 G) (hG:∀ b i,1<=G b i->1<=X b i):Rel P C A X σ a w1 F:=by
 have iC:∀ b i,A b i->∀ u,ce w b i=some u->ce w1 b i=some u:=λb i ha u hu=>by
  refine hw.cell b i (h.cW b i (.inr ha)) ?_ u hu
  rcases Nat.eq_zero_or_pos (G b i) with h0 | h0
  ·exact h0
  ·exact absurd ha (h.fW b i (by grind))
 have rP:∀ j,j < σ.n->∀ b i,1<=F j b i->(∀ u,ce w b i=some u->ce w1 b i=some u)/\w1.frozen? ⟨b,i,none⟩=w.frozen? ⟨b,i,none⟩:=λj hj b i hp=>by
  have hs:=aW F hj b i
  have hb:=h.cW b i (.inl (by omega))
  refine ⟨λu hu=>hw.cell b i hb ?_ u hu,hw.ne b i hb⟩
  rcases Nat.eq_zero_or_pos (G b i) with h0 | h0
  ·exact h0
  ·have:=hG b i h0;have:=h.fA b i;omega
 have eH:mg σ a w σ a w1:=λr p snap hb=>⟨hb,λam=>⟨am,λhl pl cI=>⟨pl.H,pl.cs,by
  have aH:=iT cI
  exact ku (h.bX r aH) rfl rfl iC (λb i hp=>(rP r aH b i hp).1) cI,λ_=>rfl⟩⟩⟩
 refine ⟨h.size,h.defers,λi hi=>aQ.ed eH (λ_ _ h=>h) iC hw.l_ (rP i hi) (h.bX i hi),λd r p snap hm=>gF.ed eH (h.gh d r p snap hm),h.fA,h.fW,λb i hp=>Nat.lt_of_lt_of_le (h.cW b i hp) hw.size,
  h.dK,h.ext.trans hw (λb i hb hz=>?_),h.own,h.a0,h.J,h.fe,λr t m H v hg hl=>?_,λj k hm R' fB=>?_,h.lu⟩
 ·rcases Nat.eq_zero_or_pos (G b i) with h0 | h0
  ·exact h0
  ·rcases h.own b i (by grind) with h1 | h1 <;> omega
 ·obtain ⟨b,h1,Y⟩:=h.whole r t m H v hg hl
  exact ⟨b,h1,hw.l_ _ _ Y⟩
 ·rcases Nat.lt_or_ge j σ.n with hj | hj
  ·have gP:=h.bX j hj
   cases nn:ba w (tmp a j) (σ.get j) with
   | none=>exfalso;cases hg:σ.get j <;> rw[hg] at nn fB <;> simp only[ba] at nn fB <;> first | grind | grind | grind
   | some R0=>
    rw[ly gP (λb i hp=>(rP j hj b i hp).1) nn] at fB
    injection fB with fB
    subst fB
    exact h.eB j k hm _ nn
  ·rw[dN (Nat.not_lt.2 hj)] at fB;cases fB
theorem u0 {b o sz:Nat} {n:Nat} (h:∀ i,i < n->∃ L:List Value,L.length=sz/\Has w b (o+i*sz) L):Has w b o (rd w b o (n*sz))/\∀ i L,i < n->L.length=sz->Has w b (o+i*sz) L->((rd w b o (n*sz)).drop (i*sz)).take sz=L:=by
 have Ki:∀ j,j < n*sz->(ce w b (o+j)).isSome=true:=λj hj=>by
  have eN:0 < sz:=by grind
  have hi:j / sz < n:=Nat.div_lt_of_lt_mul (by grind)
  obtain ⟨L,h1,Y⟩:=h _ hi
  have hm:j % sz < L.length:=by simp_all [Nat.mod_lt]
  have:=Y (j % sz) _ (List.getElem?_eq_getElem hm)
  grind [Nat.div_add_mod]
 refine ⟨λj u hu=>?_,λi L hi hl hL=>?_⟩
 ·have hj:=(List.getElem?_eq_some_iff.1 hu).1
  rw[mL] at hj
  unfold rd at hu
  rw[List.getElem?_map,List.getElem?_range hj] at hu
  simp only[Option.map_some,Option.some.injEq] at hu
  obtain ⟨u',KZ⟩:=Option.isSome_iff_exists.1 (Ki j hj)
  grind
 ·have h6:i*sz+sz<=n*sz:=by rw[<-Nat.succ_mul];exact Nat.mul_le_mul_right _ (by omega)
  apply List.ext_getElem?
  intro j
  rw[List.getElem?_take,List.getElem?_drop]
  by_cases hj:j < sz
  ·rw[if_pos hj]
   unfold rd
   rw[List.getElem?_map,List.getElem?_range (by omega)]
   have:=hL j L[j] (List.getElem?_eq_getElem (by omega))
   grind
  grind
theorem Cl {e:Ty} {m:Md} {H:List Path} (hH:hole H=false) {v:List e.den} {cs:List Value} {Fv:FP} (hr:ae P w A (.af e) m H v cs Fv) :
  ∃ xa cap news Fi,cs=[.slice xa (List.length v) cap]/\(List.length v<=cap/\(xa=none->List.length v=0))/\(∀ ad,xa=some ad->(0 < cap->ad.spot=none)/\Has w ad.block ad.off news)/\news.length=List.length v*e.sz/\(∀ u ∈ news,u.oneCell'=true) /\
   (∀ (i:Nat) (y:e.den),v[i]?=some y->ae P w A e m.e (H.filterMap (dx i)) y ((news.drop (i*e.sz)).take e.sz) (Fi i))/\(∀ b i,al (List.length v) Fi b i<=Fv b i) /\
   (m.own=true->List.length v<=cap/\cap<=maxLen/\(xa=none->cap=0)/\∀ ad,xa=some ad->ad.off=0/\ad.spot=none/\cf w ad.block (cap*e.sz,v9 e)/\∀ b i,bm ad.block 0 (cap*e.sz) b i+al (List.length v) Fi b i<=Fv b i):=by
 have gj:∀ (news:List Value) (Fi:Nat->FP),news.length=List.length v*e.sz->(∀ (i:Nat) (y:e.den),v[i]?=some y->ae P w A e m.e (H.filterMap (dx i)) y ((news.drop (i*e.sz)).take e.sz) (Fi i))->∀ u ∈ news,u.oneCell'=true:=by
  intro news Fi hl jl u hu
  obtain ⟨j,hj,rfl⟩:=List.mem_iff_getElem.1 hu
  have eN:0 < e.sz:=by grind
  have hi:j / e.sz < List.length v:=Nat.div_lt_of_lt_mul (by grind)
  have h1:=ae.one _ (jl _ _ (List.getElem?_eq_getElem hi))
  refine h1 _ (List.mem_of_getElem? (i:=j % e.sz) ?_)
  grind [Nat.mod_lt,Nat.div_add_mod]
 simp only[ae,hH,Bool.false_eq_true,if_false] at hr
 split at hr
 ·rename_i cm
  obtain ⟨xa,cap,rfl,h1,Y,h3,h4⟩:=hr
  cases xa with
  | none=>
   have kK:=h3 rfl
   have GJ:List.length v=0:=by omega
   have hv:v=[]:=List.eq_nil_of_length_eq_zero GJ
   subst hv
   exact ⟨none,cap,[],λ_ _ _=>0,rfl,⟨Nat.zero_le _,λ_=>rfl⟩,(λad e=>by cases e),by simp,(λu hu=>by cases hu),(λi y hy=>by cases hy),λb i=>by grind [d9],λ_=>⟨h1,Y,h3,λad e=>by cases e⟩⟩
  | some ad=>
   obtain ⟨g1,g2,g3,Fi,g4,g5⟩:=h4 ad rfl
   have hp:∀ i,i < List.length v->∃ L:List Value,L.length=e.sz/\Has w ad.block (0+i*e.sz) L:=λi hi=>by
    obtain ⟨L,l1,l2,_⟩:=g5 i _ (List.getElem?_eq_getElem hi)
    grind
   obtain ⟨p1,p2⟩:=u0 hp
   have jl:∀ (i:Nat) (y:e.den),v[i]?=some y->ae P w A e m.e (H.filterMap (dx i)) y (((rd w ad.block 0 (List.length v*e.sz)).drop (i*e.sz)).take e.sz) (Fi i):=λi y hy=>by
    grind
   refine ⟨some ad,cap,rd w ad.block 0 (List.length v*e.sz),Fi,rfl,⟨h1,(λe=>by cases e)⟩,λaS e=>?_,mL _ _ _ _,gj _ _ (mL _ _ _ _) jl,jl,λb i=>by grind,λ_=>⟨h1,Y,h3,λaS e=>?_⟩⟩
   all_goals grind
 ·rename_i cm
  obtain ⟨rfl,il,xa,cap,rfl,h1,Y,h3⟩:=hr
  cases xa with
  | none=>
   have hv:v=[]:=List.eq_nil_of_length_eq_zero (Y rfl)
   subst hv
   exact ⟨none,cap,[],λ_ _ _=>0,rfl,⟨Nat.zero_le _,λ_=>rfl⟩,(λad e=>by cases e),by simp,(λu hu=>by cases hu),(λi y hy=>by cases hy),(λb i=>by grind [d9]),λh=>absurd h cm⟩
  | some ad=>
   obtain ⟨g1,g2⟩:=h3 ad rfl
   have hp:∀ i,i < List.length v->∃ L:List Value,L.length=e.sz/\Has w ad.block (ad.off+i*e.sz) L:=λi hi=>by
    obtain ⟨L,l1,l2,_⟩:=g2 i _ (List.getElem?_eq_getElem hi)
    exact ⟨L,l1,λj u hu=>(l2 j u hu).1⟩
   obtain ⟨p1,p2⟩:=u0 hp
   have jl:∀ (i:Nat) (y:e.den),v[i]?=some y->ae P w A e m.e (([]:List Path).filterMap (dx i)) y (((rd w ad.block ad.off (List.length v*e.sz)).drop (i*e.sz)).take e.sz) (λ_ _=>0):=λi y hy=>by
    obtain ⟨L,l1,l2,l3⟩:=g2 i y hy
    rw[p2 i L (List.getElem?_eq_some_iff.1 hy).1 l1 (λj u hu=>(l2 j u hu).1)]
    grind [Ro.rep]
   refine ⟨some ad,cap,rd w ad.block ad.off (List.length v*e.sz),λ_ _ _=>0,rfl,⟨h1,(λe=>by cases e)⟩,λaS e=>?_,mL _ _ _ _,gj _ _ (mL _ _ _ _) jl,jl,(λb i=>by grind [d9]),λh=>absurd h cm⟩
   grind
theorem rW {e:Ty} {m:Md} {v:List e.den} {cs:List Value} {Fv:FP} (hr:ae P w A (.af e) m [] v cs Fv) :
  ∃ xa cap news Fi,cs=[.slice xa (List.length v) cap]/\(List.length v<=cap/\(xa=none->List.length v=0))/\(∀ ad,xa=some ad->(0 < cap->ad.spot=none)/\Has w ad.block ad.off news)/\news.length=List.length v*e.sz/\(∀ u ∈ news,u.oneCell'=true) /\
   (∀ (i:Nat) (y:e.den),v[i]?=some y->ae P w A e m.e [] y ((news.drop (i*e.sz)).take e.sz) (Fi i))/\(∀ b i,al (List.length v) Fi b i<=Fv b i) /\
   (m.own=true->List.length v<=cap/\cap<=maxLen/\(xa=none->cap=0)/\∀ ad,xa=some ad->ad.off=0/\ad.spot=none/\cf w ad.block (cap*e.sz,v9 e)/\∀ b i,bm ad.block 0 (cap*e.sz) b i+al (List.length v) Fi b i<=Fv b i):=
 Cl rfl hr
theorem wl (h:Rel P C A X σ a w F) {s:Slot} {tv:Value} {G:FP} (hs:aQ P A σ a w tv s G) {mv:Bool} {e:Ty} {tx:TypeId} (pg:(∃ e',P.underlying tx=some (.slice e'))\/P.underlying tx=some .string)
  {K:Md->List e.den->St->Option R} (hk:o5 σ s e mv K=some x) :
  ∃ (A':Cells) (σ':St) (F':Nat->FP) (me:Md) (y:List e.den) (news:List Value) (Fv:FP) (Fi:Nat->FP),K me y σ'=some x/\(∀ b i,A b i->A' b i)/\Rel P C A' (λb i=>X b i+Fv b i) σ' a w F'/\gr σ σ' /\
   Src P e.sz tx tv (List.length y) news w/\(∀ k,k<=List.length y->(Builtin.firstCells e.sz k tv).run P w=.ok (news.take (k*e.sz)).toArray w)/\(∀ (i:Nat) (z:e.den),y[i]?=some z->ae P w A' e me [] z ((news.drop (i*e.sz)).take e.sz) (Fi i))/\∀ b i,al (List.length y) Fi b i<=Fv b i:=by
 unfold o5 at hk
 split at hk
 ·rename_i s'
  obtain ⟨e1,hk⟩:=aP hk
  injection e1 with e1
  subst e1
  obtain ⟨cs,h1,Y⟩:=hs
  simp only[Ro] at Y
  subst Y
  have ou:tv=.string ⟨List.toArray s'⟩:=h1
  subst ou
  have hlen:(byteCells ⟨List.toArray s'⟩)=List.map (λ(b:UInt8)=>Value.int .u8 b.toNat) s':=by simp[byteCells]
  have eN:(⟨List.toArray s'⟩:ByteArray).size=List.length s':=rfl
  refine ⟨A,σ,F,.leaf,s',byteCells ⟨List.toArray s'⟩,λ_ _=>0,λ_ _ _=>0,hk,λ_ _ h=>h,h,gr.refl σ,⟨pg,λ_=>rfl,firstCells_string _ w,firstCells_string _ w.drew,by grind [Ty.sz],λu hu=>?_⟩,λk hk=>?_,λi z hz=>?_,λb i=>by grind [d9]⟩
  ·obtain ⟨_,_,rfl⟩:=List.mem_map.1 hu;rfl
  ·rw[hlen]
   have Ot:((⟨List.toArray s'⟩:ByteArray).extract 0 k).data.toList=s'.take k:=by simp[ByteArray.data_extract]
   simp only[Builtin.firstCells,Sem.run_pure,Ty.sz,Nat.mul_one]
   simp_all
  ·have:((byteCells ⟨List.toArray s'⟩).drop (i*Ty.sz (.int .u8))).take (Ty.sz (.int .u8))=[Value.int .u8 z.toNat]:=by
    show ((byteCells ⟨List.toArray s'⟩).drop (i*1)).take 1=_
    grind [List.take_one,List.head?_drop]
   exact this
 ·rename_i s' MM
  obtain ⟨A',σ',F',m,v,cs,Fv,k1,k2,k3,k4,kr,k5,k6⟩:=jk h hs hk
  obtain ⟨xa,cap,news,Fi,r1,r2,r3,r4,r5,r6,r7,r8⟩:=rW k6
  rw[r1,bj _ _ rfl] at k5
  subst k5
  have yT:∀ ad,xa=some ad->∀ j u,news[j]?=some u->w.cell? (ad.add j)=some u:=λad e1 j u hu=>by
   obtain ⟨g1,g2⟩:=r3 ad e1
   have hj:=(List.getElem?_eq_some_iff.1 hu).1
   have qA:0 < cap:=by
    grind
   obtain ⟨b,off,sp⟩:=ad
   have:=g1 qA
   simp only at this
   subst this
   rw[gi]
   exact kT (g2 j u hu) (r5 u (List.mem_of_getElem? hu))
  refine ⟨A',σ',F',m.e,v,news,Fv,Fi,k1,k2,k3,kr,?_,?_,r6,r7⟩
  rotate_left
  ·intro k hk
   cases xa with
   | none=>
    simp_all [run_firstCells_none]
   | some ad=>
    grind [Nat.mul_le_mul_right,run_firstCells_some]
  cases xa with
  | none=>
   have h0:=r2.2 rfl
   have hn:news=[]:=List.eq_nil_of_length_eq_zero (by grind)
   subst hn
   rw[h0]
   exact ⟨pg,λ_=>rfl,run_firstCells_none w e.sz 0 0 cap,run_firstCells_none w.drew e.sz 0 0 cap,by simp,λu hu=>by cases hu⟩
  | some ad=>
   have hc:=yT ad rfl
   exact ⟨pg,λ_=>rfl,run_firstCells_some w e.sz (List.length v) ad (List.length v) cap news r4 hc,run_firstCells_some w.drew e.sz (List.length v) ad (List.length v) cap news r4 (by simpa using hc),r4,r5⟩
theorem y_ {e:Ty} {me:Md} {v y:List e.den} {lE news:List Value} {Fi Gi:Nat->FP} (hl:lE.length=List.length v*e.sz)
  (h1:∀ (i:Nat) (z:e.den),v[i]?=some z->ae P w A e me [] z ((lE.drop (i*e.sz)).take e.sz) (Fi i)) (Y:∀ (i:Nat) (z:e.den),y[i]?=some z->ae P w A e me [] z ((news.drop (i*e.sz)).take e.sz) (Gi i)) :
  ∀ (i:Nat) (z:e.den),(v++y)[i]?=some z->ae P w A e me [] z (((lE++news).drop (i*e.sz)).take e.sz) (if i < List.length v then Fi i else Gi (i - List.length v)):=by
 intro i z hz
 by_cases hi:i < List.length v
 ·rw[if_pos hi]
  rw[List.getElem?_append_left hi] at hz
  have h6:i*e.sz+e.sz<=List.length v*e.sz:=by rw[<-Nat.succ_mul];exact Nat.mul_le_mul_right _ (by omega)
  grind
 grind [Nat.mul_le_mul_right,List.drop_append,List.drop_of_length_le,Nat.sub_mul]
theorem E2 (n m:Nat) (Fi Gi:Nat->FP) (b i:Nat):al (n+m) (λi=>if i < n then Fi i else Gi (i - n)) b i=al n Fi b i+al m Gi b i:=by
 rw[mf]
 congr 1
 all_goals simp_all [ln,if_neg]
theorem Ro.indep {A':Cells}:∀ (t:Ty) {v:t.den} {cs:List Value},t.flat=true->t.fT=true->Ro P w A t v cs->Ro P w A' t v cs:=by
 intro t
 induction t with
 | pair a b d_ dT=>
  intro v cs hf hn h
  simp only[Ty.flat,Ty.fT,Bool.and_eq_true] at hf hn
  exact ⟨d_ hf.1 hn.1 h.1,dT hf.2 hn.2 h.2⟩
 | arr n e ih=>
  intro v cs hf hn h
  exact ⟨h.1,h.2.1,h.2.2.1,λi x hx=>ih hf hn (h.2.2.2 i x hx)⟩
 | af e ih=>grind [Ty.flat]
 | ptr e ih=>grind [Ty.flat]
 | fn=>grind [Ty.fT]
 | map k v=>grind [Ty.flat]
 | _=>intro v cs hf hn h;exact h
theorem u7 {A1 A2:Cells} {dU:St} {F2:Nat->FP} {t tx:Nat} {y z:Operand} (ho:o.op=.call { callee:=.builtin .append,args:=#[y,z],argTypes:=#[t,tx] }) {e:Ty} {el:Nat} (hu:P.underlying t=some (.slice el)) (jl:ao P e (.inl el)=true)
  {m me:Md} {v yv:List e.den} {cs news:List Value} {Fv Fw:FP} {Gi:Nat->FP} {K:St->Option R} (cm:m.own=true) (k5:a.eval y=aY (.af e) cs) (k6:ae P w A1 (.af e) m [] v cs Fv) (kK:v.length+yv.length<=cU)
  (q1:K (dU.aB o.dst (.own (.af e) (.af true (if me=m.e then me else ai e)) [] (v++yv)))=some x) (q2:∀ b i,A1 b i->A2 b i) (q3:Rel P C A2 (λb i=>0+Fv b i+Fw b i) dU a w F2)
  (q4:Src P e.sz tx (a.eval z) (List.length yv) news w) (q5:∀ (i:Nat) (z:e.den),yv[i]?=some z->ae P w A2 e me [] z ((news.drop (i*e.sz)).take e.sz) (Gi i)) (q6:∀ b i,al (List.length yv) Gi b i<=Fw b i):o.wp P a w (Nx P C K x) Q:=by
 obtain ⟨inf,zv,i1,i2,i3,i4,i5,_⟩:=tk (ei jl)
 obtain ⟨xa,cap,lE,Fi,r1,r2,r3,r4,r5,r6,r7,r8⟩:=rW k6
 obtain ⟨c1,c2,c3,c4⟩:=r8 cm
 rw[r1,bj _ _ rfl] at k5
 have K7:∀ (i:Nat) (z:e.den),v[i]?=some z->ae P w A2 e m.e [] z ((lE.drop (i*e.sz)).take e.sz) (Fi i):=λi z hz=>ae.mono (P:=P) (A':=A2) q2 (λ_ _ _ _ h=>h) (λ_ _ h=>h) e (r6 i z hz) (λ_ _=>Nat.le_refl _) (λ_ _ _ _ h=>h)
 have tW:∃ (A3:Cells) (X3:FP) (Hi:Nat->FP),Rel P C A3 X3 dU a w F2/\(∀ (i:Nat) (z:e.den),(v++yv)[i]?=some z->ae P w A3 e (if me=m.e then me else ai e) [] z (((lE++news).drop (i*e.sz)).take e.sz) (Hi i)) /\
   (∀ b i,al (List.length v+List.length yv) Hi b i<=X3 b i)/\∀ ad,xa=some ad->∀ b i,bm ad.block 0 (cap*e.sz) b i+al (List.length v+List.length yv) Hi b i<=X3 b i:=by
  by_cases rq:me=m.e
  ·subst rq
   refine ⟨A2,_,_,q3,by simp only[if_true];exact y_ r4 K7 q5,λb i=>?_,λad cR b i=>?_⟩
   all_goals grind [E2]
  ·simp only[if_neg rq]
   obtain ⟨B,OM,ON,OO⟩:∃ B:FP,(∀ b i,B b i+al (List.length v) Fi b i<=Fv b i)/\(∀ ad,xa=some ad->∀ b i,bm ad.block 0 (cap*e.sz) b i=B b i)/\∀ b i,B b i<=1:=by
    cases xa with
    | none=>exact ⟨λ_ _=>0,λb i=>by grind,(λad e=>by cases e),λ_ _=>Nat.zero_le _⟩
    | some ad=>exact ⟨bm ad.block 0 (cap*e.sz),(c4 ad rfl).2.2.2,(λaS e=>by grind),λb i=>by grind [bm]⟩
   obtain ⟨A3,gE⟩:∃ A3:Cells,∀ b i,A3 b i↔(A2 b i\/(1<=0+Fv b i+Fw b i/\B b i=0)):=⟨λb i=>A2 b i\/(1<=0+Fv b i+Fw b i/\B b i=0),λ_ _=>Iff.rfl⟩
   refine ⟨A3,B,λ_ _ _=>0,q3.giveUp (λb i h=>(gE b i).2 (.inl h)) (λb i ha=>(gE b i).1 ha) (λb i=>by grind),?_,λb i=>by grind [d9],λad cR b i=>by grind [d9]⟩
   have lz:∀ b i,(0+Fv b i+Fw b i)+al dU.n F2 b i<=1:=λb i=>q3.fA b i
   have MT:∀ (i:Nat) (z:e.den),v[i]?=some z->ae P w A3 e (ai e) [] z ((lE.drop (i*e.sz)).take e.sz) (λ_ _=>0):=λi z hz=>Ro.rep _ _ (bI _) (ae.lq (λb i h=>(gE b i).2 (.inl h)) e (K7 i z hz) λb k hp=>(gE b k).2 (.inr (by
    grind [aW])))
   have MU:∀ (i:Nat) (z:e.den),yv[i]?=some z->ae P w A3 e (ai e) [] z ((news.drop (i*e.sz)).take e.sz) (λ_ _=>0):=λi z hz=>Ro.rep _ _ (bI _) (ae.lq (λb i h=>(gE b i).2 (.inl h)) e (q5 i z hz) λb k hp=>(gE b k).2 (.inr (by
    grind [aW])))
   exact λi z hz=>by simpa using y_ (Fi:=λ_ _ _=>0) (Gi:=λ_ _ _=>0) r4 MT MU i z hz
 obtain ⟨A3,X3,Hi,n1,n2,n3,n4⟩:=tW
 have Dv:List.length (v++yv)=List.length v+List.length yv:=by simp
 by_cases nw:List.length v+List.length yv<=cap
 ·cases xa with
  | none=>
   have pY:=c3 rfl
   have GJ:v=[]:=List.eq_nil_of_length_eq_zero (by omega)
   have MV:yv=[]:=List.eq_nil_of_length_eq_zero (by omega)
   subst GJ;subst MV
   have GA:(Builtin.firstCells e.sz 0 (a.eval z)).run P w=.ok news.toArray w:=by have:=q4.cells;simpa using this
   have cX:(execOp a.eval o).run P w=.ok (.value (.slice none 0 cap)) w:=by
    rcases q4.kind with ⟨e',Bm⟩ | Bm <;>
     simp[execOp,ho,resolve,invoke,builtin,Builtin.append_,k5,run_underlying hu,run_underlying Bm,Go.sizeOf,typeInfo,i1,q4.len,i2,GA]
   refine e8 cX (fJ n1 q1 (Fd:=λ_ _=>0) ⟨[.slice none 0 cap],(bj _ _ rfl).symm,?_⟩ (λ_ _=>Nat.zero_le _) (λ_ _ _ _ e=>by cases e))
   grind [ae,Md.own]
  | some ad=>
   obtain ⟨d1,d4,d2,d3⟩:=c4 ad rfl
   obtain ⟨_,d5⟩:=r3 ad rfl
   obtain ⟨b,off,sp⟩:=ad
   simp only at d1 d2 d3 d4 d5
   subst d1;subst d4
   have MW:∀ b' i,bm b 0 (cap*e.sz) b' i+al (List.length v+List.length yv) Hi b' i<=X3 b' i:=n4 _ rfl
   have rr:=q4.newsLen
   have rX:List.length v*e.sz+news.length<=cap*e.sz:=by rw[rr,<- Nat.add_mul];exact Nat.mul_le_mul_right _ nw
   have nx:∀ j,j < cap*e.sz->(w.cell? ⟨b,j,none⟩).isSome=true:=λj hj=>by
    obtain ⟨c,e',fr,w1,w2,w3⟩:=d2
    grind [World.cell?]
   have cX:=run_append_room_src (P:=P) w t tx o.type el inf hu i1 b 0 (List.length v) cap (a.eval z) (List.length yv) news (by grind) nw (λj hj=>by grind) (λj hj=>by rw[i2,Nat.zero_add];exact d2.frozen (by omega))
   rw[i2,Nat.zero_add] at cX
   have Cm:(execOp a.eval o).run P w=.ok (.value (.slice (some ⟨b,0,none⟩) (List.length v+List.length yv) cap)) (w.setCells b (List.length v*e.sz) news):=by
    simp_all [execOp,resolve,invoke,builtin]
   have bO:=gH (b:=b) (o:=List.length v*e.sz) news w (List.length v*e.sz)
   have MX:∀ b' i,1<=bm b (List.length v*e.sz) news.length b' i->1<=bm b 0 (cap*e.sz) b' i:=λb' i hp=>by
    grind [bm]
   have GK:=n1.world bO (λb' i hp=>by grind)
   refine e8 Cm (fJ GK q1 (Fd:=X3) ⟨[.slice (some ⟨b,0,none⟩) (List.length v+List.length yv) cap],(bj _ _ rfl).symm,?_⟩ (λ_ _=>Nat.le_refl _) (λ_ _ _ _ e=>by cases e))
   simp only[ae,hole,List.any_nil,Bool.false_eq_true,if_false,Md.own,if_true,Md.e]
   refine ⟨some ⟨b,0,none⟩,cap,by rw[Dv],by omega,c2,(λe=>by cases e),λaS e'=>?_⟩
   injection e' with e';subst e'
   refine ⟨rfl,rfl,bO.l_ _ _ d2,Hi,λb' i=>by grind,λi zz hz=>?_⟩
   have cC:=n2 i zz hz
   have za:i < List.length v+List.length yv:=by grind
   refine ⟨_,ae.length _ cC,?_,?_⟩
   ·
    have iV:Has (w.setCells b (List.length v*e.sz) news) b 0 (lE++news):=λj u hu=>by
     rw[Nat.zero_add]
     by_cases hj:j < lE.length
     ·rw[List.getElem?_append_left hj] at hu
      have hold:=d5 j u hu
      rw[Nat.zero_add] at hold
      refine bO.cell b j (by obtain ⟨c,e',fr,w1,_⟩:=d2;grind) ?_ u hold
      grind [bm]
     ·rw[List.getElem?_append_right (by omega)] at hu
      have:=ox (w:=w) (b:=b) (o:=List.length v*e.sz) (L:=news) (λk hk=>nx _ (by omega)) q4.one _ u hu
      grind
    intro j u hu
    rw[List.getElem?_take] at hu
    split at hu
    ·rw[List.getElem?_drop] at hu
     have:=iV _ u hu
     grind
    ·cases hu
   ·simp only[List.filterMap_nil]
    refine ae.mono (P:=P) (λ_ _ h=>h) (λb' k ha u hu=>bO.cell b' k (n1.cW b' k (.inr ha)) ?_ u hu) bO.l_ e cC (λ_ _=>Nat.le_refl _) (λb' k hp u hu=>bO.cell b' k ?_ ?_ u hu)
    ·rcases Nat.eq_zero_or_pos (bm b (List.length v*e.sz) news.length b' k) with h0 | h0
     ·exact h0
     ·exact absurd ha (n1.fW b' k (by grind))
    ·exact n1.cW b' k (.inl (by grind [aW]))
    ·rcases Nat.eq_zero_or_pos (bm b (List.length v*e.sz) news.length b' k) with h0 | h0
     ·exact h0
     ·have h1:=MX b' k h0;have Y:=MW b' k;have h3:=aW Hi za b' k;have h4:=n1.fA b' k;omega
 ·
  have Kj:(Builtin.firstCells inf.size (List.length v) (.slice xa (List.length v) cap)).run P w.drew=.ok lE.toArray w.drew:=by
   cases xa with
   | none=>
    simp_all [run_firstCells_none]
   | some ad=>
    obtain ⟨_,d4,_,_⟩:=c4 ad rfl
    obtain ⟨_,d5⟩:=r3 ad rfl
    obtain ⟨b,off,sp⟩:=ad
    simp only at d4 d5
    subst d4
    exact run_firstCells_some w.drew inf.size (List.length v) ⟨b,off,none⟩ (List.length v) cap lE (by grind) (λj u hu=>by rw[gi];exact kT (d5 j u hu) (r5 u (List.mem_of_getElem? hu)))
  simp only[cU] at kK
  have cX:=run_append_grow_src (P:=P) w t tx o.type el inf zv hu i1 i4 xa (List.length v) cap lE Kj (a.eval z) (List.length yv) news (by grind) (by omega) (by omega)
   (growslice_fits (by omega) (Nat.le_trans (Nat.mul_le_mul kK i3) (by decide)))
  have Cm:(execOp a.eval o).run P w=.ok (.value (.slice (some ⟨w.heap.size,0,none⟩) (List.length v+List.length yv) (grownCap w (List.length v+List.length yv) cap el)))
    (w.drew.alloc (.cells ((lE++news).toArray++Builtin.zeroCells zv.cells (grownCap w (List.length v+List.length yv) cap el - (List.length v+List.length yv))) el)):=by
   simp_all [execOp,resolve,invoke,builtin]
  have GI:=grownCap_ge w (List.length v+List.length yv) cap el
  have MY:=grownCap_le_maxLen w (List.length v+List.length yv) cap el (by grind [maxLen])
  have rr:=q4.newsLen
  have fm:=sS n1.drew (K:=K) (x:=x) (d:=o.dst) (e:=e) (m:=if me=m.e then me else ai e) (v:=v++yv) (c:=(lE++news).toArray++Builtin.zeroCells zv.cells (grownCap w (List.length v+List.length yv) cap el - (List.length v+List.length yv)))
   (cap:=grownCap w (List.length v+List.length yv) cap el) (el:=el) (fr:=(0,0)) (Fi:=Hi) (.inr (Nat.le_refl _)) q1
   (by
    rw[Array.size_append,size_zeroCells,i5,List.size_toArray,List.length_append,r4,rr,<- Nat.add_mul,<- Nat.add_mul]
    congr 1;omega) MY (by grind)
   (λb i=>by grind) (λi zz hz=>by
    have cC:=n2 i zz hz
    refine ⟨_,ae.length _ cC,λj u hu=>?_,ae.mono (P:=P) (w:=w) (w':=w.drew) (A:=A3) (A':=A3) (λ_ _ h=>h) (λ_ _ _ _ h=>h) (λb n hn=>hn) e cC (λ_ _=>Nat.le_refl _) (λ_ _ _ _ h=>h)⟩
    grind)
  rw[Dv] at fm
  exact e8 Cm fm
theorem step_append (h:bd P C A σ a w F) (dr:∀ i T,E.TI i=some T->ao P T (.inl i)=true) {t tx:Nat} {y z:Operand} (ho:o.op=.call { callee:=.builtin .append,args:=#[y,z],argTypes:=#[t,tx] }) (am:aZ P y=true/\aZ P z=true)
  (pg:(∃ e',P.underlying tx=some (.slice e'))\/P.underlying tx=some .string) {mv tf:Bool} {K:St->Option R} (hk:vS E σ t (a9 σ y) z mv tf o.dst K=some x):o.wp P a w (Nx P C K x) Q:=by
 unfold vS at hk
 obtain ⟨T,hT,hk⟩:=bE hk
 have cn:=dr _ _ hT
 split at hk
 ·rename_i e
  have hl:=cn
  simp only[ao,Bool.and_eq_true] at hl
  have Y:=hl.2
  split at Y
  rotate_left
  ·cases Y
  rename_i el hu
  simp only[Bool.and_eq_true,Nat.ble_eq] at Y
  obtain ⟨eN,jl⟩:=Y
  split at hk
  ·rename_i no
   simp only[Bool.and_eq_true] at no
   obtain ⟨_,no,Bl⟩:=no
   rcases bt h am.2 with np | ⟨xs,e'⟩
   rotate_left
   ·grind [o5,dR]
   obtain ⟨A0,OP,F0,me,yv,news,Fw,Gi,q1,_,_,_,q4,_,q5,_⟩:=wl h np pg hk
   rcases bt h am.1 with hs | ⟨xs,e'⟩
   rotate_left
   ·grind [dR]
   obtain ⟨A1,fi,F1,m,v,cs,Fv,k1,k2,k3,k4,kr,k5,k6⟩:=jk h hs q1
   split at k1
   rotate_left
   ·cases k1
   rename_i cm
   split at k1
   rotate_left
   ·cases k1
   rename_i kK
   exact u7 (me:=ai e) (Fw:=λ_ _=>0) (Gi:=λ_ _ _=>0) ho hu jl cm k5 k6 kK (by grind) (λ_ _ h=>h) k3 q4
    (λi zz hz=>Ro.rep _ _ (bI _) (Ro.indep e no Bl (ae.flat e no (q5 i zz hz)))) (λb i=>by grind [d9])
  rcases bt h am.1 with hs | ⟨xs,e'⟩
  rotate_left
  ·grind [dR]
  obtain ⟨A1,fi,F1,m,v,cs,Fv,k1,k2,k3,k4,kr,k5,k6⟩:=jk h hs hk
  split at k1
  rotate_left
  ·cases k1
  rename_i cm
  rcases bt k3 am.2 with np | ⟨xs,e'⟩
  rotate_left
  ·grind [o5,dR]
  obtain ⟨A2,dU,F2,me,yv,news,Fw,Gi,q1,q2,q3,qr,q4,_,q5,q6⟩:=wl k3 np pg k1
  split at q1
  rotate_left
  ·cases q1
  rename_i kK
  exact u7 ho hu jl cm k5 k6 kK q1 q2 q3 q4 q5 q6
 ·cases hk
end
end OT
set_option linter.unusedVariables false
set_option linter.unusedSimpArgs false
namespace OT
open Go
section
variable {P:Program} {C:Ctx} {A:Cells} {X:FP} {σ:St} {a:Act} {w:World} {F:Nat->FP} {R:Type} {x:R} {Q:Exit->Act->World->Prop} {o:Oper} {E:Env}
theorem xQ (h:bd P C A σ a w F) {f:Nat} {first cs:Array Operand} (ho:o.op=.makeFunc (.func f) first cs) (bh:(P.funcs[f]?).any (λfn=>fn.nfree == cs.size)=true) {K:St->Option R}
  (hk:(if first.size=0 then
   match cs.toList with
   | []=>K (σ.aB o.dst (.val .fn (f,0)))
   | [.tmp i]=>match σ.get i with
    | .box (.int .i64) _ _ n=>K (((σ.put i .dead).put i (.cp (.int .i64) n)).aB o.dst (.val .fn (f,n)))
    | _=>none
   | _=>none
  else none)=some x):Tk P o a w (Nx P C K x):=by
 simp only[Option.any_eq_true,beq_iff_eq] at bh
 obtain ⟨fn,hf,hn⟩:=bh
 split at hk
 ·rename_i h0
  have zb:first=#[]:=Array.eq_empty_of_size_eq_zero h0
  subst zb
  split at hk
  ·rename_i fl
   have fl:cs=#[]:=by grind
   subst fl
   refine bN (v:=.func (.func f) #[] #[]) (by simp[execOp,ho,Instr.makeFunc]) (aK h hk ⟨[.func (.func f) #[] #[]],rfl,#[],rfl,fn,hf,.inl ⟨by simpa using hn,rfl⟩⟩ (λ_ _ _ _ e=>by cases e))
  ·rename_i i fl
   have fl:cs=#[.tmp i]:=by grind
   subst fl
   split at hk
   ·rename_i m H n hg
    have hi:i < σ.n:=by
     grind [dN]
    have hs:=h.bX i hi
    rw[hg] at hs
    obtain ⟨b,off,L,F1,s1,s2,s3,s4,s5,s6⟩:=hs
    simp only[ae,Ro] at s6
    subst s6
    have h1:=h.put hi (s:=.dead) (v:=tmp a i) (Fd:=λ_ _=>0) (X':=F i) trivial (λb k=>by omega) (λ_ _ _ _ e=>by cases e)
    rw[gG] at h1
    have hle:∀ b' i',bm b off 1 b' i'<=F i b' i':=λb' i'=>by grind
    have Y:=h1.giveUp (A1:=λb' i'=>A b' i'\/1<=bm b off 1 b' i') (X1:=λ_ _=>0) (λ_ _ h=>.inl h) (λb' i' ha=>ha.imp id λhp=>⟨by grind,rfl⟩) (λ_ _=>Nat.zero_le _)
    have nx:ce w b off=some (.int .i64 n):=s3 0 _ rfl
    have hA:1<=bm b off 1 b off:=by simp[bm]
    have h3:=Y.put (d:=i) hi (s:=.cp (.int .i64) n) (v:=tmp a i) (Fd:=λ_ _=>0) (X':=λ_ _=>0)
     ⟨⟨b,off,none⟩,by rw[s1],rfl,[.int .i64 n],rfl,(λj u hu=>by
      grind),rfl⟩ (λb k=>by omega) (λ_ _ _ _ e=>by cases e)
    rw[gG] at h3
    have ev:a.eval (.tmp i)=.pointer (some ⟨b,off,none⟩):=s1
    refine bN (v:=.func (.func f) #[] #[.pointer (some ⟨b,off,none⟩)]) (by simp[execOp,ho,Instr.makeFunc,ev])
     (aK h3 hk ⟨[.func (.func f) #[] #[.pointer (some ⟨b,off,none⟩)]],rfl,_,rfl,fn,hf,.inr ⟨by simpa using hn,_,rfl,rfl,nx,.inr hA⟩⟩ (λ_ _ _ _ e=>by cases e))
   ·cases hk
  ·cases hk
 ·cases hk
theorem Am (h:bd P C A σ a w F) {y:Operand} (ho:o.op=.assign y) (am:aZ P y=true) {T:Nat} {mv:Bool} {K:St->Option R} (hk:vT E σ T y mv o.dst K=some x):Tk P o a w (Nx P C K x):=by
 refine bN (v:=a.eval y) (by simp[execOp,ho]) ?_
 unfold vT at hk
 by_cases LW:∃ i xs,y=.tmp i/\σ.get i=.gN xs
 ·obtain ⟨i,xs,rfl,hg⟩:=LW
  have e:a9 σ (.tmp i)=.gN xs:=by grind [a9]
  rw[e] at hk
  cases xs with
  | nil=>
   have hi:i < σ.n:=by
    grind [dN]
   have hs:=h.bX i hi
   rw[hg] at hs
   obtain ⟨vs,Fi,h1,Y,h3⟩:=hs
   exact aK h hk ⟨vs,λ_ _ _=>0,h1,λb i=>by simp[al],λj y hy=>by cases hy⟩ (λ_ _ _ _ e=>by cases e)
  | cons _ _=>cases hk
 rcases bt h am with hs | ⟨xs,e⟩
 rotate_left
 ·exfalso
  cases y with
  | tmp i=>
   grind [a9]
  | const v=>simp only[a9] at e;unfold iP at e;grind
  | func f=>cases e
  | global g=>cases e
 split at hk
 ·grind [aK]
 ·rename_i hv
  rw[hv] at hs
  obtain ⟨t,hT,hk⟩:=bE hk
  split at hk
  ·have hs:a.eval y=.slice none 0 0:=hs
   rw[hs]
   refine aK h hk ⟨[.slice none 0 0],(bj _ _ rfl).symm,?_⟩ (λ_ _ _ _ e=>by cases e)
   grind [ae,hole,kI,Md.own]
  ·cases hk
 ·grind [aK]
 ·cases hk
 ·grind [jk,ov]
 ·grind [jk,ov]
 ·rename_i r p snap hv
  rw[hv] at hs
  split at hk
  ·rename_i t m H v hg
   split at hk
   ·rename_i hc
    simp only[Bool.and_eq_true,Bool.not_eq_true'] at hc
    split at hk
    ·rename_i i hd
     have hr:r < σ.n:=by
      grind [dN]
     have gP:=h.bX r hr
     rw[hg] at gP
     obtain ⟨b,off,L,F1,s1,s2,s3,s4,s5,s6⟩:=gP
     obtain ⟨pl,b',o',g1,g2,g3,g4⟩:=hs.2 hc.1.1
     have cI:place σ a w r []=some ⟨t,H,rd w b off t.sz,some (b,off)⟩:=by
      unfold place;rw[hg,s1];rfl
     rw[cI] at g1
     injection g1 with g1
     subst g1
     simp only[Option.some.injEq,Prod.mk.injEq] at g2
     obtain ⟨rfl,rfl⟩:=g2
     have h1:=h.put hr (s:=.dead) (v:=tmp a r) (Fd:=λ_ _=>0) (X':=F r) trivial (λb k=>by omega) (λ_ _ _ _ e=>by cases e)
     rw[gG] at h1
     obtain ⟨bw,w1,w2⟩:=h.whole r t m H v hg (uR hc.2)
     rw[s1] at w1
     injection w1 with w1;injection w1 with w1;injection w1 with w1 w3
     subst w1
     have:=fJ (K:=K) (x:=x) (d:=some i) h1 hk (v:=a.eval y) (s:=.box t m H v) (Fd:=F r) ⟨b,off,L,F1,g3,s2,s3,s4,s5,s6⟩ (λb i=>Nat.le_refl _) (λt' m' H' v' e=>by grind)
     grind
    ·cases hk
   grind [aK]
  grind [aK]
 grind [aK,wQ]
theorem An {α:Type} (v y:List α) {lo n:Nat} (h:lo+n<=v.length) (hy:n<=y.length):(kj v lo n y).length=v.length:=by
 grind [kj]
theorem E3 {α:Type} (v y:List α) {lo n:Nat} (h:lo+n<=v.length) (hy:n<=y.length) (i:Nat):(kj v lo n y)[i]?=if lo<=i/\i < lo+n then y[i - lo]? else v[i]?:=by
 unfold kj
 by_cases h1:i < lo
 all_goals grind
theorem wV (h:bd P C A σ a w F) {r:Nat} {p:Path} {e:Ty} {m:Md} {v y:List e.den} {news:List Value} {Gi:Nat->FP} {me:Md} {lo n:Nat} {K:St->Option R} (iq:At σ r p (.af e) m [] v) (cm:m.own=true) (hf:e.flat=true) (hn:lo+n<=List.length v) (hy:n<=List.length y)
  (hl:news.length=List.length y*e.sz) (gj:∀ u ∈ news,u.oneCell'=true) (jl:∀ (i:Nat) (z:e.den),y[i]?=some z->ae P w A e me [] z ((news.drop (i*e.sz)).take e.sz) (Gi i))
  (hk:kh σ r p (.af e) m (kj v lo n y) (λσ'=>K { σ' with vr:=(σ.eb r li).vr,ax:=σ.ax })=some x) :
  ∃ (xa:Option Addr) (cap:Nat) (ad:Option (Nat×Nat)) (w2:World) (A3:Cells) (σ':St) (F3:Nat->FP),place σ a w r p=some ⟨.af e,[],[.slice xa (List.length v) cap],ad⟩/\K σ'=some x/\bd P C A3 σ' a w2 F3 /\
   (xa=none->w2=w/\List.length v=0)/\∀ ad,xa=some ad->ad.off=0/\ad.spot=none/\(n=0->w2=w)/\(storeCells ⟨ad.block,lo*e.sz,none⟩ (news.take (n*e.sz))).run P w=.ok () w2:=by
 obtain ⟨hr,m2,H2,v2,a_,pW,F2,q1,q2,q3,q4,q5,q6⟩:=pV h hk
 obtain ⟨_,e2,e3,e4⟩:=iq.inj q1
 subst e2;subst e3
 have e4:=eq_of_heq e4
 subst e4
 have cC:=q3
 simp only[ae,hole,List.any_nil,Bool.false_eq_true,if_false,cm,if_true] at q3
 obtain ⟨xa,cap,rfl,c1,c2,c3,c4⟩:=q3
 have Dv:=An v y hn hy
 have tj:∀ b i,F r b i<=1:=λb i=>by have:=h.fA b i;grind [aW]
 have fin:∀ (w2:World),Ext w w2 (λb i=>0+(F2 b i+dc pW (Ty.af e).sz b i))->(∀ b o,pW=some (b,o)->Has w2 b o [.slice xa (List.length v) cap])->ae P w2 A (.af e) m [] (kj v lo n y) [.slice xa (List.length v) cap] F2 ->
   (∀ (i:Nat) (z:e.den),(kj v lo n y)[i]?=some z->∀ ad,xa=some ad->∃ L,L.length=e.sz/\Has w2 ad.block (ad.off+i*e.sz) L/\ae P w2 A e .leaf [] z L (λ_ _=>0)) ->
   ∃ (A3:Cells) (σ':St) (F3:Nat->FP),K σ'=some x/\bd P C A3 σ' a w2 F3:=by
  intro w2 g1 g2 g3 g4
  obtain ⟨A3,o9,Fr,n1,n2,n3,n4,n5⟩:=q6 w2 A _ F2 (λ_ _=>0) g1 (λ_ _ h=>h) (λ_ _ h=>.inl h) (λb i=>by omega) g2 (λ_=>rfl) g3
  refine ⟨A3,_,_,n1,n5 li (mz (h.dK r)) (rN (h.dK r)) rfl λp' snap hb am hlen=>?_⟩
  have h5:=tT (h.dK r) hb am
  refine ⟨bc p'+1,False,by omega,λ_=>.inl (by omega),λ_=>by omega,?_⟩
  intro q pl hq hp
  cases q with
  | nil=>
   simp only[ay,Option.some.injEq] at hp
   subst hp
   exact ⟨_,_,rfl,λ_=>rfl⟩
  | cons s q=>
   cases s with
   | idx i=>
    cases xa with
    | none=>grind [ay]
    | some ad=>
     simp only[ay,hole,List.any_nil,Bool.false_eq_true,if_false,List.filterMap_nil] at hp ⊢
     split at hp
     ·rename_i hi
      rw[if_pos hi]
      have jj:i < (kj v lo n y).length:=by grind
      obtain ⟨L,l1,l2,l3⟩:=g4 i _ (List.getElem?_eq_getElem jj) ad rfl
      rw[bq l2 l1]
      obtain ⟨H',aC,h1,Y⟩:=o7 (A:=A) (m:=.leaf) (v:=(kj v lo n y)[i]) (F:=λ_ _=>0) q e l3 (.inr hf) hp
      grind
     ·cases hp
   | _=>simp[ay] at hp
 cases xa with
 | none=>
  have h0:=c3 rfl
  have GJ:List.length v=0:=by omega
  grind [Ext.refl]
 | some ad=>
  obtain ⟨d1,d2,d3,Fi,d4,d5⟩:=c4 ad rfl
  obtain ⟨b,off,sp⟩:=ad
  simp only at d1 d2 d3 d4 d5
  subst d1;subst d2
  have hle:lo*e.sz+n*e.sz<=cap*e.sz:=by rw[<-Nat.add_mul];exact Nat.mul_le_mul_right _ (by omega)
  have rr:(news.take (n*e.sz)).length=n*e.sz:=by
   grind [Nat.mul_le_mul_right]
  have nx:∀ j,j < cap*e.sz->(w.cell? ⟨b,j,none⟩).isSome=true:=λj hj=>by
   obtain ⟨c,e',fr,w1,w2,w3⟩:=d3
   grind [World.cell?]
  have bh:=run_storeCells_cells (P:=P) b (lo*e.sz) (news.take (n*e.sz)) 0 w (λj hj=>by grind) (λj hj=>by rw[Nat.add_zero];exact d3.frozen (by omega)) (λu hu=>gj u (List.mem_of_mem_take hu))
  rw[Nat.add_zero] at bh
  have bO:=gH (b:=b) (o:=lo*e.sz) (news.take (n*e.sz)) w (lo*e.sz)
  rw[rr] at bO
  have qt:∀ b' i,bm b (lo*e.sz) (n*e.sz) b' i<=bm b 0 (cap*e.sz) b' i:=λb' i=>by
   grind [bm]
  have hA:∀ b' i,A b' i->∀ u,ce w b' i=some u->ce (w.setCells b (lo*e.sz) (news.take (n*e.sz))) b' i=some u:=λb' i ha u hu=>by
   refine bO.cell b' i (h.cW b' i (.inr ha)) ?_ u hu
   rcases Nat.eq_zero_or_pos (bm b (lo*e.sz) (n*e.sz) b' i) with h0 | h0
   ·exact h0
   ·exact absurd ha (h.fW b' i (by grind [aW]))
  have LX:∀ (i:Nat) (z:e.den),(kj v lo n y)[i]?=some z->∃ L,L.length=e.sz/\Has (w.setCells b (lo*e.sz) (news.take (n*e.sz))) b (i*e.sz) L/\Ro P (w.setCells b (lo*e.sz) (news.take (n*e.sz))) A e z L:=by
   intro i z hz
   rw[E3 v y hn hy] at hz
   split at hz
   ·rename_i hi
    have nm:=ae.flat _ hf (jl _ z hz)
    refine ⟨_,Ro.length _ nm,λj u hu=>?_,Ro.mono hA (λ_ _ h=>h) e nm⟩
    rw[List.getElem?_take] at hu
    split at hu
    ·rename_i hj
     rw[List.getElem?_drop] at hu
     have h6:(i - lo)*e.sz+e.sz<=n*e.sz:=by rw[<-Nat.succ_mul];exact Nat.mul_le_mul_right _ (by omega)
     have:=ox (w:=w) (b:=b) (o:=lo*e.sz) (L:=news.take (n*e.sz)) (λk hk=>nx _ (by omega)) (λu hu=>gj u (List.mem_of_mem_take hu)) ((i - lo)*e.sz+j) u (by grind)
     rw[<-this]
     have h7:i*e.sz=lo*e.sz+(i - lo)*e.sz:=by rw[<-Nat.add_mul];congr 1;omega
     congr 1;omega
    ·cases hu
   ·rename_i hi
    obtain ⟨L,l1,l2,l3⟩:=d5 i z hz
    have nm:=ae.flat _ hf l3
    refine ⟨L,l1,λj u hu=>?_,Ro.mono hA (λ_ _ h=>h) e nm⟩
    refine bO.cell b _ (by obtain ⟨c,e',fr,w1,_⟩:=d3;grind) ?_ u (l2 j u hu)
    have hj:=(List.getElem?_eq_some_iff.1 hu).1
    simp only[bm]
    rw[if_neg]
    rintro ⟨_,h8,h9⟩
    rcases Nat.lt_or_ge i lo with K8 | K8
    ·have h6:i*e.sz+e.sz<=lo*e.sz:=by rw[<-Nat.succ_mul];exact Nat.mul_le_mul_right _ (by omega)
     omega
    ·have h6:lo*e.sz+n*e.sz<=i*e.sz:=by rw[<-Nat.add_mul];exact Nat.mul_le_mul_right _ (by omega)
     omega
  have sQ:ae P (w.setCells b (lo*e.sz) (news.take (n*e.sz))) A (.af e) m [] (kj v lo n y) [.slice (some ⟨b,0,none⟩) (List.length v) cap] F2:=by
   simp only[ae,hole,List.any_nil,Bool.false_eq_true,if_false,cm,if_true]
   refine ⟨some ⟨b,0,none⟩,cap,by rw[Dv],by omega,c2,(λe=>by cases e),λaS e'=>?_⟩
   injection e' with e';subst e'
   refine ⟨rfl,rfl,bO.l_ _ _ d3,λ_ _ _=>0,λb' i=>by grind [d9],λi z hz=>?_⟩
   obtain ⟨L,l1,l2,l3⟩:=LX i z hz
   grind [Ro.flat]
  have rQ:∀ b' o',pW=some (b',o')->Has (w.setCells b (lo*e.sz) (news.take (n*e.sz))) b' o' [.slice (some ⟨b,0,none⟩) (List.length v) cap]:=λb' o' ea j u hu=>by
   have h1:=(q5 b' o' ea).1 j u hu
   have hj:=(List.getElem?_eq_some_iff.1 hu).1
   have Y:=q4 b' (o'+j);have h3:=d4 b' (o'+j);have h4:=qt b' (o'+j);have h5:=tj b' (o'+j);have h7:=aW F hr b' (o'+j)
   have h6:dc pW (Ty.af e).sz b' (o'+j)=1:=by
    grind [dc,bm,Ty.sz]
   exact bO.cell _ _ (h.cW b' (o'+j) (.inl (by grind))) (by omega) u h1
  obtain ⟨A3,o9,F3,n1,n2⟩:=fin _ (bO.mono λb' i hz=>by
    grind) rQ sQ (λi z hz ad e=>by
    grind [Ro.flat])
  refine ⟨_,cap,pW,_,A3,o9,F3,q2,n1,n2,(λe=>by cases e),λaS e'=>?_⟩
  injection e' with e';subst e'
  refine ⟨rfl,rfl,λtm=>?_,bh⟩
  subst tm
  simp[World.setCells]
theorem DR (h:bd P C A σ a w F) (dr:∀ i T,E.TI i=some T->ao P T (.inl i)=true) {t tx:Nat} {y z:Operand} (ho:o.op=.call { callee:=.builtin .copy,args:=#[y,z],argTypes:=#[t,tx] }) (am:aZ P y=true/\aZ P z=true)
  (pg:(∃ e',P.underlying tx=some (.slice e'))\/P.underlying tx=some .string) {K:St->Option R} (hk:BQ E σ t y (a9 σ z) o.dst K=some x):o.wp P a w (Nx P C K x) Q:=by
 unfold BQ at hk
 obtain ⟨T,hT,hk⟩:=bE hk
 have cn:=dr _ _ hT
 split at hk
 ·rename_i e
  have hl:=cn
  simp only[ao,Bool.and_eq_true] at hl
  have Y:=hl.2
  split at Y
  rotate_left
  ·cases Y
  rename_i el hu
  simp only[Bool.and_eq_true,Nat.ble_eq] at Y
  obtain ⟨eN,jl⟩:=Y
  have IX:=run_sizeOf (P:=P) (w:=w) jl
  split at hk
  rotate_left
  ·cases hk
  rename_i hf
  rcases bt h am.2 with np | ⟨xs,e'⟩
  rotate_left
  ·grind [o5,dR]
  obtain ⟨A2,dU,F2,me,yv,news,Fw,Gi,q1,q2,q3,qr,q4,MZ,q5,q6⟩:=wl h np pg hk
  have Y:bd P C A2 dU a w F2:=q3.less λ_ _=>Nat.zero_le _
  have run:∀ (xa:Option Addr) (n cap:Nat) (w2:World),a.eval y=.slice xa n cap->(match (generalizing:=false) xa with | none=>w2=w | some ad=>(storeCells ad (news.take (min (List.length yv) n*e.sz))).run P w=.ok () w2) ->
    (execOp a.eval o).run P w=.ok (.value (.int .i64 ((min (List.length yv) n:Nat):Int))) w2:=by
   intro xa n cap w2 hy bh
   have GN:=MZ (min (List.length yv) n) (Nat.min_le_left _ _)
   cases xa with
   | none=>
    simp only at bh
    subst bh
    simp[execOp,ho,resolve,invoke,builtin,Builtin.copy_,hy,run_underlying hu,q4.len,IX,Nat.min_def] at GN ⊢
    simp[GN,goInt]
   | some ad=>
    simp only at bh
    simp[execOp,ho,resolve,invoke,builtin,Builtin.copy_,hy,run_underlying hu,q4.len,IX,Nat.min_def] at GN bh ⊢
    simp[GN,bh,goInt]
  rcases bt Y am.1 with hs | ⟨xs,e'⟩
  rotate_left
  ·grind
  split at q1
  ·rename_i r p snap lo hi hv
   rw[hv] at hs
   split at q1
   ·rename_i fm
    obtain ⟨hr,t',m',H',v',aC,aS,F',h1,iq,h3,h4,h5,h6⟩:=du Y q1
    split at h1
    ·rename_i hc
     simp only[Bool.and_eq_true,List.isEmpty_iff] at hc
     obtain ⟨cm,hH⟩:=hc
     subst hH
     obtain ⟨e1,h1⟩:=aP h1
     subst e1
     obtain ⟨pl,e2,xa,n,cap,kw,cap',g1,g2,g3,g4,g5,g6,g7,g8,g9,g10,g11⟩:=hs.2 fm
     have OQ:n=List.length v':=by
      grind [ae,hole]
     obtain ⟨xb,wi,pW,w2,A3,o9,F3,c1,c2,c3,c4,c5⟩:=wV Y (K:=λσ'=>K (σ'.aB o.dst (.val (.int .i64) ((min (List.length yv) (hi - lo):Nat):Int)))) ⟨iq⟩ cm hf (lo:=lo) (n:=min (List.length yv) (hi - lo)) (by omega) (Nat.min_le_left _ _) q4.newsLen q4.one q5 h1
     rw[c1] at g1
     injection g1 with g1
     subst g1
     simp only[List.cons.injEq,Value.slice.injEq,and_true] at g3
     obtain ⟨rfl,g3,rfl⟩:=g3
     injection g2 with g2
     subst g2
     refine e8 (run kw (hi - lo) cap' w2 g6 ?_) (aK c3 c2 ⟨[.int .i64 _],rfl,rfl⟩ (λ_ _ _ _ e=>by cases e))
     cases xb with
     | none=>grind
     | some ad=>
      obtain ⟨IY,k1,k2,k3,k4⟩:=g10 ad rfl
      rw[k1]
      obtain ⟨j1,j2,j3,j4⟩:=c5 ad rfl
      simp only
      by_cases aH:lo < hi
      ·have:IY=⟨ad.block,lo*e.sz,none⟩:=by
        have h1:=k4 aH
        obtain ⟨x1,x2,x3⟩:=IY
        grind
       grind
      ·have tm:min (List.length yv) (hi - lo)=0:=by omega
       rw[tm,Nat.zero_mul,List.take_zero]
       rw[j3 tm];rfl
    ·cases h1
   ·cases q1
  ·rename_i r p snap hv
   rw[hv] at hs
   split at q1
   ·rename_i fm
    obtain ⟨hr,t',m',H',v',aC,aS,F',h1,iq,h3,h4,h5,h6⟩:=du Y q1
    split at h1
    ·rename_i hc
     simp only[Bool.and_eq_true,List.isEmpty_iff] at hc
     obtain ⟨cm,hH⟩:=hc
     subst hH
     obtain ⟨e1,h1⟩:=aP h1
     subst e1
     obtain ⟨pl,g1,g2,g3⟩:=hs.2 fm
     obtain ⟨xb,wi,pW,w2,A3,o9,F3,c1,c2,c3,c4,c5⟩:=wV Y (K:=λσ'=>K (σ'.aB o.dst (.val (.int .i64) ((min (List.length yv) (List.length v'):Nat):Int)))) ⟨iq⟩ cm hf (lo:=0) (n:=min (List.length yv) (List.length v')) (by omega) (Nat.min_le_left _ _) q4.newsLen q4.one q5 h1
     rw[c1] at g1
     injection g1 with g1
     subst g1
     simp only[bj (.af e) _ rfl] at g2
     refine e8 (run xb (List.length v') wi w2 g2 ?_) (aK c3 c2 ⟨[.int .i64 _],rfl,rfl⟩ (λ_ _ _ _ e=>by cases e))
     cases xb with
     | none=>grind
     | some ad=>
      obtain ⟨j1,j2,j3,j4⟩:=c5 ad rfl
      obtain ⟨b,off,sp⟩:=ad
      grind
    ·cases h1
   ·cases q1
  ·cases q1
 ·cases hk
end
end OT
set_option linter.unusedVariables false
set_option linter.unusedSimpArgs false
namespace OT
open Go
def cY (w:World):(t:Ty)->Md->List Path->List Value->FP
 | .pair a b,m,H,cs=>λx i=>cY w a m.l (H.filterMap kq) (cs.take a.sz) x i+cY w b m.r (H.filterMap kt) (cs.drop a.sz) x i
 | .af e,m,H,cs=>
  if hole H then λ_ _=>0 else if m.own then
   match cs with
   | [.slice (some ad) n cap]=>λx i=>bm ad.block 0 (cap*e.sz) x i+al n (λj=>cY w e m.e (H.filterMap (dx j)) (rd w ad.block (j*e.sz) e.sz)) x i
   | _=>λ_ _=>0
  else λ_ _=>0
 | .ptr e,m,H,cs=>
  if hole H then λ_ _=>0 else if m.own then
   match cs with
   | [.pointer (some ad)]=>λx i=>bm ad.block 0 e.sz x i+cY w e m.e [] (rd w ad.block 0 e.sz) x i
   | _=>λ_ _=>0
  else λ_ _=>0
 | .map _ _,m,H,cs=>
  if hole H then λ_ _=>0 else if m.own then
   match cs with
   | [.map (some r)]=>bm r 0 1
   | _=>λ_ _=>0
  else λ_ _=>0
 | _,_,_,_=>λ_ _=>0
section
variable {P:Program} {w w1:World} {A:Cells}
theorem ae.fp:∀ (t:Ty) {m:Md} {H:List Path} {v:t.den} {cs:List Value} {F:FP},ae P w A t m H v cs F->ae P w A t m H v cs (cY w t m H cs)/\∀ b i,cY w t m H cs b i<=F b i:=by
 intro t
 induction t with
 | pair a b d_ dT=>
  intro m H v cs F h
  obtain ⟨h0,F1,F2,hs,h1,Y⟩:=h
  obtain ⟨J,a2⟩:=d_ h1
  obtain ⟨b1,b2⟩:=dT Y
  exact ⟨⟨h0,_,_,λ_ _=>Nat.le_refl _,J,b1⟩,λb i=>by grind [cY]⟩
 | af e ih=>
  intro m H v cs F h
  have h':=h
  simp only[ae] at h
  split at h
  ·simp_all [ae,cY]
  ·rename_i hh
   split at h
   ·rename_i hm
    obtain ⟨xa,cap,rfl,h1,Y,h3,h4⟩:=h
    cases xa with
    | none=>
     grind [cY,ae]
    | some ad=>
     obtain ⟨g1,g2,g3,Fi,g4,g5⟩:=h4 ad rfl
     have each:∀ (i:Nat) (x:e.den),v[i]?=some x->∃ L:List Value,L.length=e.sz/\Has w ad.block (i*e.sz) L/\ae P w A e m.e (H.filterMap (dx i)) x L (cY w e m.e (H.filterMap (dx i)) (rd w ad.block (i*e.sz) e.sz)) /\
       ∀ b k,cY w e m.e (H.filterMap (dx i)) (rd w ad.block (i*e.sz) e.sz) b k<=Fi i b k:=λi x hx=>by
      grind [bq]
     have hle:∀ b i,al (List.length v) (λj=>cY w e m.e (H.filterMap (dx j)) (rd w ad.block (j*e.sz) e.sz)) b i<=al (List.length v) Fi b i:=λb i=>v_ b i λj hj=>by
      obtain ⟨_,_,_,_,q⟩:=each j _ (List.getElem?_eq_getElem hj)
      exact q b i
     refine ⟨?_,λb i=>by grind [cY]⟩
     simp only[ae,hh,hm,if_true,Bool.false_eq_true,if_false]
     refine ⟨some ad,cap,rfl,h1,Y,h3,λaS e'=>?_⟩
     injection e' with e';subst e'
     refine ⟨g1,g2,g3,λj=>cY w e m.e (H.filterMap (dx j)) (rd w ad.block (j*e.sz) e.sz),λb i=>by grind [cY],λi x hx=>?_⟩
     grind
   simp_all [ae,cY]
 | ptr e ih=>
  intro m H v cs F h
  simp only[ae] at h
  split at h
  ·simp_all [ae,cY]
  ·rename_i hh
   split at h
   ·grind [cY,bq,ae]
   simp_all [ae,cY]
 | arr n e ih=>intro m H v cs F h;exact ⟨h,λ_ _=>Nat.zero_le _⟩
 | map k v=>
  intro m H x cs F h
  simp only[ae] at h
  split at h
  ·simp_all [ae,cY]
  ·rename_i hh
   split at h
   ·rename_i hm
    obtain ⟨h1,Y,r,jf,rfl,h4,h5,h6,h7⟩:=h
    refine ⟨?_,λb i=>?_⟩
    ·simp only[ae,hh,hm,if_true,Bool.false_eq_true,if_false]
     exact ⟨h1,Y,r,jf,rfl,h4,by simp[cY,hh,hm,bm],h6,h7⟩
    ·simp only[cY,hh,hm,if_true,Bool.false_eq_true,if_false,bm]
     grind
   simp_all [ae,cY]
 | _=>intro m H v cs F h;exact ⟨h,λ_ _=>Nat.zero_le _⟩
theorem Cn:∀ (t:Ty) {m:Md} {H:List Path} {v:t.den} {cs:List Value} {F:FP},ae P w A t m H v cs F->(∀ b i,1<=F b i->∀ u,ce w b i=some u->ce w1 b i=some u)->cY w1 t m H cs=cY w t m H cs:=by
 intro t
 induction t with
 | pair a b d_ dT=>
  intro m H v cs F h hF
  obtain ⟨h0,F1,F2,hs,h1,Y⟩:=h
  have e1:=d_ h1 (λb i hp=>hF b i (by grind))
  have e2:=dT Y (λb i hp=>hF b i (by grind))
  simp_all [cY]
 | af e ih=>
  intro m H v cs F h hF
  simp only[ae] at h
  split at h
  ·simp_all [cY]
  ·rename_i hh
   split at h
   ·rename_i hm
    obtain ⟨xa,cap,rfl,h1,Y,h3,h4⟩:=h
    cases xa with
    | none=>simp only[cY]
    | some ad=>
     obtain ⟨g1,g2,g3,Fi,g4,g5⟩:=h4 ad rfl
     simp only[cY,hh,hm,if_true,Bool.false_eq_true,if_false]
     funext b i
     congr 1
     refine congrFun (congrFun (ln λj hj=>?_) b) i
     obtain ⟨L,l1,l2,l3⟩:=g5 j _ (List.getElem?_eq_getElem hj)
     have hle:j*e.sz+e.sz<=cap*e.sz:=by rw[<-Nat.succ_mul];exact Nat.mul_le_mul_right _ (by omega)
     have OR:Has w1 ad.block (j*e.sz) L:=λk u hu=>hF _ _ (by
      grind [bm]) u (l2 k u hu)
     grind [bq,aW]
   simp_all [cY]
 | ptr e ih=>
  intro m H v cs F h hF
  simp only[ae] at h
  split at h
  ·simp_all [cY]
  ·rename_i hh
   split at h
   ·rename_i hm
    obtain ⟨b0,rfl,h1,L,F1,Y,h3,h4,h5⟩:=h
    have K9:Has w1 b0 0 L:=λk u hu=>hF _ _ (by
     grind [bm]) u (h3 k u hu)
    simp only[cY,hh,hm,if_true,Bool.false_eq_true,if_false,bq h3 Y,bq K9 Y]
    rw[ih h5 (λb i hp=>hF b i (by grind))]
   simp_all [cY]
 | _=>intro m H v cs F h hF;rfl
theorem ae.indep {A':Cells}:∀ (t:Ty) {v:t.den} {cs:List Value} {F:FP},t.fT=true->ae P w A t (aF t) [] v cs F->ae P w A' t (aF t) [] v cs F:=by
 intro t
 induction t with
 | pair a b d_ dT=>
  intro v cs F hn h
  simp only[Ty.fT,Bool.and_eq_true] at hn
  obtain ⟨h0,F1,F2,hs,h1,Y⟩:=h
  exact ⟨h0,F1,F2,hs,d_ hn.1 h1,dT hn.2 Y⟩
 | af e ih=>
  intro v cs F hn h
  simp only[ae,hole,List.any_nil,Bool.false_eq_true,if_false,aF,kI,Md.own,if_true] at h ⊢
  obtain ⟨xa,cap,h1,Y,h3,h4,h5⟩:=h
  refine ⟨xa,cap,h1,Y,h3,h4,λad e'=>?_⟩
  obtain ⟨g1,g2,g3,Fi,g4,g5⟩:=h5 ad e'
  refine ⟨g1,g2,g3,Fi,g4,λi x hx=>?_⟩
  obtain ⟨L,l1,l2,l3⟩:=g5 i x hx
  exact ⟨L,l1,l2,ih hn l3⟩
 | ptr e ih=>
  intro v cs F hn h
  simp only[ae,hole,List.any_nil,Bool.false_eq_true,if_false,aF,kI,Md.own,if_true] at h ⊢
  obtain ⟨b,h1,Y,L,F1,h3,h4,h5,h6⟩:=h
  exact ⟨b,h1,Y,L,F1,h3,h4,h5,ih hn h6⟩
 | arr n e ih=>
  intro v cs F hn h
  exact ⟨h.1,Ro.indep _ (by have:=h.2.1;grind [Ty.flat]) hn h.2⟩
 | fn=>grind [Ty.fT]
 | map k v=>
  grind [Ty.fT,ae,kI,Md.own,Ro.indep]
 | _=>intro v cs F hn h;exact h
theorem ae.free {A':Cells} {t:Ty} {m:Md} {v:t.den} {cs:List Value} {F:FP} (ho:(t.flat||decide (m=aF t))=true) (hn:t.fT=true) (h:ae P w A t m [] v cs F):ae P w A' t m [] v cs F:=by
 grind [Ro.flat,Ro.indep,ae.flat,ae.indep]
def World.news (w w2:World):World:={ w2 with heap:=(w.heap.toList++w2.heap.toList.drop w.heap.size).toArray }
theorem wW {w2:World} (h:w.heap.size<=w2.heap.size) (k:Nat):(World.news w w2).heap[k]?=if k < w.heap.size then w.heap[k]? else w2.heap[k]?:=by
 grind [World.news]
theorem mQ {w2:World} (h:w.heap.size<=w2.heap.size):(World.news w w2).heap.size=w2.heap.size:=by grind [World.news]
theorem jF {w2:World} (h:w.heap.size<=w2.heap.size) {b:Nat} (hb:b < w.heap.size):(World.news w w2).heap[b]?=w.heap[b]?:=by grind [wW]
theorem qC {w2:World} (h:w.heap.size<=w2.heap.size) {b:Nat} (hb:w.heap.size<=b):(World.news w w2).heap[b]?=w2.heap[b]?:=by grind [wW]
theorem pF {w2:World} {b:Nat} (h:w2.heap[b]?=w.heap[b]?) (i:Nat):ce w2 b i=ce w b i:=qo h i
theorem pG {w2:World} {b:Nat} (h:w2.heap[b]?=w.heap[b]?) (i:Nat):w2.frozen? ⟨b,i,none⟩=w.frozen? ⟨b,i,none⟩:=by simp[World.frozen?,h]
theorem oD {w2:World} {b:Nat} (h:w2.heap[b]?=w.heap[b]?) (n:Nat×Bool):cf w b n↔cf w2 b n:=by grind [cf]
theorem cf.lt {b:Nat} {n:Nat×Bool} (h:cf w b n):b < w.heap.size:=by
 obtain ⟨c,e,fr,h1,_⟩:=h;grind
theorem tX {w2:World} {F:FP} (h:Ext w w2 F):Ext w (World.news w w2) (λ_ _=>0)/\Ext (World.news w w2) w2 F:=by
 have hs:=h.size
 refine ⟨⟨by grind [mQ],λb i hb _ u hu=>by grind [pF,jF],λb n hn=>(oD (jF hs hn.lt) n).1 hn,λb i hb=>pG (jF hs hb) i,h.os,h.tape,h.output,λb hb _=>jF hs hb,h.drawn⟩,
  ⟨by grind [mQ],λb i hb hz u hu=>?_,λb n hn=>?_,λb i hb=>?_,rfl,rfl,rfl,λb hb hz=>?_,Nat.le_refl _⟩⟩
 ·by_cases tn:b < w.heap.size
  ·rw[pF (jF hs tn)] at hu
   exact h.cell b i tn hz u hu
  grind [pF,qC]
 ·by_cases tn:b < w.heap.size
  ·exact h.l_ b n ((oD (jF hs tn) n).2 hn)
  grind [oD,qC]
 ·by_cases tn:b < w.heap.size
  ·rw[pG (jF hs tn)];exact h.ne b i tn
  grind [pG,qC]
 ·by_cases tn:b < w.heap.size
  ·rw[jF hs tn];exact h.obj b tn hz
  grind [qC]
end
def ArgRel (P:Program) (w:World) (A:Cells) (ho:List Path->Bool) (pm:PM) (t:Ty) (v:t.den) (x:Value) (F:FP):Prop:=
 match pm with
 | .ro=>∃ cs,x=aY t cs/\Ro P w A t v cs
 | .fix f=>(∃ cs,x=aY t cs/\Ro P w A t v cs)/\∀ e:t=.fn,(e ▸ v:Ty.fn.den).1=f
 | .dm m _=>∃ b o L F1,x=.pointer (some ⟨b,o,none⟩)/\L.length=t.sz/\Has w b o L/\(∀ j,j < t.sz->w.frozen? ⟨b,o+j,none⟩=false)/\(∀ b' i,bm b o t.sz b' i+F1 b' i<=F b' i)/\ae P w A t m [] v L F1
 | .eV m=>∃ cs,x=aY t cs/\ae P w A t m [] v cs F
 | .fk m=>∃ H cs,ho H=true/\x=aY t cs/\ae P w A t m H v cs F
 | .gV m=>∃ b o L F1,x=.pointer (some ⟨b,o,none⟩)/\L.length=t.sz/\Has w b o L/\(∀ j,j < t.sz->w.frozen? ⟨b,o+j,none⟩=false)/\(∀ b' i,bm b o t.sz b' i+F1 b' i<=F b' i)/\ae P w A t m [] v L F1
def fK (P:Program) (w:World) (A:Cells) (ho:List Path->Bool):(ps:List (PM×Ty))->(bB (ps.map (·.2))).den->List Value->FP->Prop
 | [],_,xs,_=>xs=[]
 | (pm,t)::ps,v,xs,F=>∃ (x:Value) (GO:List Value) (F1 F2:FP),xs=x::GO/\(∀ b i,F1 b i+F2 b i<=F b i)/\ArgRel P w A ho pm t v.1 x F1/\fK P w A ho ps v.2 GO F2
abbrev Bn:List Path->Bool:=λH=>H.isEmpty
theorem fK.none {P:Program} {w:World} {A:Cells} {ho:List Path->Bool} (hh:∀ H,ho H=true->H=[]):∀ (ps:List (PM×Ty)) {v:(bB (ps.map (·.2))).den} {xs:List Value} {F:FP},fK P w A ho ps v xs F->fK P w A Bn ps v xs F
 | [],_,_,_,h=>h
 | (pm,t)::ps,_,_,_,⟨x,GO,F1,F2,h1,Y,h3,h4⟩=>⟨x,GO,F1,F2,h1,Y,by
  cases pm with
  | fk m=>obtain ⟨H,cs,g1,g2⟩:=h3;rw[hh H g1] at g2;exact ⟨[],cs,rfl,g2⟩
  | _=>exact h3,fK.none hh ps h4⟩
def fL (P:Program) (w:World) (A:Cells):(ps:List (PM×Ty))->(bB (dh ps)).den->List Value->FP->Prop
 | [],_,_,_=>True
 | (.ro,_)::ps,v,xs,F=>fL P w A ps v xs.tail F
 | (.fix _,_)::ps,v,xs,F=>fL P w A ps v xs.tail F
 | (.gV _,_)::ps,v,xs,F=>fL P w A ps v xs.tail F
 | (.fk _,_)::ps,v,xs,F=>fL P w A ps v xs.tail F
 | (.dm _ m,t)::ps,v,xs,F=>∃ (F1 F2:FP),(∀ b i,F1 b i+F2 b i<=F b i)/\(∃ b o L F3,xs.head?=some (.pointer (some ⟨b,o,none⟩))/\L.length=t.sz/\Has w b o L/\(∀ b' i,bm b o t.sz b' i+F3 b' i<=F1 b' i)/\ae P w A t m [] v.1 L F3)/\fL P w A ps v.2 xs.tail F2
 | (.eV m,t)::ps,v,xs,F=>∃ (F1 F2:FP),(∀ b i,F1 b i+F2 b i<=F b i)/\(∃ cs,xs.head?=some (aY t cs)/\ae P w A t m [] v.1 cs F1)/\fL P w A ps v.2 xs.tail F2
def e_ (P:Program) (w:World) (A:Cells) (rs:List uB) (rv:Value) (F:FP):Prop:=
 match rs with
 | []=>True
 | [x]=>∃ cs,rv=aY x.t cs/\ae P w A x.t x.m [] x.v cs F
 | xs=>∃ (vs:Array Value) (Fi:Nat->FP),rv=.tuple vs/\(∀ b i,al xs.length Fi b i<=F b i)/\∀ j x,xs[j]?=some x->∃ v cs,vs[j]?=some v/\v=aY x.t cs/\ae P w A x.t x.m [] x.v cs (Fi j)
def Sound (P:Program) (f:FuncId) (g:kf):Prop:=
 ∀ (w:World) (A:Cells) (F0:FP) (v:(bB (g.ps.map (·.2))).den) (xs:List Value),fK P w A (g.wG v) g.ps v xs F0->(∀ b i,F0 b i<=1)->(∀ b i,1<=F0 b i->¬ A b i)->(∀ b i,1<=F0 b i\/A b i->b < w.heap.size)->ns P w F0 ->
  ∀ out,g.F v=some out->Calls P f xs.toArray w λe w'=>∃ rv,e=.returned rv/\Ext w w' F0/\∃ (A':Cells) (G GR GM:FP),(∀ b i,A b i->A' b i)/\(∀ b i,A' b i->A b i\/1<=F0 b i\/w.heap.size<=b) /\
   (∀ b i,1<=G b i->1<=F0 b i\/w.heap.size<=b)/\(∀ b i,G b i<=1)/\(∀ b i,1<=G b i->¬ A' b i)/\(∀ b i,1<=G b i\/A' b i->b < w'.heap.size)/\(∀ b i,GR b i+GM b i<=G b i) /\
   e_ P w' A' (di g.rs out).1 rv GR/\fL P w' A' g.ps (di g.rs out).2 xs GM
def mp (P:Program) (f:FuncId) (cap:Bool):Prop:=∃ fn,P.funcs[f]?=some fn/\(fn.name == "runtime.NumGoroutine")=false/\fn.body.isNone=false/\fn.nfree=(match cap with | true=>1 | false=>0)
end OT
set_option linter.unusedVariables false
set_option linter.unusedSimpArgs false
namespace OT
open Go
section
variable {P:Program} {C:Ctx} {A:Cells} {X:FP} {σ:St} {a:Act} {w:World} {F:Nat->FP} {R:Type} {x:R}
theorem HN {K:St->Option R}:∀ (ps:List (PM×Ty)) (xs:List Operand) {σ:St} {A:Cells} {F:Nat->FP},bd P C A σ a w F->gW σ ps xs K=some x ->
  ∃ (A':Cells) (σ':St) (F':Nat->FP),K σ'=some x/\(∀ b i,A b i->A' b i)/\bd P C A' σ' a w F'/\σ'.n=σ.n:=by
 intro ps
 induction ps with
 | nil=>intro xs σ A F h hk;exact ⟨A,σ,F,by cases xs <;> exact hk,λ_ _ h=>h,h,rfl⟩
 | cons p ps ih=>
  intro xs σ A F h hk
  cases xs with
  | nil=>obtain ⟨pm,t⟩:=p;exact ⟨A,σ,F,by cases pm <;> exact hk,λ_ _ h=>h,h,rfl⟩
  | cons y xs=>
   obtain ⟨pm,t⟩:=p
   have fin:∀ {m' m:Md} {r:Nat} {p:Path},(if m'=m then gW σ ps xs K else kR σ r p m λσ=>gW σ ps xs K)=some x ->
     ∃ (A':Cells) (σ':St) (F':Nat->FP),K σ'=some x/\(∀ b i,A b i->A' b i)/\bd P C A' σ' a w F'/\σ'.n=σ.n:=λhk=>by
    grind [Ai]
   cases pm with
   | ro=>exact ih xs h hk
   | fix f=>exact ih xs h hk
   | dm m m'=>
    simp only[gW] at hk
    split at hk
    ·split at hk
     ·obtain ⟨hr,t',m',H',v',aC,aS,F',h1,_⟩:=du h hk
      exact fin h1
     ·cases hk
    ·cases hk
   | gV m=>
    simp only[gW] at hk
    split at hk
    ·split at hk
     ·obtain ⟨hr,t',m',H',v',aC,aS,F',h1,_⟩:=du h hk
      exact fin h1
     ·cases hk
    ·cases hk
   | eV m=>
    simp only[gW] at hk
    split at hk
    ·split at hk
     ·obtain ⟨hr,t',m',H',v',aC,aS,F',h1,_⟩:=du h hk
      exact fin h1
     ·cases hk
    ·cases hk
   | fk m=>
    simp only[gW] at hk
    split at hk
    ·split at hk
     ·obtain ⟨hr,t',m',H',v',aC,aS,F',h1,_⟩:=du h hk
      exact fin h1
     ·cases hk
    ·cases hk
theorem DS (h:bd P C A σ a w F) {r:Nat} {t:Ty} {m:Md} {v:t.den} (hg:σ.get r=.box t m [] v):∃ (A':Cells) (F':Nat->FP),(∀ b i,A b i->A' b i)/\bd P C A' ((σ.put r .dead).put r (.cp t v)) a w F'/\Ro P w A' (.ptr t) v [tmp a r]/\r < σ.n:=by
 have hi:r < σ.n:=by
  grind [dN]
 have hs:=h.bX r hi
 rw[hg] at hs
 obtain ⟨b,off,L,F1,s1,s2,s3,s4,s5,s6⟩:=hs
 have h1:=h.put hi (s:=.dead) (v:=tmp a r) (Fd:=λ_ _=>0) (X':=F r) trivial (λb k=>by omega) (λ_ _ _ _ e=>by cases e)
 rw[gG] at h1
 have Y:=h1.giveUp (A1:=λb' i'=>A b' i'\/1<=F r b' i') (X1:=λ_ _=>0) (λ_ _ h=>.inl h) (λb' i' ha=>ha.imp id λhp=>⟨hp,rfl⟩) (λ_ _=>Nat.zero_le _)
 have im:Ro P w (λb' i'=>A b' i'\/1<=F r b' i') (.ptr t) v [tmp a r]:=
  ⟨⟨b,off,none⟩,by rw[s1],rfl,L,s2,(λj u hu=>⟨s3 j u hu,.inr (by
   grind [bm])⟩),ae.lq (λ_ _ h=>.inl h) t s6 (λb' i' hp=>.inr (by grind))⟩
 have h3:=Y.put (d:=r) hi (s:=.cp t v) (v:=tmp a r) (Fd:=λ_ _=>0) (X':=λ_ _=>0) im (λb k=>by omega) (λ_ _ _ _ e=>by cases e)
 grind [gG]
theorem HO (h:bd P C A σ a w F) {i:Nat} (hi:i < σ.n) {t:Ty} {v:t.den} (im:Ro P w A (.ptr t) v [tmp a i]):∃ F':Nat->FP,bd P C A ((σ.put i .dead).put i (.cp t v)) a w F':=by
 have h1:=h.put hi (s:=.dead) (v:=tmp a i) (Fd:=λ_ _=>0) (X':=F i) trivial (λb k=>by omega) (λ_ _ _ _ e=>by cases e)
 rw[gG] at h1
 have Y:=h1.giveUp (A1:=A) (X1:=λ_ _=>0) (λ_ _ h=>h) (λb' i' ha=>.inl ha) (λ_ _=>Nat.zero_le _)
 have h3:=Y.put (d:=i) hi (s:=.cp t v) (v:=tmp a i) (Fd:=λ_ _=>0) (X':=λ_ _=>0) im (λb k=>by omega) (λ_ _ _ _ e=>by cases e)
 grind [gG]
theorem E4 (h:bd P C A σ a w F) {i r:Nat} {snap:List Nat} {t:Ty} {m:Md} {H:List Path} {v:t.den} (hi:i < σ.n) (hs:σ.get i=.ptr r [] snap) (am:σ.ok r snap=true) (hg:σ.get r=.box t m H v):tmp a i=tmp a r:=by
 have h1:=h.bX i hi
 rw[hs] at h1
 obtain ⟨pl,b,o,p1,p2,p3,p4⟩:=h1.2 am
 have hr:r < σ.n:=by
  grind [dN]
 have Y:=h.bX r hr
 rw[hg] at Y
 obtain ⟨b2,off,L,F1,s1,_⟩:=Y
 grind [place,ba,ay]
theorem IZ {K:St->Option R}:∀ (ps:List (PM×Ty)) (xs:List Operand) {σ:St} {A:Cells} {F:Nat->FP},bd P C A σ a w F->nZ σ ps xs K=some x ->
  ∃ (A':Cells) (σ':St) (F':Nat->FP),K σ'=some x/\(∀ b i,A b i->A' b i)/\bd P C A' σ' a w F'/\σ'.n=σ.n:=by
 intro ps
 induction ps with
 | nil=>intro xs σ A F h hk;exact ⟨A,σ,F,by cases xs <;> exact hk,λ_ _ h=>h,h,rfl⟩
 | cons p ps ih=>
  intro xs σ A F h hk
  cases xs with
  | nil=>obtain ⟨pm,t⟩:=p;exact ⟨A,σ,F,by cases pm <;> exact hk,λ_ _ h=>h,h,rfl⟩
  | cons y xs=>
   obtain ⟨pm,t⟩:=p
   have fin:∀ {r:Nat} {p:Path},(mc σ r p λσ=>nZ σ ps xs K)=some x ->
     ∃ (A':Cells) (σ':St) (F':Nat->FP),K σ'=some x/\(∀ b i,A b i->A' b i)/\bd P C A' σ' a w F'/\σ'.n=σ.n:=λhk=>by
    grind [mO]
   cases pm with
   | fix f=>exact ih xs h hk
   | dm m m'=>exact ih xs h hk
   | gV m=>exact ih xs h hk
   | eV m=>exact ih xs h hk
   | fk m=>exact ih xs h hk
   | ro=>
    simp only[nZ] at hk
    split at hk
    ·grind
    ·split at hk
     ·grind
     ·grind
     ·rename_i r p snap GH
      split at hk
      ·rename_i am
       split at hk
       ·rename_i t m H v hg
        split at hk
        ·rename_i hc
         simp only[Bool.and_eq_true,List.isEmpty_iff] at hc
         obtain ⟨hH,rX⟩:=hc
         subst hH
         obtain ⟨A1,F1,rR,h3,h4,h5⟩:=DS h hg
         have go:∀ {dU:St} {F2:Nat->FP},bd P C A1 dU a w F2->nZ dU ps xs K=some x->dU.n=σ.n->∃ (A':Cells) (σ':St) (F':Nat->FP),K σ'=some x/\(∀ b i,A b i->A' b i)/\bd P C A' σ' a w F'/\σ'.n=σ.n:=λh3 hk hn=>by
          grind
         cases y with
         | tmp i=>
          simp only[Il] at hk
          split at hk
          ·exact go h3 hk rfl
          ·rename_i wX
           simp only[Bool.or_eq_false_iff,Bool.not_eq_false',Nat.blt_eq] at wX
           obtain ⟨g1,g2⟩:=wX
           have hi:i < σ.n:=g2
           have A9:i≠r:=λe=>by simp_all
           have hs:σ.get i=.ptr r [] snap:=by
            grind [a9]
           have he:=E4 h hi hs am hg
           rw[<-he] at h4
           obtain ⟨F3,h6⟩:=HO h3 (i:=i) g2 h4
           exact go h6 hk rfl
         | const c=>exact go h3 hk rfl
         | func f=>exact go h3 hk rfl
         | global g=>exact go h3 hk rfl
        ·cases hk
       ·cases hk
      ·cases hk
     grind
def AX (A:Cells) (F:Nat->FP) (n r0:Nat) (ow:Bool):Cells:=λb i=>A b i\/(ow=true/\∃ j,j < n/\j≠r0/\1<=F j b i)
def GP (P:Program) (A:Cells) (σ:St) (a:Act) (w:World) (F:Nat->FP) (ow:Bool) (pm:PM) (t:Ty) (v:t.den) (s:Slot) (tv:Value) (wp:Option (Nat×Path)):Prop:=
 match pm with
 | .ro=>wp=none/\∃ cs,tv=aY t cs/\Ro P w (λb i=>A b i\/(ow=true/\∃ r ∈ eh s,r < σ.n/\1<=F r b i)) t v cs
 | .fix f=>wp=none/\(∃ cs,tv=aY t cs/\Ro P w A t v cs)/\∀ e:t=.fn,(e ▸ v:Ty.fn.den).1=f
 | .dm m _=>∃ r p snap b o cs,s=.ptr r p snap/\wp=some (r,p)/\At σ r p t m [] v/\tv=.pointer (some ⟨b,o,none⟩)/\place σ a w r p=some ⟨t,[],cs,some (b,o)⟩
 | .eV m=>∃ r p snap cs ad,s=.ref r p snap/\wp=some (r,p)/\At σ r p t m [] v/\tv=aY t cs/\place σ a w r p=some ⟨t,[],cs,ad⟩
 | .fk m=>∃ H r p snap cs ad,s=.ref r p snap/\wp=some (r,p)/\At σ r p t m H v/\tv=aY t cs/\place σ a w r p=some ⟨t,H,cs,ad⟩
 | .gV m=>∃ r p snap b o cs,s=.ptr r p snap/\wp=some (r,p)/\At σ r p t m [] v/\tv=.pointer (some ⟨b,o,none⟩)/\place σ a w r p=some ⟨t,[],cs,some (b,o)⟩
def mR (P:Program) (A:Cells) (σ:St) (a:Act) (w:World) (F:Nat->FP) (ow:Bool):(ps:List (PM×Ty))->(bB (ps.map (·.2))).den->List Slot->List Value->List (Nat×Path)->Prop
 | [],_,ss,fq,ws=>ss=[]/\fq=[]/\ws=[]
 | (pm,t)::ps,v,ss,fq,ws=>∃ s u9 tv jG wp lF,ss=s::u9/\fq=tv::jG/\ws=(match (generalizing:=false) wp with | some x=>x::lF | none=>lF)/\GP P A σ a w F ow pm t v.1 s tv wp/\mR P A σ a w F ow ps v.2 u9 jG lF
def kL (P:Program) (A:Cells) (σ:St) (a:Act) (w:World):List Slot->List Value->Prop
 | [],[]=>True
 | s::ss,tv::fq=>(aQ P A σ a w tv s (λ_ _=>0)\/∃ xs,s=.gN xs)/\kL P A σ a w ss fq
 | _,_=>False
theorem u_ (h:bd P C A σ a w F):∀ (xs:List Operand) {ss:List Slot} {fq:List Value},xs.all (aZ P)=true->kL P A σ a w ss fq->kL P A σ a w (xs.map (a9 σ)++ss) (xs.map a.eval++fq)
 | [],_,_,_,Y=>Y
 | y::xs,_,_,am,Y=>by
  simp only[List.all_cons,Bool.and_eq_true] at am
  exact ⟨bt h am.1,u_ h xs am.2 Y⟩
theorem Kk (h:bd P C A σ a w F) {s:Slot} {tv:Value} {G:FP} (hs:aQ P A σ a w tv s G) {t:Ty} {K:t.den->Option R} (hk:yy σ s t K=some x) :
  ∃ (v:t.den) (cs:List Value),K v=some x/\tv=aY t cs/\Ro P w A t v cs:=by
 cases s with
 | val t' v=>
  obtain ⟨e,hk⟩:=aP hk;subst e
  obtain ⟨cs,h1,Y⟩:=hs
  grind
 | cp t' v=>
  obtain ⟨e,hk⟩:=aP hk;subst e
  exact ⟨v,[tv],hk,(bj _ _ rfl).symm,hs⟩
 | lh=>
  simp only[yy] at hk
  split at hk
  ·rename_i t e
   have hs:tv=.slice none 0 0:=hs
   subst hs
   exact ⟨[],_,hk,(bj _ _ rfl).symm,none,0,rfl,Nat.le_refl _,λ_=>rfl,λad cR=>by cases cR⟩
  ·cases hk
 | ref r p snap=>
  simp only[yy] at hk
  split at hk
  ·rename_i am
   obtain ⟨hr,t',m',H',v',aC,aS,F',h1,Y,h3,h4,h5,h6⟩:=du h hk
   obtain ⟨pl,g1,g2,g3⟩:=hs.2 am
   grind [aP,ae.flat,ae.ro,bI]
  ·cases hk
 | sub r p snap lo hi=>
  simp only[yy] at hk
  split at hk
  ·rename_i am
   obtain ⟨hr,t',m',H',v',aC,aS,F',h1,Y,h3,h4,h5,h6⟩:=du h hk
   obtain ⟨pl,e,xa,n,cap,kw,cap',g1,g2,g3,g4,g5,g6,g7,Bb,g8,g9,g10⟩:=hs.2 am
   rw[h3] at g1
   injection g1 with g1
   subst g1
   simp only at g2 g3
   subst g2;subst g3
   split at h1
   ·rename_i hc
    simp only[Bool.and_eq_true,List.isEmpty_iff,decide_eq_true_eq] at hc
    obtain ⟨hH,hm⟩:=hc
    subst hH;subst hm
    obtain ⟨e',h1⟩:=aP h1;subst e'
    exact ⟨_,_,h1,by rw[bj _ _ rfl];exact g6,Ro.piece (ae.ro _ (bI _) h4) g4 g5 g7 g8 g9⟩
   ·cases h1
  ·cases hk
 | _=>simp[yy] at hk
theorem I0 (h:bd P C A σ a w F) {ow:Bool} {pm:PM} {t:Ty} {s:Slot} {tv:Value} (hs:aQ P A σ a w tv s (λ_ _=>0)\/∃ xs,s=.gN xs) {K:t.den->Option (Nat×Path)->Option R} (hk:nY σ ow pm t s K=some x) :
  ∃ v wp,K v wp=some x/\GP P A σ a w F ow pm t v s tv wp:=by
 rcases hs with hs | ⟨xs,rfl⟩
 rotate_left
 ·cases pm with
  | ro=>cases ow <;> simp[nY,it,yy] at hk
  | _=>simp[nY] at hk
 cases pm with
 | ro=>
  cases ow with
  | true=>
   simp only[nY] at hk
   have aH:=rS h hk
   obtain ⟨v,cs,h1,Y,h3⟩:=wO h hs hk
   exact ⟨v,none,h1,rfl,cs,Y,Ro.mono (λ_ _ _ _ h=>h) (λb i ha=>ha.imp id λ⟨r,hr,hp⟩=>⟨rfl,r,hr,aH r hr,hp⟩) t h3⟩
  | false=>
   simp only[nY] at hk
   obtain ⟨v,cs,h1,Y,h3⟩:=Kk h hs hk
   exact ⟨v,none,h1,rfl,cs,Y,Ro.mono (λ_ _ _ _ h=>h) (λb i ha=>.inl ha) t h3⟩
 | fix f=>
  simp only[nY] at hk
  split at hk
  ·rename_i v
   split at hk
   ·rename_i hf
    obtain ⟨e,hk⟩:=aP hk
    subst e
    obtain ⟨cs,h1,Y⟩:=hs
    exact ⟨v,none,hk,rfl,⟨cs,h1,Y⟩,λe=>by simpa using hf⟩
   ·cases hk
  ·cases hk
 | dm m m'=>
  simp only[nY] at hk
  split at hk
  ·rename_i r p snap
   split at hk
   ·rename_i am
    obtain ⟨hr,t',m',H',v',aC,aS,F',h1,Y,h3,h4,h5,h6⟩:=du h hk
    obtain ⟨pl,b,o,g1,g2,g3,g4⟩:=hs.2 am
    rw[h3] at g1
    injection g1 with g1
    subst g1
    simp only at g2
    subst g2
    split at h1
    ·rename_i hc
     simp only[Bool.and_eq_true,List.isEmpty_iff,decide_eq_true_eq] at hc
     obtain ⟨hH,hm⟩:=hc
     subst hH;subst hm
     obtain ⟨e,h1⟩:=aP h1
     subst e
     exact ⟨v',_,h1,r,p,snap,b,o,aC,rfl,rfl,⟨Y⟩,g3,h3⟩
    ·cases h1
   ·cases hk
  ·cases hk
 | gV m=>
  simp only[nY] at hk
  split at hk
  ·rename_i r p snap
   split at hk
   ·rename_i am
    obtain ⟨hr,t',m',H',v',aC,aS,F',h1,Y,h3,h4,h5,h6⟩:=du h hk
    obtain ⟨pl,b,o,g1,g2,g3,g4⟩:=hs.2 am
    rw[h3] at g1
    injection g1 with g1
    subst g1
    simp only at g2
    subst g2
    split at h1
    ·rename_i hc
     simp only[Bool.and_eq_true,List.isEmpty_iff,decide_eq_true_eq] at hc
     obtain ⟨hH,hm⟩:=hc
     subst hH;subst hm
     obtain ⟨e,h1⟩:=aP h1
     subst e
     exact ⟨v',_,h1,r,p,snap,b,o,aC,rfl,rfl,⟨Y⟩,g3,h3⟩
    ·cases h1
   ·cases hk
  ·cases hk
 | eV m=>
  simp only[nY] at hk
  split at hk
  ·rename_i r p snap
   split at hk
   ·rename_i am
    obtain ⟨hr,t',m',H',v',aC,aS,F',h1,Y,h3,h4,h5,h6⟩:=du h hk
    obtain ⟨pl,g1,g2,g3⟩:=hs.2 am
    rw[h3] at g1
    injection g1 with g1
    subst g1
    split at h1
    ·rename_i hc
     simp only[Bool.and_eq_true,List.isEmpty_iff,decide_eq_true_eq] at hc
     obtain ⟨hH,hm⟩:=hc
     subst hH;subst hm
     obtain ⟨e,h1⟩:=aP h1
     subst e
     exact ⟨v',_,h1,r,p,snap,aC,aS,rfl,rfl,⟨Y⟩,g2,h3⟩
    ·cases h1
   ·cases hk
  ·cases hk
 | fk m=>
  simp only[nY] at hk
  split at hk
  ·rename_i r p snap
   split at hk
   ·rename_i am
    obtain ⟨hr,t',m',H',v',aC,aS,F',h1,Y,h3,h4,h5,h6⟩:=du h hk
    obtain ⟨pl,g1,g2,g3⟩:=hs.2 am
    rw[h3] at g1
    injection g1 with g1
    subst g1
    split at h1
    ·rename_i hm
     subst hm
     obtain ⟨e,h1⟩:=aP h1
     subst e
     exact ⟨v',_,h1,H',r,p,snap,aC,aS,rfl,rfl,⟨Y⟩,g2,h3⟩
    ·cases h1
   ·cases hk
  ·cases hk
theorem HP (h:bd P C A σ a w F) {ow:Bool}:∀ (ps:List (PM×Ty)) {ss:List Slot} {fq:List Value} {K:(bB (ps.map (·.2))).den->List (Nat×Path)->Option R},kL P A σ a w ss fq->xY σ ow ps ss K=some x ->
  ∃ v ws,K v ws=some x/\mR P A σ a w F ow ps v ss fq ws:=by
 intro ps
 induction ps with
 | nil=>
  intro ss fq K hs hk
  cases ss with
  | nil=>
   cases fq with
   | nil=>exact ⟨(),[],hk,rfl,rfl,rfl⟩
   | cons _ _=>exact hs.elim
  | cons _ _=>cases hk
 | cons p ps ih=>
  intro ss fq K hs hk
  obtain ⟨pm,t⟩:=p
  cases ss with
  | nil=>cases hk
  | cons s ss=>
   cases fq with
   | nil=>exact hs.elim
   | cons tv fq=>
    simp only[xY] at hk
    obtain ⟨v,wp,h1,Y⟩:=I0 h hs.1 hk
    obtain ⟨vs,ws,h3,h4⟩:=ih hs.2 h1
    exact ⟨(v,vs),_,h3,s,ss,tv,fq,wp,ws,rfl,rfl,rfl,Y,h4⟩
theorem fN {ow:Bool} {A0:Cells} (hA:∀ b i,A b i->A0 b i) {r0:Nat} (hX:ow=true->∀ b i j,j < σ.n->j≠r0->1<=F j b i->A0 b i):∀ (ps:List (PM×Ty)) {v:(bB (ps.map (·.2))).den} {ss:List Slot} {fq:List Value},
  mR P A σ a w F ow ps v ss fq []->(∀ r ∈ ss.flatMap eh,r < σ.n->r≠r0)->(∀ ho,fK P w A0 ho ps v fq (λ_ _=>0))/\(∀ (σ':St) (K:St->Option R) (out:(bB (dh ps)).den),gX σ' ps [] out K=K σ'):=by
 intro ps
 induction ps with
 | nil=>intro v ss fq h hr;exact ⟨λ_=>h.2.1,λσ' K out=>rfl⟩
 | cons p ps ih=>
  intro v ss fq h hr
  obtain ⟨pm,t⟩:=p
  obtain ⟨s,u9,tv,jG,wp,lF,rfl,rfl,hw,dq,ff⟩:=h
  have fl:∀ b i,A b i->∀ u,ce w b i=some u->ce w b i=some u:=λ_ _ _ _ h=>h
  cases wp with
  | some y=>cases hw
  | none=>
   have hw:[]=lF:=hw
   subst hw
   obtain ⟨i1,i2⟩:=ih ff (λr hm=>hr r (by grind))
   cases pm with
   | ro=>
    obtain ⟨_,cs,h1,Y⟩:=dq
    refine ⟨λho=>⟨tv,jG,λ_ _=>0,λ_ _=>0,rfl,λ_ _=>Nat.le_refl _,⟨cs,h1,Ro.mono (λ_ _ _ _ h=>h) (λb i ha=>?_) t Y⟩,i1 ho⟩,λσ' K out=>i2 σ' K out⟩
    grind
   | fix f=>
    obtain ⟨_,⟨cs,h1,Y⟩,h3⟩:=dq
    exact ⟨λho=>⟨tv,jG,λ_ _=>0,λ_ _=>0,rfl,λ_ _=>Nat.le_refl _,⟨⟨cs,h1,Ro.mono (λ_ _ _ _ h=>h) hA t Y⟩,h3⟩,i1 ho⟩,λσ' K out=>i2 σ' K out⟩
   | dm m m'=>obtain ⟨r,p,snap,b,o,cs,_,e,_⟩:=dq;cases e
   | gV m=>obtain ⟨r,p,snap,b,o,cs,_,e,_⟩:=dq;cases e
   | eV m=>obtain ⟨r,p,snap,cs,ad,_,e,_⟩:=dq;cases e
   | fk m=>obtain ⟨H,r,p,snap,cs,ad,_,e,_⟩:=dq;cases e
theorem HQ {t:Ty} {cs aC:List Value} (h1:cs.length=t.sz) (Y:∀ x ∈ cs,x.oneCell'=true) (h3:aC.length=t.sz) (h4:∀ x ∈ aC,x.oneCell'=true) (h:aY t cs=aY t aC):cs=aC:=by
 grind [cV]
theorem Co {ow:Bool} {r:Nat} {p:Path}:∀ (ps:List (PM×Ty)) {v:(bB (ps.map (·.2))).den} {ss:List Slot} {fq:List Value},
  mR P A σ a w F ow ps v ss fq [(r,p)]->(ss.flatMap eh).count r<=1 ->
  1<=(ss.flatMap eh).count r/\∃ (rY gy rt:Bool) (t:Ty) (m:Md) (H:List Path) (v1:t.den) (cs:List Value) (ad:Option (Nat×Nat)),((rt=false->H=[])/\(rt=true->BR ps=true)/\(uF ps=true->rY=false)/\(ik ps=true->s9 t=true))/\At σ r p t m H v1/\place σ a w r p=some ⟨t,H,cs,ad⟩/\(gy=true->∃ b o,ad=some (b,o)) /\
   (ee ps=true->(t.flat||decide (m=aF t))=true/\t.fT=true) /\
   (∀ (A0:Cells) (F0 Fp:FP),(∀ b i,A b i->A0 b i)->(ow=true->∀ b i j,j < σ.n->j≠r->1<=F j b i->A0 b i)->ae P w A0 t m H v1 cs Fp ->
    (gy=true->∀ b o,ad=some (b,o)->Has w b o cs/\(∀ j,j < t.sz->w.frozen? ⟨b,o+j,none⟩=false)/\∀ b' i,bm b o t.sz b' i+Fp b' i<=F0 b' i)->(gy=false->∀ b i,Fp b i<=F0 b i)->∀ ho,(rt=true->ho H=true)->fK P w A0 ho ps v fq F0) /\
   (rt=true->rY=true/\gy=false/\∀ (σ':St) (K:St->Option R) (out:(bB (dh ps)).den),gX σ' ps [(r,p)] out K=nq σ' r p K) /\
   (rY=true->rt=false->∀ (σ':St) (K:St->Option R) (out:(bB (dh ps)).den),gX σ' ps [(r,p)] out K=match kh σ' r p t m t.zero (λ_=>some ()) with | some _=>K (σ'.put r .dead) | none=>none) /\
   (rY=false->∀ out:(bB (dh ps)).den,∃ (m2:Md) (o1:t.den),(ee ps=true->(t.flat||decide (m2=aF t))=true) /\
    (∀ (σ':St) (K:St->Option R),gX σ' ps [(r,p)] out K=kh σ' r p t m2 o1 λmn=>K (match gy with | true=>mn | false=>{ mn with vr:=(σ'.eb r (je (bc p+1))).vr,ax:=σ'.ax })) /\
    ∀ (w':World) (A':Cells) (GM:FP),fL P w' A' ps out fq GM->∃ aC F3,ae P w' A' t m2 [] o1 aC F3/\(∀ b i,F3 b i<=GM b i)/\(gy=true->∀ b o,ad=some (b,o)->Has w' b o aC/\∀ b' i,bm b o t.sz b' i+F3 b' i<=GM b' i) /\
     (gy=false->aY t aC=aY t cs)):=by
 intro ps
 induction ps with
 | nil=>intro v ss fq h hc;cases h.2.2
 | cons p0 ps ih=>
  intro v ss fq h hc
  obtain ⟨pm,t⟩:=p0
  obtain ⟨s,u9,tv,jG,wp,lF,rfl,rfl,hw,dq,ff⟩:=h
  simp only[List.flatMap_cons,List.count_append] at hc ⊢
  cases pm with
  | ro=>
   obtain ⟨mS,cs,h1,Y⟩:=dq
   subst mS
   have hw:[(r,p)]=lF:=hw
   subst hw
   obtain ⟨c1,rY,gy,rt,t1,m1,H1,v1,ge,tc,q0,q1,q2,q3,q4,q5,q8,q7,q6⟩:=ih ff (by omega)
   refine ⟨by omega,rY,gy,rt,t1,m1,H1,v1,ge,tc,⟨q0.1,q0.2.1,q0.2.2.1,λe=>q0.2.2.2 (by simp only[ik,Bool.and_eq_true] at e;exact e.2)⟩,q1,q2,q3,q4,λA0 F0 Fp J a2 a3 a4 a5 ho a6=>⟨tv,jG,λ_ _=>0,F0,rfl,λb i=>by simp,⟨cs,h1,Ro.mono (λ_ _ _ _ h=>h) (λb i ha=>?_) t Y⟩,q5 A0 F0 Fp J a2 a3 a4 a5 ho a6⟩,λhV=>⟨(q8 hV).1,(q8 hV).2.1,λσ' K out=>(q8 hV).2.2 σ' K out⟩,λhE hV σ' K out=>q7 hE hV σ' K out,λhE out=>q6 hE out⟩
   rcases ha with ha | ⟨lG,r',hm,aH,hp⟩
   ·exact J b i ha
   ·refine a2 lG b i r' aH (λe=>?_) hp
    subst e
    have:=List.count_pos_iff.2 hm
    omega
  | fix f=>
   obtain ⟨mS,⟨cs,h1,Y⟩,h3⟩:=dq
   subst mS
   have hw:[(r,p)]=lF:=hw
   subst hw
   obtain ⟨c1,rY,gy,rt,t1,m1,H1,v1,ge,tc,q0,q1,q2,q3,q4,q5,q8,q7,q6⟩:=ih ff (by omega)
   exact ⟨by omega,rY,gy,rt,t1,m1,H1,v1,ge,tc,⟨q0.1,q0.2.1,q0.2.2.1,λe=>q0.2.2.2 (by simp only[ik] at e;exact e)⟩,q1,q2,q3,q4,λA0 F0 Fp J a2 a3 a4 a5 ho a6=>⟨tv,jG,λ_ _=>0,F0,rfl,λb i=>by simp,⟨⟨cs,h1,Ro.mono (λ_ _ _ _ h=>h) J t Y⟩,h3⟩,q5 A0 F0 Fp J a2 a3 a4 a5 ho a6⟩,λhV=>⟨(q8 hV).1,(q8 hV).2.1,λσ' K out=>(q8 hV).2.2 σ' K out⟩,λhE hV σ' K out=>q7 hE hV σ' K out,λhE out=>q6 hE out⟩
  | gV m=>
   obtain ⟨r1,p1,snap,b,o,cs,rfl,mS,iq,ou,cI⟩:=dq
   subst mS
   have hw:[(r,p)]=(r1,p1)::lF:=hw
   injection hw with oE rZ
   injection oE with oE zd
   subst oE;subst rZ;subst zd
   have va:(eh (.ptr r p snap)).count r=1:=by simp[eh]
   obtain ⟨n1,n2⟩:=fN (R:=R) (P:=P) (A0:=λb i=>True) (λ_ _ _=>trivial) (r0:=r) (λ_ _ _ _ _ _ _=>trivial) ps ff (λr' hm _ e=>by subst e;have:=List.count_pos_iff.2 hm;omega)
   refine ⟨by omega,true,true,false,t,m,[],v.1,cs,some (b,o),⟨λ_=>rfl,(λe=>by cases e),(λe=>absurd e (by simp[uF])),λe=>absurd e (by simp[ik])⟩,iq,cI,λ_=>⟨b,o,rfl⟩,λho=>?_,λA0 F0 Fp J a2 a3 a4 a5 ho _=>?_,(λe=>by cases e),λ_ _ σ' K out=>?_,λe=>by cases e⟩
   ·simp only[ee,Bool.and_eq_true] at ho;exact ho.1
   ·obtain ⟨b1,b2,b3⟩:=a4 rfl b o rfl
    obtain ⟨k1,_⟩:=fN (R:=R) (P:=P) J (r0:=r) a2 ps ff (λr' hm _ e=>by subst e;have:=List.count_pos_iff.2 hm;omega)
    exact ⟨tv,jG,F0,λ_ _=>0,rfl,λb i=>Nat.le_refl _,⟨b,o,cs,Fp,ou,ae.length _ a3,b1,b2,b3,a3⟩,k1 ho⟩
   ·show (match kh σ' r p t m t.zero (λ_=>some ()) with | some _=>gX (σ'.put r .dead) ps [] out K | none=>none)=_
    split
    ·exact n2 _ K out
    ·rfl
  | dm m m'=>
   obtain ⟨r1,p1,snap,b,o,cs,rfl,mS,iq,ou,cI⟩:=dq
   subst mS
   have hw:[(r,p)]=(r1,p1)::lF:=hw
   injection hw with oE rZ
   injection oE with oE zd
   subst oE;subst rZ;subst zd
   have va:(eh (.ptr r p snap)).count r=1:=by simp[eh]
   obtain ⟨n1,n2⟩:=fN (R:=R) (P:=P) (A0:=λb i=>True) (λ_ _ _=>trivial) (r0:=r) (λ_ _ _ _ _ _ _=>trivial) ps ff (λr' hm _ e=>by subst e;have:=List.count_pos_iff.2 hm;omega)
   refine ⟨by omega,false,true,false,t,m,[],v.1,cs,some (b,o),⟨λ_=>rfl,(λe=>by cases e),(λ_=>rfl),λe=>by simp only[ik,Bool.and_eq_true] at e;exact e.1⟩,iq,cI,λ_=>⟨b,o,rfl⟩,λho=>?_,λA0 F0 Fp J a2 a3 a4 a5 ho _=>?_,(λe=>by cases e),(λe=>by cases e),λ_ out=>⟨m',out.1,λho=>?_,λσ' K=>?_,λw' A' GM hm=>?_⟩⟩
   ·simp only[ee,Bool.and_eq_true] at ho;exact ho.1
   ·obtain ⟨b1,b2,b3⟩:=a4 rfl b o rfl
    obtain ⟨k1,_⟩:=fN (R:=R) (P:=P) J (r0:=r) a2 ps ff (λr' hm _ e=>by subst e;have:=List.count_pos_iff.2 hm;omega)
    exact ⟨tv,jG,F0,λ_ _=>0,rfl,λb i=>Nat.le_refl _,⟨b,o,cs,Fp,ou,ae.length _ a3,b1,b2,b3,a3⟩,k1 ho⟩
   ·simp only[ee,Bool.and_eq_true] at ho;exact ho.2.1
   ·show kh σ' r p t m' out.1 (λσ=>gX σ ps [] out.2 K)=_
    congr 1
    funext mn
    exact n2 mn K out.2
   ·obtain ⟨F1,F2,h1,⟨b',o',L,F3,Y,h3,h4,h5,h6⟩,h7⟩:=hm
    simp only[List.head?_cons,Option.some.injEq,ou,Value.pointer.injEq,Addr.mk.injEq,and_true] at Y
    obtain ⟨rfl,rfl⟩:=Y
    refine ⟨L,F3,h6,λb' i=>by have:=h5 b' i;have:=h1 b' i;omega,λ_ b2 o2 e=>?_,λe=>by cases e⟩
    simp only[Option.some.injEq,Prod.mk.injEq] at e
    obtain ⟨rfl,rfl⟩:=e
    exact ⟨h4,λb' i=>by have:=h5 b' i;have:=h1 b' i;omega⟩
  | eV m=>
   obtain ⟨r1,p1,snap,cs,ad,rfl,mS,iq,ou,cI⟩:=dq
   subst mS
   have hw:[(r,p)]=(r1,p1)::lF:=hw
   injection hw with oE rZ
   injection oE with oE zd
   subst oE;subst rZ;subst zd
   have va:(eh (.ref r p snap)).count r=1:=by simp[eh]
   obtain ⟨n1,n2⟩:=fN (R:=R) (P:=P) (A0:=λb i=>True) (λ_ _ _=>trivial) (r0:=r) (λ_ _ _ _ _ _ _=>trivial) ps ff (λr' hm _ e=>by subst e;have:=List.count_pos_iff.2 hm;omega)
   refine ⟨by omega,false,false,false,t,m,[],v.1,cs,ad,⟨λ_=>rfl,(λe=>by cases e),(λ_=>rfl),λe=>absurd e (by simp[ik])⟩,iq,cI,(λe=>by cases e),λho=>?_,λA0 F0 Fp J a2 a3 a4 a5 ho _=>?_,(λe=>by cases e),(λe=>by cases e),λ_ out=>⟨m,out.1,λho=>?_,λσ' K=>?_,λw' A' GM hm=>?_⟩⟩
   ·simp only[ee,Bool.and_eq_true] at ho;exact ho.1
   ·obtain ⟨k1,_⟩:=fN (R:=R) (P:=P) J (r0:=r) a2 ps ff (λr' hm _ e=>by subst e;have:=List.count_pos_iff.2 hm;omega)
    exact ⟨tv,jG,F0,λ_ _=>0,rfl,λb i=>Nat.le_refl _,⟨cs,ou,a3.le (a5 rfl)⟩,k1 ho⟩
   ·simp only[ee,Bool.and_eq_true] at ho;exact ho.1.1
   ·show kh σ' r p t m out.1 (λmn=>gX { mn with vr:=(σ'.eb r (je (bc p+1))).vr,ax:=σ'.ax } ps [] out.2 K)=_
    congr 1
    funext mn
    exact n2 _ K out.2
   ·obtain ⟨F1,F2,h1,⟨aC,Y,h3⟩,h7⟩:=hm
    simp only[List.head?_cons,Option.some.injEq,ou] at Y
    exact ⟨aC,F1,h3,λb' i=>by have:=h1 b' i;omega,(λe=>by cases e),λ_=>Y.symm⟩
  | fk m=>
   obtain ⟨H,r1,p1,snap,cs,ad,rfl,mS,iq,ou,cI⟩:=dq
   subst mS
   have hw:[(r,p)]=(r1,p1)::lF:=hw
   injection hw with oE rZ
   injection oE with oE zd
   subst oE;subst rZ;subst zd
   have va:(eh (.ref r p snap)).count r=1:=by simp[eh]
   obtain ⟨n1,n2⟩:=fN (R:=R) (P:=P) (A0:=λb i=>True) (λ_ _ _=>trivial) (r0:=r) (λ_ _ _ _ _ _ _=>trivial) ps ff (λr' hm _ e=>by subst e;have:=List.count_pos_iff.2 hm;omega)
   refine ⟨by omega,true,false,true,t,m,H,v.1,cs,ad,⟨λe=>(by cases e),(λ_=>rfl),(λe=>absurd e (by simp[uF])),λe=>absurd e (by simp[ik])⟩,iq,cI,(λe=>by cases e),λho=>?_,λA0 F0 Fp J a2 a3 a4 a5 ho a6=>?_,λ_=>⟨rfl,rfl,λσ' K out=>?_⟩,(λ_ e=>by cases e),λe=>by cases e⟩
   ·simp only[ee,Bool.and_eq_true] at ho;exact ho.1
   ·obtain ⟨k1,_⟩:=fN (R:=R) (P:=P) J (r0:=r) a2 ps ff (λr' hm _ e=>by subst e;have:=List.count_pos_iff.2 hm;omega)
    exact ⟨tv,jG,F0,λ_ _=>0,rfl,λb i=>Nat.le_refl _,⟨H,cs,a6 rfl,ou,a3.le (a5 rfl)⟩,k1 ho⟩
   ·show nq σ' r p (λmn=>gX mn ps [] out K)=_
    congr 1
    funext mn
    exact n2 _ K out
def ze:Option Value->Bool
 | some (.int .u8 _)=>false
 | none=>false
 | _=>true
def tY (w:World) (F:Nat->FP):Nat->FP:=λj b i=>if ze (ce w b i) then F j b i else 0
theorem HR (w:World) (F:Nat->FP) (j b i:Nat):tY w F j b i<=F j b i:=by
 unfold tY
 split
 ·exact Nat.le_refl _
 ·exact Nat.zero_le _
theorem E5 {w:World} {F:Nat->FP} {j b i:Nat} (h:1<=tY w F j b i):ze (ce w b i)=true:=by
 unfold tY at h
 split at h
 ·assumption
 ·omega
theorem Ro.nb:∀ (t:Ty) {v:t.den} {cs:List Value},rm t=true->Ro P w A t v cs->(∀ u ∈ cs,ze (some u)=true)/\Ro P w (λb i=>A b i/\ze (ce w b i)=true) t v cs:=by
 intro t
 induction t with
 | int k=>
  intro v cs hn h
  have h:cs=[.int k (fy k v)]:=h
  refine ⟨λu hu=>?_,h⟩
  rw[h,List.mem_singleton] at hu
  subst hu
  cases k <;> first | rfl | (simp[rm] at hn)
 | bool=>
  intro v cs hn h
  have h:cs=[.bool v]:=h
  exact ⟨λu hu=>by rw[h,List.mem_singleton] at hu;subst hu;rfl,h⟩
 | str=>
  intro v cs hn h
  have h:cs=[.string ⟨List.toArray v⟩]:=h
  exact ⟨λu hu=>by rw[h,List.mem_singleton] at hu;subst hu;rfl,h⟩
 | unit=>
  intro v cs hn h
  have h:cs=[]:=h
  exact ⟨λu hu=>(by rw[h] at hu;cases hu),h⟩
 | pair a b d_ dT=>
  intro v cs hn h
  simp only[rm,Bool.and_eq_true] at hn
  obtain ⟨h1,Y⟩:=h
  obtain ⟨J,a2⟩:=d_ hn.1 h1
  obtain ⟨b1,b2⟩:=dT hn.2 Y
  refine ⟨λu hu=>?_,a2,b2⟩
  rw[<-List.take_append_drop a.sz cs] at hu
  rcases List.mem_append.1 hu with g | g
  ·exact J u g
  ·exact b1 u g
 | arr n e ih=>
  intro v cs hn h
  simp only[rm] at hn
  obtain ⟨h1,Y,h3,h4⟩:=h
  refine ⟨λu hu=>?_,h1,Y,h3,λi x hx=>(ih hn (h4 i x hx)).2⟩
  obtain ⟨q,hq,rfl⟩:=List.getElem_of_mem hu
  have hs:0 < e.sz:=by
   rcases Nat.eq_zero_or_pos e.sz with h0 | h0
   ·rw[h0,Nat.mul_zero] at h3;omega
   ·exact h0
  have hi:q / e.sz < n:=by rw[Nat.div_lt_iff_lt_mul hs];omega
  have hx:=h4 (q / e.sz) (v[q / e.sz]'(by omega)) (List.getElem?_eq_getElem (by omega))
  refine (ih hn hx).1 _ ?_
  have hm:=Nat.mod_lt q hs
  have he:q / e.sz*e.sz+q % e.sz=q:=Nat.div_add_mod' q e.sz
  refine List.mem_iff_getElem?.2 ⟨q % e.sz,?_⟩
  rw[List.getElem?_take,if_pos hm,List.getElem?_drop,he,List.getElem?_eq_getElem hq]
 | af e ih=>
  intro v cs hn h
  simp only[rm] at hn
  obtain ⟨a,cap,h1,Y,h3,h4⟩:=h
  refine ⟨λu hu=>by rw[h1,List.mem_singleton] at hu;subst hu;rfl,a,cap,h1,Y,h3,λad cR=>⟨(h4 ad cR).1,λi x hx=>?_⟩⟩
  obtain ⟨L,l1,l2,l3⟩:=(h4 ad cR).2 i x hx
  obtain ⟨g1,g2⟩:=ih hn l3
  exact ⟨L,l1,λj u hu=>⟨(l2 j u hu).1,(l2 j u hu).2,by rw[(l2 j u hu).1];exact g1 u (List.mem_of_getElem? hu)⟩,g2⟩
 | ptr e ih=>
  intro v cs hn h
  simp only[rm] at hn
  obtain ⟨ad,h1,Y,L,l1,l2,l3⟩:=h
  obtain ⟨g1,g2⟩:=ih hn l3
  exact ⟨λu hu=>by rw[h1,List.mem_singleton] at hu;subst hu;rfl,ad,h1,Y,L,l1,λj u hu=>⟨(l2 j u hu).1,(l2 j u hu).2,by rw[(l2 j u hu).1];exact g1 u (List.mem_of_getElem? hu)⟩,g2⟩
 | fn=>intro v cs hn h;simp[rm] at hn
 | map k v _ _=>intro v cs hn h;simp[rm] at hn
theorem ny {ow:Bool}:∀ (ps:List (PM×Ty)) {v:(bB (ps.map (·.2))).den} {ss:List Slot} {fq:List Value} {ws:List (Nat×Path)},ik ps=true->mR P A σ a w F ow ps v ss fq ws->mR P A σ a w (tY w F) ow ps v ss fq ws
 | [],_,_,_,_,_,h=>h
 | (pm,t)::ps,v,_,_,_,hu,h=>by
  obtain ⟨s,u9,tv,jG,wp,lF,e1,e2,hw,dq,ff⟩:=h
  cases pm with
  | ro=>
   simp only[ik,Bool.and_eq_true,Bool.or_eq_true] at hu
   refine ⟨s,u9,tv,jG,wp,lF,e1,e2,hw,?_,ny ps hu.2 ff⟩
   obtain ⟨mS,cs,h1,Y⟩:=dq
   refine ⟨mS,cs,h1,?_⟩
   rcases hu.1 with ⟨f1,f2⟩ | hn
   ·exact Ro.indep t f1 f2 Y
   ·refine Ro.mono (λ_ _ _ _ h=>h) (λb i ha=>?_) t (Ro.nb t hn Y).2
    obtain ⟨g | ⟨lG,r,g1,g2,g3⟩,hb⟩:=ha
    ·exact .inl g
    ·refine .inr ⟨lG,r,g1,g2,?_⟩
     unfold tY
     rw[if_pos hb]
     exact g3
  | fix f=>
   simp only[ik] at hu
   exact ⟨s,u9,tv,jG,wp,lF,e1,e2,hw,dq,ny ps hu ff⟩
  | dm m m'=>
   simp only[ik,Bool.and_eq_true] at hu
   exact ⟨s,u9,tv,jG,wp,lF,e1,e2,hw,dq,ny ps hu.2 ff⟩
  | eV m=>simp[ik] at hu
  | gV m=>simp[ik] at hu
  | fk m=>simp[ik] at hu
theorem ph:∀ (ps:List (PM×Ty)),ik ps=true->uF ps=true
 | [],_=>rfl
 | (pm,t)::ps,h=>by
  cases pm with
  | ro=>simp only[ik,Bool.and_eq_true] at h;exact ph ps h.2
  | fix f=>simp only[ik] at h;exact ph ps h
  | dm m m'=>simp only[ik,Bool.and_eq_true] at h;exact ph ps h.2
  | eV m=>simp[ik] at h
  | gV m=>simp[ik] at h
  | fk m=>simp[ik] at h
theorem ae.u8 {A2:Cells} (hA:∀ b i n,A b i->ce w b i=some (.int .u8 n)->A2 b i):∀ (t:Ty) {m:Md} {H:List Path} {v:t.den} {cs:List Value} {G:FP},s9 t=true->ae P w A t m H v cs G->ae P w A2 t m H v cs G:=by
 intro t
 induction t with
 | pair a b d_ dT=>
  intro m H v cs G hu h
  simp only[s9,Bool.and_eq_true] at hu
  obtain ⟨h0,F1,F2,h1,Y,h3⟩:=h
  exact ⟨h0,F1,F2,h1,d_ hu.1 Y,dT hu.2 h3⟩
 | af e _=>
  intro m H v cs G hu h
  unfold s9 at hu
  split at hu
  ·rename_i heq;cases heq
  ·rename_i heq
   injection heq with heq
   subst heq
   simp only[ae] at h ⊢
   split
   ·rename_i hh;rw[if_pos hh] at h;exact h
   ·rename_i hh
    rw[if_neg hh] at h
    split
    ·rename_i hm;rw[if_pos hm] at h;exact h
    ·rename_i hm
     rw[if_neg hm] at h
     obtain ⟨h1,Y,a,cap,h3,h4,h5,h6⟩:=h
     refine ⟨h1,Y,a,cap,h3,h4,h5,λad cR=>⟨(h6 ad cR).1,λi x hx=>?_⟩⟩
     obtain ⟨L,l1,l2,l3⟩:=(h6 ad cR).2 i x hx
     refine ⟨L,l1,λj u hu=>⟨(l2 j u hu).1,hA _ _ (fy .u8 x) (l2 j u hu).2 ?_⟩,l3⟩
     have l3:L=[.int .u8 (fy .u8 x)]:=l3
     rw[(l2 j u hu).1]
     rw[l3] at hu
     cases j with
     | zero=>injection hu with hu;rw[hu]
     | succ j=>cases hu
  ·rename_i OS K_
   simp[Ty.flat] at hu
 | int k=>intro m H v cs G _ h;exact h
 | bool=>intro m H v cs G _ h;exact h
 | str=>intro m H v cs G _ h;exact h
 | unit=>intro m H v cs G _ h;exact h
 | arr n e _=>
  intro m H v cs G hu h
  have hu:((Ty.arr n e).flat&&(Ty.arr n e).fT)=true:=hu
  simp only[Bool.and_eq_true] at hu
  obtain ⟨h1,Y⟩:=h
  exact ⟨h1,Ro.indep _ hu.1 hu.2 Y⟩
 | ptr e _=>intro m H v cs G hu h;simp[s9,Ty.flat] at hu
 | fn=>intro m H v cs G hu h;simp[s9,Ty.fT] at hu
 | map k v _ _=>intro m H v cs G hu h;simp[s9,Ty.flat] at hu
theorem pZ {rs:List uB} {rv:Value} {G:FP} (h:e_ P w A rs rv G):aQ P A σ a w rv (jS rs) G/\∀ t m H v,jS rs=.box t m H v->∃ b,rv=.pointer (some ⟨b,0,none⟩)/\cf w b (t.sz,false):=by
 match rs,h with
 | [],_=>exact ⟨trivial,λ_ _ _ _ e=>by cases e⟩
 | [x],h=>
  obtain ⟨cs,rfl,Y⟩:=h
  exact sR Y
 | x::y::rs,h=>
  obtain ⟨vs,Fi,h1,Y,h3⟩:=h
  exact ⟨⟨vs,Fi,h1,Y,λj z hz=>by
   obtain ⟨v,cs,g1,g2,g3⟩:=h3 j z hz
   exact ⟨v,g1,.inr ⟨cs,g2,g3⟩⟩⟩,λ_ _ _ _ e=>by cases e⟩
theorem e_.free {A':Cells}:∀ {rs:List uB} {rv:Value} {G:FP},(∀ x ∈ rs,(x.t.flat||decide (x.m=aF x.t))=true/\x.t.fT=true)->e_ P w A rs rv G->e_ P w A' rs rv G
 | [],_,_,_,_=>trivial
 | [x],_,_,ho,⟨cs,h1,Y⟩=>⟨cs,h1,ae.free (ho x (by simp)).1 (ho x (by simp)).2 Y⟩
 | x::y::rs,_,_,ho,⟨vs,Fi,h1,Y,h3⟩=>⟨vs,Fi,h1,Y,λj z hz=>by
  grind [ae.free]⟩
theorem kX:∀ (rs:List (Ty×Md)) {ts:List Ty} (out:(bB (rs.map (·.1)++ts)).den),lk rs=true->∀ x ∈ (di rs out).1,(x.t.flat||decide (x.m=aF x.t))=true/\x.t.fT=true
 | [],_,_,_=>λx hx=>by cases hx
 | (t,m)::rs,_,out,h=>λx hx=>by
  simp only[lk,Bool.and_eq_true] at h
  simp only[di,List.mem_cons] at hx
  rcases hx with rfl | hx
  ·exact h.1
  ·exact kX rs out.2 h.2 x hx
theorem e_.mono {A':Cells} (hA:∀ b i,A b i->A' b i):∀ {rs:List uB} {rv:Value} {G:FP},e_ P w A rs rv G->e_ P w A' rs rv G
 | [],_,_,_=>trivial
 | [x],_,_,⟨cs,h1,Y⟩=>⟨cs,h1,ae.mono hA (λ_ _ _ _ h=>h) (λ_ _ h=>h) _ Y (λ_ _=>Nat.le_refl _) (λ_ _ _ _ h=>h)⟩
 | x::y::rs,_,_,⟨vs,Fi,h1,Y,h3⟩=>⟨vs,Fi,h1,Y,λj z hz=>by
  obtain ⟨v,cs,g1,g2,g3⟩:=h3 j z hz
  exact ⟨v,cs,g1,g2,ae.mono hA (λ_ _ _ _ h=>h) (λ_ _ h=>h) _ g3 (λ_ _=>Nat.le_refl _) (λ_ _ _ _ h=>h)⟩⟩
end
end OT
