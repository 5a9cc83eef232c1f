/- The proof's parts, merged: Operations, first part.. No conditions but those that each states. -/
import Derived.Test.YteljaioipnoakaaDoorVa
import Derived.Laws.Slices
import Derived.Laws.Concat
import Derived.Laws.StructEq
import Derived.Laws.Cover3
import Derived.ChangeKeysEq
import Derived.Laws.MakeOwn
import Derived.Laws.IdiomStrings
import Derived.Laws.BytesArg
import Derived.Laws.Tables
import Derived.Great.BuildSlice
import Derived.Deep.AppendSrc
set_option linter.unusedVariables false
set_option linter.unusedSimpArgs false
namespace OT
open Go
section
variable {P:Program} {C:Ctx} {A:Cells} {X:FP} {σ:St} {a:Act} {w:World} {F:Nat->FP} {R:Type} {x:R} {Q:Exit->Act->World->Prop} {o:Oper} {E:Env}
def Nx (P:Program) (C:Ctx) {R:Type} (K:St->Option R) (x:R) (a:Act) (w:World):Prop:=∃ σ',K σ'=some x/\RelE P C σ' a w
abbrev Rel0 (P:Program) (C:Ctx) (A:Cells) (σ:St) (a:Act) (w:World) (F:Nat->FP):Prop:=Rel P C A (fun _ _=>0) σ a w F
theorem wp_val {v:Value} {w':World} {next:Act->World->Prop} (hrun:(execOp a.eval o).run P w=.ok (.value v) w') (hn:next (a.put o.dst v) w'):o.wp P a w next Q:=by
 unfold Oper.wp;rw[hrun];exact hn
theorem wp_skip' {w':World} {next:Act->World->Prop} (hrun:(execOp a.eval o).run P w=.ok .skip w') (hd:o.dst=none) (hn:next a w'):o.wp P a w next Q:=by
 unfold Oper.wp;rw[hrun,Oper.upon,hd];exact hn
def reads:Op->Bool
 | .load .. | .convert ..=>true
 | _=>false
def Same (o:Oper) (w w':World):Prop:=reads o.op=true->Ext w w' (fun _ _=>0)
theorem Same.ext {o:Oper} {w w':World} (h:Same o w w') (hr:reads o.op=true):Ext w w' (fun _ _=>0):=h hr
def Tk (P:Program) (o:Oper) (a:Act) (w:World) (next:Act->World->Prop):Prop:=
 ∃ v,(∀ w',Same o w w'->(execOp a.eval o).run P w'=.ok (.value v) w')/\next (a.put o.dst v) w
theorem tk_val {v:Value} {next:Act->World->Prop} (hrun:∀ w',Same o w w'->(execOp a.eval o).run P w'=.ok (.value v) w') (hn:next (a.put o.dst v) w):Tk P o a w next:=⟨v,hrun,hn⟩
theorem Tk.wp {next:Act->World->Prop} (h:Tk P o a w next):o.wp P a w next Q:=by
 obtain ⟨v,h1,h2⟩:=h
 exact wp_val (h1 w fun _=>Ext.refl _ _) h2
theorem ce_lt {b i:Nat} {u:Value} (h:ce w b i=some u):b < w.heap.size:=by
 grind [ce,World.cell?]
theorem Has.ext {b o:Nat} {L:List Value} {w':World} (h:Has w b o L) (hw:Ext w w' (fun _ _=>0)):Has w' b o L:=fun j u hu=>hw.cell b (o+j) (ce_lt (h j u hu)) rfl u (h j u hu)
theorem fin_val (h:Rel P C A X σ a w F) {K:St->Option R} {d:Option Tmp} {s:Slot} {v:Value} {Fd:FP} (hk:K (σ.putD d s)=some x) (hs:SlotRel P A σ a w v s Fd) (ht:∀ b i,Fd b i<=X b i)
  (hwh:∀ t m H v',s=.box t m H v'->∃ b,v=.pointer (some ⟨b,0,none⟩)/\OwnBlk w b (t.sz,false)):Nx P C K x (a.put d v) w:=by
 obtain ⟨F',hF⟩:=h.putD d (X':=fun _ _=>0) hs (fun b i=>by grind) hwh
 exact ⟨_,hk,A,F',hF⟩
theorem fin_flat (h:Rel P C A X σ a w F) {K:St->Option R} {d:Option Tmp} {s:Slot} {v:Value} (hk:K (σ.putD d s)=some x) (hs:SlotRel P A σ a w v s (fun _ _=>0))
  (hb:∀ t m H v',s≠.box t m H v'):Nx P C K x (a.put d v) w:=
 fin_val h hk hs (fun _ _=>Nat.zero_le _) (fun t m H v' e=>absurd e (hb t m H v'))
theorem fin_laid (h:Rel P C A X σ a w F) {K:St->Option R} {d:Option Tmp} {t:Ty} {m:Md} {v:t.den} {cs:List Value} {Fd:FP} (hk:K (σ.putD d (laid t m v))=some x) (hr:Rep P w A t m [] v cs Fd) (ht:∀ b i,Fd b i<=X b i) :
  Nx P C K x (a.put d (mkV t cs)) w:=
 fin_val h hk (laid_ok (σ:=σ) (a:=a) hr).1 ht (laid_ok (σ:=σ) (a:=a) hr).2
theorem tiK_some {t:Nat} {K:Ty->Option R} (h:tiK E t K=some x):∃ T,E.TI t=some T/\K T=some x:=by
 grind [tiK]
theorem boolK_some {s:Slot} {K:Bool->Option R} {tv:Value} {G:FP} (hs:SlotRel P A σ a w tv s G) (h:boolK s K=some x):∃ b,tv=.bool b/\K b=some x:=by
 unfold boolK at h
 split at h
 ·rename_i b;obtain ⟨cs,h1,h2⟩:=hs;simp only[Ro] at h2;subst h2;exact ⟨b,by rw[h1];rfl,h⟩
 ·cases h
theorem intK_some {s:Slot} {K:Int->Option R} {tv:Value} {G:FP} (hs:SlotRel P A σ a w tv s G) (h:intK s K=some x):∃ k n,tv=.int k n/\K n=some x:=by
 unfold intK at h
 split at h
 ·rename_i k n;obtain ⟨cs,h1,h2⟩:=hs;simp only[Ro] at h2;subst h2;exact ⟨k,_,by rw[h1];rfl,h⟩
 ·cases h
theorem refRel_new (h:Rel P C A X σ a w F) {r:Nat} {p:Path} {pl:Pl} (hp:place σ a w r p=some pl):RefRel σ a w (mkV pl.t pl.cs) r p (snapRef σ r p pl.t):=by
 have h5:=h.vlen r
 refine ⟨?_,fun _=>⟨_,hp,rfl,?_⟩⟩
 ·unfold snapRef
  split
  ·intro j y hj;grind
  ·intro j y hj;grind
  ·exact Below.refl _
 ·unfold snapRef
  split
  ·rename_i e he;left;exact ⟨by rw[he];rfl,by grind⟩
  ·rename_i k v he;left;exact ⟨by rw[he];rfl,by grind⟩
  grind
theorem opd_nobox (σ:St) (y:Operand) (t:Ty) (m:Md) (H:List Path) (v:t.den):opd σ y≠.box t m H v:=by
 intro e
 cases y with
 | tmp i=>grind [opd]
 | const v=>simp only[opd] at e;unfold constSlot at e;grind
 | func f=>cases e
 | global g=>cases e
theorem take_move (h:Rel0 P C A σ a w F) {y:Operand} (ho:o.op=.move y) (hok:opdOk P y=true) {K:St->Option R} (hk:moveK σ y o.dst K=some x):Tk P o a w (Nx P C K x):=by
 refine tk_val (v:=a.eval y) (by simp[execOp,ho]) ?_
 unfold moveK at hk
 have hs:=opd_ok h hok
 split at hk
 ·rename_i xs i hx
  have hi:i < σ.n:=by
   grind [opd,get_out]
  have hg:σ.get i=.tup xs:=by
   grind [opd]
  have hsl:=h.slots i hi
  rw[hg] at hsl
  have h2:=h.put hi (s:=.dead) (v:=tmp a i) (Fd:=fun _ _=>0) (X':=fun b k=>F i b k) trivial (fun b k=>by omega) (fun t m H v e=>by cases e)
  rw[put_same] at h2
  refine fin_val h2 hk (Fd:=F i) ?_ (fun b i=>Nat.le_refl _) (fun t m H v e=>by cases e)
  obtain ⟨vs,Fi,h3,h4,h5⟩:=hsl
  exact ⟨vs,Fi,h3,h4,h5⟩
 all_goals grind [fin_flat,opd_nobox]
theorem take_pick (h:Rel0 P C A σ a w F) {c y z:Operand} (ho:o.op=.pick c y z) (hok:opdOk P c=true/\opdOk P y=true/\opdOk P z=true) {K:St->Option R}
  (hk:(boolK (opd σ c) fun c=>match opd σ (bif c then y else z) with
   | .val .bool b=>K (σ.putD o.dst (.val .bool b))
   | _=>none)=some x):Tk P o a w (Nx P C K x):=by
 have hc:=opd_ok h hok.1
 rcases hc with hc | ⟨xs,e⟩
 ·obtain ⟨b,hb,hk⟩:=boolK_some hc hk
  have hside:∀ y':Operand,opdOk P y'=true->(match opd σ y' with
   | .val .bool b=>K (σ.putD o.dst (.val .bool b))
   | _=>none)=some x->Nx P C K x (a.put o.dst (a.eval y')) w:=fun y' hy hk=>by
   grind [opd_ok,fin_flat]
  cases b <;> simp_all [tk_val,execOp,asBool]
 ·rw[e] at hk;cases hk
theorem take_load (h:Rel0 P C A σ a w F) (hti:∀ i T,E.TI i=some T->layB P T (.inl i)=true) {t:Nat} {y:Operand} (ho:o.op=.load t y) (hok:opdOk P y=true) {K:St->Option R}
  {mv:Bool} (hk:loadK E σ t (opd σ y) mv o.dst K=some x):Tk P o a w (Nx P C K x):=by
 unfold loadK at hk
 obtain ⟨T,hT,hk⟩:=tiK_some hk
 have hlay:=hti _ _ hT
 have run:∀ b off L,a.eval y=.pointer (some ⟨b,off,none⟩)->Has w b off L->L.length=T.sz->(∀ u ∈ L,u.oneCell'=true)->∀ w',Same o w w'->(execOp a.eval o).run P w'=.ok (.value (mkV T L)) w':=fun b off L hy hL hl hone w' hw'=>by
  have hw':=hw' (by rw[ho];rfl)
  simp[execOp,ho,hy,Instr.loadAt,Instr.sureAddr,run_loadVar hlay (hL.ext hw') hl hone]
 rcases opd_ok h hok with hs | ⟨xs,e⟩
 rotate_left
 ·grind
 split at hk
 ·rename_i t' v hv
  rw[hv] at hs
  split at hk
  ·rename_i e;subst e
   obtain ⟨⟨b,off,sp⟩,h1,h2,L,h3,h4,h5⟩:=hs
   simp only[List.cons.injEq,and_true] at h1
   simp only at h2;subst h2
   exact tk_val (run b off L h1 (fun j u hu=>(h4 j u hu).1) h3 (Ro.one _ h5)) (fin_flat h hk ⟨L,rfl,h5⟩ (fun _ _ _ _ e=>by cases e))
  ·cases hk
 ·rename_i r p snap hv
  rw[hv] at hs
  split at hk
  ·rename_i hsn
   obtain ⟨hr,t',m',H',v',cs',ad',F',h1,h2,h3,h4,h5,h6⟩:=at_ok h hk
   obtain ⟨pl,b,off,g1,g2,g3,g4⟩:=hs.2 hsn
   rw[h3] at g1
   injection g1 with g1
   subst g1
   simp only at g2
   subst g2
   split at h1
   ·rename_i e;subst e
    refine tk_val (run b off cs' g3 (h6 b off rfl) (Rep.length _ h4) (Rep.one _ h4)) ?_
    split at h1
    ·rename_i hf
     split at h1
     ·exact fin_flat h h1 ⟨cs',rfl,Rep.flat _ hf h4⟩ (fun _ _ _ _ e=>by cases e)
     ·cases h1
    ·split at h1
     ·rename_i hm
      split at h1
      ·rename_i hH
       have hH:=List.isEmpty_iff.1 hH;subst hH;subst hm
       cases mv with
       | false=>exact fin_flat h h1 ⟨cs',rfl,Rep.ro _ (roMd_noOwn _) h4⟩ (fun _ _ _ _ e=>by cases e)
       | true=>exact fin_flat h h1 (refRel_new h h3) (fun _ _ _ _ e=>by cases e)
      ·cases h1
     ·cases mv with
      | false=>exact fin_flat h h1 (refRel_new h h3) (fun _ _ _ _ e=>by cases e)
      | true=>
       simp only at h1
       split at h1
       ·rename_i hH
        have hH:=List.isEmpty_iff.1 hH;subst hH
        obtain ⟨A2,σ2,F2,cs2,ad2,Fv,k1,k2,k3,k4,k5,k6,k7⟩:=take_ok h h1 ⟨h2⟩
        rw[h3] at k6
        simp only[Option.some.injEq,Pl.mk.injEq,true_and] at k6
        obtain ⟨rfl,rfl⟩:=k6
        have hl:=laid_ok (σ:=σ2) (a:=a) (Rep.mono k2 (fun _ _ _ _ h=>h) (fun _ _ h=>h) _ k7 (fun _ _=>Nat.le_refl _) (fun _ _ _ _ h=>h))
        exact fin_val k3 k1 hl.1 (fun b i=>by omega) hl.2
       ·cases h1
   ·cases h1
  ·cases hk
 ·cases hk
theorem take_loadF (h:Rel0 P C A σ a w F) (hti:∀ i T,E.TI i=some T->layB P T (.inl i)=true) {t:Nat} {y:Operand} (ho:o.op=.load t y) (hok:opdOk P y=true) {K:St->Option R}
  {mv fr:Bool} (hk:loadF E σ t y mv fr o.dst K=some x):Tk P o a w (Nx P C K x):=by
 unfold loadF at hk
 grind [take_load,freeze_ok]
theorem ce_setCell {b o b' i:Nat} {v u:Value} (hne:¬ (b=b'/\o=i)) (h:ce w b' i=some u):ce (w.setCell ⟨b,o,none⟩ v) b' i=some u:=by
 by_cases hb:b=b'
 ·subst hb
  cases hh:w.heap[b]? with
  | none=>grind [ce,World.cell?]
  | some ob=>
   cases ob <;> simp_all [World.setCell,Array.getElem?_modify,ce,World.cell?]
 grind [World.setCell,ce_block]
theorem ext_setCells {b o:Nat}:∀ (L:List Value) (w:World) (o:Nat),Ext w (w.setCells b o L) (rng b o L.length)
 | [],w,o=>Ext.refl _ _
 | v::L,w,o=>by
  have ih:=ext_setCells (b:=b) (o:=o+1) L (w.setCell ⟨b,o,none⟩ v) (o+1)
  have h1:Ext w (w.setCell ⟨b,o,none⟩ v) (rng b o (L.length+1)):=by
   refine ⟨by simp,fun b' i hb hz u hu=>?_,fun b' n hn=>?_,fun b' i hb=>by simp,rfl,rfl,rfl,fun b' hb hz=>?_,Nat.le_refl _⟩
   ·grind [ce_setCell,rng]
   ·obtain ⟨c,e,fr,h1,h2,h3⟩:=hn
    by_cases hbb:b=b'
    ·subst hbb
     exact ⟨c.setIfInBounds o v,e,fr,by grind [World.setCell],by simp[h2],h3⟩
    ·exact ⟨c,e,fr,by grind [World.setCell],h2,h3⟩
   ·have hne:b≠b':=fun e=>by
     subst e
     have:=hz o
     grind [rng]
    grind [World.setCell]
  exact h1.trans ih fun b' i hb hz=>by
   grind [rng]
theorem has_setCells {w:World} {b o:Nat} {L:List Value} (h:∀ j,j < L.length->(w.cell? ⟨b,o+j,none⟩).isSome=true) (hone:∀ u ∈ L,u.oneCell'=true):Has (w.setCells b o L) b o L:=by
 intro j u hu
 grind [cell_ce,World.cell?_setCells_in]
theorem step_store (h:Rel0 P C A σ a w F) (hti:∀ i T,E.TI i=some T->layB P T (.inl i)=true) {t:Nat} {y z:Operand} (ho:o.op=.store t y z) (hd:o.dst=none) (hok:opdOk P y=true/\opdOk P z=true) {mv:Bool} {K:St->Option R}
  (hk:storeK E σ t (opd σ y) (opd σ z) mv K=some x):o.wp P a w (Nx P C K x) Q:=by
 unfold storeK at hk
 obtain ⟨T,hT,hk⟩:=tiK_some hk
 have hlay:=hti _ _ hT
 rcases opd_ok h hok.1 with hs | ⟨xs,e⟩
 rotate_left
 ·grind
 split at hk
 ·rename_i r p snap hv
  rw[hv] at hs
  split at hk
  ·rename_i hsn
   split at hk
   ·obtain ⟨pl,b,off,g1,g2,g3,g4⟩:=hs.2 hsn
    rcases opd_ok h hok.2 with hz | ⟨xs,e⟩
    rotate_left
    ·grind [useK]
    obtain ⟨A',σ',F',m,v,cs,Fv,k1,k2,k3,k4,kr,k5,k6⟩:=use_ok h hz hk
    obtain ⟨hr,m2,H2,v2,cs2,ad2,F2,q1,q2,q3,q4,q5,q6⟩:=set_ok k3 k1
    have hpl:ad2=some (b,off):=by
     unfold place at g1 q2
     cases hR:rootPl w (tmp a r) (σ'.get r) with
     | none=>grind
     | some R1=>
      rw[hR] at q2
      obtain ⟨H0,hR0⟩:=kr w (tmp a r) r R1 hR
      rw[hR0] at g1
      have:=(plc_H p R1.t g1 q2).2.2
      grind
    subst hpl
    obtain ⟨hhas,hfr⟩:=q5 b off rfl
    have hl:=Rep.length _ k6
    have hl2:=Rep.length _ q3
    have hone:=Rep.one _ k6
    have hone2:=Rep.one _ q3
    have hcells:∀ j,j < cs.length->(w.cell? ⟨b,off+j,none⟩).isSome=true:=fun j hj=>by
     rw[ce_cell (hhas j _ (List.getElem?_eq_getElem (by omega))) (hone2 _ (List.getElem_mem _))];rfl
    have hst:=run_storeCells_cells (P:=P) b off cs 0 w (by simpa using hcells) (fun j hj=>by grind) hone
    have hcv:(mkV T cs).cells.toList=cs:=mkV_cells hl hone
    have hsz:(mkV T cs).cells.size=T.sz:=by grind
    have hrun:(execOp a.eval o).run P w=.ok .skip (w.setCells b off cs):=by
     simp[execOp,ho,g3,k5,Instr.storeAt,Instr.sureAddr,storeVar,run_sizeOf hlay,hsz,hcv,hst]
    refine wp_skip' hrun hd ?_
    have hrep:Rep P (w.setCells b off cs) A' T m [] v cs Fv:=by
     refine Rep.mono (fun _ _ h=>h) (fun b' i ha u hu=>?_) (ext_setCells (b:=b) (o:=off) cs w off).blk _ k6 (fun _ _=>Nat.le_refl _) (fun b' i hp u hu=>?_)
     ·refine (ext_setCells (b:=b) (o:=off) cs w off).cell b' i (k3.bnd b' i (.inr ha)) ?_ u hu
      have h1:=q4 b' i;have h2:=le_sumF F' hr b' i
      rcases Nat.eq_zero_or_pos (rngO (some (b,off)) T.sz b' i) with h0 | h0
      ·rw[hl];exact h0
      ·exact absurd ha (k3.dis b' i (by omega))
     ·have h1:=q4 b' i;have h2:=le_sumF F' hr b' i;have h3:=k3.tot b' i
      refine (ext_setCells (b:=b) (o:=off) cs w off).cell b' i (k3.bnd b' i (.inl (by omega))) ?_ u hu
      grind [rngO]
    have hext:Ext w (w.setCells b off cs) (fun b' i=>(0+Fv b' i)+(F2 b' i+rngO (some (b,off)) T.sz b' i)):=(ext_setCells (b:=b) (o:=off) cs w off).mono fun b' i hz=>by
     grind [rngO]
    obtain ⟨A3,σ3,Fr,n1,n2,n3,_⟩:=q6 (w.setCells b off cs) A' cs Fv (fun _ _=>0) hext (fun _ _ h=>h) (fun _ _ h=>.inl h) (fun b i=>by omega) (fun b' o' e=>by
      grind [has_setCells]) (fun e=>by cases e) hrep
    exact ⟨σ3,n1,A3,_,n3⟩
   ·cases hk
  ·cases hk
 ·cases hk
end
end OT
set_option linter.unusedVariables false
set_option linter.unusedSimpArgs false
namespace OT
open Go
section
variable {P:Program} {w:World} {A:Cells}
theorem plc_append:∀ (p q:Path) (t:Ty) {H:List Path} {cs:List Value} {ad:Option (Nat×Nat)},plc w (p++q) t H cs ad=(plc w p t H cs ad).bind fun pl=>plc w q pl.t pl.H pl.cs pl.ad:=by
 intro p
 induction p with
 | nil=>intro q t H cs ad;rfl
 | cons s p ih=>
  intro q t H cs ad
  cases t with
  | pair a b=>
   cases s <;> grind [plc]
  | slc e=>
   cases s with
   | idx i=>
    simp only[List.cons_append,plc]
    split
    ·rfl
    ·split
     all_goals grind
   | _=>simp[plc]
  | arr n e=>
   cases s <;> grind [plc]
  | _=>grind [plc]
theorem plc_tyAt:∀ (p:Path) (t:Ty) {H:List Path} {cs:List Value} {ad:Option (Nat×Nat)} {pl:Pl},plc w p t H cs ad=some pl->tyAt p t=some pl.t:=by
 intro p
 induction p with
 | nil=>intro t H cs ad pl h;simp only[plc,Option.some.injEq] at h;subst h;rfl
 | cons s p ih=>
  intro t H cs ad pl h
  cases t with
  | pair a b=>
   cases s with
   | fst=>simp only[plc] at h;split at h;cases h;exact ih a h
   | snd=>simp only[plc] at h;split at h;cases h;exact ih b h
   | _=>simp[plc] at h
  | slc e=>
   cases s with
   | idx i=>
    simp only[plc] at h
    split at h
    ·cases h
    ·split at h
     ·split at h
      ·exact ih e h
      ·cases h
     ·cases h
   | _=>simp[plc] at h
  | arr n e=>
   cases s with
   | aix i=>
    simp only[plc] at h
    split at h
    ·split at h
     ·exact ih e h
     ·cases h
    ·cases h
   | _=>simp[plc] at h
  | _=>grind [plc]
theorem plc_rep:∀ (q:Path) (t:Ty) {m:Md} {H:List Path} {v:t.den} {cs:List Value} {F:FP} {ad:Option (Nat×Nat)} {pl:Pl},Rep P w A t m H v cs F->plc w q t H cs ad=some pl ->
  ∃ (m':Md) (v':pl.t.den) (F':FP),Rep P w A pl.t m' pl.H v' pl.cs F':=by
 intro q
 induction q with
 | nil=>grind [plc]
 | cons s q ih=>
  intro t m H v cs F ad pl hr h
  cases t with
  | pair a b=>
   obtain ⟨h0,F1,F2,hs,h1,h2⟩:=hr
   cases s <;> grind [plc]
  | slc e=>
   cases s with
   | idx i=>
    simp only[Rep] at hr
    simp only[plc] at h
    split at h
    ·cases h
    ·rename_i hh
     rw[if_neg hh] at hr
     split at hr
     ·obtain ⟨a,cap,rfl,h2,h3,h4,h5⟩:=hr
      cases a with
      | none=>cases h
      | some ad0=>
       obtain ⟨g1,g2,g3,Fi,g4,g5⟩:=h5 ad0 rfl
       simp only at h
       split at h
       ·rename_i hi
        obtain ⟨L,hl,hL,hrep⟩:=g5 i _ (List.getElem?_eq_getElem hi)
        rw[g1,Nat.zero_add,rd_of_has hL hl] at h
        grind
       ·cases h
     ·obtain ⟨rfl,hno,a,cap,rfl,h2,h3,h4⟩:=hr
      cases a with
      | none=>cases h
      | some ad0=>
       simp only at h
       split at h
       ·rename_i hi
        obtain ⟨L,hl,hL,hrep⟩:=(h4 ad0 rfl).2 i _ (List.getElem?_eq_getElem hi)
        rw[rd_of_has (fun j u hu=>(hL j u hu).1) hl] at h
        exact ih e (Ro.rep e (fun _ _=>0) hno hrep) h
       ·cases h
   | _=>simp[plc] at h
  | arr n e=>
   cases s with
   | aix i=>
    obtain ⟨rfl,hf,hl,hlen,hr⟩:=hr
    simp only[plc,List.isEmpty_nil,if_true] at h
    split at h
    ·rename_i hi
     exact ih e (Ro.flat e (m:=.leaf) (fun _ _=>0) hf (hr i _ (List.getElem?_eq_getElem (by grind)))) h
    ·cases h
   | _=>simp[plc] at h
  | _=>grind [plc]
def offOf:Nat->Ty->Nat
 | j+1,.pair a b=>a.sz+offOf j b
 | _,_=>0
theorem shiftA_zero (ad:Option (Nat×Nat)):shiftA ad 0=ad:=by simp_all [shiftA]
theorem shiftA_add (ad:Option (Nat×Nat)) (j k:Nat):shiftA (shiftA ad j) k=shiftA ad (j+k):=by cases ad <;> simp[shiftA,Nat.add_assoc]
theorem plc_fld:∀ (j:Nat) (S:Ty) {t':Ty} {m:Md} {H:List Path} {v:S.den} {cs:List Value} {F:FP} {ad:Option (Nat×Nat)},Rep P w A S m H v cs F->fldTy j S=some t' ->
  ∃ H',plc w (fldSteps j) S H cs ad=some ⟨t',H',(cs.drop (offOf j S)).take t'.sz,shiftA ad (offOf j S)⟩:=by
 intro j
 induction j with
 | zero=>
  intro S t' m H v cs F ad hr h
  cases S with
  | pair a b=>
   injection h with h;subst h
   obtain ⟨h0,F1,F2,hs,h1,h2⟩:=hr
   simp_all [fldSteps,plc,offOf,shiftA_zero]
  | _=>cases h
 | succ j ih=>
  intro S t' m H v cs F ad hr h
  cases S with
  | pair a b=>
   obtain ⟨h0,F1,F2,hs,h1,h2⟩:=hr
   obtain ⟨H',e⟩:=ih b (ad:=shiftA ad a.sz) h2 h
   grind [fldSteps,plc,offOf,List.drop_drop,shiftA_add]
  | _=>cases h
theorem fldTy_of:∀ (j:Nat) (T:Ty) {t:Ty},tyAt (fldSteps j) T=some t->∃ t2,fldTy j T=some t2:=by
 intro j
 induction j with
 | zero=>intro T t h;cases T <;> first | exact ⟨_,rfl⟩ | grind [fldSteps,tyAt]
 | succ j ih=>intro T t h;cases T <;> first | (simp[fldSteps,tyAt] at h;done) | exact ih _ (by simpa [fldSteps,tyAt] using h)
theorem fld_lay:∀ (j:Nat) (S:Ty) {t':Ty} {fs:List Field} {off:Nat},layB P S (.inr (fs,off))=true->fldTy j S=some t' ->
  ∃ f,fs[j]?=some f/\f.offset=off+offOf j S/\layB P t' (.inl f.type)=true/\1<=t'.sz:=by
 intro j
 induction j with
 | zero=>
  intro S t' fs off hl h
  cases S with
  | pair a b=>
   injection h with h;subst h
   cases fs <;> simp_all [layB,offOf]
  | _=>cases h
 | succ j ih=>
  intro S t' fs off hl h
  cases S with
  | pair a b=>
   cases fs with
   | nil=>simp[layB] at hl
   | cons f r=>
    simp only[layB,Bool.and_eq_true,Nat.beq_eq,Nat.ble_eq] at hl
    obtain ⟨f',h1,h2,h3⟩:=ih b hl.2 h
    grind [offOf]
  | _=>cases h
theorem fld_struct {j:Nat} {S t':Ty} {i:TypeId} (hl:layB P S (.inl i)=true) (h:fldTy j S=some t') :
  ∃ fs f,P.underlying i=some (.struct fs)/\fs[j]?=some f/\f.offset=offOf j S/\layB P t' (.inl f.type)=true/\1<=t'.sz:=by
 cases S with
 | pair a b=>
  simp only[layB,Bool.and_eq_true] at hl
  have h2:=hl.2
  split at h2
  ·rename_i fs hu
   split at h2
   ·rename_i f r hfs
    have h3:layB P (.pair a b) (.inr (f::r,0))=true:=by
     grind [layB]
    grind [fld_lay]
   ·cases h2
  ·cases h2
 | _=>cases j <;> cases h
theorem run_part {t:Ty} {i:TypeId} (h:layB P t (.inl i)=true) {cs:Array Value} {off:Nat} (hl:((cs.toList.drop off).take t.sz).length=t.sz):(part i cs off).run P w=.ok (mkV t ((cs.toList.drop off).take t.sz)) w:=by
 unfold part
 simp only[Sem.run_bind,run_isAgg h,Result.andThen_ok]
 cases ht:isAgg t with
 | true=>
  simp only[if_true,Sem.run_bind,run_sizeOf h,Result.andThen_ok,Sem.run_pure,mkV,ht]
  congr 2
  grind
 | false=>
  simp_all [isAgg_sz,List.take_one,mkV]
end
section
variable {P:Program} {C:Ctx} {A:Cells} {X:FP} {σ:St} {a:Act} {w:World} {F:Nat->FP} {R:Type} {x:R} {Q:Exit->Act->World->Prop} {o:Oper} {E:Env}
theorem place_rep (h:Rel P C A X σ a w F) {r:Nat} {p:Path} {pl:Pl} (hp:place σ a w r p=some pl):∃ (m':Md) (v':pl.t.den) (F':FP),Rep P w A pl.t m' pl.H v' pl.cs F':=by
 have hlt:=place_lt hp
 unfold place at hp
 cases hR:rootPl w (tmp a r) (σ.get r) with
 | none=>grind
 | some R0=>
  rw[hR] at hp
  obtain ⟨m0,v0,F1,q1,q2,q3,_⟩:=rootPl_rep (h.slots r hlt) hR
  grind [plc_rep]
theorem place_append (r:Nat) (p q:Path):place σ a w r (p++q)=(place σ a w r p).bind fun pl=>plc w q pl.t pl.H pl.cs pl.ad:=by
 unfold place
 cases rootPl w (tmp a r) (σ.get r) <;> grind [plc_append]
theorem place_tyOf {r:Nat} {p:Path} {pl:Pl} (hp:place σ a w r p=some pl):tyOf σ r p=some pl.t:=by
 unfold place at hp
 unfold tyOf rootTyOf
 cases hg:σ.get r with
 | own t m H v=>grind [rootPl,plc_tyAt]
 | box t m H v=>
  rw[hg] at hp
  simp only[rootPl] at hp
  grind [plc_tyAt]
 | _=>grind [rootPl]
theorem nidx_fld (p:Path) (j:Nat):nidx (p++fldSteps j)=nidx p:=by
 induction p with
 | nil=>induction j <;> grind [fldSteps,nidx]
 | cons s p ih=>cases s <;> simp only[List.cons_append,nidx,ih]
theorem fldK_some {A':Cells}:∀ (j:Nat) (S:Ty) {v:S.den} {K:(t':Ty)->t'.den->Option R} {cs:List Value},fldK j S v K=some x->Ro P w A' S v cs ->
  ∃ t' v',fldTy j S=some t'/\K t' v'=some x/\Ro P w A' t' v' ((cs.drop (offOf j S)).take t'.sz):=by
 intro j
 induction j with
 | zero=>
  intro S v K cs h hr
  cases S with
  | pair a b=>exact ⟨a,v.1,rfl,h,by simp only[offOf,List.drop_zero];exact hr.1⟩
  | _=>cases h
 | succ j ih=>
  intro S v K cs h hr
  cases S with
  | pair a b=>
   obtain ⟨t',v',h1,h2,h3⟩:=ih b (v:=v.2) h hr.2
   exact ⟨t',v',h1,h2,by grind [offOf,List.drop_drop]⟩
  | _=>cases h
theorem take_nilCheck (h:Rel0 P C A σ a w F) {y:Operand} (ho:o.op=.nilCheck y) (hok:opdOk P y=true) {K:St->Option R}
  (hk:(match opd σ y with
  | .ptr r p snap=>if σ.ok r snap then K (σ.putD o.dst (.ptr r p snap)) else none
  | .cp t v=>K (σ.putD o.dst (.cp t v))
  | .val .fn f=>K (σ.putD o.dst (.val .fn f))
  | _=>none)=some x):Tk P o a w (Nx P C K x):=by
 rcases opd_ok h hok with hs | ⟨xs,e⟩
 rotate_left
 ·grind
 split at hk
 ·rename_i r p snap hv
  rw[hv] at hs
  split at hk
  ·rename_i hsn
   obtain ⟨pl,b,off,g1,g2,g3,g4⟩:=hs.2 hsn
   exact tk_val (v:=a.eval y) (by simp[execOp,ho,g3]) (fin_flat h hk hs (fun _ _ _ _ e=>by cases e))
  ·cases hk
 ·rename_i t v hv
  rw[hv] at hs
  obtain ⟨ad,h1,_⟩:=id hs
  simp only[List.cons.injEq,and_true] at h1
  exact tk_val (v:=a.eval y) (by simp[execOp,ho,h1]) (fin_flat h hk hs (fun _ _ _ _ e=>by cases e))
 ·rename_i f hv
  rw[hv] at hs
  obtain ⟨cs,h1,caps,h2,_⟩:=id hs
  subst h2
  exact tk_val (v:=a.eval y) (by simp[execOp,ho,h1,mkV,isAgg]) (fin_flat h hk hs (fun _ _ _ _ e=>by cases e))
 ·cases hk
theorem take_fieldAddr (h:Rel0 P C A σ a w F) (hti:∀ i T,E.TI i=some T->layB P T (.inl i)=true) {S:Nat} {y:Operand} {j:Nat} (ho:o.op=.fieldAddr S y j) (hok:opdOk P y=true) {K:St->Option R}
  (hk:fieldAddrK E σ S (opd σ y) j o.dst K=some x):Tk P o a w (Nx P C K x):=by
 unfold fieldAddrK at hk
 obtain ⟨T,hT,hk⟩:=tiK_some hk
 have hlay:=hti _ _ hT
 have run:∀ t' b off,fldTy j T=some t'->a.eval y=.pointer (some ⟨b,off,none⟩)->∀ w',Same o w w'->(execOp a.eval o).run P w'=.ok (.value (.pointer (some ⟨b,off+offOf j T,none⟩))) w':=fun t' b off ht hy w' _=>by
  obtain ⟨fs,f,h1,h2,h3,h4,h5⟩:=fld_struct hlay ht
  have hsz:=run_sizeOf (P:=P) (w:=w') h4
  have hne:¬ t'.sz=0:=by omega
  simp_all [execOp,Instr.fieldAt,Instr.sureAddr,run_underlying,fieldPlace,addr_add]
 rcases opd_ok h hok with hs | ⟨xs,e⟩
 rotate_left
 ·grind
 split at hk
 ·rename_i t' v hv
  rw[hv] at hs
  split at hk
  ·rename_i e;subst e
   obtain ⟨⟨b,off,sp⟩,h1,h2,L,h3,h4,h5⟩:=hs
   simp only[List.cons.injEq,and_true] at h1
   simp only at h2;subst h2
   obtain ⟨t2,v2,q1,q2,q3⟩:=fldK_some j t' hk h5
   refine tk_val (run t2 b off q1 h1) (fin_flat h q2 ⟨_,rfl,rfl,_,Ro.length _ q3,fun k u hu=>?_,q3⟩ (fun _ _ _ _ e=>by cases e))
   grind
  ·cases hk
 ·rename_i r p snap hv
  rw[hv] at hs
  split at hk
  ·rename_i hsn
   split at hk
   ·rename_i hty
    split at hk
    ·rename_i hf
     obtain ⟨pl,b,off,g1,g2,g3,g4⟩:=hs.2 hsn
     rw[place_tyOf g1] at hty
     injection hty with hty
     obtain ⟨t',ht'⟩:=Option.isSome_iff_exists.1 hf
     refine tk_val (run t' b off ht' g3) (fin_flat h hk ⟨hs.1,fun _=>?_⟩ (fun _ _ _ _ e=>by cases e))
     obtain ⟨m',v',F',hrep⟩:=place_rep h g1
     obtain ⟨tp,Hp,csp,adp⟩:=pl
     simp only at hty g2 hrep
     subst hty
     obtain ⟨H',e⟩:=plc_fld (ad:=adp) j tp hrep ht'
     grind [shiftA,nidx_fld,place_append]
    ·cases hk
   ·cases hk
  ·cases hk
 ·cases hk
theorem take_field (h:Rel0 P C A σ a w F) (hti:∀ i T,E.TI i=some T->layB P T (.inl i)=true) {S:Nat} {y:Operand} {j:Nat} (ho:o.op=.field S y j) (hok:opdOk P y=true) {K:St->Option R}
  (hk:fieldVK E σ S (opd σ y) j o.dst K=some x):Tk P o a w (Nx P C K x):=by
 unfold fieldVK at hk
 obtain ⟨T,hT,hk⟩:=tiK_some hk
 have hlay:=hti _ _ hT
 have run:∀ t' cs,fldTy j T=some t'->a.eval y=mkV T cs->((cs.drop (offOf j T)).take t'.sz).length=t'.sz->∀ w',Same o w w'->(execOp a.eval o).run P w'=.ok (.value (mkV t' ((cs.drop (offOf j T)).take t'.sz))) w':=fun t' cs ht hy hl w' _=>by
  obtain ⟨fs,f,h1,h2,h3,h4,h5⟩:=fld_struct hlay ht
  have hagg:mkV T cs=.agg cs.toArray:=by cases T <;> first | rfl | (cases j <;> cases ht)
  have:=run_part (P:=P) (w:=w') h4 (cs:=cs.toArray) (off:=offOf j T) (by simpa using hl)
  simp_all [execOp,Instr.field,run_underlying,asAgg]
 rcases opd_ok h hok with hs | ⟨xs,e⟩
 rotate_left
 ·grind
 split at hk
 ·rename_i t' v hv
  rw[hv] at hs
  split at hk
  ·rename_i e;subst e
   obtain ⟨cs,h1,h2⟩:=hs
   obtain ⟨t2,v2,q1,q2,q3⟩:=fldK_some j t' hk h2
   exact tk_val (run t2 cs q1 h1 (Ro.length _ q3)) (fin_flat h q2 ⟨_,rfl,q3⟩ (fun _ _ _ _ e=>by cases e))
  ·cases hk
 ·rename_i r p snap hv
  rw[hv] at hs
  split at hk
  ·rename_i hsn
   split at hk
   ·rename_i hty
    obtain ⟨hr,t',m',H',v',cs',ad',F',h1,h2,h3,h4,h5,h6⟩:=at_ok h hk
    obtain ⟨pl,g1,g2,g3⟩:=hs.2 hsn
    rw[place_tyOf g1] at hty
    injection hty with hty
    obtain ⟨m0,v0,F0,hrep⟩:=place_rep h g1
    obtain ⟨tp,Hp,csp,adp⟩:=pl
    simp only at hty g2 hrep
    subst hty
    have hf:∃ t2,fldTy j tp=some t2:=by
     have h7:=h3
     rw[place_append,g1] at h7
     exact fldTy_of j tp (plc_tyAt _ _ h7)
    obtain ⟨t2,ht2⟩:=hf
    obtain ⟨H2,e⟩:=plc_fld (ad:=adp) j tp hrep ht2
    have hpl:place σ a w r (p++fldSteps j)=some ⟨t2,H2,(csp.drop (offOf j tp)).take t2.sz,shiftA adp (offOf j tp)⟩:=by grind [place_append]
    rw[hpl] at h3
    injection h3 with h3
    simp only[Pl.mk.injEq] at h3
    obtain ⟨rfl,rfl,rfl,rfl⟩:=h3
    refine tk_val (run t2 csp ht2 g2 (Rep.length _ h4)) ?_
    split at h1
    ·rename_i hc
     split at h1
     ·rename_i hH
      have hH:=List.isEmpty_iff.1 hH;subst hH
      refine fin_flat h h1 ⟨_,rfl,?_⟩ (fun _ _ _ _ e=>by cases e)
      grind [Rep.flat,Rep.ro,roMd_noOwn]
     ·cases h1
    ·exact fin_flat h h1 (refRel_new h hpl) (fun _ _ _ _ e=>by cases e)
   ·cases hk
  ·cases hk
 ·cases hk
end
end OT
set_option linter.unusedVariables false
set_option linter.unusedSimpArgs false
namespace OT
open Go
section
variable {P:Program} {C:Ctx} {A:Cells} {X:FP} {σ:St} {a:Act} {w:World} {F:Nat->FP} {R:Type} {x:R} {Q:Exit->Act->World->Prop} {o:Oper} {E:Env}
theorem inK_some {n:Int} {len:Nat} {K:Nat->Option R} (h:inK n len K=some x):0<=n/\n < (len:Int)/\K n.toNat=some x:=by
 grind [inK]
theorem bind_some {α:Type} {o:Option α} {K:α->Option R} (h:o.bind K=some x):∃ y,o=some y/\K y=some x:=by
 cases o <;> grind
theorem lay_slc {e:Ty} {i:TypeId} (h:layB P (.slc e) (.inl i)=true):∃ el,P.underlying i=some (.slice el)/\1<=e.sz/\layB P e (.inl el)=true:=by
 grind [layB,Nat.ble_eq]
theorem lay_arr {n:Nat} {e:Ty} {i:TypeId} (h:layB P (.arr n e) (.inl i)=true):∃ el,P.underlying i=some (.array n el)/\1<=e.sz/\layB P e (.inl el)=true:=by
 grind [layB,Nat.ble_eq,Nat.beq_eq]
theorem lay_str {i:TypeId} (h:layB P .str (.inl i)=true):P.underlying i=some .string:=by
 grind [layB]
theorem lay_int {k:IntKind} {i:TypeId} (h:layB P (.int k) (.inl i)=true):P.underlying i=some (.int k):=by
 grind [layB]
theorem nidx_append (p q:Path):nidx (p++q)=nidx p+nidx q:=by
 induction p with
 | nil=>simp[nidx]
 | cons s p ih=>cases s <;> simp only[List.cons_append,nidx,ih] <;> omega
theorem ptrRel_new (h:Rel P C A X σ a w F) {r:Nat} {p:Path} {pl:Pl} {b off:Nat} (hp:place σ a w r p=some pl) (had:pl.ad=some (b,off)):PtrRel σ a w (.pointer (some ⟨b,off,none⟩)) r p (snapPtr σ r p):=by
 have h5:=h.vlen r
 refine ⟨?_,fun _=>⟨pl,b,off,hp,had,rfl,by grind [snapPtr]⟩⟩
 unfold snapPtr
 intro j y hj;grind
theorem take_indexAddr (h:Rel0 P C A σ a w F) (hti:∀ i T,E.TI i=some T->layB P T (.inl i)=true) {t:Nat} {y z:Operand} (ho:o.op=.indexAddr t y z) (hok:opdOk P y=true/\opdOk P z=true) {K:St->Option R}
  (hk:indexAddrK E σ t (opd σ y) (opd σ z) o.dst K=some x):Tk P o a w (Nx P C K x):=by
 unfold indexAddrK at hk
 obtain ⟨T,hT,hk⟩:=tiK_some hk
 have hlay:=hti _ _ hT
 rcases opd_ok h hok.2 with hz | ⟨xs,e⟩
 rotate_left
 ·rw[e] at hk;cases hk
 obtain ⟨kz,n,hzv,hk⟩:=intK_some hz hk
 have runS:∀ e ad len cap,T=.slc e->a.eval y=.slice (some ad) len cap->ad.spot=none->0<=n->n < (len:Int)->∀ w',Same o w w'->(execOp a.eval o).run P w'=.ok (.value (.pointer (some ⟨ad.block,ad.off+n.toNat*e.sz,none⟩))) w':=fun e ad len cap hTe hy hsp h0 h1 w' _=>by
  subst hTe
  obtain ⟨el,hu,_,hle⟩:=lay_slc hlay
  obtain ⟨b,off,sp⟩:=ad
  simp only at hsp;subst hsp
  have hsz:=run_sizeOf (P:=P) (w:=w') hle
  simp[execOp,ho,hy,hzv,Instr.indexAt,asIntOf,run_underlying hu,h0,h1,hsz,addr_add]
 have runA:∀ m e b off,T=.arr m e->a.eval y=.pointer (some ⟨b,off,none⟩)->0<=n->n < (m:Int)->∀ w',Same o w w'->(execOp a.eval o).run P w'=.ok (.value (.pointer (some ⟨b,off+n.toNat*e.sz,none⟩))) w':=fun m e b off hTe hy h0 h1 w' _=>by
  subst hTe
  obtain ⟨el,hu,_,hle⟩:=lay_arr hlay
  have hsz:=run_sizeOf (P:=P) (w:=w') hle
  simp[execOp,ho,hy,hzv,Instr.indexAt,asIntOf,run_underlying hu,h0,h1,hsz,addr_add,Instr.sureAddr]
 have roS:∀ (e:Ty) (v:List e.den) (tv:Value) (yv:e.den),T=.slc e->a.eval y=tv->Ro P w A (.slc e) v [tv]->0<=n->v[n.toNat]?=some yv->K (σ.putD o.dst (.cp e yv))=some x->Tk P o a w (Nx P C K x):=fun e v tv yv hTe hy hro h0 hyv hk=>by
  obtain ⟨xa,cap,h1,h2,h3,h4⟩:=hro
  simp only[List.cons.injEq,and_true] at h1
  subst h1
  have hlt:=(List.getElem?_eq_some_iff.1 hyv).1
  cases xa with
  | none=>grind
  | some ad=>
   obtain ⟨g1,g2⟩:=h4 ad rfl
   obtain ⟨L,l1,l2,l3⟩:=g2 _ _ hyv
   exact tk_val (runS e ad _ cap hTe hy (g1 (by omega)) h0 (by omega)) (fin_flat h hk ⟨_,rfl,rfl,L,l1,l2,l3⟩ (fun _ _ _ _ e=>by cases e))
 rcases opd_ok h hok.1 with hs | ⟨xs,e⟩
 rotate_left
 ·grind
 split at hk
 ·rename_i e v hv
  rw[hv] at hs
  split at hk
  ·rename_i hTe
   split at hk
   ·rename_i h0
    obtain ⟨yv,hyv,hk⟩:=bind_some hk
    obtain ⟨cs,h1,h2⟩:=hs
    have hl:=Ro.length _ h2
    match cs,hl with
    | [tv],_=>exact roS e v tv yv hTe (by rw[h1,mkV_one _ _ rfl]) h2 h0 hyv hk
   ·cases hk
  ·cases hk
 ·rename_i m e v hv
  rw[hv] at hs
  split at hk
  ·rename_i hTe
   split at hk
   ·rename_i h0
    obtain ⟨yv,hyv,hk⟩:=bind_some hk
    obtain ⟨⟨b,off,sp⟩,h1,h2,L,h3,h4,h5⟩:=hs
    simp only[List.cons.injEq,and_true] at h1
    simp only at h2;subst h2
    obtain ⟨q1,q2,q3,q4⟩:=h5
    have hlt:n.toNat < m:=q2 ▸ (List.getElem?_eq_some_iff.1 hyv).1
    have hro:=q4 _ _ hyv
    refine tk_val (runA m e b off hTe h1 h0 (by omega)) (fin_flat h hk ⟨_,rfl,rfl,_,Ro.length _ hro,fun k u hu=>?_,hro⟩ (fun _ _ _ _ e=>by cases e))
    grind
   ·cases hk
  ·cases hk
 ·rename_i r p snap hv
  rw[hv] at hs
  split at hk
  ·rename_i hsn
   obtain ⟨hr,t',m',H',v',cs',ad',F',h1,h2,h3,h4,h5,h6⟩:=at_ok h hk
   obtain ⟨pl,g1,g2,g3⟩:=hs.2 hsn
   rw[h3] at g1
   injection g1 with g1
   subst g1
   simp only at g2
   split at h1
   ·cases h1
   ·rename_i hH
    have hH:hole H'=false:=Bool.eq_false_iff.2 hH
    split at h1
    ·rename_i hTe
     split at h1
     ·rename_i e v''
      have hl:=Rep.length _ h4
      split at h1
      ·rename_i hown
       obtain ⟨i0,i1,h1⟩:=inK_some h1
       have hrep:=h4
       simp only[Rep,hH,Bool.false_eq_true,if_false,hown,if_true] at hrep
       obtain ⟨xa,cap,rfl,q2,q3,q4,q5⟩:=hrep
       cases xa with
       | none=>grind
       | some ad0=>
        obtain ⟨r1,r2,r3,Fi,r4,r5⟩:=q5 ad0 rfl
        rw[mkV_one _ _ rfl] at g2
        have hlt:n.toNat < List.length v'':=by omega
        refine tk_val (runS e ad0 _ cap hTe.symm g2 r2 i0 i1) (fin_flat h h1 (ptrRel_new (pl:=⟨e,H'.filterMap (stripI n.toNat),rd w ad0.block (ad0.off+n.toNat*e.sz) e.sz,some (ad0.block,ad0.off+n.toNat*e.sz)⟩) h ?_ rfl) (fun _ _ _ _ e=>by cases e))
        grind [place_append,plc]
      ·rename_i hown
       split at h1
       ·rename_i h0
        obtain ⟨yv,hyv,h1⟩:=bind_some h1
        have hrep:=h4
        simp only[Rep,hH,Bool.false_eq_true,if_false,hown] at hrep
        match cs',hl with
        | [tv],_=>
         rw[mkV_one _ _ rfl] at g2
         grind
       ·cases h1
     ·cases h1
    ·cases h1
  ·cases hk
 ·rename_i r p snap lo hi hv
  rw[hv] at hs
  split at hk
  ·rename_i hsn
   obtain ⟨hr,t',m',H',v',cs',ad',F',h1,h2,h3,h4,h5,h6⟩:=at_ok h hk
   obtain ⟨pl,e,xa,len,cap,xa',cap',g1,g2,g3,g4,g5,g6,g7,g7',g8,g9,g10⟩:=hs.2 hsn
   rw[h3] at g1
   injection g1 with g1
   subst g1
   simp only at g2 g3
   subst g2;subst g3
   split at h1
   ·cases h1
   ·rename_i hH
    have hH:hole H'=false:=Bool.eq_false_iff.2 hH
    split at h1
    ·rename_i hTe
     obtain ⟨i0,i1,h1⟩:=inK_some h1
     have hadr:∃ ad0,xa=some ad0/\ad0.spot=none:=by
      simp only[Rep,hH,Bool.false_eq_true,if_false] at h4
      cases xa with
      | none=>
       split at h4
       ·grind
       ·obtain ⟨_,_,xa2,cap2,q1,q2,q3,_⟩:=h4
        grind
      | some ad0=>
       refine ⟨ad0,rfl,?_⟩
       split at h4
       ·grind
       ·obtain ⟨_,_,xa2,cap2,q1,q2,q3,q4⟩:=h4
        grind
     obtain ⟨ad0,rfl,hsp⟩:=hadr
     obtain ⟨ad1,e1,e2,e3,e4⟩:=g9 ad0 rfl
     subst e1
     have e4:=e4 (by omega)
     refine tk_val (runS e ad1 _ cap' hTe.symm g6 (e2.trans hsp) i0 i1) ?_
     have hval:(⟨ad1.block,ad1.off+n.toNat*e.sz,none⟩:Addr)=⟨ad0.block,ad0.off+(lo+n.toNat)*e.sz,none⟩:=by
      grind
     rw[hval]
     have hlt:lo+n.toNat < len:=by omega
     refine fin_flat h h1 (ptrRel_new (pl:=⟨e,H'.filterMap (stripI (lo+n.toNat)),rd w ad0.block (ad0.off+(lo+n.toNat)*e.sz) e.sz,some (ad0.block,ad0.off+(lo+n.toNat)*e.sz)⟩) h ?_ rfl) (fun _ _ _ _ e=>by cases e)
     grind [place_append,plc]
    ·cases h1
  ·cases hk
 ·rename_i r p snap hv
  rw[hv] at hs
  split at hk
  ·rename_i hsn
   obtain ⟨hr,t',m',H',v',cs',ad',F',h1,h2,h3,h4,h5,h6⟩:=at_ok h hk
   obtain ⟨pl,b,off,g1,g2,g3,g4⟩:=hs.2 hsn
   rw[h3] at g1
   injection g1 with g1
   subst g1
   simp only at g2
   subst g2
   split at h1
   ·rename_i hTe
    split at h1
    ·rename_i m e v''
     obtain ⟨i0,i1,h1⟩:=inK_some h1
     obtain ⟨hH,hf,hl,hlen,hro⟩:=h4
     subst hH
     have hlt:n.toNat < m:=by omega
     refine tk_val (runA m e b off hTe.symm g3 i0 (by omega)) (fin_flat h h1 ⟨hs.1,fun _=>⟨⟨e,[],(cs'.drop (n.toNat*e.sz)).take e.sz,some (b,off+n.toNat*e.sz)⟩,b,off+n.toNat*e.sz,?_,rfl,rfl,?_⟩⟩ (fun _ _ _ _ e=>by cases e))
     ·grind [place_append,plc,shiftA]
     ·rw[nidx_append];exact g4
    ·cases h1
   ·cases h1
  ·cases hk
 ·cases hk
end
end OT
set_option linter.unusedVariables false
set_option linter.unusedSimpArgs false
namespace OT
open Go
section
variable {P:Program} {C:Ctx} {A:Cells} {X:FP} {σ:St} {a:Act} {w:World} {F:Nat->FP} {R:Type} {x:R} {Q:Exit->Act->World->Prop} {o:Oper} {E:Env}
theorem bytes_get (s:List UInt8) (n:Nat):(⟨s.toArray⟩:ByteArray)[n]?=s[n]?:=by
 by_cases h:n < s.length
 ·have h1:n < (⟨s.toArray⟩:ByteArray).size:=by simpa [ByteArray.size] using h
  rw[getElem?_pos _ n h1,List.getElem?_eq_getElem h]
  rfl
 grind [ByteArray.size]
theorem take_index (h:Rel0 P C A σ a w F) (hti:∀ i T,E.TI i=some T->layB P T (.inl i)=true) {t:Nat} {y z:Operand} (ho:o.op=.index t y z) (hok:opdOk P y=true/\opdOk P z=true) {K:St->Option R}
  (hk:indexK E σ t (opd σ y) (opd σ z) o.dst K=some x):Tk P o a w (Nx P C K x):=by
 unfold indexK at hk
 have hk1:=tiK_some hk
 clear hk
 obtain ⟨T,hT,hk2⟩:=hk1
 have hlay:=hti _ _ hT
 rcases opd_ok h hok.2 with hz | ⟨xs,e⟩
 rotate_left
 ·rw[e] at hk2;cases hk2
 have hk3:=intK_some hz hk2
 clear hk2
 obtain ⟨kz,n,hzv,hk⟩:=hk3
 rcases opd_ok h hok.1 with hs | ⟨xs,e⟩
 rotate_left
 ·grind
 split at hk
 ·rename_i s hv
  rw[hv] at hs
  split at hk
  ·rename_i hTe;subst hTe
   split at hk
   ·rename_i h0
    obtain ⟨c,hc,hk⟩:=bind_some hk
    obtain ⟨cs,h1,h2⟩:=hs
    simp only[Ro] at h2;subst h2
    have hb:=bytes_get s n.toNat
    rw[hc] at hb
    refine tk_val (v:=.int .u8 c.toNat) ?_ (fin_flat h hk ⟨[_],rfl,rfl⟩ (fun _ _ _ _ e=>by cases e))
    simp[execOp,ho,h1,mkV,isAgg,hzv,Instr.index,asIntOf,run_underlying (lay_str hlay),h0,hb]
   ·cases hk
  ·cases hk
 ·rename_i m e v hv
  rw[hv] at hs
  split at hk
  ·rename_i hTe;subst hTe
   split at hk
   ·rename_i h0
    obtain ⟨yv,hyv,hk⟩:=bind_some hk
    obtain ⟨cs,h1,h2⟩:=hs
    obtain ⟨q1,q2,q3,q4⟩:=id h2
    obtain ⟨el,hu,_,hle⟩:=lay_arr hlay
    have hlt:n.toNat < m:=q2 ▸ (List.getElem?_eq_some_iff.1 hyv).1
    have hlt':n < (m:Int):=by omega
    have hro:=q4 _ _ hyv
    refine tk_val (v:=mkV e ((cs.drop (n.toNat*e.sz)).take e.sz)) (fun w' _=>?_) (fin_flat h hk ⟨_,rfl,hro⟩ (fun _ _ _ _ e=>by cases e))
    have hp:=run_part (P:=P) (w:=w') hle (cs:=cs.toArray) (off:=n.toNat*e.sz) (by grind [Ro.length])
    simp only[List.toList_toArray] at hp
    have hsz:=run_sizeOf (P:=P) (w:=w') hle
    simp_all [execOp,mkV,isAgg,Instr.index,asIntOf,run_underlying]
   ·cases hk
  ·cases hk
 ·cases hk
theorem rep_slc_head {t:Ty} {m:Md} {H:List Path} {e:Ty} {v:List e.den} {cs:List Value} {G:FP} (h:Rep P w A (.slc e) m H v cs G) (hH:hole H=false) :
  ∃ xa cap,cs=[.slice xa (List.length v) cap]/\List.length v<=cap/\(xa=none->List.length v=0):=by
 simp only[Rep,hH,Bool.false_eq_true,if_false] at h
 split at h
 ·grind
 ·obtain ⟨_,_,xa,cap,q1,q2,q3,q4⟩:=h
  grind
theorem run_len_call {t:Nat} {y:Operand} (ho:o.op=.call { callee:=.builtin .len,args:=#[y],argTypes:=#[t] }) :
  (execOp a.eval o).run P w=((Builtin.len_ #[t] o.type #[a.eval y]).run P w).andThen fun v w'=>.ok (.value v) w':=by
 simp_all [execOp,resolve,invoke,builtin]
theorem take_len (h:Rel0 P C A σ a w F) (hti:∀ i T,E.TI i=some T->layB P T (.inl i)=true) {t:Nat} {y:Operand} (ho:o.op=.call { callee:=.builtin .len,args:=#[y],argTypes:=#[t] }) (hok:opdOk P y=true) {K:St->Option R}
  (hk:lenK E σ t (opd σ y) (fun n=>K (σ.putD o.dst (.val (.int .i64) (n:Int))))=some x):Tk P o a w (Nx P C K x):=by
 unfold lenK at hk
 obtain ⟨T,hT,hk⟩:=tiK_some hk
 have hlay:=hti _ _ hT
 rcases opd_ok h hok with hs | ⟨xs,e⟩
 rotate_left
 ·grind
 have fin:∀ n:Nat,K (σ.putD o.dst (.val (.int .i64) (n:Int)))=some x->Nx P C K x (a.put o.dst (.int .i64 (n:Int))) w:=fun n hk=>fin_flat h hk ⟨[_],rfl,rfl⟩ (fun _ _ _ _ e=>by cases e)
 split at hk
 ·split at hk
  ·rename_i s hv
   rw[hv] at hs
   obtain ⟨cs,h1,h2⟩:=hs
   simp only[Ro] at h2;subst h2
   refine tk_val (v:=.int .i64 (s.length:Int)) (fun w' _=>?_) (fin _ hk)
   have e:a.eval y=.string ⟨List.toArray s⟩:=h1
   have e2:(⟨List.toArray s⟩:ByteArray).size=s.length:=rfl
   rw[run_len_call ho,e]
   unfold Builtin.len_
   simp only[List.getElem?_toArray,List.getElem?_cons_zero,Sem.run_bind,run_underlying (lay_str hlay),Result.andThen_ok,Sem.run_pure,goInt,e2]
  ·cases hk
 ·rename_i e
  obtain ⟨el,hu,_,hle⟩:=lay_slc hlay
  have run:∀ xa n cap,a.eval y=.slice xa n cap->∀ w',Same o w w'->(execOp a.eval o).run P w'=.ok (.value (.int .i64 (n:Int))) w':=fun xa n cap hy w' _=>by
   rw[run_len_call ho]
   simp[Builtin.len_,hy,run_underlying hu,goInt]
  split at hk
  ·rename_i e' v hv
   rw[hv] at hs
   obtain ⟨cs,h1,xa,cap,h2,_⟩:=hs
   subst h2
   exact tk_val (run xa _ cap h1) (fin _ hk)
  ·rename_i hv
   rw[hv] at hs
   exact tk_val (run none 0 0 hs) (fin _ hk)
  ·rename_i r p snap hv
   rw[hv] at hs
   split at hk
   ·rename_i hsn
    obtain ⟨hr,t',m',H',v',cs',ad',F',h1,h2,h3,h4,h5,h6⟩:=at_ok h hk
    obtain ⟨pl,g1,g2,g3⟩:=hs.2 hsn
    rw[h3] at g1
    injection g1 with g1
    subst g1
    simp only at g2
    split at h1
    ·cases h1
    ·rename_i hH
     have hH:hole H'=false:=Bool.eq_false_iff.2 hH
     split at h1
     ·rename_i e' v''
      obtain ⟨xa,cap,q1,q2,q3⟩:=rep_slc_head (t:=.unit) h4 hH
      subst q1
      exact tk_val (run xa _ cap g2) (fin _ h1)
     ·cases h1
   ·cases hk
  ·rename_i r p snap lo hi hv
   rw[hv] at hs
   split at hk
   ·rename_i hsn
    obtain ⟨pl,e',xa,len,cap,xa',cap',g1,g2,g3,g4,g5,g6,g7,g7',g8,g9,g10⟩:=hs.2 hsn
    grind [tk_val]
   ·cases hk
  ·cases hk
 ·cases hk
theorem bounds_ok {len cap:Nat} {lo hi:Option Operand} {K:Nat->Nat->Option R} (hcap:len<=cap) (hlo:∀ y,lo=some y->SlotRel P A σ a w (a.eval y) (opd σ y) (fun _ _=>0)) (hhi:∀ y,hi=some y->SlotRel P A σ a w (a.eval y) (opd σ y) (fun _ _=>0))
  (hk:boundsK len (lo.map (opd σ)) (hi.map (opd σ)) K=some x):∃ l h,l<=h/\h<=len/\K l h=some x/\(∀ w',(Instr.sliceBounds true len cap (lo.map a.eval) (hi.map a.eval) none).run P w'=.ok (l,h,cap) w') /\
   (len=cap->∀ w',(Instr.sliceBounds false len cap (lo.map a.eval) (hi.map a.eval) none).run P w'=.ok (l,h,cap) w'):=by
 have bnd:∀ (k:IntKind) (i:Int) (y:Nat) code,0<=i->i<=(y:Int)->∀ w',(Instr.sliceBound (.int k i) y code).run P w'=.ok i.toNat w':=fun k i y code h0 h1 w'=>run_sliceBound w' k i y code h0 h1
 have two:∀ (lo' hi':Option Value) (l h:Nat),(lo'=none/\l=0\/∃ k n,lo'=some (.int k n)/\0<=n/\n<=(h:Int)/\l=n.toNat)->(hi'=none/\h=len\/∃ k n,hi'=some (.int k n)/\0<=n/\n<=(len:Int)/\h=n.toNat) ->
   (∀ w',(Instr.sliceBounds true len cap lo' hi' none).run P w'=.ok (l,h,cap) w')/\(len=cap->∀ w',(Instr.sliceBounds false len cap lo' hi' none).run P w'=.ok (l,h,cap) w'):=fun lo' hi' l h h1 h2=>by
  rcases h2 with ⟨rfl,rfl⟩ | ⟨k2,n2,rfl,b1,b2,rfl⟩
  ·rcases h1 with ⟨rfl,rfl⟩ | ⟨k1,n1,rfl,a1,a2,rfl⟩
   ·simp_all [Instr.sliceBounds]
   ·exact ⟨by simp_all [Instr.sliceBounds],fun _=>by simp_all [Instr.sliceBounds]⟩
  ·have c1:=bnd k2 n2 cap .sliceAcap b1 (by omega)
   have c2:=bnd k2 n2 cap .sliceAlen b1 (by omega)
   rcases h1 with ⟨rfl,rfl⟩ | ⟨k1,n1,rfl,a1,a2,rfl⟩
   all_goals simp_all [Instr.sliceBounds]
 unfold boundsK at hk
 cases lo with
 | none=>
  cases hi <;> grind [intK_some]
 | some yl=>
  cases hi <;> grind [intK_some]
theorem bytes_extract (s:List UInt8) (l h:Nat) (hl:l<=h) (hh:h<=s.length):(⟨s.toArray⟩:ByteArray).extract l h=⟨((s.take h).drop l).toArray⟩:=by
 apply ByteArray.ext
 grind [ByteArray.data_extract]
theorem take_slice (h:Rel0 P C A σ a w F) (hti:∀ i T,E.TI i=some T->layB P T (.inl i)=true) {t:Nat} {y:Operand} {lo hi:Option Operand} (ho:o.op=.slice t y lo hi none)
  (hok:opdOk P y=true/\(∀ z,lo=some z->opdOk P z=true)/\(∀ z,hi=some z->opdOk P z=true)) {K:St->Option R}
  (hk:sliceK E σ t (opd σ y) (lo.map (opd σ)) (hi.map (opd σ)) o.dst K=some x):Tk P o a w (Nx P C K x):=by
 unfold sliceK at hk
 have hk1:=tiK_some hk
 clear hk
 obtain ⟨T,hT,hk⟩:=hk1
 have hlay:=hti _ _ hT
 have hnt:∀ z,opdOk P z=true->(∀ xs,opd σ z≠.tup xs)->SlotRel P A σ a w (a.eval z) (opd σ z) (fun _ _=>0):=fun z hz hn=>by
  grind [opd_ok]
 have bound:∀ (len cap:Nat) (K':Nat->Nat->Option R),len<=cap->boundsK len (lo.map (opd σ)) (hi.map (opd σ)) K'=some x->∃ l h,l<=h/\h<=len/\K' l h=some x/\(∀ w',(Instr.sliceBounds true len cap (lo.map a.eval) (hi.map a.eval) none).run P w'=.ok (l,h,cap) w') /\
   (len=cap->∀ w',(Instr.sliceBounds false len cap (lo.map a.eval) (hi.map a.eval) none).run P w'=.ok (l,h,cap) w'):=fun len cap K' hc hb=>by
  refine bounds_ok hc (fun z hz=>hnt z (hok.2.1 z hz) fun xs e=>?_) (fun z hz=>hnt z (hok.2.2 z hz) fun xs e=>?_) hb
  ·subst hz
   unfold boundsK at hb
   grind [intK]
  ·subst hz
   unfold boundsK at hb
   cases lo with
   | none=>grind [intK]
   | some yl=>
    simp only[Option.map_some,e] at hb
    unfold intK at hb
    grind
 have runS:∀ e xa len cap l h,T=.slc e->a.eval y=.slice xa len cap->l<=cap->(∀ ad,xa=some ad->0 < cap->ad.spot=none)->(∀ w',(Instr.sliceBounds true len cap (lo.map a.eval) (hi.map a.eval) none).run P w'=.ok (l,h,cap) w') ->
   ∀ w',Same o w w'->(execOp a.eval o).run P w'=.ok (.value (.slice (if cap=l then xa else xa.map fun ad=>⟨ad.block,ad.off+l*e.sz,none⟩) (h - l) (cap - l))) w':=fun e xa len cap l h hTe hy hlc hsp hb w' _=>by
  have hb:=hb w'
  subst hTe
  obtain ⟨el,hu,_,hle⟩:=lay_slc hlay
  have hsz:=run_sizeOf (P:=P) (w:=w') hle
  unfold execOp
  simp only[ho,Option.map_none,Instr.sliceAt,Instr.slice,Sem.run_bind,run_underlying hu,Result.andThen_ok,hy,hb,hsz,Sem.run_pure]
  by_cases hcl:cap=l
  ·simp[hcl]
  ·congr 4
   cases xa with
   | none=>rfl
   | some ad=>
    obtain ⟨b,off,sp⟩:=ad
    grind [addr_add]
 have addr:∀ (xa:Option Addr) (cap l h n:Nat) (e:Ty),l<=h->h<=n->n<=cap->(∀ ad,xa=some ad->0 < cap->ad.spot=none) ->
   (xa=none->(if cap=l then xa else xa.map fun ad=>⟨ad.block,ad.off+l*e.sz,none⟩)=none) /\
   (∀ ad,xa=some ad->∃ ad',(if cap=l then xa else xa.map fun ad=>⟨ad.block,ad.off+l*e.sz,none⟩)=some ad'/\ad'.spot=ad.spot/\ad'.block=ad.block/\(l < h->ad'.off=ad.off+l*e.sz)) /\
   (l=0->(if cap=l then xa else xa.map fun ad=>(⟨ad.block,ad.off+l*e.sz,none⟩:Addr))=xa):=fun xa cap l h n e h1 h2 h3 hsp=>by
  refine ⟨fun e=>by grind,fun ad e=>?_,fun e0=>?_⟩
  ·grind
  ·subst e0
   split
   ·rfl
   ·cases xa with
    | none=>rfl
    | some ad=>
     obtain ⟨b,off,sp⟩:=ad
     grind
 have spots:∀ {e:Ty} {v:List e.den} {m:Md} {H:List Path} {xa n cap} {G:FP},Rep P w A (.slc e) m H v [.slice xa n cap] G->hole H=false->∀ ad,xa=some ad->0 < cap->ad.spot=none:=fun {e v m H xa n cap G} hrep hH ad hxa hpos=>by
  simp only[Rep,hH,Bool.false_eq_true,if_false] at hrep
  split at hrep
  ·grind
  ·obtain ⟨_,_,xa2,cap2,q1,q2,q3,q4⟩:=hrep
   grind
 rcases opd_ok h hok.1 with hs | ⟨xs,e⟩
 rotate_left
 ·grind
 split at hk
 ·rename_i s hv
  rw[hv] at hs
  split at hk
  ·rename_i hTe
   have hlay':=hlay
   rw[hTe] at hlay'
   obtain ⟨l,h',b1,b2,hk,b3,b4⟩:=bound s.length s.length _ (Nat.le_refl _) hk
   obtain ⟨cs,h1,h2⟩:=hs
   simp only[Ro] at h2;subst h2
   have e1:a.eval y=.string ⟨List.toArray s⟩:=h1
   have e2:(⟨List.toArray s⟩:ByteArray).size=s.length:=rfl
   refine tk_val (v:=.string ⟨((s.take h').drop l).toArray⟩) (fun w' _=>?_) (fin_flat h hk ⟨[_],rfl,rfl⟩ (fun _ _ _ _ e=>by cases e))
   unfold execOp
   simp only[ho,Option.map_none,Instr.sliceAt,Instr.slice,Sem.run_bind,run_underlying (lay_str hlay'),Result.andThen_ok,e1,Option.isSome_none,Bool.false_eq_true,if_false,e2,b4 rfl w',Sem.run_pure,bytes_extract s l h' b1 b2]
  ·cases hk
 ·rename_i e v hv
  rw[hv] at hs
  split at hk
  ·rename_i hTe
   obtain ⟨cs,h1,h2⟩:=hs
   obtain ⟨xa,cap,q1,q2,q3,q4⟩:=id h2
   subst q1
   rw[mkV_one _ _ rfl] at h1
   obtain ⟨l,h',b1,b2,hk,b3,_⟩:=bound (List.length v) cap _ q2 hk
   obtain ⟨r1,r2,r3⟩:=addr xa cap l h' _ e b1 b2 q2 (fun ad e=>(q4 ad e).1)
   exact tk_val (runS e xa _ cap l h' hTe h1 (by omega) (fun ad e=>(q4 ad e).1) b3) (fin_flat h hk ⟨_,(mkV_one (.slc e) _ rfl).symm,Ro.piece h2 b1 b2 (by omega) r1 r2⟩ (fun _ _ _ _ e=>by cases e))
  ·cases hk
 ·rename_i r p snap hv
  rw[hv] at hs
  split at hk
  ·rename_i hsn
   obtain ⟨hr,t',m',H',v',cs',ad',F',h1,h2,h3,h4,h5,h6⟩:=at_ok h hk
   obtain ⟨pl,g1,g2,g3⟩:=hs.2 hsn
   rw[h3] at g1
   injection g1 with g1
   subst g1
   simp only at g2 g3
   split at h1
   ·cases h1
   ·rename_i hH
    have hH:hole H'=false:=Bool.eq_false_iff.2 hH
    split at h1
    ·rename_i hTe
     split at h1
     ·rename_i e v''
      obtain ⟨xa,cap,q1,q2,q3⟩:=rep_slc_head (t:=.unit) h4 hH
      subst q1
      rw[mkV_one _ _ rfl] at g2
      have hsp:=spots h4 hH
      split at h1
      ·obtain ⟨l,h',b1,b2,h1,b3,_⟩:=bound (List.length v'') cap _ q2 h1
       obtain ⟨r1,r2,r3⟩:=addr xa cap l h' _ e b1 b2 q2 hsp
       refine tk_val (runS e xa _ cap l h' hTe.symm g2 (by omega) hsp b3) (fin_flat h h1 ⟨hs.1,fun _=>⟨_,e,xa,_,cap,_,cap - l,h3,rfl,rfl,b1,b2,rfl,by omega,r3,r1,r2,?_⟩⟩ (fun _ _ _ _ e=>by cases e))
       grind
      ·rename_i hown
       obtain ⟨l,h',b1,b2,h1,b3,_⟩:=bound (List.length v'') cap _ q2 h1
       obtain ⟨r1,r2,r3⟩:=addr xa cap l h' _ e b1 b2 q2 hsp
       simp only[Rep,hH,Bool.false_eq_true,if_false,hown] at h4
       exact tk_val (runS e xa _ cap l h' hTe.symm g2 (by omega) hsp b3) (fin_flat h h1 ⟨_,(mkV_one (.slc e) _ rfl).symm,Ro.piece h4.2.2 b1 b2 (by omega) r1 r2⟩ (fun _ _ _ _ e=>by cases e))
     ·cases h1
    ·cases h1
  ·cases hk
 ·rename_i r p snap l0 h0 hv
  rw[hv] at hs
  split at hk
  ·rename_i hsn
   obtain ⟨hr,t',m',H',v',cs',ad',F',h1,h2,h3,h4,h5,h6⟩:=at_ok h hk
   obtain ⟨pl,e,xa,n,cap,xa',cap',g1,g2,g3,g4,g5,g6,g7,g7',g8,g9,g10⟩:=hs.2 hsn
   have g1':=g1
   rw[h3] at g1
   injection g1 with g1
   subst g1
   simp only at g2 g3
   subst g2;subst g3
   split at h1
   ·cases h1
   ·rename_i hH
    have hH:hole H'=false:=Bool.eq_false_iff.2 hH
    split at h1
    ·rename_i hTe
     obtain ⟨xa2,cap2,q1,q2,q3⟩:=rep_slc_head (t:=.unit) h4 hH
     simp only[List.cons.injEq,Value.slice.injEq,and_true] at q1
     obtain ⟨rfl,rfl,rfl⟩:=q1
     have hsp:=spots h4 hH
     have hsp':∀ ad,xa'=some ad->0 < cap'->ad.spot=none:=fun ad e' hpos=>by
      cases hxa:xa <;> grind
     obtain ⟨l,h',b1,b2,h1,b3,_⟩:=bound (h0 - l0) cap' _ (by omega) h1
     obtain ⟨r1,r2,r3⟩:=addr xa' cap' l h' _ e b1 b2 (by omega) hsp'
     refine tk_val (runS e xa' _ cap' l h' hTe.symm g6 (by omega) hsp' b3) (fin_flat h h1 ⟨hs.1,fun _=>⟨⟨.slc e,H',[.slice xa (List.length v') cap],ad'⟩,e,xa,List.length v',cap,(if cap'=l then xa' else xa'.map fun ad=>⟨ad.block,ad.off+l*e.sz,none⟩),cap' - l,h3,rfl,rfl,by omega,by omega,?_,by omega,fun e0=>?_,fun e'=>?_,fun ad e'=>?_,g10⟩⟩ (fun _ _ _ _ e=>by cases e))
     ·grind
     ·grind
     ·grind
     grind
    ·cases h1
  ·cases hk
 ·cases hk
end
end OT
set_option linter.unusedVariables false
set_option linter.unusedSimpArgs false
namespace OT
open Go
theorem toI_ofI (k:IntKind) (n:Int):toI k (ofI k n)=k.wrap n:=by
 cases k <;> first | rfl | skip
 show ((UInt8.ofNat (n % 2 ^ 8).toNat).toNat:Int)=_
 grind [UInt8.toNat_ofNat',IntKind.wrap,IntKind.bits,IntKind.signed]
theorem toI_inI (k:IntKind) (n:Int) (h:k=.u8->0<=n/\n < 256):toI k (inI k n)=n:=by
 cases k <;> first | rfl | skip
 obtain ⟨h1,h2⟩:=h rfl
 show ((UInt8.ofNat (n % 2 ^ 8).toNat).toNat:Int)=_
 rw[UInt8.toNat_ofNat']
 omega
theorem toI_u8 (v:IntDen .u8):0<=toI .u8 v/\toI .u8 v < 256:=by
 have:UInt8.toNat v < 256:=UInt8.toNat_lt v
 show 0<=((UInt8.toNat v:Nat):Int)/\((UInt8.toNat v:Nat):Int) < 256
 omega
section
variable {P:Program} {C:Ctx} {A:Cells} {X:FP} {σ:St} {a:Act} {w:World} {F:Nat->FP} {R:Type} {x:R} {Q:Exit->Act->World->Prop} {o:Oper} {E:Env}
theorem binI_ok {op:BinOp} {k k':IntKind} {na nb:Int} {K:(t:Ty)->t.den->Option R} (hk:binI op k na nb K=some x) (hkk:k=k'\/op=.shl\/op=.shr) (hu:k=.u8->0<=na/\na < 256) (hu':k'=.u8->0<=nb/\nb < 256) (T:TypeId) :
  ∃ t v tv,K t v=some x/\Ro P w A t v [tv]/\isAgg t=false/\∀ w:World,(binOp op T (.int k na) (.int k' nb)).run P w=.ok tv w:=by
 have same:op≠.shl->op≠.shr->k=k':=fun h1 h2=>by grind
 unfold binI at hk
 split at hk
 ·have:=same (by simp) (by simp);subst this
  exact ⟨_,_,.int k (k.wrap (na+nb)),hk,by simp only[Ro,toI_ofI],rfl,fun w=>by simp[Go.binOp,Op.intArith]⟩
 ·have:=same (by simp) (by simp);subst this
  exact ⟨_,_,.int k (k.wrap (na - nb)),hk,by simp only[Ro,toI_ofI],rfl,fun w=>by simp[Go.binOp,Op.intArith]⟩
 ·have:=same (by simp) (by simp);subst this
  exact ⟨_,_,.int k (k.wrap (na*nb)),hk,by simp only[Ro,toI_ofI],rfl,fun w=>by simp[Go.binOp,Op.intArith]⟩
 ·have:=same (by simp) (by simp);subst this
  split at hk
  ·cases hk
  ·rename_i hnz
   exact ⟨_,_,.int k (k.wrap (na.tdiv nb)),hk,by simp only[Ro,toI_ofI],rfl,fun w=>by simp[Go.binOp,Op.intDiv,hnz]⟩
 ·have:=same (by simp) (by simp);subst this
  split at hk
  ·cases hk
  ·rename_i hnz
   refine ⟨_,_,.int k (na.tmod nb),hk,?_,rfl,fun w=>by simp[Go.binOp,Op.intDiv,hnz]⟩
   simp only[Ro]
   rw[toI_inI k _ (fun e=>?_)]
   have h1:=hu e;have h2:=hu' e
   have:=Int.tmod_nonneg nb h1.1
   have h3:na.tmod nb < nb:=Int.tmod_lt_of_pos na (by omega)
   omega
 ·have:=same (by simp) (by simp);subst this
  exact ⟨_,_,.int k (k.wrap ((BitVec.ofInt k.bits na &&& BitVec.ofInt k.bits nb).toNat:Int)),hk,by simp only[Ro,toI_ofI],rfl,fun w=>by grind [Go.binOp,Op.intBits,Sem.run_pure]⟩
 ·have:=same (by simp) (by simp);subst this
  exact ⟨_,_,.int k (k.wrap ((BitVec.ofInt k.bits na ||| BitVec.ofInt k.bits nb).toNat:Int)),hk,by simp only[Ro,toI_ofI],rfl,fun w=>by grind [Go.binOp,Op.intBits,Sem.run_pure]⟩
 ·have:=same (by simp) (by simp);subst this
  exact ⟨_,_,.int k (k.wrap ((BitVec.ofInt k.bits na ^^^ BitVec.ofInt k.bits nb).toNat:Int)),hk,by simp only[Ro,toI_ofI],rfl,fun w=>by grind [Go.binOp,Op.intBits,Sem.run_pure]⟩
 ·split at hk
  ·cases hk
  ·rename_i hn
   exact ⟨_,_,.int k (k.wrap (na*2 ^ (min nb.toNat k.bits))),hk,by simp only[Ro,toI_ofI],rfl,fun w=>by simp[Go.binOp,Op.shift,hn]⟩
 ·split at hk
  ·cases hk
  ·rename_i hn
   refine ⟨_,_,.int k (na.fdiv (2 ^ (min nb.toNat k.bits))),hk,?_,rfl,fun w=>by simp[Go.binOp,Op.shift,hn]⟩
   simp only[Ro]
   rw[toI_inI k _ (fun e=>?_)]
   have h1:=hu e
   have hp:(0:Int) < 2 ^ (min nb.toNat k.bits):=Int.pow_pos (by omega)
   rw[Int.fdiv_eq_ediv_of_nonneg _ (by omega)]
   have h2:=Int.ediv_nonneg h1.1 (Int.le_of_lt hp)
   have h3:=Int.ediv_le_self (2 ^ (min nb.toNat k.bits)) h1.1
   omega
 ·have:=same (by simp) (by simp);subst this
  exact ⟨.bool,decide (na=nb),_,hk,rfl,rfl,fun w=>by simp[Go.binOp,Op.intCmp];rfl⟩
 ·have:=same (by simp) (by simp);subst this
  exact ⟨.bool,!decide (na=nb),_,hk,rfl,rfl,fun w=>by simp[Go.binOp,Op.intCmp,bne];rfl⟩
 ·have:=same (by simp) (by simp);subst this
  exact ⟨.bool,decide (na < nb),_,hk,rfl,rfl,fun w=>by simp[Go.binOp,Op.intCmp]⟩
 ·have:=same (by simp) (by simp);subst this
  exact ⟨.bool,decide (na<=nb),_,hk,rfl,rfl,fun w=>by simp[Go.binOp,Op.intCmp]⟩
 ·have:=same (by simp) (by simp);subst this
  exact ⟨.bool,decide (nb < na),_,hk,rfl,rfl,fun w=>by simp[Go.binOp,Op.intCmp]⟩
 ·have:=same (by simp) (by simp);subst this
  exact ⟨.bool,decide (nb<=na),_,hk,rfl,rfl,fun w=>by simp[Go.binOp,Op.intCmp]⟩
 ·cases hk
theorem binS_ok {op:BinOp} {s t:List UInt8} {K:(t:Ty)->t.den->Option R} (hk:binS op s t K=some x) (T:TypeId) :
  ∃ ty v tv,K ty v=some x/\Ro P w A ty v [tv]/\isAgg ty=false/\∀ w:World,(binOp op T (.string ⟨s.toArray⟩) (.string ⟨t.toArray⟩)).run P w=.ok tv w:=by
 have h0:∀ w:World,(binOp op T (.string ⟨s.toArray⟩) (.string ⟨t.toArray⟩)).run P w=(Op.stringOp op ⟨s.toArray⟩ ⟨t.toArray⟩).run P w:=fun w=>by cases op <;> rfl
 simp only[h0]
 unfold binS at hk
 split at hk
 ·split at hk
  ·rename_i hc
   refine ⟨.str,s++t,.string ⟨(s++t).toArray⟩,hk,rfl,rfl,fun w=>?_⟩
   grind [run_string_add_sum,ByteArray.size,CAP,ByteArray.mk_append_mk]
  ·cases hk
 ·exact ⟨.bool,decide (s=t),_,hk,rfl,rfl,fun w=>by simp[Op.stringOp];grind⟩
 ·exact ⟨.bool,!decide (s=t),_,hk,rfl,rfl,fun w=>by simp[Op.stringOp];grind⟩
 ·cases hk
theorem val_str {tv:Value} {s:List UInt8} {G:FP} (h:SlotRel P A σ a w tv (.val .str s) G):tv=.string ⟨s.toArray⟩:=by
 obtain ⟨cs,h1,h2⟩:=h
 simp only[Ro] at h2
 subst h2
 exact h1
theorem val_int {tv:Value} {k:IntKind} {n:IntDen k} {G:FP} (h:SlotRel P A σ a w tv (.val (.int k) n) G):tv=.int k (toI k n):=by
 obtain ⟨cs,h1,h2⟩:=h
 simp only[Ro] at h2
 subst h2
 exact h1
theorem val_bool {tv:Value} {b:Bool} {G:FP} (h:SlotRel P A σ a w tv (.val .bool b) G):tv=.bool b:=by
 obtain ⟨cs,h1,h2⟩:=h
 simp only[Ro] at h2
 subst h2
 exact h1
theorem take_unOp (h:Rel0 P C A σ a w F) {op:UnOp} {t:Nat} {y:Operand} (ho:o.op=.unOp op t y) (hok:opdOk P y=true) {K:St->Option R}
  (hk:(match op,opd σ y with
  | .not,.val .bool b=>K (σ.putD o.dst (.val .bool (!b)))
  | .neg,.val (.int k) n=>K (σ.putD o.dst (.val (.int k) (ofI k (0 - toI k n))))
  | _,_=>none)=some x):Tk P o a w (Nx P C K x):=by
 rcases opd_ok h hok with hs | ⟨xs,e⟩
 rotate_left
 ·grind
 split at hk
 ·rename_i b ho hv
  rw[hv] at hs
  have e:=val_bool hs
  exact tk_val (v:=.bool (!b)) (by simp[execOp,ho,e,Op.unary]) (fin_flat h hk ⟨[_],rfl,rfl⟩ (fun _ _ _ _ e=>by cases e))
 ·rename_i k n ho hv
  rw[hv] at hs
  have e:=val_int hs
  exact tk_val (v:=.int k (k.wrap (0 - toI k n))) (by simp[execOp,ho,e,Op.unary,Op.intArith]) (fin_flat h hk ⟨[_],rfl,by simp only[Ro,toI_ofI]⟩ (fun _ _ _ _ e=>by cases e))
 ·cases hk
end
end OT
set_option linter.unusedVariables false
set_option linter.unusedSimpArgs false
namespace OT
open Go
section
variable {P:Program} {w:World} {A:Cells}
theorem eq_ok:∀ (t:Ty),(∀ (i:TypeId) (d:Nat) (v1 v2:t.den) (cs1 cs2:List Value),layB P t (.inl i)=true->eqB P t (.inl i)=true->dep t<=d->Ro P w A t v1 cs1->Ro P w A t v2 cs2->(Op.equalIn d i (mkV t cs1) (mkV t cs2)).run P w=.ok (t.eq v1 v2) w) /\
  (∀ (fs:List Field) (off d:Nat) (v1 v2:t.den) (xs ys:Array Value),layB P t (.inr (fs,off))=true->eqB P t (.inr fs)=true->dep t<=d+1->Ro P w A t v1 (xs.toList.drop off)->Ro P w A t v2 (ys.toList.drop off)->(Op.eqFields d xs ys fs).run P w=.ok (t.eq v1 v2) w):=by
 intro t
 induction t with
 | int k=>
  refine ⟨fun i d v1 v2 cs1 cs2 hl he hd h1 h2=>?_,fun fs off d v1 v2 xs ys hl=>by simp[layB] at hl⟩
  simp only[Ro] at h1 h2
  subst h1;subst h2
  cases d with
  | zero=>simp[dep] at hd
  | succ d=>
   rw[mkV_one _ _ rfl,mkV_one _ _ rfl,run_equalIn_int w d i k k _ _ (lay_int hl)]
   congr 1
   cases k with
   | u8=>exact Bool.eq_iff_iff.2 (by simp only[toI,Ty.eq,beq_iff_eq];constructor;(intro h;exact UInt8.toNat_inj.1 (by omega));grind)
   | _=>grind [toI,Ty.eq]
 | bool=>
  refine ⟨fun i d v1 v2 cs1 cs2 hl he hd h1 h2=>?_,fun fs off d v1 v2 xs ys hl=>by simp[layB] at hl⟩
  simp only[Ro] at h1 h2
  subst h1;subst h2
  have hu:P.underlying i=some .bool:=by
   grind [layB]
  cases d with
  | zero=>simp[dep] at hd
  | succ d=>rw[mkV_one _ _ rfl,mkV_one _ _ rfl,run_equalIn_bool' w d i _ _ hu];rfl
 | str=>
  refine ⟨fun i d v1 v2 cs1 cs2 hl he hd h1 h2=>?_,fun fs off d v1 v2 xs ys hl=>by simp[layB] at hl⟩
  simp only[Ro] at h1 h2
  subst h1;subst h2
  cases d with
  | zero=>simp[dep] at hd
  | succ d=>
   rw[mkV_one _ _ rfl,mkV_one _ _ rfl,run_equalIn_string w d i _ _ (lay_str hl),ByteArray.toList_mk,ByteArray.toList_mk]
   grind [Ty.eq]
 | unit=>
  refine ⟨fun i d v1 v2 cs1 cs2 hl he hd h1 h2=>?_,fun fs off d v1 v2 xs ys hl he hd h1 h2=>?_⟩
  ·simp only[Ro] at h1 h2
   subst h1;subst h2
   simp only[layB,Bool.and_eq_true] at hl
   have h3:=hl.2
   split at h3
   ·rename_i fs hu
    have hf:P.fieldsOf i=fs:=by simp[Program.fieldsOf,hu]
    cases d with
    | zero=>simp[dep] at hd
    | succ d=>
     have hnil:fs.toList=[]:=List.isEmpty_iff.1 h3
     simp only[eqB,Bool.not_eq_true'] at he
     show (Op.equalIn (d+1) i (.agg #[]) (.agg #[])).run P w=_
     rw[run_equalIn_struct w d i _ _ (by grind) he,hf,hnil]
     rfl
   ·cases h3
  ·simp only[layB,List.isEmpty_iff] at hl
   subst hl
   rfl
 | pair a b iha ihb=>
  have second:∀ (fs:List Field) (off d:Nat) (v1 v2:(Ty.pair a b).den) (xs ys:Array Value),layB P (.pair a b) (.inr (fs,off))=true->eqB P (.pair a b) (.inr fs)=true->dep (.pair a b)<=d+1->Ro P w A (.pair a b) v1 (xs.toList.drop off)->Ro P w A (.pair a b) v2 (ys.toList.drop off)->(Op.eqFields d xs ys fs).run P w=.ok ((Ty.pair a b).eq v1 v2) w:=by
   intro fs off d v1 v2 xs ys hl he hd h1 h2
   cases fs with
   | nil=>simp[layB] at hl
   | cons f r=>
    simp only[layB,Bool.and_eq_true,Nat.beq_eq,Nat.ble_eq] at hl
    simp only[eqB,Bool.and_eq_true,bne_iff_ne,ne_eq] at he
    simp only[dep] at hd
    obtain ⟨h1a,h1b⟩:=h1
    obtain ⟨h2a,h2b⟩:=h2
    have p1:=run_part (P:=P) (w:=w) hl.1.2 (cs:=xs) (off:=off) (Ro.length _ h1a)
    have p2:=run_part (P:=P) (w:=w) hl.1.2 (cs:=ys) (off:=off) (Ro.length _ h2a)
    have e1:=iha.1 f.type d v1.1 v2.1 _ _ hl.1.2 he.1.2 (by omega) h1a h2a
    rw[List.drop_drop] at h1b h2b
    have e2:=ihb.2 r (off+a.sz) d v1.2 v2.2 xs ys hl.2 he.2 (by omega) h1b h2b
    simp only[Op.eqFields,ne_eq,he.1.1,not_false_eq_true,if_true,Sem.run_bind,hl.1.1.1,p1,p2,e1,Result.andThen_ok]
    cases hq:a.eq v1.1 v2.1 <;> simp_all [Ty.eq]
  refine ⟨fun i d v1 v2 cs1 cs2 hl he hd h1 h2=>?_,second⟩
  simp only[layB,Bool.and_eq_true] at hl
  simp only[eqB,Bool.and_eq_true,Bool.not_eq_true'] at he
  have h3:=hl.2
  have h4:=he.2
  split at h3
  ·rename_i fs hu
   rw[hu] at h4
   simp only at h4
   have hf:P.fieldsOf i=fs:=by simp[Program.fieldsOf,hu]
   split at h3
   ·rename_i f r hfs
    rw[hfs] at h4
    simp only at h4
    cases d with
    | zero=>grind [dep]
    | succ d=>
     show (Op.equalIn (d+1) i (.agg cs1.toArray) (.agg cs2.toArray)).run P w=_
     rw[run_equalIn_struct w d i _ _ (by grind) he.1,hf,hfs]
     refine second (f::r) 0 d v1 v2 _ _ ?_ ?_ hd (by simpa using h1) (by simpa using h2)
     all_goals grind [layB,eqB]
   ·cases h3
  ·cases h3
 | arr n e ih=>
  refine ⟨fun i d v1 v2 cs1 cs2 hl he hd h1 h2=>?_,fun fs off d v1 v2 xs ys hl=>by simp[layB] at hl⟩
  simp only[layB,Bool.and_eq_true] at hl
  have h3:=hl.2
  simp only[eqB] at he
  split at h3
  ·rename_i n' el hu
   simp only[Bool.and_eq_true,Nat.beq_eq,Nat.ble_eq] at h3
   obtain ⟨⟨rfl,_⟩,hle⟩:=h3
   rw[hu] at he
   simp only at he
   obtain ⟨inf,i1,i2,_⟩:=infoOk_some (layB_info hle)
   have hsz:P.cellsOf el=e.sz:=by grind [Program.cellsOf]
   obtain ⟨_,l1,_,r1⟩:=h1
   obtain ⟨_,l2,_,r2⟩:=h2
   cases d with
   | zero=>simp[dep] at hd
   | succ d=>
    simp only[dep] at hd
    have key:∀ (m j:Nat),j+m=n->(Op.eqItems d el e.sz cs1.toArray cs2.toArray (List.range' j m)).run P w=.ok (((List.drop j v1).zip (List.drop j v2)).all fun p=>e.eq p.1 p.2) w:=by
     intro m
     induction m with
     | zero=>
      intro j hj
      rw[List.drop_of_length_le (by omega)]
      rfl
     | succ m ihm=>
      intro j hj
      have g1:=List.getElem?_eq_getElem (l:=v1) (i:=j) (by omega)
      have g2:=List.getElem?_eq_getElem (l:=v2) (i:=j) (by omega)
      have a1:=r1 j _ g1
      have a2:=r2 j _ g2
      have p1:=run_part (P:=P) (w:=w) hle (cs:=cs1.toArray) (off:=j*e.sz) (Ro.length _ a1)
      have p2:=run_part (P:=P) (w:=w) hle (cs:=cs2.toArray) (off:=j*e.sz) (Ro.length _ a2)
      have e1:=ih.1 el d _ _ _ _ hle he (by omega) a1 a2
      rw[List.range'_succ,List.drop_eq_getElem_cons (l:=v1) (i:=j) (by omega),List.drop_eq_getElem_cons (l:=v2) (i:=j) (by omega)]
      simp only[Op.eqItems,Sem.run_bind,p1,p2,e1,Result.andThen_ok,List.zip_cons_cons,List.all_cons]
      cases hq:e.eq v1[j] v2[j] with
      | true=>grind
      | false=>simp
    show (Op.equalIn (d+1) i (.agg cs1.toArray) (.agg cs2.toArray)).run P w=_
    rw[run_equalIn_array w d _ _ hu i1,hsz,List.range_eq_range']
    exact key n 0 (by omega)
  ·cases h3
 | _=>grind [eqB]
end
section
variable {P:Program} {C:Ctx} {A:Cells} {X:FP} {σ:St} {a:Act} {w:World} {F:Nat->FP} {R:Type} {x:R} {Q:Exit->Act->World->Prop} {o:Oper} {E:Env}
def eqTab (P:Program) (E:Env):Prop:=∀ i T,E.TI i=some T->T.eqOk=true->isAgg T=true->eqB P T (.inl i)=true/\P.eqGuardType P.depth i=false/\dep T<=10000
theorem eq_guard {op:BinOp} {t:TypeId} {y z:Operand} {u v:Value} (h:¬ (∃ p q,u=.agg p/\v=.agg q)) (h2:u≠.nilIface):(eqGuard op t y z u v).run P w=.ok () w:=by
 simp_all [eqGuard]
theorem Ro.eqOk {w':World} {A':Cells}:∀ (t:Ty) {v:t.den} {cs:List Value},t.eqOk=true->Ro P w A t v cs->Ro P w' A' t v cs:=by
 intro t
 induction t with
 | pair a b iha ihb=>
  intro v cs hq h
  simp only[Ty.eqOk,Bool.and_eq_true] at hq
  exact ⟨iha hq.1 h.1,ihb hq.2 h.2⟩
 | arr n e ih=>intro v cs hq h;exact ⟨h.1,h.2.1,h.2.2.1,fun i x hx=>ih hq (h.2.2.2 i x hx)⟩
 | slc e ih=>grind [Ty.eqOk]
 | ptr e ih=>grind [Ty.eqOk]
 | fn=>grind [Ty.eqOk]
 | map k v=>grind [Ty.eqOk]
 | _=>intro v cs hq h;exact h
theorem take_binOp (h:Rel0 P C A σ a w F) (hti:∀ i T,E.TI i=some T->layB P T (.inl i)=true) (heq:eqTab P E) {op:BinOp} {t t2:Nat} {y z:Operand} (ho:o.op=.binOp op t y z t2) (hok:opdOk P y=true/\opdOk P z=true) {K:St->Option R}
  (hk:binK E t op (opd σ y) (opd σ z) (fun t v=>K (σ.putD o.dst (.val t v)))=some x):Tk P o a w (Nx P C K x):=by
 rcases opd_ok h hok.1 with hy | ⟨xs,e⟩
 rotate_left
 ·grind [binK]
 rcases opd_ok h hok.2 with hz | ⟨xs,e⟩
 rotate_left
 ·grind [binK]
 have fin:∀ (ty:Ty) (v:ty.den) (tv:Value),K (σ.putD o.dst (.val ty v))=some x->Ro P w A ty v [tv]->isAgg ty=false->(∀ w',Same o w w'->(eqGuard op t y z (a.eval y) (a.eval z)).run P w'=.ok () w')->(∀ w',Same o w w'->(binOp op t (a.eval y) (a.eval z)).run P w'=.ok tv w')->Tk P o a w (Nx P C K x):=fun ty v tv hk hr ha hg hb=>by
  refine tk_val (v:=tv) (fun w' hw'=>?_) (fin_flat h hk ⟨[tv],(mkV_one ty tv ha).symm,hr⟩ (fun _ _ _ _ e=>by cases e))
  grind [execOp,Sem.run_bind,Result.andThen_ok,Sem.run_pure]
 unfold binK at hk
 split at hk
 ·rename_i k n1 k' n2 hv1 hv2
  rw[hv1] at hy
  rw[hv2] at hz
  have e1:=val_int hy
  have e2:=val_int hz
  have hg:∀ w',Same o w w'->(eqGuard op t y z (a.eval y) (a.eval z)).run P w'=.ok () w':=fun w' _=>by grind [eq_guard]
  have hkk:(k=k'\/op=.shl\/op=.shr)/\binI op k (toI k n1) (toI k' n2) (fun t v=>K (σ.putD o.dst (.val t v)))=some x:=by
   grind
  obtain ⟨ty,v,tv,q1,q2,q3,q4⟩:=binI_ok (P:=P) (A:=A) (w:=w) hkk.2 hkk.1 (fun e=>by subst e;exact toI_u8 n1) (fun e=>by subst e;exact toI_u8 n2) t
  grind
 ·rename_i s1 s2 hv1 hv2
  rw[hv1] at hy
  rw[hv2] at hz
  have e1:=val_str hy
  have e2:=val_str hz
  have hg:∀ w',Same o w w'->(eqGuard op t y z (a.eval y) (a.eval z)).run P w'=.ok () w':=fun w' _=>by grind [eq_guard]
  obtain ⟨ty,v,tv,q1,q2,q3,q4⟩:=binS_ok (P:=P) (A:=A) (w:=w) hk t
  grind
 ·rename_i ty v1 ty' v2 hni hns hv1 hv2
  rw[hv1] at hy
  rw[hv2] at hz
  have main:∀ (e:ty=ty') (hq:ty.eqOk=true) (hT:E.TI t=some ty) (w':World),Same o w w'->(eqGuard op t y z (a.eval y) (a.eval z)).run P w'=.ok () w'/\(∀ b,b=ty.eq v1 (e ▸ v2)->(op=.eql->(binOp op t (a.eval y) (a.eval z)).run P w'=.ok (.bool b) w')/\(op=.neq->(binOp op t (a.eval y) (a.eval z)).run P w'=.ok (.bool (!b)) w')):=fun e hq hT w' hw'=>by
   subst e
   obtain ⟨cs1,e1,r1⟩:=hy
   obtain ⟨cs2,e2,r2⟩:=hz
   have r1:=Ro.eqOk (w':=w') (A':=A) _ hq r1
   have r2:=Ro.eqOk (w':=w') (A':=A) _ hq r2
   have hlay:=hti _ _ hT
   cases hag:isAgg ty with
   | true=>
    obtain ⟨q1,q2,q3⟩:=heq _ _ hT hq hag
    have heq':=(eq_ok (P:=P) (w:=w') (A:=A) ty).1 t 10000 v1 v2 cs1 cs2 hlay q1 q3 r1 r2
    simp_all [mkV,run_eqGuard_agg,run_eql_struct,run_neq_struct]
   | false=>
    cases ty with
    | int k=>grind
    | str=>grind
    | bool=>
     simp only[Ro] at r1 r2
     subst r1;subst r2
     rw[mkV_one _ _ rfl] at e1 e2
     have hu:P.underlying t=some .bool:=by
      grind [layB]
     rw[e1,e2]
     refine ⟨eq_guard (by grind) (by grind),fun b hb=>⟨fun h=>?_,fun h=>?_⟩⟩
     ·subst h;subst hb
      have:=run_equalIn_bool' (P:=P) w' 9999 t v1 v2 hu
      simp only[Go.binOp,Op.equal,Op.maxDepth,Sem.run_bind,this,Result.andThen_ok,Sem.run_pure];rfl
     ·subst h;subst hb
      have:=run_equalIn_bool' (P:=P) w' 9999 t v1 v2 hu
      simp only[Go.binOp,Op.equal,Op.maxDepth,Sem.run_bind,this,Result.andThen_ok,Sem.run_pure];rfl
    | _=>grind [Ty.eqOk,isAgg]
  split at hk
  ·split at hk
   ·rename_i hq
    obtain ⟨T,hT,hk⟩:=tiK_some hk
    split at hk
    ·rename_i e;subst e
     obtain ⟨e,hk⟩:=castK_some hk
     have m:=main e.symm hq hT
     subst e
     exact fin .bool _ _ hk rfl rfl (fun w' hw'=>(m w' hw').1) (fun w' hw'=>((m w' hw').2 _ rfl).1 rfl)
    ·cases hk
   ·cases hk
  ·split at hk
   ·rename_i hq
    obtain ⟨T,hT,hk⟩:=tiK_some hk
    split at hk
    ·rename_i e;subst e
     obtain ⟨e,hk⟩:=castK_some hk
     have m:=main e.symm hq hT
     subst e
     exact fin .bool _ _ hk rfl rfl (fun w' hw'=>(m w' hw').1) (fun w' hw'=>((m w' hw').2 _ rfl).2 rfl)
    ·cases hk
   ·cases hk
  ·cases hk
 ·rename_i e v hv1 hv2
  rw[hv1] at hy
  rw[hv2] at hz
  obtain ⟨T,hT,hk⟩:=tiK_some hk
  split at hk
  ·rename_i eT
   subst eT
   obtain ⟨te,hu⟩:∃ te,P.underlying t=some (.slice te):=by
    grind [layB]
   obtain ⟨cs,h1,a0,cap,h2,h3,h4,h5⟩:=hy
   subst h2
   rw[mkV_one _ _ rfl] at h1
   have hz':a.eval z=.slice none 0 0:=hz
   have hg:∀ w',Same o w w'->(eqGuard op t y z (a.eval y) (a.eval z)).run P w'=.ok () w':=fun w' _=>by grind [eq_guard]
   have key:∀ (b:Bool),nilB v (K (σ.putD o.dst (.val .bool b))) (K (σ.putD o.dst (.val .bool !b)))=some x->K (σ.putD o.dst (.val .bool (if a0.isNone then b else !b)))=some x:=fun b hb=>by
    cases v with
    | nil=>
     grind [nilB,both]
    | cons y v=>
     have:a0.isNone=false:=by
      cases a0 <;> grind
     rw[this]
     exact hb
   unfold nilK at hk
   split at hk
   ·refine fin .bool _ (.bool a0.isNone) (key true hk) ?_ rfl hg fun w' _=>?_
    ·cases a0 <;> rfl
    grind [run_equal_slice_nil,Go.binOp,Sem.run_bind,Result.andThen_ok,Sem.run_pure]
   ·refine fin .bool _ (.bool !a0.isNone) (key false hk) ?_ rfl hg fun w' _=>?_
    ·cases a0 <;> rfl
    grind [run_neq_slice_nil]
   ·cases hk
  ·cases hk
 ·cases hk
end
end OT
set_option linter.unusedVariables false
set_option linter.unusedSimpArgs false
namespace OT
open Go
section
variable {P:Program} {C:Ctx} {A:Cells} {X:FP} {σ:St} {a:Act} {w:World} {F:Nat->FP} {R:Type} {x:R} {Q:Exit->Act->World->Prop} {o:Oper} {E:Env}
theorem ext_alloc (w:World) (ob:Obj):Ext w (w.alloc ob) (fun _ _=>0):=by
 refine ⟨by simp,fun b i hb _ u hu=>?_,fun b n hn=>?_,fun b i hb=>World.frozen?_alloc_old w ob _ (by simp;omega),rfl,rfl,rfl,fun b hb _=>?_,Nat.le_refl _⟩
 ·grind [ce_block,World.alloc]
 ·obtain ⟨c,e,fr,h1,h2,h3⟩:=hn
  refine ⟨c,e,fr,?_,h2,h3⟩
  grind [World.alloc]
 grind [World.alloc]
theorem ext_drew (w:World):Ext w w.drew (fun _ _=>0):=⟨Nat.le_refl _,fun _ _ _ _ _ h=>h,fun _ _ h=>h,fun _ _ _=>rfl,rfl,rfl,rfl,fun _ _ _=>rfl,Nat.le_succ _⟩
theorem own_alloc (w:World) (c:Array Value) (e:TypeId) (fr:Nat×Nat) (u:Bool) (hfr:(u=true/\c.size<=fr.1)\/fr.2<=fr.1):OwnBlk (w.alloc (.cells c e fr)) w.heap.size (c.size,u):=
 ⟨c,e,fr,heap_alloc_new w _,rfl,fun i hi=>by grind,fun hu=>by grind⟩
theorem has_alloc (w:World) (c:Array Value) (e:TypeId) (fr:Nat×Nat) {k:Nat} {L:List Value} (hL:∀ j u,L[j]?=some u->c[k+j]?=some u) (hone:∀ u ∈ L,u.oneCell'=true):Has (w.alloc (.cells c e fr)) w.heap.size k L:=by
 intro j u hu
 grind [cell_ce,World.cell?,heap_alloc_new]
theorem Rel.alloc (h:Rel P C A X σ a w F) (c:Array Value) (e:TypeId) (fr:Nat×Nat):Rel P C A (fun b i=>X b i+rng w.heap.size 0 c.size b i) σ a (w.alloc (.cells c e fr)) F:=by
 refine h.grow (ext_alloc w _) (fun _ _ h=>h) (fun _ _ h=>.inl h) (fun b i=>?_)
 by_cases hb:b=w.heap.size
 ·subst hb
  right
  have hx:X w.heap.size i=0:=by
   rcases Nat.eq_zero_or_pos (X w.heap.size i) with h0 | h0
   ·exact h0
   ·have:=h.bnd w.heap.size i (.inl (by omega));omega
  exact ⟨Nat.le_refl _,by simp,by grind [rng]⟩
 grind [rng]
theorem Rel.drew (h:Rel P C A X σ a w F):Rel P C A X σ a w.drew F:=h.grow (ext_drew w) (fun _ _ h=>h) (fun _ _ h=>.inl h) (fun _ _=>.inl (Nat.le_refl _))
theorem Rep.alloc (h:Rel P C A X σ a w F) {t:Ty} {m:Md} {H:List Path} {v:t.den} {cs:List Value} {G:FP} (hr:Rep P w A t m H v cs G) (hG:∀ b i,1<=G b i->b < w.heap.size) {w':World} (hw:Ext w w' (fun _ _=>0)):Rep P w' A t m H v cs G:=
 Rep.mono (fun _ _ h=>h) (fun b i ha u hu=>hw.cell b i (h.bnd b i (.inr ha)) rfl u hu) hw.blk t hr (fun _ _=>Nat.le_refl _) (fun b i hp u hu=>hw.cell b i (hG b i hp) rfl u hu)
theorem box_new (h:Rel P C A X σ a w F) {K:St->Option R} {d:Option Tmp} {t:Ty} {m:Md} {v:t.den} {cs:List Value} {Fv:FP} (e:TypeId) (hk:K (σ.putD d (.box t m [] v))=some x)
  (hr:Rep P w A t m [] v cs Fv) (hX:∀ b i,Fv b i<=X b i):∃ A' F',Rel P C A' (fun _ _=>0) (σ.putD d (.box t m [] v)) (a.put d (.pointer (some ⟨w.heap.size,0,none⟩))) (w.alloc (.cells cs.toArray e)) F':=by
 have hl:=Rep.length t hr
 have h1:=h.alloc cs.toArray e (0,0)
 have hown:=own_alloc w cs.toArray e (0,0) false (.inr (Nat.le_refl _))
 simp only[List.size_toArray,hl] at hown h1
 have hr1:=Rep.alloc h hr (fun b i hp=>h.bnd b i (.inl (by grind))) (ext_alloc w (.cells cs.toArray e))
 obtain ⟨F',hF⟩:=h1.putD d (s:=.box t m [] v) (v:=.pointer (some ⟨w.heap.size,0,none⟩)) (Fd:=fun b i=>rng w.heap.size 0 t.sz b i+Fv b i) (X':=fun _ _=>0)
  ⟨w.heap.size,0,cs,Fv,rfl,hl,has_alloc w cs.toArray e (0,0) (fun j u hu=>by simpa using hu) (Rep.one _ hr),fun j hj=>by simp_all,fun _ _=>Nat.le_refl _,hr1⟩
  (fun b i=>by grind) (fun t' m' H' v' e'=>by grind)
 grind
theorem zok_some:∀ (t:Ty),t.zok=true->∃ L,zc t=some L:=by
 intro t
 induction t <;> grind [Ty.zok,zc]
theorem new_alloc (h:Rel0 P C A σ a w F) (hti:∀ i T,E.TI i=some T->layB P T (.inl i)=true) {t:Nat} (ho:o.op=.alloc t) {K:St->Option R}
  (hk:(tiK E t fun T=>if T.zok then K (σ.putD o.dst (.box T (ownMd T) [] T.zero)) else none)=some x):o.wp P a w (fun a' w'=>Nx P C K x a' w'/\Ext w w' (fun _ _=>0)) Q:=by
 obtain ⟨T,hT,hk⟩:=tiK_some hk
 split at hk
 ·rename_i hzk
  have hlay:=hti _ _ hT
  obtain ⟨L,hL⟩:=zok_some T hzk
  obtain ⟨z,hz1,hz2⟩:=run_zeroValue (P:=P) (w:=w) hlay hL
  obtain ⟨r1,r2,r3⟩:=zc_ok (P:=P) (w:=w) (A:=A) T hL hlay
  refine wp_val (v:=.pointer (some ⟨w.heap.size,0,none⟩)) (w':=w.alloc (.cells L.toArray t)) ?_ ?_
  ·have:z.cells=L.toArray:=by grind
   simp_all [execOp,Instr.alloc,newVar,newRow]
  ·obtain ⟨A',F',hF⟩:=box_new h t hk r1 (fun _ _=>Nat.le_refl _)
   exact ⟨⟨_,hk,A',F',hF⟩,ext_alloc w _⟩
 ·cases hk
end
end OT
set_option linter.unusedVariables false
set_option linter.unusedSimpArgs false
namespace OT
open Go
section
variable {P:Program} {C:Ctx} {A:Cells} {X:FP} {σ:St} {a:Act} {w:World} {F:Nat->FP} {R:Type} {x:R} {Q:Exit->Act->World->Prop} {o:Oper} {E:Env}
theorem slc_new (h:Rel P C A X σ a w F) {K:St->Option R} {d:Option Tmp} {e:Ty} {m:Md} {v:List e.den} {c:Array Value} {cap:Nat} {el:TypeId} {fr:Nat×Nat} {Fi:Nat->FP} (hfr:(isU8 e=true/\c.size<=fr.1)\/fr.2<=fr.1)
  (hk:K (σ.putD d (.own (.slc e) (.slc true m) [] v))=some x) (hc:c.size=cap*e.sz) (hcap:cap<=maxLen) (hv:List.length v<=cap) (hX:∀ b i,sumF (List.length v) Fi b i<=X b i)
  (hel:∀ (i:Nat) (y:e.den),v[i]?=some y->∃ L:List Value,L.length=e.sz/\(∀ j u,L[j]?=some u->c[i*e.sz+j]?=some u)/\Rep P w A e m [] y L (Fi i)) :
  Nx P C K x (a.put d (.slice (some ⟨w.heap.size,0,none⟩) (List.length v) cap)) (w.alloc (.cells c el fr)):=by
 have h1:=h.alloc c el fr
 have hown:=own_alloc w c el fr (isU8 e) hfr
 rw[hc] at hown h1
 refine fin_val h1 hk (Fd:=fun b i=>rng w.heap.size 0 (cap*e.sz) b i+sumF (List.length v) Fi b i) ⟨_,(mkV_one (.slc e) _ rfl).symm,?_⟩ (fun b i=>by grind) (fun _ _ _ _ e=>by cases e)
 simp only[Rep,hole,List.any_nil,Bool.false_eq_true,if_false,Md.own,if_true,Md.e]
 refine ⟨_,cap,rfl,hv,hcap,(fun e=>by cases e),fun ad had=>?_⟩
 injection had with had;subst had
 refine ⟨rfl,rfl,hown,Fi,fun _ _=>Nat.le_refl _,fun i y hy=>?_⟩
 obtain ⟨L,l1,l2,l3⟩:=hel i y hy
 have hi:=(List.getElem?_eq_some_iff.1 hy).1
 refine ⟨L,l1,has_alloc w c el fr l2 (Rep.one _ l3),?_⟩
 simp only[List.filterMap_nil]
 exact Rep.alloc h l3 (fun b k hp=>h.bnd b k (.inl (by grind [le_sumF]))) (ext_alloc w _)
theorem new_makeSlice (h:Rel0 P C A σ a w F) (hti:∀ i T,E.TI i=some T->layB P T (.inl i)=true) {t:Nat} {y z:Operand} (ho:o.op=.makeSlice t y z) (hok:opdOk P y=true/\opdOk P z=true) {K:St->Option R}
  (hk:(tiK E t fun t=>match t with
  | .slc e=>intK (opd σ y) fun n=>intK (opd σ z) fun c=>
   if e.zok then (if 0<=n/\n<=c/\c<=(CAP:Int) then K (σ.putD o.dst (.own (.slc e) (ownMd (.slc e)) [] (List.replicate n.toNat e.zero))) else none) else none
  | _=>none)=some x):o.wp P a w (fun a' w'=>Nx P C K x a' w'/\Ext w w' (fun _ _=>0)) Q:=by
 obtain ⟨T,hT,hk⟩:=tiK_some hk
 have hlay:=hti _ _ hT
 split at hk
 ·rename_i e
  rcases opd_ok h hok.1 with hy | ⟨xs,e'⟩
  rotate_left
  ·rw[e'] at hk;cases hk
  obtain ⟨k1,n,hn,hk⟩:=intK_some hy hk
  rcases opd_ok h hok.2 with hz | ⟨xs,e'⟩
  rotate_left
  ·rw[e'] at hk;cases hk
  obtain ⟨k2,c,hc,hk⟩:=intK_some hz hk
  split at hk
  ·rename_i hzk
   split at hk
   ·rename_i hb
    obtain ⟨el,hu,hsz,hle⟩:=lay_slc hlay
    obtain ⟨inf,i1,i2,i3,i4⟩:=infoOk_some (layB_info hle)
    obtain ⟨L,hL⟩:=zok_some e hzk
    obtain ⟨zv,z1,z2⟩:=i4 L hL
    obtain ⟨r1,r2,r3⟩:=zc_ok (P:=P) (w:=w) (A:=A) e hL hle
    have hbytes:(inf.bytes:Int)*c<=281474976710656:=by
     have h1:(inf.bytes:Int)<=512:=by omega
     have h2:(inf.bytes:Int)*c<=512*c:=Int.mul_le_mul_of_nonneg_right h1 (by omega)
     grind [CAP]
    have hrun:=run_make (P:=P) w t el inf zv hu i1 z1 k1 k2 n c hb.1 hb.2.1 hbytes (by grind [CAP])
    have hzs:zv.cells.size=e.sz:=by grind
    have hlen:List.length (List.replicate n.toNat e.zero)=n.toNat:=by simp
    refine wp_val (v:=.slice (some ⟨w.heap.size,0,none⟩) n.toNat c.toNat) (w':=w.alloc (.cells (madeCells zv.cells (c.toNat*inf.size)) el)) ?_ ?_
    ·grind [execOp,Sem.run_bind,Result.andThen_ok,Sem.run_pure]
    ·refine ⟨?_,ext_alloc w _⟩
     have hnx:=slc_new h (K:=K) (d:=o.dst) (v:=List.replicate n.toNat e.zero) (c:=madeCells zv.cells (c.toNat*inf.size)) (cap:=c.toNat) (el:=el) (fr:=(0,0)) (m:=ownMd e) (Fi:=fun _ _ _=>0) (.inr (Nat.le_refl _)) hk
      (by rw[size_madeCells,i2]) (by grind [CAP,maxLen]) (by grind) (fun b i=>by grind [sumF_zero])
      (fun i y hy=>by
       have hi:i < n.toNat:=by grind
       have hy:y=e.zero:=by grind
       subst hy
       refine ⟨L,r3,fun j u hu=>?_,r1⟩
       have hj:j < e.sz:=r3 ▸ (List.getElem?_eq_some_iff.1 hu).1
       have hlt:i*e.sz+j < c.toNat*e.sz:=by
        have:(i+1)*e.sz<=c.toNat*e.sz:=Nat.mul_le_mul_right _ (by omega)
        grind
       grind [Nat.mul_comm,Nat.mul_add_mod,Nat.mod_eq_of_lt,madeCells])
     grind
   ·cases hk
  ·cases hk
 ·cases hk
theorem take_convert (h:Rel0 P C A σ a w F) (hti:∀ i T,E.TI i=some T->layB P T (.inl i)=true) {s t:Nat} {y:Operand} (ho:o.op=.convert s t y) (hok:opdOk P y=true) (hnf:∀ T,E.TI t=some T->T.flat=true) {K:St->Option R}
  (hk:convK E σ s t (opd σ y) o.dst K=some x):Tk P o a w (Nx P C K x):=by
 unfold convK at hk
 obtain ⟨S,hS,hk⟩:=tiK_some hk
 obtain ⟨T,hT,hk⟩:=tiK_some hk
 have hlS:=hti _ _ hS
 have hlT:=hti _ _ hT
 rcases opd_ok h hok with hs | ⟨xs,e⟩
 rotate_left
 ·grind [readK]
 split at hk
 ·rename_i k
  split at hk
  ·rename_i k' n hv
   rw[hv] at hs
   have e:=val_int hs
   split at hk
   ·rename_i hSe
    obtain ⟨dS,hd,_⟩:=layB_isAgg hlS
    refine tk_val (v:=.int k (k.wrap (toI k' n))) (fun w' _=>?_) (fin_flat h hk ⟨[_],rfl,by simp only[Ro,toI_ofI]⟩ (fun _ _ _ _ e=>by cases e))
    unfold execOp
    simp only[ho,e,Sem.run_bind]
    have:(convert s t (.int k' (toI k' n))).run P w'=.ok (.int k (k.wrap (toI k' n))) w':=by
     unfold convert
     simp only[Sem.run_bind,run_underlying hd,run_underlying (lay_int hlT),Result.andThen_ok]
     cases dS <;> rfl
    simp_all
   ·cases hk
  ·cases hk
 ·split at hk
  ·split at hk
   ·rename_i b hv
    rw[hv] at hs
    have e:=val_str hs
    refine tk_val (v:=.string ⟨List.toArray b⟩) (fun w' _=>?_) (fin_flat h hk ⟨[_],rfl,rfl⟩ (fun _ _ _ _ e=>by cases e))
    unfold execOp
    have:(convert s t (.string ⟨List.toArray b⟩)).run P w'=.ok (.string ⟨List.toArray b⟩) w':=by
     unfold convert
     simp only[Sem.run_bind,run_underlying (lay_str hlS),run_underlying (lay_str hlT),Result.andThen_ok]
     rfl
    simp_all
   ·cases hk
  ·obtain ⟨v,cs,hk,h1,h2⟩:=read_ok h hs hk
   obtain ⟨el,hu,_,hle⟩:=lay_slc hlS
   obtain ⟨xa,cap,q1,q2,q3,q4⟩:=h2
   subst q1
   rw[mkV_one _ _ rfl] at h1
   have v8:List UInt8:=v
   have hrun:∀ w',Same o w w'->(convert s t (a.eval y)).run P w'=.ok (.string ⟨List.toArray v⟩) w':=fun w' hw'=>by
    have hw':=hw' (by rw[ho];rfl)
    rw[h1]
    cases xa with
    | none=>
     have:v=[]:=List.eq_nil_of_length_eq_zero (q3 rfl)
     subst this
     exact run_convert_bytes_nil w' s el hu (lay_int hle) _ _ t (lay_str hlT)
    | some ad=>
     obtain ⟨g1,g2⟩:=q4 _ rfl
     refine run_convert_bytes_back w' s t el _ cap v hu (lay_int hle) (lay_str hlT) fun j hj=>?_
     obtain ⟨L,l1,l2,l3⟩:=g2 j _ (List.getElem?_eq_getElem hj)
     simp only[Ro] at l3
     subst l3
     have:=(l2 0 _ rfl).1
     obtain ⟨b,off,sp⟩:=ad
     have hsp:=g1 (by omega)
     simp only at hsp
     subst hsp
     rw[addr_add]
     simp only[Ty.sz,Nat.mul_one,Nat.add_zero] at this
     exact ce_cell (hw'.cell _ _ (ce_lt this) rfl _ this) rfl
   refine tk_val (v:=.string ⟨List.toArray v⟩) (fun w' hw'=>?_) (fin_flat h hk ⟨[_],rfl,rfl⟩ (fun _ _ _ _ e=>by cases e))
   grind [execOp,Sem.run_bind,Result.andThen_ok,Sem.run_pure]
  ·cases hk
 all_goals grind [Ty.flat]
theorem take_convert_ar (h:Rel0 P C A σ a w F) (hti:∀ i T,E.TI i=some T->layB P T (.inl i)=true) {s t:Nat} {y:Operand} (ho:o.op=.convert s t y) (hok:opdOk P y=true) (hnf:∀ T,E.TI t=some T->T.flat=true) (har:(match opd σ y with | .val (.int _) _=>true | .val .str _=>true | .val (.slc (.int .u8)) _=>true | _=>false)=true) {K:St->Option R}
  (hk:convK E σ s t (opd σ y) o.dst K=some x) :
  ∃ v,(∀ w',(∀ b i,A b i->∀ u,ce w b i=some u->ce w' b i=some u)->(execOp a.eval o).run P w'=.ok (.value v) w')/\Nx P C K x (a.put o.dst v) w:=by
 unfold convK at hk
 obtain ⟨S,hS,hk⟩:=tiK_some hk
 obtain ⟨T,hT,hk⟩:=tiK_some hk
 have hlS:=hti _ _ hS
 have hlT:=hti _ _ hT
 rcases opd_ok h hok with hs | ⟨xs,e⟩
 rotate_left
 ·grind
 split at hk
 ·rename_i k
  split at hk
  ·rename_i k' n hv
   rw[hv] at hs
   have e:=val_int hs
   split at hk
   ·rename_i hSe
    obtain ⟨dS,hd,_⟩:=layB_isAgg hlS
    refine ⟨.int k (k.wrap (toI k' n)),(fun w' _=>?_),fin_flat h hk ⟨[_],rfl,by simp only[Ro,toI_ofI]⟩ (fun _ _ _ _ e=>by cases e)⟩
    unfold execOp
    simp only[ho,e,Sem.run_bind]
    have:(convert s t (.int k' (toI k' n))).run P w'=.ok (.int k (k.wrap (toI k' n))) w':=by
     unfold convert
     simp only[Sem.run_bind,run_underlying hd,run_underlying (lay_int hlT),Result.andThen_ok]
     cases dS <;> rfl
    simp_all
   ·cases hk
  ·cases hk
 ·split at hk
  ·split at hk
   ·rename_i b hv
    rw[hv] at hs
    have e:=val_str hs
    refine ⟨.string ⟨List.toArray b⟩,(fun w' _=>?_),fin_flat h hk ⟨[_],rfl,rfl⟩ (fun _ _ _ _ e=>by cases e)⟩
    unfold execOp
    have:(convert s t (.string ⟨List.toArray b⟩)).run P w'=.ok (.string ⟨List.toArray b⟩) w':=by
     unfold convert
     simp only[Sem.run_bind,run_underlying (lay_str hlS),run_underlying (lay_str hlT),Result.andThen_ok]
     rfl
    simp_all
   ·cases hk
  ·have hop:∃ v',opd σ y=.val (.slc (.int .u8)) v':=by
    grind [readK,castK]
   obtain ⟨v,hv⟩:=hop
   rw[hv] at hs hk
   simp only[readK] at hk
   obtain ⟨_,hk⟩:=castK_some hk
   obtain ⟨cs,h1,h2⟩:=hs
   obtain ⟨el,hu,_,hle⟩:=lay_slc hlS
   obtain ⟨xa,cap,q1,q2,q3,q4⟩:=h2
   subst q1
   rw[mkV_one _ _ rfl] at h1
   have v8:List UInt8:=v
   have hrun:∀ w',(∀ b i,A b i->∀ u,ce w b i=some u->ce w' b i=some u)->(convert s t (a.eval y)).run P w'=.ok (.string ⟨List.toArray v⟩) w':=fun w' hw'=>by
    rw[h1]
    cases xa with
    | none=>
     have:v=[]:=List.eq_nil_of_length_eq_zero (q3 rfl)
     subst this
     exact run_convert_bytes_nil w' s el hu (lay_int hle) _ _ t (lay_str hlT)
    | some ad=>
     obtain ⟨g1,g2⟩:=q4 _ rfl
     refine run_convert_bytes_back w' s t el _ cap v hu (lay_int hle) (lay_str hlT) fun j hj=>?_
     obtain ⟨L,l1,l2,l3⟩:=g2 j _ (List.getElem?_eq_getElem hj)
     simp only[Ro] at l3
     subst l3
     have hl2:=l2 0 _ rfl
     obtain ⟨b,off,sp⟩:=ad
     have hsp:=g1 (by omega)
     simp only at hsp
     subst hsp
     rw[addr_add]
     simp only[Ty.sz,Nat.mul_one,Nat.add_zero] at hl2
     exact ce_cell (hw' _ _ hl2.2 _ hl2.1) rfl
   refine ⟨.string ⟨List.toArray v⟩,(fun w' hw'=>?_),fin_flat h hk ⟨[_],rfl,rfl⟩ (fun _ _ _ _ e=>by cases e)⟩
   grind [execOp,Sem.run_bind,Result.andThen_ok,Sem.run_pure]
  ·cases hk
 all_goals grind [Ty.flat]
theorem new_convert (h:Rel0 P C A σ a w F) (hti:∀ i T,E.TI i=some T->layB P T (.inl i)=true) {s t:Nat} {y:Operand} (ho:o.op=.convert s t y) (hok:opdOk P y=true) {K:St->Option R}
  (hk:convK E σ s t (opd σ y) o.dst K=some x):o.wp P a w (fun a' w'=>Nx P C K x a' w'/\Ext w w' (fun _ _=>0)) Q:=by
 unfold convK at hk
 obtain ⟨S,hS,hk⟩:=tiK_some hk
 obtain ⟨T,hT,hk⟩:=tiK_some hk
 have hlS:=hti _ _ hS
 have hlT:=hti _ _ hT
 rcases opd_ok h hok with hs | ⟨xs,e⟩
 rotate_left
 ·grind [readK]
 split at hk
 ·rename_i k
  split at hk
  ·rename_i k' n hv
   rw[hv] at hs
   have e:=val_int hs
   split at hk
   ·rename_i hSe
    obtain ⟨dS,hd,_⟩:=layB_isAgg hlS
    refine wp_val (v:=.int k (k.wrap (toI k' n))) (w':=w) ?_ ⟨fin_flat h hk ⟨[_],rfl,by simp only[Ro,toI_ofI]⟩ (fun _ _ _ _ e=>by cases e),Ext.refl _ _⟩
    unfold execOp
    simp only[ho,e,Sem.run_bind]
    have:(convert s t (.int k' (toI k' n))).run P w=.ok (.int k (k.wrap (toI k' n))) w:=by
     unfold convert
     simp only[Sem.run_bind,run_underlying hd,run_underlying (lay_int hlT),Result.andThen_ok]
     cases dS <;> rfl
    simp_all
   ·cases hk
  ·cases hk
 ·split at hk
  ·split at hk
   ·rename_i b hv
    rw[hv] at hs
    have e:=val_str hs
    refine wp_val (v:=.string ⟨List.toArray b⟩) (w':=w) ?_ ⟨fin_flat h hk ⟨[_],rfl,rfl⟩ (fun _ _ _ _ e=>by cases e),Ext.refl _ _⟩
    unfold execOp
    have:(convert s t (.string ⟨List.toArray b⟩)).run P w=.ok (.string ⟨List.toArray b⟩) w:=by
     unfold convert
     simp only[Sem.run_bind,run_underlying (lay_str hlS),run_underlying (lay_str hlT),Result.andThen_ok]
     rfl
    simp_all
   ·cases hk
  ·obtain ⟨v,cs,hk,h1,h2⟩:=read_ok h hs hk
   obtain ⟨el,hu,_,hle⟩:=lay_slc hlS
   obtain ⟨xa,cap,q1,q2,q3,q4⟩:=h2
   subst q1
   rw[mkV_one _ _ rfl] at h1
   have v8:List UInt8:=v
   have hrun:(convert s t (a.eval y)).run P w=.ok (.string ⟨List.toArray v⟩) w:=by
    rw[h1]
    cases xa with
    | none=>
     have:v=[]:=List.eq_nil_of_length_eq_zero (q3 rfl)
     subst this
     exact run_convert_bytes_nil w s el hu (lay_int hle) _ _ t (lay_str hlT)
    | some ad=>
     obtain ⟨g1,g2⟩:=q4 _ rfl
     refine run_convert_bytes_back w s t el _ cap v hu (lay_int hle) (lay_str hlT) fun j hj=>?_
     obtain ⟨L,l1,l2,l3⟩:=g2 j _ (List.getElem?_eq_getElem hj)
     simp only[Ro] at l3
     subst l3
     have:=(l2 0 _ rfl).1
     obtain ⟨b,off,sp⟩:=ad
     have hsp:=g1 (by omega)
     simp only at hsp
     subst hsp
     rw[addr_add]
     simp only[Ty.sz,Nat.mul_one,Nat.add_zero] at this
     exact ce_cell (this) rfl
   refine wp_val (v:=.string ⟨List.toArray v⟩) (w':=w) ?_ ⟨fin_flat h hk ⟨[_],rfl,rfl⟩ (fun _ _ _ _ e=>by cases e),Ext.refl _ _⟩
   grind [execOp,Sem.run_bind,Result.andThen_ok,Sem.run_pure]
  ·cases hk
 ·split at hk
  ·rename_i b hv
   rw[hv] at hs
   have e:=val_str hs
   split at hk
   ·rename_i hSe
    rw[hSe] at hlS
    split at hk
    rotate_left
    ·cases hk
    rename_i hcap
    obtain ⟨el,hu,_,hle⟩:=lay_slc hlT
    have hrun:=run_bytes_of_string (P:=P) w s t el ⟨List.toArray b⟩ (lay_str hlS) hu (lay_int hle)
    have hlen:(⟨List.toArray b⟩:ByteArray).size=List.length b:=rfl
    have hge:=grownCap_ge w (List.length b) 0 el
    have hle2:=grownCap_le_maxLen w (List.length b) 0 el (by grind [CAP,maxLen])
    rw[hlen] at hrun
    have hsz:(bytesRow ⟨List.toArray b⟩ (grownCap w (List.length b) 0 el)).size=grownCap w (List.length b) 0 el:=by
     grind [bytesRow]
    refine wp_val ?_ ⟨slc_new (h.drew) (K:=K) (d:=o.dst) (e:=.int .u8) (v:=b) (m:=.leaf) (Fi:=fun _ _ _=>0) (cap:=grownCap w (List.length b) 0 el) (el:=el) (fr:=((bytesRow ⟨List.toArray b⟩ (grownCap w (List.length b) 0 el)).size,(bytesRow ⟨List.toArray b⟩ (grownCap w (List.length b) 0 el)).size+1)) (c:=bytesRow ⟨List.toArray b⟩ (grownCap w (List.length b) 0 el)) (.inl ⟨rfl,Nat.le_refl _⟩) hk
     (by grind [Ty.sz]) hle2 hge (fun b i=>by grind [sumF_zero]) (fun i y hy=>?_),(ext_drew w).trans (ext_alloc w.drew _) (fun _ _ _ _=>rfl)⟩
    ·simp_all [execOp]
    ·have hi:=(List.getElem?_eq_some_iff.1 hy).1
     have hb:=bytesRow_at ⟨List.toArray b⟩ (grownCap w (List.length b) 0 el) i (by simpa using hi)
     refine ⟨[.int .u8 (UInt8.toNat y)],rfl,fun j u hu=>?_,rfl⟩
     grind [Ty.sz]
   ·cases hk
  ·cases hk
 ·cases hk
end
end OT
set_option linter.unusedVariables false
set_option linter.unusedSimpArgs false
namespace OT
open Go
section
variable {P:Program} {C:Ctx} {A:Cells} {X:FP} {σ:St} {a:Act} {w:World} {F:Nat->FP} {R:Type} {x:R} {Q:Exit->Act->World->Prop} {o:Oper} {E:Env}
theorem take_extract (h:Rel0 P C A σ a w F) {i j:Nat} (ho:o.op=.extract (.tmp i) j) {K:St->Option R}
  (hk:(match σ.get i with
   | .tup xs=>match xs[j]? with
    | some x=>if x.t=.unit then none else K ((σ.put i (.tup (xs.set j ⟨.unit,.leaf,()⟩))).putD o.dst (laid x.t x.m x.v))
    | none=>none
   | _=>none)=some x):Tk P o a w (Nx P C K x):=by
 split at hk
 ·rename_i xs hg
  split at hk
  ·rename_i y hy
   split at hk
   ·cases hk
   ·rename_i hnu
    have hi:i < σ.n:=by
     grind [get_out]
    have hs:=h.slots i hi
    rw[hg] at hs
    obtain ⟨vs,Fi,h1,h2,h3⟩:=hs
    obtain ⟨v,h4,h5⟩:=h3 j y hy
    rcases h5 with h5 | ⟨cs,h6,h7⟩
    ·grind
    have hj:=(List.getElem?_eq_some_iff.1 hy).1
    have hput:=h.put hi (s:=.tup (xs.set j ⟨.unit,.leaf,()⟩)) (v:=tmp a i) (Fd:=sumF xs.length (updF Fi j fun _ _=>0)) (X':=Fi j)
     ⟨vs,updF Fi j fun _ _=>0,h1,fun b k=>by grind,fun k y' hy'=>by
      rw[List.getElem?_set] at hy'
      split at hy'
      ·rename_i e;subst e
       injection hy' with hy';subst hy';exact ⟨v,h4,.inl rfl⟩
      grind [updF]⟩
     (fun b k=>by grind [sumF_upd]) (fun t m H v e=>by cases e)
    rw[put_same] at hput
    refine tk_val (v:=v) ?_ ?_
    ·unfold execOp
     have e:a.eval (.tmp i)=.tuple vs:=h1
     simp_all [Instr.extract]
    grind [fin_laid]
  ·cases hk
 ·cases hk
theorem Rel.lend (h:Rel P C A X σ a w F) {d n:Nat} (hd:∀ R,rootPl w (tmp a d) (σ.get d)=some R->mkV R.t R.cs=C.args.getD n undef):Rel P C A X { σ with lent:=(d,n,true)::σ.lent } a w F:=by
 have hpres:Pres σ a w { σ with lent:=(d,n,true)::σ.lent } a w:=fun r p snap hb=>⟨hb,fun hok=>⟨hok,fun hl pl hpl=>⟨pl.H,pl.cs,hpl,fun _=>rfl⟩⟩⟩
 refine ⟨h.size,h.defers,fun i hi=>SlotRel.pres hpres (fun _ _ h=>h) (fun _ _ _ _ h=>h) (fun _ _ h=>h) (fun _ _ _=>⟨fun _ h=>h,rfl⟩) (h.slots i hi),fun d r p snap hm=>RefRel.pres hpres (h.gh d r p snap hm),h.tot,h.dis,h.bnd,h.vlen,h.ext,h.own,h.a0,h.a1,fun j k hm=>?_,fun r t m H v hg hl=>h.whole r t m H v hg fun k hm=>hl k (List.mem_cons_of_mem _ hm),fun j k hm R hR=>?_,h.tab⟩
 ·rcases List.mem_cons.1 hm with e | hm
  ·grind
  ·exact h.lentP j k hm
 ·rcases List.mem_cons.1 hm with e | hm
  ·injection e with e1 e2;injection e2 with e2 e3
   subst e1;subst e2
   exact hd R hR
  ·exact h.lentS j k hm R hR
theorem lentAs_mem {l:List (Nat×Nat×Bool)} {i n:Nat} (h:lentAs l i=some n):(i,n,true) ∈ l:=by
 induction l <;> grind [lentAs,Nat.beq_eq]
theorem new_box (h:Rel0 P C A σ a w F) {t:Nat} {y:Operand} (ho:o.op=.box t y) (hok:opdOk P y=true) {mv:Bool} {K:St->Option R}
  (hk:(tiK E t fun t=>useK σ (opd σ y) mv t fun m v σ'=>K (relend σ y o.dst (σ'.putD o.dst (.box t m [] v))))=some x):o.wp P a w (fun a' w'=>Nx P C K x a' w'/\Ext w w' (fun _ _=>0)) Q:=by
 obtain ⟨T,hT,hk⟩:=tiK_some hk
 rcases opd_ok h hok with hs | ⟨xs,e⟩
 rotate_left
 ·grind [useK]
 have hk0:=hk
 obtain ⟨A',σ',F',m,v,cs,Fv,k1,k2,k3,k4,kr,k5,k6⟩:=use_ok h hs hk
 have hl:=Rep.length _ k6
 have hone:=Rep.one _ k6
 have hcv:(mkV T cs).cells=cs.toArray:=by grind [mkV_cells]
 obtain ⟨A2,F2,hF⟩:=box_new k3 (K:=fun s=>some s) (x:=σ'.putD o.dst (.box T m [] v)) (d:=o.dst) t rfl k6 (fun b i=>by omega)
 refine wp_val (v:=.pointer (some ⟨w.heap.size,0,none⟩)) (w':=w.alloc (.cells cs.toArray t)) ?_ ?_
 ·simp_all [execOp,Instr.box,newVar,newRow]
 ·refine ⟨⟨_,k1,A2,F2,?_⟩,ext_alloc w _⟩
  clear hk
  unfold relend
  split
  ·rename_i i d hd
   split
   ·rename_i t0 m0 H0 v0 hg
    split
    ·rename_i n hn
     rw[hd] at hF ⊢
     refine Rel.lend hF fun R hR=>?_
     have hargs:=h.lentS i n (lentAs_mem hn) ⟨t0,H0,(tmp a i).cells.toList,none⟩ (by rw[hg];rfl)
     have hti:tmp a i=mkV T cs:=k5
     have ht0:t0=T:=by
      simp only[opd,hg] at hk0
      grind [useK,atK,rootK,navK,castK_some]
     subst ht0
     simp only[hti,mkV_cells hl hone] at hargs
     simp only[St.putD,get_put] at hR
     split at hR
     ·rename_i hc
      have htd:tmp (a.put (some d) (.pointer (some ⟨w.heap.size,0,none⟩))) d=.pointer (some ⟨w.heap.size,0,none⟩):=by
       rw[tmp_put,if_pos ⟨rfl,by rw[h.size,<- k4];exact hc.2⟩]
      rw[htd] at hR
      simp only[rootPl,Option.some.injEq] at hR
      subst hR
      have hh:=has_alloc w cs.toArray t (0,0) (k:=0) (L:=cs) (fun j u hu=>by simpa using hu) hone
      grind [rd_of_has]
     ·rename_i hc
      have hge:σ'.n<=d:=by
       grind
      rw[get_out (Nat.not_lt.2 hge)] at hR;cases hR
    ·exact hF
   ·exact hF
  ·exact hF
end
end OT
set_option linter.unusedVariables false
set_option linter.unusedSimpArgs false
namespace OT
open Go
section
variable {P:Program} {C:Ctx} {A:Cells} {X:FP} {σ:St} {a:Act} {w:World} {F:Nat->FP} {R:Type} {x:R} {Q:Exit->Act->World->Prop} {o:Oper} {E:Env}
theorem Rel.giveUp (h:Rel P C A X σ a w F) {A1:Cells} {X1:FP} (hA:∀ b i,A b i->A1 b i) (hA1:∀ b i,A1 b i->A b i\/(1<=X b i/\X1 b i=0)) (hX:∀ b i,X1 b i<=X b i):Rel P C A1 X1 σ a w F:=by
 have hpres:Pres σ a w σ a w:=fun r p snap hb=>⟨hb,fun hok=>⟨hok,fun hl pl hpl=>⟨pl.H,pl.cs,hpl,fun _=>rfl⟩⟩⟩
 refine ⟨h.size,h.defers,fun i hi=>SlotRel.pres hpres hA (fun _ _ _ _ h=>h) (fun _ _ h=>h) (fun _ _ _=>⟨fun _ h=>h,rfl⟩) (h.slots i hi),h.gh,fun b i=>by have:=h.tot b i;grind,
  fun b i hp ha=>?_,fun b i hp=>?_,h.vlen,h.ext,fun b i hp=>h.own b i (by grind),fun b i ha=>hA b i (h.a0 b i ha),fun b i ha=>?_,h.lentP,h.whole,h.lentS,h.tab⟩
 ·rcases hA1 b i ha with ha | ha
  ·exact h.dis b i (by grind) ha
  ·have:=h.tot b i;omega
 ·rcases hp with hp | ha
  ·exact h.bnd b i (.inl (by grind))
  ·rcases hA1 b i ha with ha | ha
   ·exact h.bnd b i (.inr ha)
   ·exact h.bnd b i (.inl (by omega))
 ·rcases hA1 b i ha with ha | ha
  ·exact h.a1 b i ha
  ·exact .inr (h.own b i (by omega))
theorem fill_list {off:Nat} {l cs:List Value} (h:off+l.length<=cs.length) :
  ((l.toArray.zipIdx).foldl (fun cs (x:Value×Nat)=>cs.setIfInBounds (off+x.2) x.1) cs.toArray)=(cs.take off++l++cs.drop (off+l.length)).toArray:=by
 obtain ⟨h1,h2⟩:=Great.foldl_set off l 0 cs.toArray
 have e:(l.toArray.zipIdx).foldl (fun cs (x:Value×Nat)=>cs.setIfInBounds (off+x.2) x.1) cs.toArray=(l.zipIdx 0).foldl (fun cs (x:Value×Nat)=>cs.setIfInBounds (off+x.2) x.1) cs.toArray:=by simp
 rw[e]
 apply Array.ext_getElem?
 grind
theorem fill_step {pl:Nat->Option (Nat×Nat)} {j off sz:Nat} (hp:pl j=some (off,sz)) {t:Ty} {l cs:List Value} (hl:l.length=sz) (h1:(mkV t l).cells.toList=l) (h:off+sz<=cs.length) (rest:List (Nat×Value)) :
  Instr.fill pl cs.toArray ((j,mkV t l)::rest)=Instr.fill pl (cs.take off++l++cs.drop (off+sz)).toArray rest:=by
 have hc:(mkV t l).cells=l.toArray:=Array.ext' (by simpa using h1)
 grind [Instr.fill,fill_list]
theorem putFld_ok:∀ (n:Nat) (t:Ty) {t':Ty} {m m':Md} {v:t.den} {y:t'.den} {cs ys:List Value} {G H:FP} {K:Md->t.den->Option R},Rep P w A t m [] v cs G->Rep P w A t' m' [] y ys H ->
  putFld n t m v t' m' y K=some x->∃ m2 v2,K m2 v2=some x/\Rep P w A t m2 [] v2 (cs.take (offOf n t)++ys++cs.drop (offOf n t+t'.sz)) (fun b i=>G b i+H b i)/\offOf n t+t'.sz<=cs.length:=by
 intro n
 induction n with
 | zero=>
  intro t t' m m' v y cs ys G H K hr hy hk
  cases t with
  | pair a b=>
   simp only[putFld] at hk
   obtain ⟨e,hk⟩:=castK_some hk;subst e
   have hl:=Rep.length _ hr
   have hly:=Rep.length _ hy
   obtain ⟨h0,F1,F2,hs,h1,h2⟩:=hr
   refine ⟨_,_,hk,⟨rfl,H,F2,fun b i=>by grind,?_,?_⟩,?_⟩
   all_goals simp_all [offOf,Md.l,Md.r,Ty.sz]
  | _=>cases hk
 | succ n ih=>
  intro t t' m m' v y cs ys G H K hr hy hk
  cases t with
  | pair a b=>
   simp only[putFld] at hk
   have hl:=Rep.length _ hr
   obtain ⟨h0,F1,F2,hs,h1,h2⟩:=hr
   obtain ⟨m2,v2,k1,k2,k3⟩:=ih b h2 hy hk
   simp only[List.length_drop] at k3
   simp only[Ty.sz] at hl
   refine ⟨_,_,k1,⟨rfl,F1,fun b i=>F2 b i+H b i,fun b i=>by grind,?_,?_⟩,?_⟩
   ·simp only[offOf,List.filterMap_nil,Md.l]
    have:(cs.take (a.sz+offOf n b)++ys++cs.drop (a.sz+offOf n b+t'.sz)).take a.sz=cs.take a.sz:=by
     simp_all [List.take_append_of_le_length,List.take_take]
    rw[this];exact h1
   ·simp only[offOf,List.filterMap_nil,Md.r]
    have:(cs.take (a.sz+offOf n b)++ys++cs.drop (a.sz+offOf n b+t'.sz)).drop a.sz=(cs.drop a.sz).take (offOf n b)++ys++(cs.drop a.sz).drop (offOf n b+t'.sz):=by
     rw[List.append_assoc,List.drop_append_of_le_length (by simp;omega),List.drop_take,List.drop_drop,List.append_assoc]
     rw[show a.sz+offOf n b - a.sz=offOf n b by omega,show a.sz+(offOf n b+t'.sz)=a.sz+offOf n b+t'.sz by omega]
    grind
   ·simp only[offOf];omega
  | _=>cases hk
theorem mapM_get {α β:Type} (g:α->Option β):∀ (l:List α) (ps:List β),l.mapM g=some ps->∀ (j:Nat) (f:α),l[j]?=some f->ps[j]?=g f
 | [],ps,h,j,f,hf=>by cases hf
 | y::l,ps,h,j,f,hf=>by
  simp only[List.mapM_cons,Option.bind_eq_bind,Option.pure_def] at h
  cases hy:g y with
  | none=>simp[hy] at h
  | some z=>
   cases hr:l.mapM g with
   | none=>grind
   | some r=>
    simp only[hy,hr,Option.bind_some,Option.some.injEq] at h
    subst h
    cases j with
    | zero=>grind
    | succ j=>exact mapM_get g l r hr j f hf
theorem lay_places:∀ (t:Ty) {fs:List Field} {off:Nat},layB P t (.inr (fs,off))=true->∃ ps,fs.mapM (fun f=>(P.info? f.type).map fun i=>(f.offset,i.size))=some ps:=by
 intro t
 induction t with
 | unit=>
  simp_all [layB]
 | pair a b iha ihb=>
  intro fs off h
  cases fs with
  | nil=>simp_all
  | cons f r=>
   simp only[layB,Bool.and_eq_true] at h
   obtain ⟨ps,hps⟩:=ihb h.2
   obtain ⟨inf,hi,_⟩:=infoOk_some (layB_info h.1.2)
   grind
 | _=>grind [layB]
theorem struct_places {T:Ty} {i:TypeId} (hl:layB P T (.inl i)=true) {j:Nat} {t':Ty} (hj:fldTy j T=some t') :
  ∃ fs ps,P.underlying i=some (.struct fs)/\fs.toList.mapM (fun f=>(P.info? f.type).map fun i=>(f.offset,i.size))=some ps/\∀ j t',fldTy j T=some t'->ps.toArray[j]?=some (offOf j T,t'.sz):=by
 cases T with
 | pair a b=>
  have hl0:=hl
  simp only[layB,Bool.and_eq_true] at hl
  have h2:=hl.2
  split at h2
  ·rename_i fs hu
   split at h2
   ·rename_i f r hfs
    have h3:layB P (.pair a b) (.inr (f::r,0))=true:=by
     grind [layB]
    obtain ⟨ps,hps⟩:=lay_places _ h3
    refine ⟨fs,ps,hu,by grind,fun j t' hj=>?_⟩
    obtain ⟨f',q1,q2,q3,q4⟩:=fld_lay j (.pair a b) h3 hj
    have:=mapM_get _ _ _ hps j f' q1
    obtain ⟨inf,hi,hs,_⟩:=infoOk_some (layB_info q3)
    grind
   ·cases h2
  ·cases h2
 | _=>cases j <;> cases hj
theorem buildK_ok {T:Ty} {fz:Nat->Bool} {pl:Nat->Option (Nat×Nat)} (hpl:∀ j t',fldTy j T=some t'->pl j=some (offOf j T,t'.sz)) {K:Md->T.den->St->Option R} :
  ∀ (ps:List (Nat×Operand)) {n:Nat} {σ:St} {A:Cells} {X:FP} {F:Nat->FP} {m:Md} {v:T.den} {cs:List Value},ps.all (fun p=>opdOk P p.2)=true->Rel P C A X σ a w F->Rep P w A T m [] v cs X ->
   buildK E σ T fz ps n m v K=some x->∃ A' σ' F' m' v' cs' X',K m' v' σ'=some x/\Rel P C A' X' σ' a w F'/\Rep P w A' T m' [] v' cs' X'/\Instr.fill pl cs.toArray (ps.map fun p=>(p.1,a.eval p.2))=some cs'.toArray:=by
 intro ps
 induction ps with
 | nil=>intro n σ A X F m v cs hok h hr hk;exact ⟨A,σ,F,m,v,cs,X,hk,h,hr,rfl⟩
 | cons p ps ih=>
  intro n σ A X F m v cs hok h hr hk
  obtain ⟨j,y⟩:=p
  simp only[List.all_cons,Bool.and_eq_true] at hok
  simp only[buildK] at hk
  split at hk
  ·rename_i t' ht'
   rcases opd_ok h hok.1 with hs | ⟨xs,e⟩
   rotate_left
   ·grind [useK]
   obtain ⟨A1,σ1,F1,m1,v1,cs1,Fv,k1,k2,k3,k4,kr,k5,k6⟩:=use_ok h hs hk
   have hr1:=Rep.mono (P:=P) (A':=A1) k2 (fun _ _ _ _ h=>h) (fun _ _ h=>h) T hr (fun _ _=>Nat.le_refl _) (fun _ _ _ _ h=>h)
   obtain ⟨m2,v2,q1,q2,q3⟩:=putFld_ok j T hr1 k6 k1
   obtain ⟨A',σ',F',m',v',cs',X',g1,g2,g3,g4⟩:=ih hok.2 k3 q2 q1
   refine ⟨A',σ',F',m',v',cs',X',g1,g2,g3,?_⟩
   rw[List.map_cons,k5,fill_step (hpl j t' ht') (Rep.length _ k6) (mkV_cells (Rep.length _ k6) (Rep.one _ k6)) q3]
   exact g4
  ·cases hk
theorem arr_put {n j:Nat} {e:Ty} {v:List e.den} {y:e.den} {cs ys:List Value} (h:Ro P w A (.arr n e) v cs) (hy:Ro P w A e y ys) (hj:j < v.length) :
  Ro P w A (.arr n e) (v.set j y) (cs.take (j*e.sz)++ys++cs.drop (j*e.sz+e.sz))/\j*e.sz+e.sz<=cs.length:=by
 obtain ⟨h1,h2,h3,h4⟩:=h
 have hly:=Ro.length _ hy
 have hle:j*e.sz+e.sz<=cs.length:=by
  rw[h3,<- Nat.succ_mul];exact Nat.mul_le_mul_right _ (by omega)
 refine ⟨⟨h1,by simpa using h2,by grind,fun i z hz=>?_⟩,hle⟩
 rw[List.getElem?_set] at hz
 split at hz
 ·grind
 ·rename_i hne
  have h5:=h4 i z hz
  have:((cs.take (j*e.sz)++ys++cs.drop (j*e.sz+e.sz)).drop (i*e.sz)).take e.sz=(cs.drop (i*e.sz)).take e.sz:=by
   rcases Nat.lt_or_ge i j with hij | hij
   ·have h6:i*e.sz+e.sz<=j*e.sz:=by rw[<-Nat.succ_mul];exact Nat.mul_le_mul_right _ (by omega)
    grind [List.drop_take]
   ·have h6:j*e.sz+e.sz<=i*e.sz:=by rw[<-Nat.succ_mul];exact Nat.mul_le_mul_right _ (by omega)
    have h7:(cs.take (j*e.sz)++ys).length=j*e.sz+e.sz:=by grind
    rw[List.drop_append,h7,List.drop_of_length_le (by omega),List.nil_append,List.drop_drop]
    congr 2;omega
  grind
theorem arrK_ok {n0:Nat} {e:Ty} {fz:Nat->Bool} (hf:e.flat=true) {K:List e.den->St->Option R} :
  ∀ (ps:List (Nat×Operand)) {n:Nat} {σ:St} {A:Cells} {F:Nat->FP} {v:List e.den} {cs:List Value},ps.all (fun p=>opdOk P p.2)=true->Rel0 P C A σ a w F->Ro P w A (.arr n0 e) v cs ->
   arrK σ e fz ps n v K=some x->∃ A' σ' F' v' cs',K v' σ'=some x/\Rel0 P C A' σ' a w F'/\Ro P w A' (.arr n0 e) v' cs'/\Instr.fill (fun i=>some (i*e.sz,e.sz)) cs.toArray (ps.map fun p=>(p.1,a.eval p.2))=some cs'.toArray:=by
 intro ps
 induction ps with
 | nil=>intro n σ A F v cs hok h hr hk;exact ⟨A,σ,F,v,cs,hk,h,hr,rfl⟩
 | cons p ps ih=>
  intro n σ A F v cs hok h hr hk
  obtain ⟨j,y⟩:=p
  simp only[List.all_cons,Bool.and_eq_true] at hok
  simp only[arrK] at hk
  rcases opd_ok h hok.1 with hs | ⟨xs,e⟩
  rotate_left
  ·grind [useK]
  obtain ⟨A1,σ1,F1,m1,v1,cs1,Fv,k1,k2,k3,k4,kr,k5,k6⟩:=use_ok h hs hk
  split at k1
  ·rename_i hj
   have hr1:Ro P w A1 (.arr n0 e) v cs:=Ro.mono (fun _ _ _ _ h=>h) k2 _ hr
   obtain ⟨q1,q2⟩:=arr_put hr1 (Rep.flat _ hf k6) hj
   obtain ⟨A',σ',F',v',cs',g1,g2,g3,g4⟩:=ih hok.2 (k3.less (X':=fun _ _=>0) fun _ _=>Nat.zero_le _) q1 k1
   refine ⟨A',σ',F',v',cs',g1,g2,g3,?_⟩
   rw[List.map_cons,k5,fill_step (pl:=fun i=>some (i*e.sz,e.sz)) rfl (Rep.length _ k6) (mkV_cells (Rep.length _ k6) (Rep.one _ k6)) q2]
   exact g4
  ·cases k1
theorem take_build (h:Rel0 P C A σ a w F) (hti:∀ i T,E.TI i=some T->layB P T (.inl i)=true) {t:Nat} {ps:Array (Nat×Operand)} {fz:Nat->Bool} (ho:o.op=.build t ps) (hok:ps.toList.all (fun p=>opdOk P p.2)=true) {K:St->Option R}
  (hk:(tiK E t fun t=>match t with
  | .arr n e=>if e.zok then arrK σ e fz ps.toList 0 (Ty.arr n e).zero fun v σ=>K (σ.putD o.dst (laid (.arr n e) (ownMd (.arr n e)) v)) else none
  | .pair t1 t2=>if (Ty.pair t1 t2).zok then buildK E σ (.pair t1 t2) fz ps.toList 0 (ownMd (.pair t1 t2)) (Ty.pair t1 t2).zero fun m v σ=>K (σ.putD o.dst (laid (.pair t1 t2) m v)) else none
  | _=>none)=some x):Tk P o a w (Nx P C K x):=by
 obtain ⟨T,hT,hk⟩:=tiK_some hk
 have hlay:=hti _ _ hT
 have run:∀ (cells:Array Value),P.built t (ps.map fun (i,x)=>(i,a.eval x)).toList=some cells->∀ w',Same o w w'->(execOp a.eval o).run P w'=.ok (.value (.agg cells)) w':=fun cells hc w' _=>by
  simp_all [execOp,run_build]
 have hps:(ps.map fun (i,x)=>(i,a.eval x)).toList=ps.toList.map fun p=>(p.1,a.eval p.2):=by simp
 rw[hps] at run
 split at hk
 ·rename_i n e
  split at hk
  ·rename_i hz
   have hflat:e.flat=true:=by
    grind [layB]
   obtain ⟨L,hL⟩:=zok_some (.arr n e) (by simpa [Ty.zok] using hz)
   obtain ⟨r1,r2,r3⟩:=zc_ok (P:=P) (w:=w) (A:=A) _ hL hlay
   obtain ⟨inf,i1,i2,i3,i4⟩:=infoOk_some (layB_info hlay)
   obtain ⟨z,z1,z2⟩:=i4 L hL
   obtain ⟨A',σ',F',v',cs',g1,g2,g3,g4⟩:=arrK_ok hflat ps.toList hok h r2 hk
   have hu:∃ el ie,P.underlying t=some (.array n el)/\P.info? el=some ie/\ie.size=e.sz:=by
    have hl:=hlay
    simp only[layB,Bool.and_eq_true] at hl
    have h2:=hl.2
    split at h2
    ·rename_i n' el hu
     simp only[Bool.and_eq_true,Nat.beq_eq] at h2
     obtain ⟨ie,j1,j2,_⟩:=infoOk_some (layB_info h2.2)
     grind
    ·cases h2
   obtain ⟨el,ie,u1,u2,u3⟩:=hu
   have hz':z.cells=L.toArray:=Array.ext' (by simpa using z2)
   have e1:mkV (.arr n e) cs'=.agg cs'.toArray:=rfl
   refine tk_val (v:=mkV (.arr n e) cs') (run _ ?_) ?_
   ·grind [Program.built]
   ·exact fin_laid g2 g1 (Ro.flat _ (fun _ _=>0) (by grind [Ty.flat]) g3) (fun _ _=>Nat.le_refl _)
  ·cases hk
 ·rename_i t1 t2
  split at hk
  ·rename_i hz
   obtain ⟨L,hL⟩:=zok_some (.pair t1 t2) hz
   obtain ⟨r1,r2,r3⟩:=zc_ok (P:=P) (w:=w) (A:=A) _ hL hlay
   obtain ⟨inf,i1,i2,i3,i4⟩:=infoOk_some (layB_info hlay)
   obtain ⟨z,z1,z2⟩:=i4 L hL
   have hz':z.cells=L.toArray:=Array.ext' (by simpa using z2)
   obtain ⟨fs,pls,u1,u2,u3⟩:=struct_places hlay (j:=0) rfl
   obtain ⟨A',σ',F',m',v',cs',X',g1,g2,g3,g4⟩:=buildK_ok (pl:=fun j=>pls.toArray[j]?) u3 ps.toList hok h r1 hk
   refine tk_val (v:=mkV (.pair t1 t2) cs') (run _ ?_) (fin_laid g2 g1 g3 (fun _ _=>Nat.le_refl _))
   grind [Program.built]
  ·cases hk
 ·cases hk
theorem seqK_ok {e:Ty} {fz:Nat->Bool} (hsz:1<=e.sz) {K:Md->List e.den->St->Option R} :
  ∀ (ps:List (Nat×Operand)) {n:Nat} {σ:St} {A:Cells} {X:FP} {F:Nat->FP} {m:Md} {v:List e.den} {L Z:List Value} {Fi:Nat->FP},ps.all (fun p=>opdOk P p.2)=true->Rel P C A X σ a w F ->
   List.length v=n->L.length=n*e.sz->Z.length=ps.length*e.sz->(∀ b i,sumF n Fi b i<=X b i)->(∀ (i:Nat) (y:e.den),v[i]?=some y->Rep P w A e m [] y ((L.drop (i*e.sz)).take e.sz) (Fi i)) ->
   seqK σ e fz ps n m v K=some x->∃ (A':Cells) (σ':St) (F':Nat->FP) (m':Md) (v':List e.den) (L':List Value) (X':FP) (Fi':Nat->FP),K m' v' σ'=some x/\Rel P C A' X' σ' a w F'/\List.length v'=n+ps.length/\L'.length=(n+ps.length)*e.sz/\(∀ b i,sumF (n+ps.length) Fi' b i<=X' b i) /\
    (∀ (i:Nat) (y:e.den),v'[i]?=some y->Rep P w A' e m' [] y ((L'.drop (i*e.sz)).take e.sz) (Fi' i))/\Instr.fill (fun i=>some (i*e.sz,e.sz)) (L++Z).toArray (ps.map fun p=>(p.1,a.eval p.2))=some L'.toArray:=by
 intro ps
 induction ps with
 | nil=>
  intro n σ A X F m v L Z Fi hok h hv hL hZ hX hr hk
  have:Z=[]:=by simpa using hZ
  subst this
  exact ⟨A,σ,F,m,v,L,X,Fi,hk,h,hv,hL,hX,hr,by simp[Instr.fill]⟩
 | cons p ps ih=>
  intro n σ A X F m v L Z Fi hok h hv hL hZ hX hr hk
  obtain ⟨j,y⟩:=p
  simp only[List.all_cons,Bool.and_eq_true] at hok
  simp only[seqK] at hk
  split at hk
  ·rename_i hj
   have hj:j=n:=by simpa using hj
   subst hj
   rcases opd_ok h hok.1 with hs | ⟨xs,e⟩
   rotate_left
   ·grind [useK]
   obtain ⟨A1,σ1,F1,m1,v1,cs1,Fv,k1,k2,k3,k4,kr,k5,k6⟩:=use_ok h hs hk
   have hl1:=Rep.length _ k6
   have hZ1:Z.length=e.sz+ps.length*e.sz:=by grind
   have hgo:∀ {A2:Cells} {X2:FP} {m2:Md} {Fi2:Nat->FP},Rel P C A2 X2 σ1 a w F1->(∀ b i,sumF (j+1) Fi2 b i<=X2 b i)->(∀ (i:Nat) (y:e.den),v[i]?=some y->Rep P w A2 e m2 [] y ((L.drop (i*e.sz)).take e.sz) (Fi2 i)) ->
     Rep P w A2 e m2 [] v1 cs1 (Fi2 j)->seqK σ1 e fz ps (j+1) m2 (v++[v1]) K=some x ->
     ∃ (A':Cells) (σ':St) (F':Nat->FP) (m':Md) (v':List e.den) (L':List Value) (X':FP) (Fi':Nat->FP),K m' v' σ'=some x/\Rel P C A' X' σ' a w F'/\List.length v'=j+(ps.length+1)/\L'.length=(j+(ps.length+1))*e.sz/\(∀ b i,sumF (j+(ps.length+1)) Fi' b i<=X' b i) /\
      (∀ (i:Nat) (y:e.den),v'[i]?=some y->Rep P w A' e m' [] y ((L'.drop (i*e.sz)).take e.sz) (Fi' i))/\Instr.fill (fun i=>some (i*e.sz,e.sz)) (L++Z).toArray ((j,a.eval y)::ps.map fun p=>(p.1,a.eval p.2))=some L'.toArray:=by
    intro A2 X2 m2 Fi2 h2 hX2 hr2 hn2 hk2
    obtain ⟨A',σ',F',m',v',L',X',Fi',g1,g2,g3,g4,g5,g6,g7⟩:=ih (L:=L++cs1) (Z:=Z.drop e.sz) (Fi:=Fi2) hok.2 h2 (by simp[hv]) (by grind) (by simp[hZ1]) hX2 (fun i z hz=>by
     by_cases hi:i=j
     ·grind
     ·have hlt:i < j:=by
       grind
      rw[List.getElem?_append_left (by omega)] at hz
      have h6:i*e.sz+e.sz<=j*e.sz:=by rw[<-Nat.succ_mul];exact Nat.mul_le_mul_right _ (by omega)
      grind) hk2
    refine ⟨A',σ',F',m',v',L',X',Fi',g1,g2,by omega,by grind,fun b i=>by grind,g6,?_⟩
    rw[k5,fill_step (pl:=fun i=>some (i*e.sz,e.sz)) rfl hl1 (mkV_cells hl1 (Rep.one _ k6)) (by simp[hL,hZ1])]
    grind [List.drop_append,List.drop_of_length_le,Nat.add_sub_cancel_left]
   have hr1:∀ (i:Nat) (y:e.den),v[i]?=some y->Rep P w A1 e m [] y ((L.drop (i*e.sz)).take e.sz) (Fi i):=fun i y hy=>Rep.mono (P:=P) (A':=A1) k2 (fun _ _ _ _ h=>h) (fun _ _ h=>h) e (hr i y hy) (fun _ _=>Nat.le_refl _) (fun _ _ _ _ h=>h)
   split at k1
   ·rename_i hm
    subst hm
    refine hgo (Fi2:=updF Fi j Fv) k3 (fun b i=>?_) (fun i y hy=>?_) (by grind [updF]) k1
    ·have h1:=sumF_add j 1 (updF Fi j Fv) b i
     have h2:sumF j (updF Fi j Fv) b i=sumF j Fi b i:=by rw[sumF_upd_out Fi (Nat.le_refl j)]
     have h3:sumF 1 (fun k=>updF Fi j Fv (j+k)) b i=Fv b i:=by simp[sumF,updF]
     grind
    grind [updF]
   ·
    have hro:∃ A2:Cells,(∀ b i,A1 b i->A2 b i)/\Rel P C A2 (fun _ _=>0) σ1 a w F1/\Ro P w A2 e v1 cs1/\∀ (i:Nat) (y:e.den),v[i]?=some y->Ro P w A2 e y ((L.drop (i*e.sz)).take e.sz):=by
     refine ⟨fun b i=>A1 b i\/1<=X b i+Fv b i,fun _ _ h=>.inl h,k3.giveUp (fun _ _ h=>.inl h) (fun b i ha=>ha.imp id fun hp=>⟨hp,rfl⟩) (fun _ _=>Nat.zero_le _),Rep.toRo (fun _ _ h=>.inl h) e k6 (fun b i hp=>.inr (by omega)),fun i y hy=>?_⟩
     grind [Rep.toRo,le_sumF]
    obtain ⟨A2,a1,a2,a3,a4⟩:=hro
    exact hgo (Fi2:=fun _ _ _=>0) a2 (fun b i=>by grind [sumF_zero]) (fun i y hy=>Ro.rep _ _ (roMd_noOwn _) (a4 i y hy)) (Ro.rep _ _ (roMd_noOwn _) a3) k1
  ·cases hk
theorem new_buildSlice (h:Rel0 P C A σ a w F) (hti:∀ i T,E.TI i=some T->layB P T (.inl i)=true) {t n:Nat} {ps:Array (Nat×Operand)} {fz:Nat->Bool} (ho:o.op=.buildSlice t n ps) (hok:ps.toList.all (fun p=>opdOk P p.2)=true) {K:St->Option R}
  (hk:(tiK E t fun t=>match t with
  | .slc e=>if Nat.beq n ps.size&&e.zok&&Nat.ble (n*e.sz) 16777216 then seqK σ e fz ps.toList 0 (ownMd e) [] fun m v σ=>K (σ.putD o.dst (.own (.slc e) (.slc true m) [] v)) else none
  | _=>none)=some x):o.wp P a w (fun a' w'=>Nx P C K x a' w'/\Ext w w' (fun _ _=>0)) Q:=by
 obtain ⟨T,hT,hk⟩:=tiK_some hk
 have hlay:=hti _ _ hT
 split at hk
 ·rename_i e
  split at hk
  ·rename_i hc
   simp only[Bool.and_eq_true,Nat.beq_eq,Nat.ble_eq] at hc
   obtain ⟨⟨hn,hz⟩,hcap⟩:=hc
   have hl:=hlay
   simp only[layB,Bool.and_eq_true] at hl
   have h2:=hl.2
   split at h2
   ·rename_i el hu
    simp only[Bool.and_eq_true,Nat.ble_eq] at h2
    obtain ⟨hsz,hel⟩:=h2
    obtain ⟨Lz,hLz⟩:=zok_some e hz
    obtain ⟨r1,r2,r3⟩:=zc_ok (P:=P) (w:=w) (A:=A) _ hLz hel
    obtain ⟨inf,i1,i2,i3,i4⟩:=infoOk_some (layB_info hel)
    obtain ⟨z,z1,z2⟩:=i4 Lz hLz
    have hzl:z.cells.size=e.sz:=by grind
    obtain ⟨A',σ',F',m',v',L',X',Fi',g1,g2,g3,g4,g5,g6,g7⟩:=seqK_ok (P:=P) hsz ps.toList (n:=0) (L:=[]) (Z:=((Array.range (n*e.sz)).map (z.cells[· % z.cells.size]!)).toList) (Fi:=fun _ _ _=>0) (m:=ownMd e) hok h rfl (by simp) (by simp[hn]) (fun b i=>by grind [sumF_zero]) (fun i y hy=>by cases hy) hk
    simp only[List.nil_append,Array.toArray_toList] at g7
    simp only[Nat.zero_add] at g3 g4 g5
    have hnl:ps.toList.length=n:=by simpa using hn.symm
    rw[hnl] at g3 g4 g5
    have hrun:(execOp a.eval o).run P w=.ok (.value (.slice (some ⟨w.heap.size,0,none⟩) n n)) (w.alloc (.cells L'.toArray el)):=by
     by_cases hn0:n*e.sz=0
     ·have:n=0:=by rcases Nat.mul_eq_zero.1 hn0 with h | h <;> omega
      subst this
      have hps:ps=#[]:=by grind
      subst hps
      have hL':L'=[]:=by simpa using g4
      subst hL'
      simp[execOp,ho,Instr.buildSlice,run_underlying hu,Go.sizeOf,typeInfo,i1,Instr.fill,newRow,show Array.range 0=#[] from rfl]
     simp_all [run_buildSlice,execOp]
    refine wp_val (w':=w.alloc (.cells L'.toArray el)) hrun ?_
    have hsn:=slc_new g2 (K:=K) (x:=x) (d:=o.dst) (e:=e) (m:=m') (v:=v') (c:=L'.toArray) (cap:=n) (el:=el) (fr:=(0,0)) (Fi:=Fi') (.inr (Nat.le_refl _)) g1 (by simp[g4]) (by simp only[maxLen];have:=Nat.le_mul_of_pos_right n hsz;omega) (by omega)
     (fun b i=>by grind) (fun i y hy=>⟨(L'.drop (i*e.sz)).take e.sz,Rep.length _ (g6 i y hy),(fun j u hu=>by
      grind),g6 i y hy⟩)
    grind [ext_alloc]
   ·cases h2
  ·cases hk
 ·cases hk
end
end OT
set_option linter.unusedVariables false
set_option linter.unusedSimpArgs false
namespace OT
open Go
section
variable {P:Program} {C:Ctx} {A:Cells} {X:FP} {σ:St} {a:Act} {w:World} {F:Nat->FP} {R:Type} {x:R} {Q:Exit->Act->World->Prop} {o:Oper} {E:Env}
theorem Rel.world (h:Rel P C A X σ a w F) {w1:World} {G:FP} (hw:Ext w w1 G) (hG:∀ b i,1<=G b i->1<=X b i):Rel P C A X σ a w1 F:=by
 have hcA:∀ b i,A b i->∀ u,ce w b i=some u->ce w1 b i=some u:=fun b i ha u hu=>by
  refine hw.cell b i (h.bnd b i (.inr ha)) ?_ u hu
  rcases Nat.eq_zero_or_pos (G b i) with h0 | h0
  ·exact h0
  ·exact absurd ha (h.dis b i (by grind))
 have hcF:∀ j,j < σ.n->∀ b i,1<=F j b i->(∀ u,ce w b i=some u->ce w1 b i=some u)/\w1.frozen? ⟨b,i,none⟩=w.frozen? ⟨b,i,none⟩:=fun j hj b i hp=>by
  have hs:=le_sumF F hj b i
  have hb:=h.bnd b i (.inl (by omega))
  refine ⟨fun u hu=>hw.cell b i hb ?_ u hu,hw.froz b i hb⟩
  rcases Nat.eq_zero_or_pos (G b i) with h0 | h0
  ·exact h0
  ·have:=hG b i h0;have:=h.tot b i;omega
 have hpres:Pres σ a w σ a w1:=fun r p snap hb=>⟨hb,fun hok=>⟨hok,fun hl pl hpl=>⟨pl.H,pl.cs,by
  have hlt:=place_lt hpl
  exact place_frame (h.slots r hlt) rfl rfl hcA (fun b i hp=>(hcF r hlt b i hp).1) hpl,fun _=>rfl⟩⟩⟩
 refine ⟨h.size,h.defers,fun i hi=>SlotRel.pres hpres (fun _ _ h=>h) hcA hw.blk (hcF i hi) (h.slots i hi),fun d r p snap hm=>RefRel.pres hpres (h.gh d r p snap hm),h.tot,h.dis,fun b i hp=>Nat.lt_of_lt_of_le (h.bnd b i hp) hw.size,
  h.vlen,h.ext.trans hw (fun b i hb hz=>?_),h.own,h.a0,h.a1,h.lentP,fun r t m H v hg hl=>?_,fun j k hm R' hR'=>?_,h.tab⟩
 ·rcases Nat.eq_zero_or_pos (G b i) with h0 | h0
  ·exact h0
  ·rcases h.own b i (by grind) with h1 | h1 <;> omega
 ·obtain ⟨b,h1,h2⟩:=h.whole r t m H v hg hl
  exact ⟨b,h1,hw.blk _ _ h2⟩
 ·rcases Nat.lt_or_ge j σ.n with hj | hj
  ·have hsl:=h.slots j hj
   cases hR0:rootPl w (tmp a j) (σ.get j) with
   | none=>exfalso;cases hg:σ.get j <;> rw[hg] at hR0 hR' <;> simp only[rootPl] at hR0 hR' <;> first | grind | grind | grind
   | some R0=>
    rw[rootPl_frame hsl (fun b i hp=>(hcF j hj b i hp).1) hR0] at hR'
    injection hR' with hR'
    subst hR'
    exact h.lentS j k hm _ hR0
  ·rw[get_out (Nat.not_lt.2 hj)] at hR';cases hR'
theorem has_pieces {b o sz:Nat} {n:Nat} (h:∀ i,i < n->∃ L:List Value,L.length=sz/\Has w b (o+i*sz) L):Has w b o (rd w b o (n*sz))/\∀ i L,i < n->L.length=sz->Has w b (o+i*sz) L->((rd w b o (n*sz)).drop (i*sz)).take sz=L:=by
 have hsome:∀ j,j < n*sz->(ce w b (o+j)).isSome=true:=fun j hj=>by
  have hsz:0 < sz:=by grind
  have hi:j / sz < n:=Nat.div_lt_of_lt_mul (by grind)
  obtain ⟨L,h1,h2⟩:=h _ hi
  have hm:j % sz < L.length:=by simp_all [Nat.mod_lt]
  have:=h2 (j % sz) _ (List.getElem?_eq_getElem hm)
  grind [Nat.div_add_mod]
 refine ⟨fun j u hu=>?_,fun i L hi hl hL=>?_⟩
 ·have hj:=(List.getElem?_eq_some_iff.1 hu).1
  rw[rd_length] at hj
  unfold rd at hu
  rw[List.getElem?_map,List.getElem?_range hj] at hu
  simp only[Option.map_some,Option.some.injEq] at hu
  obtain ⟨u',hu'⟩:=Option.isSome_iff_exists.1 (hsome j hj)
  grind
 ·have h6:i*sz+sz<=n*sz:=by rw[<-Nat.succ_mul];exact Nat.mul_le_mul_right _ (by omega)
  apply List.ext_getElem?
  intro j
  rw[List.getElem?_take,List.getElem?_drop]
  by_cases hj:j < sz
  ·rw[if_pos hj]
   unfold rd
   rw[List.getElem?_map,List.getElem?_range (by omega)]
   have:=hL j L[j] (List.getElem?_eq_getElem (by omega))
   grind
  grind
theorem slc_elemsH {e:Ty} {m:Md} {H:List Path} (hH:hole H=false) {v:List e.den} {cs:List Value} {Fv:FP} (hr:Rep P w A (.slc e) m H v cs Fv) :
  ∃ xa cap news Fi,cs=[.slice xa (List.length v) cap]/\(List.length v<=cap/\(xa=none->List.length v=0))/\(∀ ad,xa=some ad->(0 < cap->ad.spot=none)/\Has w ad.block ad.off news)/\news.length=List.length v*e.sz/\(∀ u ∈ news,u.oneCell'=true) /\
   (∀ (i:Nat) (y:e.den),v[i]?=some y->Rep P w A e m.e (H.filterMap (stripI i)) y ((news.drop (i*e.sz)).take e.sz) (Fi i))/\(∀ b i,sumF (List.length v) Fi b i<=Fv b i) /\
   (m.own=true->List.length v<=cap/\cap<=maxLen/\(xa=none->cap=0)/\∀ ad,xa=some ad->ad.off=0/\ad.spot=none/\OwnBlk w ad.block (cap*e.sz,isU8 e)/\∀ b i,rng ad.block 0 (cap*e.sz) b i+sumF (List.length v) Fi b i<=Fv b i):=by
 have hone:∀ (news:List Value) (Fi:Nat->FP),news.length=List.length v*e.sz->(∀ (i:Nat) (y:e.den),v[i]?=some y->Rep P w A e m.e (H.filterMap (stripI i)) y ((news.drop (i*e.sz)).take e.sz) (Fi i))->∀ u ∈ news,u.oneCell'=true:=by
  intro news Fi hl hel u hu
  obtain ⟨j,hj,rfl⟩:=List.mem_iff_getElem.1 hu
  have hsz:0 < e.sz:=by grind
  have hi:j / e.sz < List.length v:=Nat.div_lt_of_lt_mul (by grind)
  have h1:=Rep.one _ (hel _ _ (List.getElem?_eq_getElem hi))
  refine h1 _ (List.mem_of_getElem? (i:=j % e.sz) ?_)
  grind [Nat.mod_lt,Nat.div_add_mod]
 simp only[Rep,hH,Bool.false_eq_true,if_false] at hr
 split at hr
 ·rename_i hown
  obtain ⟨xa,cap,rfl,h1,h2,h3,h4⟩:=hr
  cases xa with
  | none=>
   have hcap:=h3 rfl
   have hv0:List.length v=0:=by omega
   have hv:v=[]:=List.eq_nil_of_length_eq_zero hv0
   subst hv
   exact ⟨none,cap,[],fun _ _ _=>0,rfl,⟨Nat.zero_le _,fun _=>rfl⟩,(fun ad e=>by cases e),by simp,(fun u hu=>by cases hu),(fun i y hy=>by cases hy),fun b i=>by grind [sumF_zero],fun _=>⟨h1,h2,h3,fun ad e=>by cases e⟩⟩
  | some ad=>
   obtain ⟨g1,g2,g3,Fi,g4,g5⟩:=h4 ad rfl
   have hp:∀ i,i < List.length v->∃ L:List Value,L.length=e.sz/\Has w ad.block (0+i*e.sz) L:=fun i hi=>by
    obtain ⟨L,l1,l2,_⟩:=g5 i _ (List.getElem?_eq_getElem hi)
    grind
   obtain ⟨p1,p2⟩:=has_pieces hp
   have hel:∀ (i:Nat) (y:e.den),v[i]?=some y->Rep P w A e m.e (H.filterMap (stripI i)) y (((rd w ad.block 0 (List.length v*e.sz)).drop (i*e.sz)).take e.sz) (Fi i):=fun i y hy=>by
    grind
   refine ⟨some ad,cap,rd w ad.block 0 (List.length v*e.sz),Fi,rfl,⟨h1,(fun e=>by cases e)⟩,fun ad' e=>?_,rd_length _ _ _ _,hone _ _ (rd_length _ _ _ _) hel,hel,fun b i=>by grind,fun _=>⟨h1,h2,h3,fun ad' e=>?_⟩⟩
   all_goals grind
 ·rename_i hown
  obtain ⟨rfl,hno,xa,cap,rfl,h1,h2,h3⟩:=hr
  cases xa with
  | none=>
   have hv:v=[]:=List.eq_nil_of_length_eq_zero (h2 rfl)
   subst hv
   exact ⟨none,cap,[],fun _ _ _=>0,rfl,⟨Nat.zero_le _,fun _=>rfl⟩,(fun ad e=>by cases e),by simp,(fun u hu=>by cases hu),(fun i y hy=>by cases hy),(fun b i=>by grind [sumF_zero]),fun h=>absurd h hown⟩
  | some ad=>
   obtain ⟨g1,g2⟩:=h3 ad rfl
   have hp:∀ i,i < List.length v->∃ L:List Value,L.length=e.sz/\Has w ad.block (ad.off+i*e.sz) L:=fun i hi=>by
    obtain ⟨L,l1,l2,_⟩:=g2 i _ (List.getElem?_eq_getElem hi)
    exact ⟨L,l1,fun j u hu=>(l2 j u hu).1⟩
   obtain ⟨p1,p2⟩:=has_pieces hp
   have hel:∀ (i:Nat) (y:e.den),v[i]?=some y->Rep P w A e m.e (([]:List Path).filterMap (stripI i)) y (((rd w ad.block ad.off (List.length v*e.sz)).drop (i*e.sz)).take e.sz) (fun _ _=>0):=fun i y hy=>by
    obtain ⟨L,l1,l2,l3⟩:=g2 i y hy
    rw[p2 i L (List.getElem?_eq_some_iff.1 hy).1 l1 (fun j u hu=>(l2 j u hu).1)]
    grind [Ro.rep]
   refine ⟨some ad,cap,rd w ad.block ad.off (List.length v*e.sz),fun _ _ _=>0,rfl,⟨h1,(fun e=>by cases e)⟩,fun ad' e=>?_,rd_length _ _ _ _,hone _ _ (rd_length _ _ _ _) hel,hel,(fun b i=>by grind [sumF_zero]),fun h=>absurd h hown⟩
   grind
theorem slc_elems {e:Ty} {m:Md} {v:List e.den} {cs:List Value} {Fv:FP} (hr:Rep P w A (.slc e) m [] v cs Fv) :
  ∃ xa cap news Fi,cs=[.slice xa (List.length v) cap]/\(List.length v<=cap/\(xa=none->List.length v=0))/\(∀ ad,xa=some ad->(0 < cap->ad.spot=none)/\Has w ad.block ad.off news)/\news.length=List.length v*e.sz/\(∀ u ∈ news,u.oneCell'=true) /\
   (∀ (i:Nat) (y:e.den),v[i]?=some y->Rep P w A e m.e [] y ((news.drop (i*e.sz)).take e.sz) (Fi i))/\(∀ b i,sumF (List.length v) Fi b i<=Fv b i) /\
   (m.own=true->List.length v<=cap/\cap<=maxLen/\(xa=none->cap=0)/\∀ ad,xa=some ad->ad.off=0/\ad.spot=none/\OwnBlk w ad.block (cap*e.sz,isU8 e)/\∀ b i,rng ad.block 0 (cap*e.sz) b i+sumF (List.length v) Fi b i<=Fv b i):=
 slc_elemsH rfl hr
theorem tail_ok (h:Rel P C A X σ a w F) {s:Slot} {tv:Value} {G:FP} (hs:SlotRel P A σ a w tv s G) {mv:Bool} {e:Ty} {tx:TypeId} (hkind:(∃ e',P.underlying tx=some (.slice e'))\/P.underlying tx=some .string)
  {K:Md->List e.den->St->Option R} (hk:tailK σ s e mv K=some x) :
  ∃ (A':Cells) (σ':St) (F':Nat->FP) (me:Md) (y:List e.den) (news:List Value) (Fv:FP) (Fi:Nat->FP),K me y σ'=some x/\(∀ b i,A b i->A' b i)/\Rel P C A' (fun b i=>X b i+Fv b i) σ' a w F'/\Roots σ σ' /\
   Src P e.sz tx tv (List.length y) news w/\(∀ k,k<=List.length y->(Builtin.firstCells e.sz k tv).run P w=.ok (news.take (k*e.sz)).toArray w)/\(∀ (i:Nat) (z:e.den),y[i]?=some z->Rep P w A' e me [] z ((news.drop (i*e.sz)).take e.sz) (Fi i))/\∀ b i,sumF (List.length y) Fi b i<=Fv b i:=by
 unfold tailK at hk
 split at hk
 ·rename_i s'
  obtain ⟨e1,hk⟩:=castK_some hk
  injection e1 with e1
  subst e1
  obtain ⟨cs,h1,h2⟩:=hs
  simp only[Ro] at h2
  subst h2
  have htv:tv=.string ⟨List.toArray s'⟩:=h1
  subst htv
  have hlen:(byteCells ⟨List.toArray s'⟩)=List.map (fun (b:UInt8)=>Value.int .u8 b.toNat) s':=by simp[byteCells]
  have hsz:(⟨List.toArray s'⟩:ByteArray).size=List.length s':=rfl
  refine ⟨A,σ,F,.leaf,s',byteCells ⟨List.toArray s'⟩,fun _ _=>0,fun _ _ _=>0,hk,fun _ _ h=>h,h,Roots.refl σ,⟨hkind,fun _=>rfl,firstCells_string _ w,firstCells_string _ w.drew,by grind [Ty.sz],fun u hu=>?_⟩,fun k hk=>?_,fun i z hz=>?_,fun b i=>by grind [sumF_zero]⟩
  ·obtain ⟨_,_,rfl⟩:=List.mem_map.1 hu;rfl
  ·rw[hlen]
   have hmin:((⟨List.toArray s'⟩:ByteArray).extract 0 k).data.toList=s'.take k:=by simp[ByteArray.data_extract]
   simp only[Builtin.firstCells,Sem.run_pure,Ty.sz,Nat.mul_one]
   simp_all
  ·have:((byteCells ⟨List.toArray s'⟩).drop (i*Ty.sz (.int .u8))).take (Ty.sz (.int .u8))=[Value.int .u8 z.toNat]:=by
    show ((byteCells ⟨List.toArray s'⟩).drop (i*1)).take 1=_
    grind [List.take_one,List.head?_drop]
   exact this
 ·rename_i s' hns
  obtain ⟨A',σ',F',m,v,cs,Fv,k1,k2,k3,k4,kr,k5,k6⟩:=use_ok h hs hk
  obtain ⟨xa,cap,news,Fi,r1,r2,r3,r4,r5,r6,r7,r8⟩:=slc_elems k6
  rw[r1,mkV_one _ _ rfl] at k5
  subst k5
  have hcells:∀ ad,xa=some ad->∀ j u,news[j]?=some u->w.cell? (ad.add j)=some u:=fun ad e1 j u hu=>by
   obtain ⟨g1,g2⟩:=r3 ad e1
   have hj:=(List.getElem?_eq_some_iff.1 hu).1
   have hpos:0 < cap:=by
    grind
   obtain ⟨b,off,sp⟩:=ad
   have:=g1 hpos
   simp only at this
   subst this
   rw[addr_add]
   exact ce_cell (g2 j u hu) (r5 u (List.mem_of_getElem? hu))
  refine ⟨A',σ',F',m.e,v,news,Fv,Fi,k1,k2,k3,kr,?_,?_,r6,r7⟩
  rotate_left
  ·intro k hk
   cases xa with
   | none=>
    simp_all [run_firstCells_none]
   | some ad=>
    grind [Nat.mul_le_mul_right,run_firstCells_some]
  cases xa with
  | none=>
   have h0:=r2.2 rfl
   have hn:news=[]:=List.eq_nil_of_length_eq_zero (by grind)
   subst hn
   rw[h0]
   exact ⟨hkind,fun _=>rfl,run_firstCells_none w e.sz 0 0 cap,run_firstCells_none w.drew e.sz 0 0 cap,by simp,fun u hu=>by cases hu⟩
  | some ad=>
   have hc:=hcells ad rfl
   exact ⟨hkind,fun _=>rfl,run_firstCells_some w e.sz (List.length v) ad (List.length v) cap news r4 hc,run_firstCells_some w.drew e.sz (List.length v) ad (List.length v) cap news r4 (by simpa using hc),r4,r5⟩
theorem two_rows {e:Ty} {me:Md} {v y:List e.den} {olds news:List Value} {Fi Gi:Nat->FP} (hl:olds.length=List.length v*e.sz)
  (h1:∀ (i:Nat) (z:e.den),v[i]?=some z->Rep P w A e me [] z ((olds.drop (i*e.sz)).take e.sz) (Fi i)) (h2:∀ (i:Nat) (z:e.den),y[i]?=some z->Rep P w A e me [] z ((news.drop (i*e.sz)).take e.sz) (Gi i)) :
  ∀ (i:Nat) (z:e.den),(v++y)[i]?=some z->Rep P w A e me [] z (((olds++news).drop (i*e.sz)).take e.sz) (if i < List.length v then Fi i else Gi (i - List.length v)):=by
 intro i z hz
 by_cases hi:i < List.length v
 ·rw[if_pos hi]
  rw[List.getElem?_append_left hi] at hz
  have h6:i*e.sz+e.sz<=List.length v*e.sz:=by rw[<-Nat.succ_mul];exact Nat.mul_le_mul_right _ (by omega)
  grind
 grind [Nat.mul_le_mul_right,List.drop_append,List.drop_of_length_le,Nat.sub_mul]
theorem two_sums (n m:Nat) (Fi Gi:Nat->FP) (b i:Nat):sumF (n+m) (fun i=>if i < n then Fi i else Gi (i - n)) b i=sumF n Fi b i+sumF m Gi b i:=by
 rw[sumF_add]
 congr 1
 all_goals simp_all [sumF_congr,if_neg]
theorem Ro.indep {A':Cells}:∀ (t:Ty) {v:t.den} {cs:List Value},t.flat=true->t.nofn=true->Ro P w A t v cs->Ro P w A' t v cs:=by
 intro t
 induction t with
 | pair a b iha ihb=>
  intro v cs hf hn h
  simp only[Ty.flat,Ty.nofn,Bool.and_eq_true] at hf hn
  exact ⟨iha hf.1 hn.1 h.1,ihb hf.2 hn.2 h.2⟩
 | arr n e ih=>
  intro v cs hf hn h
  exact ⟨h.1,h.2.1,h.2.2.1,fun i x hx=>ih hf hn (h.2.2.2 i x hx)⟩
 | slc e ih=>grind [Ty.flat]
 | ptr e ih=>grind [Ty.flat]
 | fn=>grind [Ty.nofn]
 | map k v=>grind [Ty.flat]
 | _=>intro v cs hf hn h;exact h
theorem append_end {A1 A2:Cells} {σ2:St} {F2:Nat->FP} {t tx:Nat} {y z:Operand} (ho:o.op=.call { callee:=.builtin .append,args:=#[y,z],argTypes:=#[t,tx] }) {e:Ty} {el:Nat} (hu:P.underlying t=some (.slice el)) (hel:layB P e (.inl el)=true)
  {m me:Md} {v yv:List e.den} {cs news:List Value} {Fv Fw:FP} {Gi:Nat->FP} {K:St->Option R} (hown:m.own=true) (k5:a.eval y=mkV (.slc e) cs) (k6:Rep P w A1 (.slc e) m [] v cs Fv) (hcap:v.length+yv.length<=CAP)
  (q1:K (σ2.putD o.dst (.own (.slc e) (.slc true (if me=m.e then me else roMd e)) [] (v++yv)))=some x) (q2:∀ b i,A1 b i->A2 b i) (q3:Rel P C A2 (fun b i=>0+Fv b i+Fw b i) σ2 a w F2)
  (q4:Src P e.sz tx (a.eval z) (List.length yv) news w) (q5:∀ (i:Nat) (z:e.den),yv[i]?=some z->Rep P w A2 e me [] z ((news.drop (i*e.sz)).take e.sz) (Gi i)) (q6:∀ b i,sumF (List.length yv) Gi b i<=Fw b i):o.wp P a w (Nx P C K x) Q:=by
 obtain ⟨inf,zv,i1,i2,i3,i4,i5,_⟩:=infoOk_zero (layB_info hel)
 obtain ⟨xa,cap,olds,Fi,r1,r2,r3,r4,r5,r6,r7,r8⟩:=slc_elems k6
 obtain ⟨c1,c2,c3,c4⟩:=r8 hown
 rw[r1,mkV_one _ _ rfl] at k5
 have r6':∀ (i:Nat) (z:e.den),v[i]?=some z->Rep P w A2 e m.e [] z ((olds.drop (i*e.sz)).take e.sz) (Fi i):=fun i z hz=>Rep.mono (P:=P) (A':=A2) q2 (fun _ _ _ _ h=>h) (fun _ _ h=>h) e (r6 i z hz) (fun _ _=>Nat.le_refl _) (fun _ _ _ _ h=>h)
 have hnew:∃ (A3:Cells) (X3:FP) (Hi:Nat->FP),Rel P C A3 X3 σ2 a w F2/\(∀ (i:Nat) (z:e.den),(v++yv)[i]?=some z->Rep P w A3 e (if me=m.e then me else roMd e) [] z (((olds++news).drop (i*e.sz)).take e.sz) (Hi i)) /\
   (∀ b i,sumF (List.length v+List.length yv) Hi b i<=X3 b i)/\∀ ad,xa=some ad->∀ b i,rng ad.block 0 (cap*e.sz) b i+sumF (List.length v+List.length yv) Hi b i<=X3 b i:=by
  by_cases hme:me=m.e
  ·subst hme
   refine ⟨A2,_,_,q3,by simp only[if_true];exact two_rows r4 r6' q5,fun b i=>?_,fun ad had b i=>?_⟩
   all_goals grind [two_sums]
  ·simp only[if_neg hme]
   obtain ⟨B,hB1,hB2,hB3⟩:∃ B:FP,(∀ b i,B b i+sumF (List.length v) Fi b i<=Fv b i)/\(∀ ad,xa=some ad->∀ b i,rng ad.block 0 (cap*e.sz) b i=B b i)/\∀ b i,B b i<=1:=by
    cases xa with
    | none=>exact ⟨fun _ _=>0,fun b i=>by grind,(fun ad e=>by cases e),fun _ _=>Nat.zero_le _⟩
    | some ad=>exact ⟨rng ad.block 0 (cap*e.sz),(c4 ad rfl).2.2.2,(fun ad' e=>by grind),fun b i=>by grind [rng]⟩
   obtain ⟨A3,hA3⟩:∃ A3:Cells,∀ b i,A3 b i↔(A2 b i\/(1<=0+Fv b i+Fw b i/\B b i=0)):=⟨fun b i=>A2 b i\/(1<=0+Fv b i+Fw b i/\B b i=0),fun _ _=>Iff.rfl⟩
   refine ⟨A3,B,fun _ _ _=>0,q3.giveUp (fun b i h=>(hA3 b i).2 (.inl h)) (fun b i ha=>(hA3 b i).1 ha) (fun b i=>by grind),?_,fun b i=>by grind [sumF_zero],fun ad had b i=>by grind [sumF_zero]⟩
   have htot:∀ b i,(0+Fv b i+Fw b i)+sumF σ2.n F2 b i<=1:=fun b i=>q3.tot b i
   have hv3:∀ (i:Nat) (z:e.den),v[i]?=some z->Rep P w A3 e (roMd e) [] z ((olds.drop (i*e.sz)).take e.sz) (fun _ _=>0):=fun i z hz=>Ro.rep _ _ (roMd_noOwn _) (Rep.toRo (fun b i h=>(hA3 b i).2 (.inl h)) e (r6' i z hz) fun b k hp=>(hA3 b k).2 (.inr (by
    grind [le_sumF])))
   have hy3:∀ (i:Nat) (z:e.den),yv[i]?=some z->Rep P w A3 e (roMd e) [] z ((news.drop (i*e.sz)).take e.sz) (fun _ _=>0):=fun i z hz=>Ro.rep _ _ (roMd_noOwn _) (Rep.toRo (fun b i h=>(hA3 b i).2 (.inl h)) e (q5 i z hz) fun b k hp=>(hA3 b k).2 (.inr (by
    grind [le_sumF])))
   exact fun i z hz=>by simpa using two_rows (Fi:=fun _ _ _=>0) (Gi:=fun _ _ _=>0) r4 hv3 hy3 i z hz
 obtain ⟨A3,X3,Hi,n1,n2,n3,n4⟩:=hnew
 have hvl:List.length (v++yv)=List.length v+List.length yv:=by simp
 by_cases hroom:List.length v+List.length yv<=cap
 ·cases xa with
  | none=>
   have hc0:=c3 rfl
   have hv0:v=[]:=List.eq_nil_of_length_eq_zero (by omega)
   have hy0:yv=[]:=List.eq_nil_of_length_eq_zero (by omega)
   subst hv0;subst hy0
   have hcl:(Builtin.firstCells e.sz 0 (a.eval z)).run P w=.ok news.toArray w:=by have:=q4.cells;simpa using this
   have hrun:(execOp a.eval o).run P w=.ok (.value (.slice none 0 cap)) w:=by
    rcases q4.kind with ⟨e',hk'⟩ | hk' <;>
     simp[execOp,ho,resolve,invoke,builtin,Builtin.append_,k5,run_underlying hu,run_underlying hk',Go.sizeOf,typeInfo,i1,q4.len,i2,hcl]
   refine wp_val hrun (fin_val n1 q1 (Fd:=fun _ _=>0) ⟨[.slice none 0 cap],(mkV_one _ _ rfl).symm,?_⟩ (fun _ _=>Nat.zero_le _) (fun _ _ _ _ e=>by cases e))
   grind [Rep,Md.own]
  | some ad=>
   obtain ⟨d1,d4,d2,d3⟩:=c4 ad rfl
   obtain ⟨_,d5⟩:=r3 ad rfl
   obtain ⟨b,off,sp⟩:=ad
   simp only at d1 d2 d3 d4 d5
   subst d1;subst d4
   have n4':∀ b' i,rng b 0 (cap*e.sz) b' i+sumF (List.length v+List.length yv) Hi b' i<=X3 b' i:=n4 _ rfl
   have hnl:=q4.newsLen
   have hfit:List.length v*e.sz+news.length<=cap*e.sz:=by rw[hnl,<- Nat.add_mul];exact Nat.mul_le_mul_right _ hroom
   have hcell:∀ j,j < cap*e.sz->(w.cell? ⟨b,j,none⟩).isSome=true:=fun j hj=>by
    obtain ⟨c,e',fr,w1,w2,w3⟩:=d2
    grind [World.cell?]
   have hrun:=run_append_room_src (P:=P) w t tx o.type el inf hu i1 b 0 (List.length v) cap (a.eval z) (List.length yv) news (by grind) hroom (fun j hj=>by grind) (fun j hj=>by rw[i2,Nat.zero_add];exact d2.frozen (by omega))
   rw[i2,Nat.zero_add] at hrun
   have hrun':(execOp a.eval o).run P w=.ok (.value (.slice (some ⟨b,0,none⟩) (List.length v+List.length yv) cap)) (w.setCells b (List.length v*e.sz) news):=by
    simp_all [execOp,resolve,invoke,builtin]
   have hext:=ext_setCells (b:=b) (o:=List.length v*e.sz) news w (List.length v*e.sz)
   have hX1:∀ b' i,1<=rng b (List.length v*e.sz) news.length b' i->1<=rng b 0 (cap*e.sz) b' i:=fun b' i hp=>by
    grind [rng]
   have hn':=n1.world hext (fun b' i hp=>by grind)
   refine wp_val hrun' (fin_val hn' q1 (Fd:=X3) ⟨[.slice (some ⟨b,0,none⟩) (List.length v+List.length yv) cap],(mkV_one _ _ rfl).symm,?_⟩ (fun _ _=>Nat.le_refl _) (fun _ _ _ _ e=>by cases e))
   simp only[Rep,hole,List.any_nil,Bool.false_eq_true,if_false,Md.own,if_true,Md.e]
   refine ⟨some ⟨b,0,none⟩,cap,by rw[hvl],by omega,c2,(fun e=>by cases e),fun ad' e'=>?_⟩
   injection e' with e';subst e'
   refine ⟨rfl,rfl,hext.blk _ _ d2,Hi,fun b' i=>by grind,fun i zz hz=>?_⟩
   have hrep:=n2 i zz hz
   have hilt:i < List.length v+List.length yv:=by grind
   refine ⟨_,Rep.length _ hrep,?_,?_⟩
   ·
    have hall:Has (w.setCells b (List.length v*e.sz) news) b 0 (olds++news):=fun j u hu=>by
     rw[Nat.zero_add]
     by_cases hj:j < olds.length
     ·rw[List.getElem?_append_left hj] at hu
      have hold:=d5 j u hu
      rw[Nat.zero_add] at hold
      refine hext.cell b j (by obtain ⟨c,e',fr,w1,_⟩:=d2;grind) ?_ u hold
      grind [rng]
     ·rw[List.getElem?_append_right (by omega)] at hu
      have:=has_setCells (w:=w) (b:=b) (o:=List.length v*e.sz) (L:=news) (fun k hk=>hcell _ (by omega)) q4.one _ u hu
      grind
    intro j u hu
    rw[List.getElem?_take] at hu
    split at hu
    ·rw[List.getElem?_drop] at hu
     have:=hall _ u hu
     grind
    ·cases hu
   ·simp only[List.filterMap_nil]
    refine Rep.mono (P:=P) (fun _ _ h=>h) (fun b' k ha u hu=>hext.cell b' k (n1.bnd b' k (.inr ha)) ?_ u hu) hext.blk e hrep (fun _ _=>Nat.le_refl _) (fun b' k hp u hu=>hext.cell b' k ?_ ?_ u hu)
    ·rcases Nat.eq_zero_or_pos (rng b (List.length v*e.sz) news.length b' k) with h0 | h0
     ·exact h0
     ·exact absurd ha (n1.dis b' k (by grind))
    ·exact n1.bnd b' k (.inl (by grind [le_sumF]))
    ·rcases Nat.eq_zero_or_pos (rng b (List.length v*e.sz) news.length b' k) with h0 | h0
     ·exact h0
     ·have h1:=hX1 b' k h0;have h2:=n4' b' k;have h3:=le_sumF Hi hilt b' k;have h4:=n1.tot b' k;omega
 ·
  have hbase:(Builtin.firstCells inf.size (List.length v) (.slice xa (List.length v) cap)).run P w.drew=.ok olds.toArray w.drew:=by
   cases xa with
   | none=>
    simp_all [run_firstCells_none]
   | some ad=>
    obtain ⟨_,d4,_,_⟩:=c4 ad rfl
    obtain ⟨_,d5⟩:=r3 ad rfl
    obtain ⟨b,off,sp⟩:=ad
    simp only at d4 d5
    subst d4
    exact run_firstCells_some w.drew inf.size (List.length v) ⟨b,off,none⟩ (List.length v) cap olds (by grind) (fun j u hu=>by rw[addr_add];exact ce_cell (d5 j u hu) (r5 u (List.mem_of_getElem? hu)))
  simp only[CAP] at hcap
  have hrun:=run_append_grow_src (P:=P) w t tx o.type el inf zv hu i1 i4 xa (List.length v) cap olds hbase (a.eval z) (List.length yv) news (by grind) (by omega) (by omega)
   (growslice_fits (by omega) (Nat.le_trans (Nat.mul_le_mul hcap i3) (by decide)))
  have hrun':(execOp a.eval o).run P w=.ok (.value (.slice (some ⟨w.heap.size,0,none⟩) (List.length v+List.length yv) (grownCap w (List.length v+List.length yv) cap el)))
    (w.drew.alloc (.cells ((olds++news).toArray++Builtin.zeroCells zv.cells (grownCap w (List.length v+List.length yv) cap el - (List.length v+List.length yv))) el)):=by
   simp_all [execOp,resolve,invoke,builtin]
  have hge:=grownCap_ge w (List.length v+List.length yv) cap el
  have hgm:=grownCap_le_maxLen w (List.length v+List.length yv) cap el (by grind [maxLen])
  have hnl:=q4.newsLen
  have hsn:=slc_new n1.drew (K:=K) (x:=x) (d:=o.dst) (e:=e) (m:=if me=m.e then me else roMd e) (v:=v++yv) (c:=(olds++news).toArray++Builtin.zeroCells zv.cells (grownCap w (List.length v+List.length yv) cap el - (List.length v+List.length yv)))
   (cap:=grownCap w (List.length v+List.length yv) cap el) (el:=el) (fr:=(0,0)) (Fi:=Hi) (.inr (Nat.le_refl _)) q1
   (by
    rw[Array.size_append,size_zeroCells,i5,List.size_toArray,List.length_append,r4,hnl,<- Nat.add_mul,<- Nat.add_mul]
    congr 1;omega) hgm (by grind)
   (fun b i=>by grind) (fun i zz hz=>by
    have hrep:=n2 i zz hz
    refine ⟨_,Rep.length _ hrep,fun j u hu=>?_,Rep.mono (P:=P) (w:=w) (w':=w.drew) (A:=A3) (A':=A3) (fun _ _ h=>h) (fun _ _ _ _ h=>h) (fun b n hn=>hn) e hrep (fun _ _=>Nat.le_refl _) (fun _ _ _ _ h=>h)⟩
    grind)
  rw[hvl] at hsn
  exact wp_val hrun' hsn
theorem step_append (h:Rel0 P C A σ a w F) (hti:∀ i T,E.TI i=some T->layB P T (.inl i)=true) {t tx:Nat} {y z:Operand} (ho:o.op=.call { callee:=.builtin .append,args:=#[y,z],argTypes:=#[t,tx] }) (hok:opdOk P y=true/\opdOk P z=true)
  (hkind:(∃ e',P.underlying tx=some (.slice e'))\/P.underlying tx=some .string) {mv tf:Bool} {K:St->Option R} (hk:appendK E σ t (opd σ y) z mv tf o.dst K=some x):o.wp P a w (Nx P C K x) Q:=by
 unfold appendK at hk
 obtain ⟨T,hT,hk⟩:=tiK_some hk
 have hlay:=hti _ _ hT
 split at hk
 ·rename_i e
  have hl:=hlay
  simp only[layB,Bool.and_eq_true] at hl
  have h2:=hl.2
  split at h2
  rotate_left
  ·cases h2
  rename_i el hu
  simp only[Bool.and_eq_true,Nat.ble_eq] at h2
  obtain ⟨hsz,hel⟩:=h2
  split at hk
  ·rename_i hfl
   simp only[Bool.and_eq_true] at hfl
   obtain ⟨_,hfl,hnf⟩:=hfl
   rcases opd_ok h hok.2 with hs2 | ⟨xs,e'⟩
   rotate_left
   ·grind [tailK,useK]
   obtain ⟨A0,σ0,F0,me,yv,news,Fw,Gi,q1,_,_,_,q4,_,q5,_⟩:=tail_ok h hs2 hkind hk
   rcases opd_ok h hok.1 with hs | ⟨xs,e'⟩
   rotate_left
   ·grind [useK]
   obtain ⟨A1,σ1,F1,m,v,cs,Fv,k1,k2,k3,k4,kr,k5,k6⟩:=use_ok h hs q1
   split at k1
   rotate_left
   ·cases k1
   rename_i hown
   split at k1
   rotate_left
   ·cases k1
   rename_i hcap
   exact append_end (me:=roMd e) (Fw:=fun _ _=>0) (Gi:=fun _ _ _=>0) ho hu hel hown k5 k6 hcap (by grind) (fun _ _ h=>h) k3 q4
    (fun i zz hz=>Ro.rep _ _ (roMd_noOwn _) (Ro.indep e hfl hnf (Rep.flat e hfl (q5 i zz hz)))) (fun b i=>by grind [sumF_zero])
  rcases opd_ok h hok.1 with hs | ⟨xs,e'⟩
  rotate_left
  ·grind [useK]
  obtain ⟨A1,σ1,F1,m,v,cs,Fv,k1,k2,k3,k4,kr,k5,k6⟩:=use_ok h hs hk
  split at k1
  rotate_left
  ·cases k1
  rename_i hown
  rcases opd_ok k3 hok.2 with hs2 | ⟨xs,e'⟩
  rotate_left
  ·grind [tailK,useK]
  obtain ⟨A2,σ2,F2,me,yv,news,Fw,Gi,q1,q2,q3,qr,q4,_,q5,q6⟩:=tail_ok k3 hs2 hkind k1
  split at q1
  rotate_left
  ·cases q1
  rename_i hcap
  exact append_end ho hu hel hown k5 k6 hcap q1 q2 q3 q4 q5 q6
 ·cases hk
end
end OT
set_option linter.unusedVariables false
set_option linter.unusedSimpArgs false
namespace OT
open Go
section
variable {P:Program} {C:Ctx} {A:Cells} {X:FP} {σ:St} {a:Act} {w:World} {F:Nat->FP} {R:Type} {x:R} {Q:Exit->Act->World->Prop} {o:Oper} {E:Env}
theorem take_makeFunc (h:Rel0 P C A σ a w F) {f:Nat} {first cs:Array Operand} (ho:o.op=.makeFunc (.func f) first cs) (hst:(P.funcs[f]?).any (fun fn=>fn.nfree == cs.size)=true) {K:St->Option R}
  (hk:(if first.size=0 then
   match cs.toList with
   | []=>K (σ.putD o.dst (.val .fn (f,0)))
   | [.tmp i]=>match σ.get i with
    | .box (.int .i64) _ _ n=>K (((σ.put i .dead).put i (.cp (.int .i64) n)).putD o.dst (.val .fn (f,n)))
    | _=>none
   | _=>none
  else none)=some x):Tk P o a w (Nx P C K x):=by
 simp only[Option.any_eq_true,beq_iff_eq] at hst
 obtain ⟨fn,hf,hn⟩:=hst
 split at hk
 ·rename_i h0
  have hfirst:first=#[]:=Array.eq_empty_of_size_eq_zero h0
  subst hfirst
  split at hk
  ·rename_i hcs
   have hcs:cs=#[]:=by grind
   subst hcs
   refine tk_val (v:=.func (.func f) #[] #[]) (by simp[execOp,ho,Instr.makeFunc]) (fin_flat h hk ⟨[.func (.func f) #[] #[]],rfl,#[],rfl,fn,hf,.inl ⟨by simpa using hn,rfl⟩⟩ (fun _ _ _ _ e=>by cases e))
  ·rename_i i hcs
   have hcs:cs=#[.tmp i]:=by grind
   subst hcs
   split at hk
   ·rename_i m H n hg
    have hi:i < σ.n:=by
     grind [get_out]
    have hs:=h.slots i hi
    rw[hg] at hs
    obtain ⟨b,off,L,F1,s1,s2,s3,s4,s5,s6⟩:=hs
    simp only[Rep,Ro] at s6
    subst s6
    have h1:=h.put hi (s:=.dead) (v:=tmp a i) (Fd:=fun _ _=>0) (X':=F i) trivial (fun b k=>by omega) (fun _ _ _ _ e=>by cases e)
    rw[put_same] at h1
    have hle:∀ b' i',rng b off 1 b' i'<=F i b' i':=fun b' i'=>by grind
    have h2:=h1.giveUp (A1:=fun b' i'=>A b' i'\/1<=rng b off 1 b' i') (X1:=fun _ _=>0) (fun _ _ h=>.inl h) (fun b' i' ha=>ha.imp id fun hp=>⟨by grind,rfl⟩) (fun _ _=>Nat.zero_le _)
    have hcell:ce w b off=some (.int .i64 n):=s3 0 _ rfl
    have hA:1<=rng b off 1 b off:=by simp[rng]
    have h3:=h2.put (d:=i) hi (s:=.cp (.int .i64) n) (v:=tmp a i) (Fd:=fun _ _=>0) (X':=fun _ _=>0)
     ⟨⟨b,off,none⟩,by rw[s1],rfl,[.int .i64 n],rfl,(fun j u hu=>by
      grind),rfl⟩ (fun b k=>by omega) (fun _ _ _ _ e=>by cases e)
    rw[put_same] at h3
    have ev:a.eval (.tmp i)=.pointer (some ⟨b,off,none⟩):=s1
    refine tk_val (v:=.func (.func f) #[] #[.pointer (some ⟨b,off,none⟩)]) (by simp[execOp,ho,Instr.makeFunc,ev])
     (fin_flat h3 hk ⟨[.func (.func f) #[] #[.pointer (some ⟨b,off,none⟩)]],rfl,_,rfl,fn,hf,.inr ⟨by simpa using hn,_,rfl,rfl,hcell,.inr hA⟩⟩ (fun _ _ _ _ e=>by cases e))
   ·cases hk
  ·cases hk
 ·cases hk
theorem take_assign (h:Rel0 P C A σ a w F) {y:Operand} (ho:o.op=.assign y) (hok:opdOk P y=true) {T:Nat} {mv:Bool} {K:St->Option R} (hk:assignK E σ T y mv o.dst K=some x):Tk P o a w (Nx P C K x):=by
 refine tk_val (v:=a.eval y) (by simp[execOp,ho]) ?_
 unfold assignK at hk
 by_cases htup:∃ i xs,y=.tmp i/\σ.get i=.tup xs
 ·obtain ⟨i,xs,rfl,hg⟩:=htup
  have e:opd σ (.tmp i)=.tup xs:=by grind [opd]
  rw[e] at hk
  cases xs with
  | nil=>
   have hi:i < σ.n:=by
    grind [get_out]
   have hs:=h.slots i hi
   rw[hg] at hs
   obtain ⟨vs,Fi,h1,h2,h3⟩:=hs
   exact fin_flat h hk ⟨vs,fun _ _ _=>0,h1,fun b i=>by simp[sumF],fun j y hy=>by cases hy⟩ (fun _ _ _ _ e=>by cases e)
  | cons _ _=>cases hk
 rcases opd_ok h hok with hs | ⟨xs,e⟩
 rotate_left
 ·exfalso
  cases y with
  | tmp i=>
   grind [opd]
  | const v=>simp only[opd] at e;unfold constSlot at e;grind
  | func f=>cases e
  | global g=>cases e
 split at hk
 ·grind [fin_flat]
 ·rename_i hv
  rw[hv] at hs
  obtain ⟨t,hT,hk⟩:=tiK_some hk
  split at hk
  ·have hs:a.eval y=.slice none 0 0:=hs
   rw[hs]
   refine fin_flat h hk ⟨[.slice none 0 0],(mkV_one _ _ rfl).symm,?_⟩ (fun _ _ _ _ e=>by cases e)
   grind [Rep,hole,mdOf,Md.own]
  ·cases hk
 ·grind [fin_flat]
 ·cases hk
 ·grind [use_ok,fin_laid]
 ·grind [use_ok,fin_laid]
 ·rename_i r p snap hv
  rw[hv] at hs
  split at hk
  ·rename_i t m H v hg
   split at hk
   ·rename_i hc
    simp only[Bool.and_eq_true,Bool.not_eq_true'] at hc
    split at hk
    ·rename_i i hd
     have hr:r < σ.n:=by
      grind [get_out]
     have hsl:=h.slots r hr
     rw[hg] at hsl
     obtain ⟨b,off,L,F1,s1,s2,s3,s4,s5,s6⟩:=hsl
     obtain ⟨pl,b',o',g1,g2,g3,g4⟩:=hs.2 hc.1.1
     have hpl:place σ a w r []=some ⟨t,H,rd w b off t.sz,some (b,off)⟩:=by
      unfold place;rw[hg,s1];rfl
     rw[hpl] at g1
     injection g1 with g1
     subst g1
     simp only[Option.some.injEq,Prod.mk.injEq] at g2
     obtain ⟨rfl,rfl⟩:=g2
     have h1:=h.put hr (s:=.dead) (v:=tmp a r) (Fd:=fun _ _=>0) (X':=F r) trivial (fun b k=>by omega) (fun _ _ _ _ e=>by cases e)
     rw[put_same] at h1
     obtain ⟨bw,w1,w2⟩:=h.whole r t m H v hg (lentB_none hc.2)
     rw[s1] at w1
     injection w1 with w1;injection w1 with w1;injection w1 with w1 w3
     subst w1
     have:=fin_val (K:=K) (x:=x) (d:=some i) h1 hk (v:=a.eval y) (s:=.box t m H v) (Fd:=F r) ⟨b,off,L,F1,g3,s2,s3,s4,s5,s6⟩ (fun b i=>Nat.le_refl _) (fun t' m' H' v' e=>by grind)
     grind
    ·cases hk
   grind [fin_flat]
  grind [fin_flat]
 grind [fin_flat,opd_nobox]
theorem over_length {α:Type} (v y:List α) {lo n:Nat} (h:lo+n<=v.length) (hy:n<=y.length):(over v lo n y).length=v.length:=by
 grind [over]
theorem over_get {α:Type} (v y:List α) {lo n:Nat} (h:lo+n<=v.length) (hy:n<=y.length) (i:Nat):(over v lo n y)[i]?=if lo<=i/\i < lo+n then y[i - lo]? else v[i]?:=by
 unfold over
 by_cases h1:i < lo
 all_goals grind
theorem copy_core (h:Rel0 P C A σ a w F) {r:Nat} {p:Path} {e:Ty} {m:Md} {v y:List e.den} {news:List Value} {Gi:Nat->FP} {me:Md} {lo n:Nat} {K:St->Option R} (hat:At σ r p (.slc e) m [] v) (hown:m.own=true) (hf:e.flat=true) (hn:lo+n<=List.length v) (hy:n<=List.length y)
  (hl:news.length=List.length y*e.sz) (hone:∀ u ∈ news,u.oneCell'=true) (hel:∀ (i:Nat) (z:e.den),y[i]?=some z->Rep P w A e me [] z ((news.drop (i*e.sz)).take e.sz) (Gi i))
  (hk:setK σ r p (.slc e) m (over v lo n y) (fun σ'=>K { σ' with vr:=(σ.setVer r bumpW).vr,lent:=σ.lent })=some x) :
  ∃ (xa:Option Addr) (cap:Nat) (ad:Option (Nat×Nat)) (w2:World) (A3:Cells) (σ':St) (F3:Nat->FP),place σ a w r p=some ⟨.slc e,[],[.slice xa (List.length v) cap],ad⟩/\K σ'=some x/\Rel0 P C A3 σ' a w2 F3 /\
   (xa=none->w2=w/\List.length v=0)/\∀ ad,xa=some ad->ad.off=0/\ad.spot=none/\(n=0->w2=w)/\(storeCells ⟨ad.block,lo*e.sz,none⟩ (news.take (n*e.sz))).run P w=.ok () w2:=by
 obtain ⟨hr,m2,H2,v2,cs2,ad2,F2,q1,q2,q3,q4,q5,q6⟩:=set_ok h hk
 obtain ⟨_,e2,e3,e4⟩:=hat.inj q1
 subst e2;subst e3
 have e4:=eq_of_heq e4
 subst e4
 have hrep:=q3
 simp only[Rep,hole,List.any_nil,Bool.false_eq_true,if_false,hown,if_true] at q3
 obtain ⟨xa,cap,rfl,c1,c2,c3,c4⟩:=q3
 have hvl:=over_length v y hn hy
 have hFr:∀ b i,F r b i<=1:=fun b i=>by have:=h.tot b i;grind [le_sumF]
 have fin:∀ (w2:World),Ext w w2 (fun b i=>0+(F2 b i+rngO ad2 (Ty.slc e).sz b i))->(∀ b o,ad2=some (b,o)->Has w2 b o [.slice xa (List.length v) cap])->Rep P w2 A (.slc e) m [] (over v lo n y) [.slice xa (List.length v) cap] F2 ->
   (∀ (i:Nat) (z:e.den),(over v lo n y)[i]?=some z->∀ ad,xa=some ad->∃ L,L.length=e.sz/\Has w2 ad.block (ad.off+i*e.sz) L/\Rep P w2 A e .leaf [] z L (fun _ _=>0)) ->
   ∃ (A3:Cells) (σ':St) (F3:Nat->FP),K σ'=some x/\Rel0 P C A3 σ' a w2 F3:=by
  intro w2 g1 g2 g3 g4
  obtain ⟨A3,σ3,Fr,n1,n2,n3,n4,n5⟩:=q6 w2 A _ F2 (fun _ _=>0) g1 (fun _ _ h=>h) (fun _ _ h=>.inl h) (fun b i=>by omega) g2 (fun _=>rfl) g3
  refine ⟨A3,_,_,n1,n5 bumpW (below_bumpW (h.vlen r)) (len_bumpW (h.vlen r)) rfl fun p' snap hb hok hlen=>?_⟩
  have h5:=ok_bumpW (h.vlen r) hb hok
  refine ⟨nidx p'+1,False,by omega,fun _=>.inl (by omega),fun _=>by omega,?_⟩
  intro q pl hq hp
  cases q with
  | nil=>
   simp only[plc,Option.some.injEq] at hp
   subst hp
   exact ⟨_,_,rfl,fun _=>rfl⟩
  | cons s q=>
   cases s with
   | idx i=>
    cases xa with
    | none=>grind [plc]
    | some ad=>
     simp only[plc,hole,List.any_nil,Bool.false_eq_true,if_false,List.filterMap_nil] at hp ⊢
     split at hp
     ·rename_i hi
      rw[if_pos hi]
      have hi':i < (over v lo n y).length:=by grind
      obtain ⟨L,l1,l2,l3⟩:=g4 i _ (List.getElem?_eq_getElem hi') ad rfl
      rw[rd_of_has l2 l1]
      obtain ⟨H',cs',h1,h2⟩:=plc_typed (A:=A) (m:=.leaf) (v:=(over v lo n y)[i]) (F:=fun _ _=>0) q e l3 (.inr hf) hp
      grind
     ·cases hp
   | _=>simp[plc] at hp
 cases xa with
 | none=>
  have h0:=c3 rfl
  have hv0:List.length v=0:=by omega
  grind [Ext.refl]
 | some ad=>
  obtain ⟨d1,d2,d3,Fi,d4,d5⟩:=c4 ad rfl
  obtain ⟨b,off,sp⟩:=ad
  simp only at d1 d2 d3 d4 d5
  subst d1;subst d2
  have hle:lo*e.sz+n*e.sz<=cap*e.sz:=by rw[<-Nat.add_mul];exact Nat.mul_le_mul_right _ (by omega)
  have hnl:(news.take (n*e.sz)).length=n*e.sz:=by
   grind [Nat.mul_le_mul_right]
  have hcell:∀ j,j < cap*e.sz->(w.cell? ⟨b,j,none⟩).isSome=true:=fun j hj=>by
   obtain ⟨c,e',fr,w1,w2,w3⟩:=d3
   grind [World.cell?]
  have hst:=run_storeCells_cells (P:=P) b (lo*e.sz) (news.take (n*e.sz)) 0 w (fun j hj=>by grind) (fun j hj=>by rw[Nat.add_zero];exact d3.frozen (by omega)) (fun u hu=>hone u (List.mem_of_mem_take hu))
  rw[Nat.add_zero] at hst
  have hext:=ext_setCells (b:=b) (o:=lo*e.sz) (news.take (n*e.sz)) w (lo*e.sz)
  rw[hnl] at hext
  have hsub:∀ b' i,rng b (lo*e.sz) (n*e.sz) b' i<=rng b 0 (cap*e.sz) b' i:=fun b' i=>by
   grind [rng]
  have hA:∀ b' i,A b' i->∀ u,ce w b' i=some u->ce (w.setCells b (lo*e.sz) (news.take (n*e.sz))) b' i=some u:=fun b' i ha u hu=>by
   refine hext.cell b' i (h.bnd b' i (.inr ha)) ?_ u hu
   rcases Nat.eq_zero_or_pos (rng b (lo*e.sz) (n*e.sz) b' i) with h0 | h0
   ·exact h0
   ·exact absurd ha (h.dis b' i (by grind [le_sumF]))
  have hel2:∀ (i:Nat) (z:e.den),(over v lo n y)[i]?=some z->∃ L,L.length=e.sz/\Has (w.setCells b (lo*e.sz) (news.take (n*e.sz))) b (i*e.sz) L/\Ro P (w.setCells b (lo*e.sz) (news.take (n*e.sz))) A e z L:=by
   intro i z hz
   rw[over_get v y hn hy] at hz
   split at hz
   ·rename_i hi
    have hr1:=Rep.flat _ hf (hel _ z hz)
    refine ⟨_,Ro.length _ hr1,fun j u hu=>?_,Ro.mono hA (fun _ _ h=>h) e hr1⟩
    rw[List.getElem?_take] at hu
    split at hu
    ·rename_i hj
     rw[List.getElem?_drop] at hu
     have h6:(i - lo)*e.sz+e.sz<=n*e.sz:=by rw[<-Nat.succ_mul];exact Nat.mul_le_mul_right _ (by omega)
     have:=has_setCells (w:=w) (b:=b) (o:=lo*e.sz) (L:=news.take (n*e.sz)) (fun k hk=>hcell _ (by omega)) (fun u hu=>hone u (List.mem_of_mem_take hu)) ((i - lo)*e.sz+j) u (by grind)
     rw[<-this]
     have h7:i*e.sz=lo*e.sz+(i - lo)*e.sz:=by rw[<-Nat.add_mul];congr 1;omega
     congr 1;omega
    ·cases hu
   ·rename_i hi
    obtain ⟨L,l1,l2,l3⟩:=d5 i z hz
    have hr1:=Rep.flat _ hf l3
    refine ⟨L,l1,fun j u hu=>?_,Ro.mono hA (fun _ _ h=>h) e hr1⟩
    refine hext.cell b _ (by obtain ⟨c,e',fr,w1,_⟩:=d3;grind) ?_ u (l2 j u hu)
    have hj:=(List.getElem?_eq_some_iff.1 hu).1
    simp only[rng]
    rw[if_neg]
    rintro ⟨_,h8,h9⟩
    rcases Nat.lt_or_ge i lo with hil | hil
    ·have h6:i*e.sz+e.sz<=lo*e.sz:=by rw[<-Nat.succ_mul];exact Nat.mul_le_mul_right _ (by omega)
     omega
    ·have h6:lo*e.sz+n*e.sz<=i*e.sz:=by rw[<-Nat.add_mul];exact Nat.mul_le_mul_right _ (by omega)
     omega
  have hrep2:Rep P (w.setCells b (lo*e.sz) (news.take (n*e.sz))) A (.slc e) m [] (over v lo n y) [.slice (some ⟨b,0,none⟩) (List.length v) cap] F2:=by
   simp only[Rep,hole,List.any_nil,Bool.false_eq_true,if_false,hown,if_true]
   refine ⟨some ⟨b,0,none⟩,cap,by rw[hvl],by omega,c2,(fun e=>by cases e),fun ad' e'=>?_⟩
   injection e' with e';subst e'
   refine ⟨rfl,rfl,hext.blk _ _ d3,fun _ _ _=>0,fun b' i=>by grind [sumF_zero],fun i z hz=>?_⟩
   obtain ⟨L,l1,l2,l3⟩:=hel2 i z hz
   grind [Ro.flat]
  have hhas:∀ b' o',ad2=some (b',o')->Has (w.setCells b (lo*e.sz) (news.take (n*e.sz))) b' o' [.slice (some ⟨b,0,none⟩) (List.length v) cap]:=fun b' o' ea j u hu=>by
   have h1:=(q5 b' o' ea).1 j u hu
   have hj:=(List.getElem?_eq_some_iff.1 hu).1
   have h2:=q4 b' (o'+j);have h3:=d4 b' (o'+j);have h4:=hsub b' (o'+j);have h5:=hFr b' (o'+j);have h7:=le_sumF F hr b' (o'+j)
   have h6:rngO ad2 (Ty.slc e).sz b' (o'+j)=1:=by
    grind [rngO,rng,Ty.sz]
   exact hext.cell _ _ (h.bnd b' (o'+j) (.inl (by grind))) (by omega) u h1
  obtain ⟨A3,σ3,F3,n1,n2⟩:=fin _ (hext.mono fun b' i hz=>by
    grind) hhas hrep2 (fun i z hz ad e=>by
    grind [Ro.flat])
  refine ⟨_,cap,ad2,_,A3,σ3,F3,q2,n1,n2,(fun e=>by cases e),fun ad' e'=>?_⟩
  injection e' with e';subst e'
  refine ⟨rfl,rfl,fun hn0=>?_,hst⟩
  subst hn0
  simp[World.setCells]
theorem step_copy (h:Rel0 P C A σ a w F) (hti:∀ i T,E.TI i=some T->layB P T (.inl i)=true) {t tx:Nat} {y z:Operand} (ho:o.op=.call { callee:=.builtin .copy,args:=#[y,z],argTypes:=#[t,tx] }) (hok:opdOk P y=true/\opdOk P z=true)
  (hkind:(∃ e',P.underlying tx=some (.slice e'))\/P.underlying tx=some .string) {K:St->Option R} (hk:copyK E σ t y (opd σ z) o.dst K=some x):o.wp P a w (Nx P C K x) Q:=by
 unfold copyK at hk
 obtain ⟨T,hT,hk⟩:=tiK_some hk
 have hlay:=hti _ _ hT
 split at hk
 ·rename_i e
  have hl:=hlay
  simp only[layB,Bool.and_eq_true] at hl
  have h2:=hl.2
  split at h2
  rotate_left
  ·cases h2
  rename_i el hu
  simp only[Bool.and_eq_true,Nat.ble_eq] at h2
  obtain ⟨hsz,hel⟩:=h2
  have hsof:=run_sizeOf (P:=P) (w:=w) hel
  split at hk
  rotate_left
  ·cases hk
  rename_i hf
  rcases opd_ok h hok.2 with hs2 | ⟨xs,e'⟩
  rotate_left
  ·grind [tailK,useK]
  obtain ⟨A2,σ2,F2,me,yv,news,Fw,Gi,q1,q2,q3,qr,q4,q4',q5,q6⟩:=tail_ok h hs2 hkind hk
  have h2:Rel0 P C A2 σ2 a w F2:=q3.less fun _ _=>Nat.zero_le _
  have run:∀ (xa:Option Addr) (n cap:Nat) (w2:World),a.eval y=.slice xa n cap->(match (generalizing:=false) xa with | none=>w2=w | some ad=>(storeCells ad (news.take (min (List.length yv) n*e.sz))).run P w=.ok () w2) ->
    (execOp a.eval o).run P w=.ok (.value (.int .i64 ((min (List.length yv) n:Nat):Int))) w2:=by
   intro xa n cap w2 hy hst
   have hfc:=q4' (min (List.length yv) n) (Nat.min_le_left _ _)
   cases xa with
   | none=>
    simp only at hst
    subst hst
    simp[execOp,ho,resolve,invoke,builtin,Builtin.copy_,hy,run_underlying hu,q4.len,hsof,Nat.min_def] at hfc ⊢
    simp[hfc,goInt]
   | some ad=>
    simp only at hst
    simp[execOp,ho,resolve,invoke,builtin,Builtin.copy_,hy,run_underlying hu,q4.len,hsof,Nat.min_def] at hfc hst ⊢
    simp[hfc,hst,goInt]
  rcases opd_ok h2 hok.1 with hs | ⟨xs,e'⟩
  rotate_left
  ·grind
  split at q1
  ·rename_i r p snap lo hi hv
   rw[hv] at hs
   split at q1
   ·rename_i hsn
    obtain ⟨hr,t',m',H',v',cs',ad',F',h1,hat,h3,h4,h5,h6⟩:=at_ok h2 q1
    split at h1
    ·rename_i hc
     simp only[Bool.and_eq_true,List.isEmpty_iff] at hc
     obtain ⟨hown,hH⟩:=hc
     subst hH
     obtain ⟨e1,h1⟩:=castK_some h1
     subst e1
     obtain ⟨pl,e2,xa,n,cap,xa',cap',g1,g2,g3,g4,g5,g6,g7,g8,g9,g10,g11⟩:=hs.2 hsn
     have hvn:n=List.length v':=by
      grind [Rep,hole]
     obtain ⟨xb,cap2,ad2,w2,A3,σ3,F3,c1,c2,c3,c4,c5⟩:=copy_core h2 (K:=fun σ'=>K (σ'.putD o.dst (.val (.int .i64) ((min (List.length yv) (hi - lo):Nat):Int)))) ⟨hat⟩ hown hf (lo:=lo) (n:=min (List.length yv) (hi - lo)) (by omega) (Nat.min_le_left _ _) q4.newsLen q4.one q5 h1
     rw[c1] at g1
     injection g1 with g1
     subst g1
     simp only[List.cons.injEq,Value.slice.injEq,and_true] at g3
     obtain ⟨rfl,g3,rfl⟩:=g3
     injection g2 with g2
     subst g2
     refine wp_val (run xa' (hi - lo) cap' w2 g6 ?_) (fin_flat c3 c2 ⟨[.int .i64 _],rfl,rfl⟩ (fun _ _ _ _ e=>by cases e))
     cases xb with
     | none=>grind
     | some ad=>
      obtain ⟨ad'',k1,k2,k3,k4⟩:=g10 ad rfl
      rw[k1]
      obtain ⟨j1,j2,j3,j4⟩:=c5 ad rfl
      simp only
      by_cases hlt:lo < hi
      ·have:ad''=⟨ad.block,lo*e.sz,none⟩:=by
        have h1:=k4 hlt
        obtain ⟨x1,x2,x3⟩:=ad''
        grind
       grind
      ·have hn0:min (List.length yv) (hi - lo)=0:=by omega
       rw[hn0,Nat.zero_mul,List.take_zero]
       rw[j3 hn0];rfl
    ·cases h1
   ·cases q1
  ·rename_i r p snap hv
   rw[hv] at hs
   split at q1
   ·rename_i hsn
    obtain ⟨hr,t',m',H',v',cs',ad',F',h1,hat,h3,h4,h5,h6⟩:=at_ok h2 q1
    split at h1
    ·rename_i hc
     simp only[Bool.and_eq_true,List.isEmpty_iff] at hc
     obtain ⟨hown,hH⟩:=hc
     subst hH
     obtain ⟨e1,h1⟩:=castK_some h1
     subst e1
     obtain ⟨pl,g1,g2,g3⟩:=hs.2 hsn
     obtain ⟨xb,cap2,ad2,w2,A3,σ3,F3,c1,c2,c3,c4,c5⟩:=copy_core h2 (K:=fun σ'=>K (σ'.putD o.dst (.val (.int .i64) ((min (List.length yv) (List.length v'):Nat):Int)))) ⟨hat⟩ hown hf (lo:=0) (n:=min (List.length yv) (List.length v')) (by omega) (Nat.min_le_left _ _) q4.newsLen q4.one q5 h1
     rw[c1] at g1
     injection g1 with g1
     subst g1
     simp only[mkV_one (.slc e) _ rfl] at g2
     refine wp_val (run xb (List.length v') cap2 w2 g2 ?_) (fin_flat c3 c2 ⟨[.int .i64 _],rfl,rfl⟩ (fun _ _ _ _ e=>by cases e))
     cases xb with
     | none=>grind
     | some ad=>
      obtain ⟨j1,j2,j3,j4⟩:=c5 ad rfl
      obtain ⟨b,off,sp⟩:=ad
      grind
    ·cases h1
   ·cases q1
  ·cases q1
 ·cases hk
end
end OT
set_option linter.unusedVariables false
set_option linter.unusedSimpArgs false
namespace OT
open Go
def fpOf (w:World):(t:Ty)->Md->List Path->List Value->FP
 | .pair a b,m,H,cs=>fun x i=>fpOf w a m.l (H.filterMap stripF) (cs.take a.sz) x i+fpOf w b m.r (H.filterMap stripS) (cs.drop a.sz) x i
 | .slc e,m,H,cs=>
  if hole H then fun _ _=>0 else if m.own then
   match cs with
   | [.slice (some ad) n cap]=>fun x i=>rng ad.block 0 (cap*e.sz) x i+sumF n (fun j=>fpOf w e m.e (H.filterMap (stripI j)) (rd w ad.block (j*e.sz) e.sz)) x i
   | _=>fun _ _=>0
  else fun _ _=>0
 | .ptr e,m,H,cs=>
  if hole H then fun _ _=>0 else if m.own then
   match cs with
   | [.pointer (some ad)]=>fun x i=>rng ad.block 0 e.sz x i+fpOf w e m.e [] (rd w ad.block 0 e.sz) x i
   | _=>fun _ _=>0
  else fun _ _=>0
 | .map _ _,m,H,cs=>
  if hole H then fun _ _=>0 else if m.own then
   match cs with
   | [.map (some r)]=>rng r 0 1
   | _=>fun _ _=>0
  else fun _ _=>0
 | _,_,_,_=>fun _ _=>0
section
variable {P:Program} {w w1:World} {A:Cells}
theorem Rep.fp:∀ (t:Ty) {m:Md} {H:List Path} {v:t.den} {cs:List Value} {F:FP},Rep P w A t m H v cs F->Rep P w A t m H v cs (fpOf w t m H cs)/\∀ b i,fpOf w t m H cs b i<=F b i:=by
 intro t
 induction t with
 | pair a b iha ihb=>
  intro m H v cs F h
  obtain ⟨h0,F1,F2,hs,h1,h2⟩:=h
  obtain ⟨a1,a2⟩:=iha h1
  obtain ⟨b1,b2⟩:=ihb h2
  exact ⟨⟨h0,_,_,fun _ _=>Nat.le_refl _,a1,b1⟩,fun b i=>by grind [fpOf]⟩
 | slc e ih=>
  intro m H v cs F h
  have h':=h
  simp only[Rep] at h
  split at h
  ·simp_all [Rep,fpOf]
  ·rename_i hh
   split at h
   ·rename_i hm
    obtain ⟨xa,cap,rfl,h1,h2,h3,h4⟩:=h
    cases xa with
    | none=>
     grind [fpOf,Rep]
    | some ad=>
     obtain ⟨g1,g2,g3,Fi,g4,g5⟩:=h4 ad rfl
     have each:∀ (i:Nat) (x:e.den),v[i]?=some x->∃ L:List Value,L.length=e.sz/\Has w ad.block (i*e.sz) L/\Rep P w A e m.e (H.filterMap (stripI i)) x L (fpOf w e m.e (H.filterMap (stripI i)) (rd w ad.block (i*e.sz) e.sz)) /\
       ∀ b k,fpOf w e m.e (H.filterMap (stripI i)) (rd w ad.block (i*e.sz) e.sz) b k<=Fi i b k:=fun i x hx=>by
      grind [rd_of_has]
     have hle:∀ b i,sumF (List.length v) (fun j=>fpOf w e m.e (H.filterMap (stripI j)) (rd w ad.block (j*e.sz) e.sz)) b i<=sumF (List.length v) Fi b i:=fun b i=>sumF_le b i fun j hj=>by
      obtain ⟨_,_,_,_,q⟩:=each j _ (List.getElem?_eq_getElem hj)
      exact q b i
     refine ⟨?_,fun b i=>by grind [fpOf]⟩
     simp only[Rep,hh,hm,if_true,Bool.false_eq_true,if_false]
     refine ⟨some ad,cap,rfl,h1,h2,h3,fun ad' e'=>?_⟩
     injection e' with e';subst e'
     refine ⟨g1,g2,g3,fun j=>fpOf w e m.e (H.filterMap (stripI j)) (rd w ad.block (j*e.sz) e.sz),fun b i=>by grind [fpOf],fun i x hx=>?_⟩
     grind
   simp_all [Rep,fpOf]
 | ptr e ih=>
  intro m H v cs F h
  simp only[Rep] at h
  split at h
  ·simp_all [Rep,fpOf]
  ·rename_i hh
   split at h
   ·grind [fpOf,rd_of_has,Rep]
   simp_all [Rep,fpOf]
 | arr n e ih=>intro m H v cs F h;exact ⟨h,fun _ _=>Nat.zero_le _⟩
 | map k v=>
  intro m H x cs F h
  simp only[Rep] at h
  split at h
  ·simp_all [Rep,fpOf]
  ·rename_i hh
   split at h
   ·rename_i hm
    obtain ⟨h1,h2,r,kvs,rfl,h4,h5,h6,h7⟩:=h
    refine ⟨?_,fun b i=>?_⟩
    ·simp only[Rep,hh,hm,if_true,Bool.false_eq_true,if_false]
     exact ⟨h1,h2,r,kvs,rfl,h4,by simp[fpOf,hh,hm,rng],h6,h7⟩
    ·simp only[fpOf,hh,hm,if_true,Bool.false_eq_true,if_false,rng]
     grind
   simp_all [Rep,fpOf]
 | _=>intro m H v cs F h;exact ⟨h,fun _ _=>Nat.zero_le _⟩
theorem fpOf_frame:∀ (t:Ty) {m:Md} {H:List Path} {v:t.den} {cs:List Value} {F:FP},Rep P w A t m H v cs F->(∀ b i,1<=F b i->∀ u,ce w b i=some u->ce w1 b i=some u)->fpOf w1 t m H cs=fpOf w t m H cs:=by
 intro t
 induction t with
 | pair a b iha ihb=>
  intro m H v cs F h hF
  obtain ⟨h0,F1,F2,hs,h1,h2⟩:=h
  have e1:=iha h1 (fun b i hp=>hF b i (by grind))
  have e2:=ihb h2 (fun b i hp=>hF b i (by grind))
  simp_all [fpOf]
 | slc e ih=>
  intro m H v cs F h hF
  simp only[Rep] at h
  split at h
  ·simp_all [fpOf]
  ·rename_i hh
   split at h
   ·rename_i hm
    obtain ⟨xa,cap,rfl,h1,h2,h3,h4⟩:=h
    cases xa with
    | none=>simp only[fpOf]
    | some ad=>
     obtain ⟨g1,g2,g3,Fi,g4,g5⟩:=h4 ad rfl
     simp only[fpOf,hh,hm,if_true,Bool.false_eq_true,if_false]
     funext b i
     congr 1
     refine congrFun (congrFun (sumF_congr fun j hj=>?_) b) i
     obtain ⟨L,l1,l2,l3⟩:=g5 j _ (List.getElem?_eq_getElem hj)
     have hle:j*e.sz+e.sz<=cap*e.sz:=by rw[<-Nat.succ_mul];exact Nat.mul_le_mul_right _ (by omega)
     have l2':Has w1 ad.block (j*e.sz) L:=fun k u hu=>hF _ _ (by
      grind [rng]) u (l2 k u hu)
     grind [rd_of_has,le_sumF]
   simp_all [fpOf]
 | ptr e ih=>
  intro m H v cs F h hF
  simp only[Rep] at h
  split at h
  ·simp_all [fpOf]
  ·rename_i hh
   split at h
   ·rename_i hm
    obtain ⟨b0,rfl,h1,L,F1,h2,h3,h4,h5⟩:=h
    have h3':Has w1 b0 0 L:=fun k u hu=>hF _ _ (by
     grind [rng]) u (h3 k u hu)
    simp only[fpOf,hh,hm,if_true,Bool.false_eq_true,if_false,rd_of_has h3 h2,rd_of_has h3' h2]
    rw[ih h5 (fun b i hp=>hF b i (by grind))]
   simp_all [fpOf]
 | _=>intro m H v cs F h hF;rfl
theorem Rep.indep {A':Cells}:∀ (t:Ty) {v:t.den} {cs:List Value} {F:FP},t.nofn=true->Rep P w A t (ownMd t) [] v cs F->Rep P w A' t (ownMd t) [] v cs F:=by
 intro t
 induction t with
 | pair a b iha ihb=>
  intro v cs F hn h
  simp only[Ty.nofn,Bool.and_eq_true] at hn
  obtain ⟨h0,F1,F2,hs,h1,h2⟩:=h
  exact ⟨h0,F1,F2,hs,iha hn.1 h1,ihb hn.2 h2⟩
 | slc e ih=>
  intro v cs F hn h
  simp only[Rep,hole,List.any_nil,Bool.false_eq_true,if_false,ownMd,mdOf,Md.own,if_true] at h ⊢
  obtain ⟨xa,cap,h1,h2,h3,h4,h5⟩:=h
  refine ⟨xa,cap,h1,h2,h3,h4,fun ad e'=>?_⟩
  obtain ⟨g1,g2,g3,Fi,g4,g5⟩:=h5 ad e'
  refine ⟨g1,g2,g3,Fi,g4,fun i x hx=>?_⟩
  obtain ⟨L,l1,l2,l3⟩:=g5 i x hx
  exact ⟨L,l1,l2,ih hn l3⟩
 | ptr e ih=>
  intro v cs F hn h
  simp only[Rep,hole,List.any_nil,Bool.false_eq_true,if_false,ownMd,mdOf,Md.own,if_true] at h ⊢
  obtain ⟨b,h1,h2,L,F1,h3,h4,h5,h6⟩:=h
  exact ⟨b,h1,h2,L,F1,h3,h4,h5,ih hn h6⟩
 | arr n e ih=>
  intro v cs F hn h
  exact ⟨h.1,Ro.indep _ (by have:=h.2.1;grind [Ty.flat]) hn h.2⟩
 | fn=>grind [Ty.nofn]
 | map k v=>
  grind [Ty.nofn,Rep,mdOf,Md.own,Ro.indep]
 | _=>intro v cs F hn h;exact h
theorem Rep.free {A':Cells} {t:Ty} {m:Md} {v:t.den} {cs:List Value} {F:FP} (ho:(t.flat||decide (m=ownMd t))=true) (hn:t.nofn=true) (h:Rep P w A t m [] v cs F):Rep P w A' t m [] v cs F:=by
 grind [Ro.flat,Ro.indep,Rep.flat,Rep.indep]
def World.news (w w2:World):World:={ w2 with heap:=(w.heap.toList++w2.heap.toList.drop w.heap.size).toArray }
theorem news_heap {w2:World} (h:w.heap.size<=w2.heap.size) (k:Nat):(World.news w w2).heap[k]?=if k < w.heap.size then w.heap[k]? else w2.heap[k]?:=by
 grind [World.news]
theorem news_size {w2:World} (h:w.heap.size<=w2.heap.size):(World.news w w2).heap.size=w2.heap.size:=by grind [World.news]
theorem news_old {w2:World} (h:w.heap.size<=w2.heap.size) {b:Nat} (hb:b < w.heap.size):(World.news w w2).heap[b]?=w.heap[b]?:=by grind [news_heap]
theorem news_new {w2:World} (h:w.heap.size<=w2.heap.size) {b:Nat} (hb:w.heap.size<=b):(World.news w w2).heap[b]?=w2.heap[b]?:=by grind [news_heap]
theorem ce_of_block {w2:World} {b:Nat} (h:w2.heap[b]?=w.heap[b]?) (i:Nat):ce w2 b i=ce w b i:=ce_block h i
theorem fr_of_block {w2:World} {b:Nat} (h:w2.heap[b]?=w.heap[b]?) (i:Nat):w2.frozen? ⟨b,i,none⟩=w.frozen? ⟨b,i,none⟩:=by simp[World.frozen?,h]
theorem own_of_block {w2:World} {b:Nat} (h:w2.heap[b]?=w.heap[b]?) (n:Nat×Bool):OwnBlk w b n↔OwnBlk w2 b n:=by grind [OwnBlk]
theorem OwnBlk.lt {b:Nat} {n:Nat×Bool} (h:OwnBlk w b n):b < w.heap.size:=by
 obtain ⟨c,e,fr,h1,_⟩:=h;grind
theorem ext_news {w2:World} {F:FP} (h:Ext w w2 F):Ext w (World.news w w2) (fun _ _=>0)/\Ext (World.news w w2) w2 F:=by
 have hs:=h.size
 refine ⟨⟨by grind [news_size],fun b i hb _ u hu=>by grind [ce_of_block,news_old],fun b n hn=>(own_of_block (news_old hs hn.lt) n).1 hn,fun b i hb=>fr_of_block (news_old hs hb) i,h.os,h.tape,h.output,fun b hb _=>news_old hs hb,h.drawn⟩,
  ⟨by grind [news_size],fun b i hb hz u hu=>?_,fun b n hn=>?_,fun b i hb=>?_,rfl,rfl,rfl,fun b hb hz=>?_,Nat.le_refl _⟩⟩
 ·by_cases hb':b < w.heap.size
  ·rw[ce_of_block (news_old hs hb')] at hu
   exact h.cell b i hb' hz u hu
  grind [ce_of_block,news_new]
 ·by_cases hb':b < w.heap.size
  ·exact h.blk b n ((own_of_block (news_old hs hb') n).2 hn)
  grind [own_of_block,news_new]
 ·by_cases hb':b < w.heap.size
  ·rw[fr_of_block (news_old hs hb')];exact h.froz b i hb'
  grind [fr_of_block,news_new]
 ·by_cases hb':b < w.heap.size
  ·rw[news_old hs hb'];exact h.obj b hb' hz
  grind [news_new]
end
def ArgRel (P:Program) (w:World) (A:Cells) (ho:List Path->Bool) (pm:PM) (t:Ty) (v:t.den) (x:Value) (F:FP):Prop:=
 match pm with
 | .ro=>∃ cs,x=mkV t cs/\Ro P w A t v cs
 | .fix f=>(∃ cs,x=mkV t cs/\Ro P w A t v cs)/\∀ e:t=.fn,(e ▸ v:Ty.fn.den).1=f
 | .mutp m _=>∃ b o L F1,x=.pointer (some ⟨b,o,none⟩)/\L.length=t.sz/\Has w b o L/\(∀ j,j < t.sz->w.frozen? ⟨b,o+j,none⟩=false)/\(∀ b' i,rng b o t.sz b' i+F1 b' i<=F b' i)/\Rep P w A t m [] v L F1
 | .muts m=>∃ cs,x=mkV t cs/\Rep P w A t m [] v cs F
 | .eatv m=>∃ H cs,ho H=true/\x=mkV t cs/\Rep P w A t m H v cs F
 | .eat m=>∃ b o L F1,x=.pointer (some ⟨b,o,none⟩)/\L.length=t.sz/\Has w b o L/\(∀ j,j < t.sz->w.frozen? ⟨b,o+j,none⟩=false)/\(∀ b' i,rng b o t.sz b' i+F1 b' i<=F b' i)/\Rep P w A t m [] v L F1
def ArgsRel (P:Program) (w:World) (A:Cells) (ho:List Path->Bool):(ps:List (PM×Ty))->(tupT (ps.map (·.2))).den->List Value->FP->Prop
 | [],_,xs,_=>xs=[]
 | (pm,t)::ps,v,xs,F=>∃ (x:Value) (xs':List Value) (F1 F2:FP),xs=x::xs'/\(∀ b i,F1 b i+F2 b i<=F b i)/\ArgRel P w A ho pm t v.1 x F1/\ArgsRel P w A ho ps v.2 xs' F2
abbrev noH:List Path->Bool:=fun H=>H.isEmpty
theorem ArgsRel.none {P:Program} {w:World} {A:Cells} {ho:List Path->Bool} (hh:∀ H,ho H=true->H=[]):∀ (ps:List (PM×Ty)) {v:(tupT (ps.map (·.2))).den} {xs:List Value} {F:FP},ArgsRel P w A ho ps v xs F->ArgsRel P w A noH ps v xs F
 | [],_,_,_,h=>h
 | (pm,t)::ps,_,_,_,⟨x,xs',F1,F2,h1,h2,h3,h4⟩=>⟨x,xs',F1,F2,h1,h2,by
  cases pm with
  | eatv m=>obtain ⟨H,cs,g1,g2⟩:=h3;rw[hh H g1] at g2;exact ⟨[],cs,rfl,g2⟩
  | _=>exact h3,ArgsRel.none hh ps h4⟩
def MutsRel (P:Program) (w:World) (A:Cells):(ps:List (PM×Ty))->(tupT (mutTys ps)).den->List Value->FP->Prop
 | [],_,_,_=>True
 | (.ro,_)::ps,v,xs,F=>MutsRel P w A ps v xs.tail F
 | (.fix _,_)::ps,v,xs,F=>MutsRel P w A ps v xs.tail F
 | (.eat _,_)::ps,v,xs,F=>MutsRel P w A ps v xs.tail F
 | (.eatv _,_)::ps,v,xs,F=>MutsRel P w A ps v xs.tail F
 | (.mutp _ m,t)::ps,v,xs,F=>∃ (F1 F2:FP),(∀ b i,F1 b i+F2 b i<=F b i)/\(∃ b o L F3,xs.head?=some (.pointer (some ⟨b,o,none⟩))/\L.length=t.sz/\Has w b o L/\(∀ b' i,rng b o t.sz b' i+F3 b' i<=F1 b' i)/\Rep P w A t m [] v.1 L F3)/\MutsRel P w A ps v.2 xs.tail F2
 | (.muts m,t)::ps,v,xs,F=>∃ (F1 F2:FP),(∀ b i,F1 b i+F2 b i<=F b i)/\(∃ cs,xs.head?=some (mkV t cs)/\Rep P w A t m [] v.1 cs F1)/\MutsRel P w A ps v.2 xs.tail F2
def RetRel (P:Program) (w:World) (A:Cells) (rs:List Res) (rv:Value) (F:FP):Prop:=
 match rs with
 | []=>True
 | [x]=>∃ cs,rv=mkV x.t cs/\Rep P w A x.t x.m [] x.v cs F
 | xs=>∃ (vs:Array Value) (Fi:Nat->FP),rv=.tuple vs/\(∀ b i,sumF xs.length Fi b i<=F b i)/\∀ j x,xs[j]?=some x->∃ v cs,vs[j]?=some v/\v=mkV x.t cs/\Rep P w A x.t x.m [] x.v cs (Fi j)
def Sound (P:Program) (f:FuncId) (g:Sig):Prop:=
 ∀ (w:World) (A:Cells) (F0:FP) (v:(tupT (g.ps.map (·.2))).den) (xs:List Value),ArgsRel P w A (g.hol v) g.ps v xs F0->(∀ b i,F0 b i<=1)->(∀ b i,1<=F0 b i->¬ A b i)->(∀ b i,1<=F0 b i\/A b i->b < w.heap.size)->TabAt P w F0 ->
  ∀ out,g.F v=some out->Calls P f xs.toArray w fun e w'=>∃ rv,e=.returned rv/\Ext w w' F0/\∃ (A':Cells) (G GR GM:FP),(∀ b i,A b i->A' b i)/\(∀ b i,A' b i->A b i\/1<=F0 b i\/w.heap.size<=b) /\
   (∀ b i,1<=G b i->1<=F0 b i\/w.heap.size<=b)/\(∀ b i,G b i<=1)/\(∀ b i,1<=G b i->¬ A' b i)/\(∀ b i,1<=G b i\/A' b i->b < w'.heap.size)/\(∀ b i,GR b i+GM b i<=G b i) /\
   RetRel P w' A' (splitR g.rs out).1 rv GR/\MutsRel P w' A' g.ps (splitR g.rs out).2 xs GM
def EnterOk (P:Program) (f:FuncId) (cap:Bool):Prop:=∃ fn,P.funcs[f]?=some fn/\(fn.name == "runtime.NumGoroutine")=false/\fn.body.isNone=false/\fn.nfree=(match cap with | true=>1 | false=>0)
end OT
set_option linter.unusedVariables false
set_option linter.unusedSimpArgs false
namespace OT
open Go
section
variable {P:Program} {C:Ctx} {A:Cells} {X:FP} {σ:St} {a:Act} {w:World} {F:Nat->FP} {R:Type} {x:R}
theorem trim_ok {K:St->Option R}:∀ (ps:List (PM×Ty)) (xs:List Operand) {σ:St} {A:Cells} {F:Nat->FP},Rel0 P C A σ a w F->trimK σ ps xs K=some x ->
  ∃ (A':Cells) (σ':St) (F':Nat->FP),K σ'=some x/\(∀ b i,A b i->A' b i)/\Rel0 P C A' σ' a w F'/\σ'.n=σ.n:=by
 intro ps
 induction ps with
 | nil=>intro xs σ A F h hk;exact ⟨A,σ,F,by cases xs <;> exact hk,fun _ _ h=>h,h,rfl⟩
 | cons p ps ih=>
  intro xs σ A F h hk
  cases xs with
  | nil=>obtain ⟨pm,t⟩:=p;exact ⟨A,σ,F,by cases pm <;> exact hk,fun _ _ h=>h,h,rfl⟩
  | cons y xs=>
   obtain ⟨pm,t⟩:=p
   have fin:∀ {m' m:Md} {r:Nat} {p:Path},(if m'=m then trimK σ ps xs K else freezeToK σ r p m fun σ=>trimK σ ps xs K)=some x ->
     ∃ (A':Cells) (σ':St) (F':Nat->FP),K σ'=some x/\(∀ b i,A b i->A' b i)/\Rel0 P C A' σ' a w F'/\σ'.n=σ.n:=fun hk=>by
    grind [freezeTo_ok]
   cases pm with
   | ro=>exact ih xs h hk
   | fix f=>exact ih xs h hk
   | mutp m m'=>
    simp only[trimK] at hk
    split at hk
    ·split at hk
     ·obtain ⟨hr,t',m',H',v',cs',ad',F',h1,_⟩:=at_ok h hk
      exact fin h1
     ·cases hk
    ·cases hk
   | eat m=>
    simp only[trimK] at hk
    split at hk
    ·split at hk
     ·obtain ⟨hr,t',m',H',v',cs',ad',F',h1,_⟩:=at_ok h hk
      exact fin h1
     ·cases hk
    ·cases hk
   | muts m=>
    simp only[trimK] at hk
    split at hk
    ·split at hk
     ·obtain ⟨hr,t',m',H',v',cs',ad',F',h1,_⟩:=at_ok h hk
      exact fin h1
     ·cases hk
    ·cases hk
   | eatv m=>
    simp only[trimK] at hk
    split at hk
    ·split at hk
     ·obtain ⟨hr,t',m',H',v',cs',ad',F',h1,_⟩:=at_ok h hk
      exact fin h1
     ·cases hk
    ·cases hk
theorem box_cp (h:Rel0 P C A σ a w F) {r:Nat} {t:Ty} {m:Md} {v:t.den} (hg:σ.get r=.box t m [] v):∃ (A':Cells) (F':Nat->FP),(∀ b i,A b i->A' b i)/\Rel0 P C A' ((σ.put r .dead).put r (.cp t v)) a w F'/\Ro P w A' (.ptr t) v [tmp a r]/\r < σ.n:=by
 have hi:r < σ.n:=by
  grind [get_out]
 have hs:=h.slots r hi
 rw[hg] at hs
 obtain ⟨b,off,L,F1,s1,s2,s3,s4,s5,s6⟩:=hs
 have h1:=h.put hi (s:=.dead) (v:=tmp a r) (Fd:=fun _ _=>0) (X':=F r) trivial (fun b k=>by omega) (fun _ _ _ _ e=>by cases e)
 rw[put_same] at h1
 have h2:=h1.giveUp (A1:=fun b' i'=>A b' i'\/1<=F r b' i') (X1:=fun _ _=>0) (fun _ _ h=>.inl h) (fun b' i' ha=>ha.imp id fun hp=>⟨hp,rfl⟩) (fun _ _=>Nat.zero_le _)
 have hro:Ro P w (fun b' i'=>A b' i'\/1<=F r b' i') (.ptr t) v [tmp a r]:=
  ⟨⟨b,off,none⟩,by rw[s1],rfl,L,s2,(fun j u hu=>⟨s3 j u hu,.inr (by
   grind [rng])⟩),Rep.toRo (fun _ _ h=>.inl h) t s6 (fun b' i' hp=>.inr (by grind))⟩
 have h3:=h2.put (d:=r) hi (s:=.cp t v) (v:=tmp a r) (Fd:=fun _ _=>0) (X':=fun _ _=>0) hro (fun b k=>by omega) (fun _ _ _ _ e=>by cases e)
 grind [put_same]
theorem slot_cp (h:Rel0 P C A σ a w F) {i:Nat} (hi:i < σ.n) {t:Ty} {v:t.den} (hro:Ro P w A (.ptr t) v [tmp a i]):∃ F':Nat->FP,Rel0 P C A ((σ.put i .dead).put i (.cp t v)) a w F':=by
 have h1:=h.put hi (s:=.dead) (v:=tmp a i) (Fd:=fun _ _=>0) (X':=F i) trivial (fun b k=>by omega) (fun _ _ _ _ e=>by cases e)
 rw[put_same] at h1
 have h2:=h1.giveUp (A1:=A) (X1:=fun _ _=>0) (fun _ _ h=>h) (fun b' i' ha=>.inl ha) (fun _ _=>Nat.zero_le _)
 have h3:=h2.put (d:=i) hi (s:=.cp t v) (v:=tmp a i) (Fd:=fun _ _=>0) (X':=fun _ _=>0) hro (fun b k=>by omega) (fun _ _ _ _ e=>by cases e)
 grind [put_same]
theorem ptr_same (h:Rel0 P C A σ a w F) {i r:Nat} {snap:List Nat} {t:Ty} {m:Md} {H:List Path} {v:t.den} (hi:i < σ.n) (hs:σ.get i=.ptr r [] snap) (hok:σ.ok r snap=true) (hg:σ.get r=.box t m H v):tmp a i=tmp a r:=by
 have h1:=h.slots i hi
 rw[hs] at h1
 obtain ⟨pl,b,o,p1,p2,p3,p4⟩:=h1.2 hok
 have hr:r < σ.n:=by
  grind [get_out]
 have h2:=h.slots r hr
 rw[hg] at h2
 obtain ⟨b2,off,L,F1,s1,_⟩:=h2
 grind [place,rootPl,plc]
theorem frz_ok {K:St->Option R}:∀ (ps:List (PM×Ty)) (xs:List Operand) {σ:St} {A:Cells} {F:Nat->FP},Rel0 P C A σ a w F->frzK σ ps xs K=some x ->
  ∃ (A':Cells) (σ':St) (F':Nat->FP),K σ'=some x/\(∀ b i,A b i->A' b i)/\Rel0 P C A' σ' a w F'/\σ'.n=σ.n:=by
 intro ps
 induction ps with
 | nil=>intro xs σ A F h hk;exact ⟨A,σ,F,by cases xs <;> exact hk,fun _ _ h=>h,h,rfl⟩
 | cons p ps ih=>
  intro xs σ A F h hk
  cases xs with
  | nil=>obtain ⟨pm,t⟩:=p;exact ⟨A,σ,F,by cases pm <;> exact hk,fun _ _ h=>h,h,rfl⟩
  | cons y xs=>
   obtain ⟨pm,t⟩:=p
   have fin:∀ {r:Nat} {p:Path},(freezeK σ r p fun σ=>frzK σ ps xs K)=some x ->
     ∃ (A':Cells) (σ':St) (F':Nat->FP),K σ'=some x/\(∀ b i,A b i->A' b i)/\Rel0 P C A' σ' a w F'/\σ'.n=σ.n:=fun hk=>by
    grind [freeze_ok]
   cases pm with
   | fix f=>exact ih xs h hk
   | mutp m m'=>exact ih xs h hk
   | eat m=>exact ih xs h hk
   | muts m=>exact ih xs h hk
   | eatv m=>exact ih xs h hk
   | ro=>
    simp only[frzK] at hk
    split at hk
    ·grind
    ·split at hk
     ·grind
     ·grind
     ·rename_i r p snap hop
      split at hk
      ·rename_i hok
       split at hk
       ·rename_i t m H v hg
        split at hk
        ·rename_i hc
         simp only[Bool.and_eq_true,List.isEmpty_iff] at hc
         obtain ⟨hH,hfit⟩:=hc
         subst hH
         obtain ⟨A1,F1,hA1,h3,h4,h5⟩:=box_cp h hg
         have go:∀ {σ2:St} {F2:Nat->FP},Rel0 P C A1 σ2 a w F2->frzK σ2 ps xs K=some x->σ2.n=σ.n->∃ (A':Cells) (σ':St) (F':Nat->FP),K σ'=some x/\(∀ b i,A b i->A' b i)/\Rel0 P C A' σ' a w F'/\σ'.n=σ.n:=fun h3 hk hn=>by
          grind
         cases y with
         | tmp i=>
          simp only[cpAt] at hk
          split at hk
          ·exact go h3 hk rfl
          ·rename_i hc2
           simp only[Bool.or_eq_false_iff,Bool.not_eq_false',Nat.blt_eq] at hc2
           obtain ⟨g1,g2⟩:=hc2
           have hi:i < σ.n:=g2
           have hir:i≠r:=fun e=>by simp_all
           have hs:σ.get i=.ptr r [] snap:=by
            grind [opd]
           have he:=ptr_same h hi hs hok hg
           rw[<-he] at h4
           obtain ⟨F3,h6⟩:=slot_cp h3 (i:=i) g2 h4
           exact go h6 hk rfl
         | const c=>exact go h3 hk rfl
         | func f=>exact go h3 hk rfl
         | global g=>exact go h3 hk rfl
        ·cases hk
       ·cases hk
      ·cases hk
     grind
def AX (A:Cells) (F:Nat->FP) (n r0:Nat) (ow:Bool):Cells:=fun b i=>A b i\/(ow=true/\∃ j,j < n/\j≠r0/\1<=F j b i)
def ArgOk (P:Program) (A:Cells) (σ:St) (a:Act) (w:World) (F:Nat->FP) (ow:Bool) (pm:PM) (t:Ty) (v:t.den) (s:Slot) (tv:Value) (wp:Option (Nat×Path)):Prop:=
 match pm with
 | .ro=>wp=none/\∃ cs,tv=mkV t cs/\Ro P w (fun b i=>A b i\/(ow=true/\∃ r ∈ slotRoot s,r < σ.n/\1<=F r b i)) t v cs
 | .fix f=>wp=none/\(∃ cs,tv=mkV t cs/\Ro P w A t v cs)/\∀ e:t=.fn,(e ▸ v:Ty.fn.den).1=f
 | .mutp m _=>∃ r p snap b o cs,s=.ptr r p snap/\wp=some (r,p)/\At σ r p t m [] v/\tv=.pointer (some ⟨b,o,none⟩)/\place σ a w r p=some ⟨t,[],cs,some (b,o)⟩
 | .muts m=>∃ r p snap cs ad,s=.ref r p snap/\wp=some (r,p)/\At σ r p t m [] v/\tv=mkV t cs/\place σ a w r p=some ⟨t,[],cs,ad⟩
 | .eatv m=>∃ H r p snap cs ad,s=.ref r p snap/\wp=some (r,p)/\At σ r p t m H v/\tv=mkV t cs/\place σ a w r p=some ⟨t,H,cs,ad⟩
 | .eat m=>∃ r p snap b o cs,s=.ptr r p snap/\wp=some (r,p)/\At σ r p t m [] v/\tv=.pointer (some ⟨b,o,none⟩)/\place σ a w r p=some ⟨t,[],cs,some (b,o)⟩
def ArgsOk (P:Program) (A:Cells) (σ:St) (a:Act) (w:World) (F:Nat->FP) (ow:Bool):(ps:List (PM×Ty))->(tupT (ps.map (·.2))).den->List Slot->List Value->List (Nat×Path)->Prop
 | [],_,ss,tvs,ws=>ss=[]/\tvs=[]/\ws=[]
 | (pm,t)::ps,v,ss,tvs,ws=>∃ s ss' tv tvs' wp ws',ss=s::ss'/\tvs=tv::tvs'/\ws=(match (generalizing:=false) wp with | some x=>x::ws' | none=>ws')/\ArgOk P A σ a w F ow pm t v.1 s tv wp/\ArgsOk P A σ a w F ow ps v.2 ss' tvs' ws'
def SlotsRel (P:Program) (A:Cells) (σ:St) (a:Act) (w:World):List Slot->List Value->Prop
 | [],[]=>True
 | s::ss,tv::tvs=>(SlotRel P A σ a w tv s (fun _ _=>0)\/∃ xs,s=.tup xs)/\SlotsRel P A σ a w ss tvs
 | _,_=>False
theorem slots_opds (h:Rel0 P C A σ a w F):∀ (xs:List Operand) {ss:List Slot} {tvs:List Value},xs.all (opdOk P)=true->SlotsRel P A σ a w ss tvs->SlotsRel P A σ a w (xs.map (opd σ)++ss) (xs.map a.eval++tvs)
 | [],_,_,_,h2=>h2
 | y::xs,_,_,hok,h2=>by
  simp only[List.all_cons,Bool.and_eq_true] at hok
  exact ⟨opd_ok h hok.1,slots_opds h xs hok.2 h2⟩
theorem ro_ok (h:Rel0 P C A σ a w F) {s:Slot} {tv:Value} {G:FP} (hs:SlotRel P A σ a w tv s G) {t:Ty} {K:t.den->Option R} (hk:roK σ s t K=some x) :
  ∃ (v:t.den) (cs:List Value),K v=some x/\tv=mkV t cs/\Ro P w A t v cs:=by
 cases s with
 | val t' v=>
  obtain ⟨e,hk⟩:=castK_some hk;subst e
  obtain ⟨cs,h1,h2⟩:=hs
  grind
 | cp t' v=>
  obtain ⟨e,hk⟩:=castK_some hk;subst e
  exact ⟨v,[tv],hk,(mkV_one _ _ rfl).symm,hs⟩
 | nils=>
  simp only[roK] at hk
  split at hk
  ·rename_i t e
   have hs:tv=.slice none 0 0:=hs
   subst hs
   exact ⟨[],_,hk,(mkV_one _ _ rfl).symm,none,0,rfl,Nat.le_refl _,fun _=>rfl,fun ad had=>by cases had⟩
  ·cases hk
 | ref r p snap=>
  simp only[roK] at hk
  split at hk
  ·rename_i hok
   obtain ⟨hr,t',m',H',v',cs',ad',F',h1,h2,h3,h4,h5,h6⟩:=at_ok h hk
   obtain ⟨pl,g1,g2,g3⟩:=hs.2 hok
   grind [castK_some,Rep.flat,Rep.ro,roMd_noOwn]
  ·cases hk
 | sub r p snap lo hi=>
  simp only[roK] at hk
  split at hk
  ·rename_i hok
   obtain ⟨hr,t',m',H',v',cs',ad',F',h1,h2,h3,h4,h5,h6⟩:=at_ok h hk
   obtain ⟨pl,e,xa,n,cap,xa',cap',g1,g2,g3,g4,g5,g6,g7,g7',g8,g9,g10⟩:=hs.2 hok
   rw[h3] at g1
   injection g1 with g1
   subst g1
   simp only at g2 g3
   subst g2;subst g3
   split at h1
   ·rename_i hc
    simp only[Bool.and_eq_true,List.isEmpty_iff,decide_eq_true_eq] at hc
    obtain ⟨hH,hm⟩:=hc
    subst hH;subst hm
    obtain ⟨e',h1⟩:=castK_some h1;subst e'
    exact ⟨_,_,h1,by rw[mkV_one _ _ rfl];exact g6,Ro.piece (Rep.ro _ (roMd_noOwn _) h4) g4 g5 g7 g8 g9⟩
   ·cases h1
  ·cases hk
 | _=>simp[roK] at hk
theorem arg_ok (h:Rel0 P C A σ a w F) {ow:Bool} {pm:PM} {t:Ty} {s:Slot} {tv:Value} (hs:SlotRel P A σ a w tv s (fun _ _=>0)\/∃ xs,s=.tup xs) {K:t.den->Option (Nat×Path)->Option R} (hk:argK σ ow pm t s K=some x) :
  ∃ v wp,K v wp=some x/\ArgOk P A σ a w F ow pm t v s tv wp:=by
 rcases hs with hs | ⟨xs,rfl⟩
 rotate_left
 ·cases pm with
  | ro=>cases ow <;> simp[argK,readK,roK] at hk
  | _=>simp[argK] at hk
 cases pm with
 | ro=>
  cases ow with
  | true=>
   simp only[argK] at hk
   have hlt:=slot_root_lt h hk
   obtain ⟨v,cs,h1,h2,h3⟩:=read_root h hs hk
   exact ⟨v,none,h1,rfl,cs,h2,Ro.mono (fun _ _ _ _ h=>h) (fun b i ha=>ha.imp id fun ⟨r,hr,hp⟩=>⟨rfl,r,hr,hlt r hr,hp⟩) t h3⟩
  | false=>
   simp only[argK] at hk
   obtain ⟨v,cs,h1,h2,h3⟩:=ro_ok h hs hk
   exact ⟨v,none,h1,rfl,cs,h2,Ro.mono (fun _ _ _ _ h=>h) (fun b i ha=>.inl ha) t h3⟩
 | fix f=>
  simp only[argK] at hk
  split at hk
  ·rename_i v
   split at hk
   ·rename_i hf
    obtain ⟨e,hk⟩:=castK_some hk
    subst e
    obtain ⟨cs,h1,h2⟩:=hs
    exact ⟨v,none,hk,rfl,⟨cs,h1,h2⟩,fun e=>by simpa using hf⟩
   ·cases hk
  ·cases hk
 | mutp m m'=>
  simp only[argK] at hk
  split at hk
  ·rename_i r p snap
   split at hk
   ·rename_i hok
    obtain ⟨hr,t',m',H',v',cs',ad',F',h1,h2,h3,h4,h5,h6⟩:=at_ok h hk
    obtain ⟨pl,b,o,g1,g2,g3,g4⟩:=hs.2 hok
    rw[h3] at g1
    injection g1 with g1
    subst g1
    simp only at g2
    subst g2
    split at h1
    ·rename_i hc
     simp only[Bool.and_eq_true,List.isEmpty_iff,decide_eq_true_eq] at hc
     obtain ⟨hH,hm⟩:=hc
     subst hH;subst hm
     obtain ⟨e,h1⟩:=castK_some h1
     subst e
     exact ⟨v',_,h1,r,p,snap,b,o,cs',rfl,rfl,⟨h2⟩,g3,h3⟩
    ·cases h1
   ·cases hk
  ·cases hk
 | eat m=>
  simp only[argK] at hk
  split at hk
  ·rename_i r p snap
   split at hk
   ·rename_i hok
    obtain ⟨hr,t',m',H',v',cs',ad',F',h1,h2,h3,h4,h5,h6⟩:=at_ok h hk
    obtain ⟨pl,b,o,g1,g2,g3,g4⟩:=hs.2 hok
    rw[h3] at g1
    injection g1 with g1
    subst g1
    simp only at g2
    subst g2
    split at h1
    ·rename_i hc
     simp only[Bool.and_eq_true,List.isEmpty_iff,decide_eq_true_eq] at hc
     obtain ⟨hH,hm⟩:=hc
     subst hH;subst hm
     obtain ⟨e,h1⟩:=castK_some h1
     subst e
     exact ⟨v',_,h1,r,p,snap,b,o,cs',rfl,rfl,⟨h2⟩,g3,h3⟩
    ·cases h1
   ·cases hk
  ·cases hk
 | muts m=>
  simp only[argK] at hk
  split at hk
  ·rename_i r p snap
   split at hk
   ·rename_i hok
    obtain ⟨hr,t',m',H',v',cs',ad',F',h1,h2,h3,h4,h5,h6⟩:=at_ok h hk
    obtain ⟨pl,g1,g2,g3⟩:=hs.2 hok
    rw[h3] at g1
    injection g1 with g1
    subst g1
    split at h1
    ·rename_i hc
     simp only[Bool.and_eq_true,List.isEmpty_iff,decide_eq_true_eq] at hc
     obtain ⟨hH,hm⟩:=hc
     subst hH;subst hm
     obtain ⟨e,h1⟩:=castK_some h1
     subst e
     exact ⟨v',_,h1,r,p,snap,cs',ad',rfl,rfl,⟨h2⟩,g2,h3⟩
    ·cases h1
   ·cases hk
  ·cases hk
 | eatv m=>
  simp only[argK] at hk
  split at hk
  ·rename_i r p snap
   split at hk
   ·rename_i hok
    obtain ⟨hr,t',m',H',v',cs',ad',F',h1,h2,h3,h4,h5,h6⟩:=at_ok h hk
    obtain ⟨pl,g1,g2,g3⟩:=hs.2 hok
    rw[h3] at g1
    injection g1 with g1
    subst g1
    split at h1
    ·rename_i hm
     subst hm
     obtain ⟨e,h1⟩:=castK_some h1
     subst e
     exact ⟨v',_,h1,H',r,p,snap,cs',ad',rfl,rfl,⟨h2⟩,g2,h3⟩
    ·cases h1
   ·cases hk
  ·cases hk
theorem args_ok (h:Rel0 P C A σ a w F) {ow:Bool}:∀ (ps:List (PM×Ty)) {ss:List Slot} {tvs:List Value} {K:(tupT (ps.map (·.2))).den->List (Nat×Path)->Option R},SlotsRel P A σ a w ss tvs->argsK σ ow ps ss K=some x ->
  ∃ v ws,K v ws=some x/\ArgsOk P A σ a w F ow ps v ss tvs ws:=by
 intro ps
 induction ps with
 | nil=>
  intro ss tvs K hs hk
  cases ss with
  | nil=>
   cases tvs with
   | nil=>exact ⟨(),[],hk,rfl,rfl,rfl⟩
   | cons _ _=>exact hs.elim
  | cons _ _=>cases hk
 | cons p ps ih=>
  intro ss tvs K hs hk
  obtain ⟨pm,t⟩:=p
  cases ss with
  | nil=>cases hk
  | cons s ss=>
   cases tvs with
   | nil=>exact hs.elim
   | cons tv tvs=>
    simp only[argsK] at hk
    obtain ⟨v,wp,h1,h2⟩:=arg_ok h hs.1 hk
    obtain ⟨vs,ws,h3,h4⟩:=ih hs.2 h1
    exact ⟨(v,vs),_,h3,s,ss,tv,tvs,wp,ws,rfl,rfl,rfl,h2,h4⟩
theorem argsOk_none {ow:Bool} {A0:Cells} (hA:∀ b i,A b i->A0 b i) {r0:Nat} (hX:ow=true->∀ b i j,j < σ.n->j≠r0->1<=F j b i->A0 b i):∀ (ps:List (PM×Ty)) {v:(tupT (ps.map (·.2))).den} {ss:List Slot} {tvs:List Value},
  ArgsOk P A σ a w F ow ps v ss tvs []->(∀ r ∈ ss.flatMap slotRoot,r < σ.n->r≠r0)->(∀ ho,ArgsRel P w A0 ho ps v tvs (fun _ _=>0))/\(∀ (σ':St) (K:St->Option R) (out:(tupT (mutTys ps)).den),backK σ' ps [] out K=K σ'):=by
 intro ps
 induction ps with
 | nil=>intro v ss tvs h hr;exact ⟨fun _=>h.2.1,fun σ' K out=>rfl⟩
 | cons p ps ih=>
  intro v ss tvs h hr
  obtain ⟨pm,t⟩:=p
  obtain ⟨s,ss',tv,tvs',wp,ws',rfl,rfl,hw,hao,hrest⟩:=h
  have hcs:∀ b i,A b i->∀ u,ce w b i=some u->ce w b i=some u:=fun _ _ _ _ h=>h
  cases wp with
  | some y=>cases hw
  | none=>
   have hw:[]=ws':=hw
   subst hw
   obtain ⟨i1,i2⟩:=ih hrest (fun r hm=>hr r (by grind))
   cases pm with
   | ro=>
    obtain ⟨_,cs,h1,h2⟩:=hao
    refine ⟨fun ho=>⟨tv,tvs',fun _ _=>0,fun _ _=>0,rfl,fun _ _=>Nat.le_refl _,⟨cs,h1,Ro.mono (fun _ _ _ _ h=>h) (fun b i ha=>?_) t h2⟩,i1 ho⟩,fun σ' K out=>i2 σ' K out⟩
    grind
   | fix f=>
    obtain ⟨_,⟨cs,h1,h2⟩,h3⟩:=hao
    exact ⟨fun ho=>⟨tv,tvs',fun _ _=>0,fun _ _=>0,rfl,fun _ _=>Nat.le_refl _,⟨⟨cs,h1,Ro.mono (fun _ _ _ _ h=>h) hA t h2⟩,h3⟩,i1 ho⟩,fun σ' K out=>i2 σ' K out⟩
   | mutp m m'=>obtain ⟨r,p,snap,b,o,cs,_,e,_⟩:=hao;cases e
   | eat m=>obtain ⟨r,p,snap,b,o,cs,_,e,_⟩:=hao;cases e
   | muts m=>obtain ⟨r,p,snap,cs,ad,_,e,_⟩:=hao;cases e
   | eatv m=>obtain ⟨H,r,p,snap,cs,ad,_,e,_⟩:=hao;cases e
theorem mkV_inj {t:Ty} {cs cs':List Value} (h1:cs.length=t.sz) (h2:∀ x ∈ cs,x.oneCell'=true) (h3:cs'.length=t.sz) (h4:∀ x ∈ cs',x.oneCell'=true) (h:mkV t cs=mkV t cs'):cs=cs':=by
 grind [mkV_cells]
theorem argsOk_one {ow:Bool} {r:Nat} {p:Path}:∀ (ps:List (PM×Ty)) {v:(tupT (ps.map (·.2))).den} {ss:List Slot} {tvs:List Value},
  ArgsOk P A σ a w F ow ps v ss tvs [(r,p)]->(ss.flatMap slotRoot).count r<=1 ->
  1<=(ss.flatMap slotRoot).count r/\∃ (isE isP isV:Bool) (t:Ty) (m:Md) (H:List Path) (v1:t.den) (cs:List Value) (ad:Option (Nat×Nat)),((isV=false->H=[])/\(isV=true->hasV ps=true)/\(noEat ps=true->isE=false)/\(u8P ps=true->u8T t=true))/\At σ r p t m H v1/\place σ a w r p=some ⟨t,H,cs,ad⟩/\(isP=true->∃ b o,ad=some (b,o)) /\
   (allOwnP ps=true->(t.flat||decide (m=ownMd t))=true/\t.nofn=true) /\
   (∀ (A0:Cells) (F0 Fp:FP),(∀ b i,A b i->A0 b i)->(ow=true->∀ b i j,j < σ.n->j≠r->1<=F j b i->A0 b i)->Rep P w A0 t m H v1 cs Fp ->
    (isP=true->∀ b o,ad=some (b,o)->Has w b o cs/\(∀ j,j < t.sz->w.frozen? ⟨b,o+j,none⟩=false)/\∀ b' i,rng b o t.sz b' i+Fp b' i<=F0 b' i)->(isP=false->∀ b i,Fp b i<=F0 b i)->∀ ho,(isV=true->ho H=true)->ArgsRel P w A0 ho ps v tvs F0) /\
   (isV=true->isE=true/\isP=false/\∀ (σ':St) (K:St->Option R) (out:(tupT (mutTys ps)).den),backK σ' ps [(r,p)] out K=takeK σ' r p K) /\
   (isE=true->isV=false->∀ (σ':St) (K:St->Option R) (out:(tupT (mutTys ps)).den),backK σ' ps [(r,p)] out K=match setK σ' r p t m t.zero (fun _=>some ()) with | some _=>K (σ'.put r .dead) | none=>none) /\
   (isE=false->∀ out:(tupT (mutTys ps)).den,∃ (m2:Md) (o1:t.den),(allOwnP ps=true->(t.flat||decide (m2=ownMd t))=true) /\
    (∀ (σ':St) (K:St->Option R),backK σ' ps [(r,p)] out K=setK σ' r p t m2 o1 fun σ''=>K (match isP with | true=>σ'' | false=>{ σ'' with vr:=(σ'.setVer r (bumpAt (nidx p+1))).vr,lent:=σ'.lent })) /\
    ∀ (w':World) (A':Cells) (GM:FP),MutsRel P w' A' ps out tvs GM->∃ cs' F3,Rep P w' A' t m2 [] o1 cs' F3/\(∀ b i,F3 b i<=GM b i)/\(isP=true->∀ b o,ad=some (b,o)->Has w' b o cs'/\∀ b' i,rng b o t.sz b' i+F3 b' i<=GM b' i) /\
     (isP=false->mkV t cs'=mkV t cs)):=by
 intro ps
 induction ps with
 | nil=>intro v ss tvs h hc;cases h.2.2
 | cons p0 ps ih=>
  intro v ss tvs h hc
  obtain ⟨pm,t⟩:=p0
  obtain ⟨s,ss',tv,tvs',wp,ws',rfl,rfl,hw,hao,hrest⟩:=h
  simp only[List.flatMap_cons,List.count_append] at hc ⊢
  cases pm with
  | ro=>
   obtain ⟨hwp,cs,h1,h2⟩:=hao
   subst hwp
   have hw:[(r,p)]=ws':=hw
   subst hw
   obtain ⟨c1,isE,isP,isV,t1,m1,H1,v1,cs1,ad1,q0,q1,q2,q3,q4,q5,q8,q7,q6⟩:=ih hrest (by omega)
   refine ⟨by omega,isE,isP,isV,t1,m1,H1,v1,cs1,ad1,⟨q0.1,q0.2.1,q0.2.2.1,fun e=>q0.2.2.2 (by simp only[u8P,Bool.and_eq_true] at e;exact e.2)⟩,q1,q2,q3,q4,fun A0 F0 Fp a1 a2 a3 a4 a5 ho a6=>⟨tv,tvs',fun _ _=>0,F0,rfl,fun b i=>by simp,⟨cs,h1,Ro.mono (fun _ _ _ _ h=>h) (fun b i ha=>?_) t h2⟩,q5 A0 F0 Fp a1 a2 a3 a4 a5 ho a6⟩,fun hV=>⟨(q8 hV).1,(q8 hV).2.1,fun σ' K out=>(q8 hV).2.2 σ' K out⟩,fun hE hV σ' K out=>q7 hE hV σ' K out,fun hE out=>q6 hE out⟩
   rcases ha with ha | ⟨how,r',hm,hlt,hp⟩
   ·exact a1 b i ha
   ·refine a2 how b i r' hlt (fun e=>?_) hp
    subst e
    have:=List.count_pos_iff.2 hm
    omega
  | fix f=>
   obtain ⟨hwp,⟨cs,h1,h2⟩,h3⟩:=hao
   subst hwp
   have hw:[(r,p)]=ws':=hw
   subst hw
   obtain ⟨c1,isE,isP,isV,t1,m1,H1,v1,cs1,ad1,q0,q1,q2,q3,q4,q5,q8,q7,q6⟩:=ih hrest (by omega)
   exact ⟨by omega,isE,isP,isV,t1,m1,H1,v1,cs1,ad1,⟨q0.1,q0.2.1,q0.2.2.1,fun e=>q0.2.2.2 (by simp only[u8P] at e;exact e)⟩,q1,q2,q3,q4,fun A0 F0 Fp a1 a2 a3 a4 a5 ho a6=>⟨tv,tvs',fun _ _=>0,F0,rfl,fun b i=>by simp,⟨⟨cs,h1,Ro.mono (fun _ _ _ _ h=>h) a1 t h2⟩,h3⟩,q5 A0 F0 Fp a1 a2 a3 a4 a5 ho a6⟩,fun hV=>⟨(q8 hV).1,(q8 hV).2.1,fun σ' K out=>(q8 hV).2.2 σ' K out⟩,fun hE hV σ' K out=>q7 hE hV σ' K out,fun hE out=>q6 hE out⟩
  | eat m=>
   obtain ⟨r1,p1,snap,b,o,cs,rfl,hwp,hat,htv,hpl⟩:=hao
   subst hwp
   have hw:[(r,p)]=(r1,p1)::ws':=hw
   injection hw with hw1 hw2
   injection hw1 with hw1 hw3
   subst hw1;subst hw2;subst hw3
   have hself:(slotRoot (.ptr r p snap)).count r=1:=by simp[slotRoot]
   obtain ⟨n1,n2⟩:=argsOk_none (R:=R) (P:=P) (A0:=fun b i=>True) (fun _ _ _=>trivial) (r0:=r) (fun _ _ _ _ _ _ _=>trivial) ps hrest (fun r' hm _ e=>by subst e;have:=List.count_pos_iff.2 hm;omega)
   refine ⟨by omega,true,true,false,t,m,[],v.1,cs,some (b,o),⟨fun _=>rfl,(fun e=>by cases e),(fun e=>absurd e (by simp[noEat])),fun e=>absurd e (by simp[u8P])⟩,hat,hpl,fun _=>⟨b,o,rfl⟩,fun ho=>?_,fun A0 F0 Fp a1 a2 a3 a4 a5 ho _=>?_,(fun e=>by cases e),fun _ _ σ' K out=>?_,fun e=>by cases e⟩
   ·simp only[allOwnP,Bool.and_eq_true] at ho;exact ho.1
   ·obtain ⟨b1,b2,b3⟩:=a4 rfl b o rfl
    obtain ⟨k1,_⟩:=argsOk_none (R:=R) (P:=P) a1 (r0:=r) a2 ps hrest (fun r' hm _ e=>by subst e;have:=List.count_pos_iff.2 hm;omega)
    exact ⟨tv,tvs',F0,fun _ _=>0,rfl,fun b i=>Nat.le_refl _,⟨b,o,cs,Fp,htv,Rep.length _ a3,b1,b2,b3,a3⟩,k1 ho⟩
   ·show (match setK σ' r p t m t.zero (fun _=>some ()) with | some _=>backK (σ'.put r .dead) ps [] out K | none=>none)=_
    split
    ·exact n2 _ K out
    ·rfl
  | mutp m m'=>
   obtain ⟨r1,p1,snap,b,o,cs,rfl,hwp,hat,htv,hpl⟩:=hao
   subst hwp
   have hw:[(r,p)]=(r1,p1)::ws':=hw
   injection hw with hw1 hw2
   injection hw1 with hw1 hw3
   subst hw1;subst hw2;subst hw3
   have hself:(slotRoot (.ptr r p snap)).count r=1:=by simp[slotRoot]
   obtain ⟨n1,n2⟩:=argsOk_none (R:=R) (P:=P) (A0:=fun b i=>True) (fun _ _ _=>trivial) (r0:=r) (fun _ _ _ _ _ _ _=>trivial) ps hrest (fun r' hm _ e=>by subst e;have:=List.count_pos_iff.2 hm;omega)
   refine ⟨by omega,false,true,false,t,m,[],v.1,cs,some (b,o),⟨fun _=>rfl,(fun e=>by cases e),(fun _=>rfl),fun e=>by simp only[u8P,Bool.and_eq_true] at e;exact e.1⟩,hat,hpl,fun _=>⟨b,o,rfl⟩,fun ho=>?_,fun A0 F0 Fp a1 a2 a3 a4 a5 ho _=>?_,(fun e=>by cases e),(fun e=>by cases e),fun _ out=>⟨m',out.1,fun ho=>?_,fun σ' K=>?_,fun w' A' GM hm=>?_⟩⟩
   ·simp only[allOwnP,Bool.and_eq_true] at ho;exact ho.1
   ·obtain ⟨b1,b2,b3⟩:=a4 rfl b o rfl
    obtain ⟨k1,_⟩:=argsOk_none (R:=R) (P:=P) a1 (r0:=r) a2 ps hrest (fun r' hm _ e=>by subst e;have:=List.count_pos_iff.2 hm;omega)
    exact ⟨tv,tvs',F0,fun _ _=>0,rfl,fun b i=>Nat.le_refl _,⟨b,o,cs,Fp,htv,Rep.length _ a3,b1,b2,b3,a3⟩,k1 ho⟩
   ·simp only[allOwnP,Bool.and_eq_true] at ho;exact ho.2.1
   ·show setK σ' r p t m' out.1 (fun σ=>backK σ ps [] out.2 K)=_
    congr 1
    funext σ''
    exact n2 σ'' K out.2
   ·obtain ⟨F1,F2,h1,⟨b',o',L,F3,h2,h3,h4,h5,h6⟩,h7⟩:=hm
    simp only[List.head?_cons,Option.some.injEq,htv,Value.pointer.injEq,Addr.mk.injEq,and_true] at h2
    obtain ⟨rfl,rfl⟩:=h2
    refine ⟨L,F3,h6,fun b' i=>by have:=h5 b' i;have:=h1 b' i;omega,fun _ b2 o2 e=>?_,fun e=>by cases e⟩
    simp only[Option.some.injEq,Prod.mk.injEq] at e
    obtain ⟨rfl,rfl⟩:=e
    exact ⟨h4,fun b' i=>by have:=h5 b' i;have:=h1 b' i;omega⟩
  | muts m=>
   obtain ⟨r1,p1,snap,cs,ad,rfl,hwp,hat,htv,hpl⟩:=hao
   subst hwp
   have hw:[(r,p)]=(r1,p1)::ws':=hw
   injection hw with hw1 hw2
   injection hw1 with hw1 hw3
   subst hw1;subst hw2;subst hw3
   have hself:(slotRoot (.ref r p snap)).count r=1:=by simp[slotRoot]
   obtain ⟨n1,n2⟩:=argsOk_none (R:=R) (P:=P) (A0:=fun b i=>True) (fun _ _ _=>trivial) (r0:=r) (fun _ _ _ _ _ _ _=>trivial) ps hrest (fun r' hm _ e=>by subst e;have:=List.count_pos_iff.2 hm;omega)
   refine ⟨by omega,false,false,false,t,m,[],v.1,cs,ad,⟨fun _=>rfl,(fun e=>by cases e),(fun _=>rfl),fun e=>absurd e (by simp[u8P])⟩,hat,hpl,(fun e=>by cases e),fun ho=>?_,fun A0 F0 Fp a1 a2 a3 a4 a5 ho _=>?_,(fun e=>by cases e),(fun e=>by cases e),fun _ out=>⟨m,out.1,fun ho=>?_,fun σ' K=>?_,fun w' A' GM hm=>?_⟩⟩
   ·simp only[allOwnP,Bool.and_eq_true] at ho;exact ho.1
   ·obtain ⟨k1,_⟩:=argsOk_none (R:=R) (P:=P) a1 (r0:=r) a2 ps hrest (fun r' hm _ e=>by subst e;have:=List.count_pos_iff.2 hm;omega)
    exact ⟨tv,tvs',F0,fun _ _=>0,rfl,fun b i=>Nat.le_refl _,⟨cs,htv,a3.le (a5 rfl)⟩,k1 ho⟩
   ·simp only[allOwnP,Bool.and_eq_true] at ho;exact ho.1.1
   ·show setK σ' r p t m out.1 (fun σ''=>backK { σ'' with vr:=(σ'.setVer r (bumpAt (nidx p+1))).vr,lent:=σ'.lent } ps [] out.2 K)=_
    congr 1
    funext σ''
    exact n2 _ K out.2
   ·obtain ⟨F1,F2,h1,⟨cs',h2,h3⟩,h7⟩:=hm
    simp only[List.head?_cons,Option.some.injEq,htv] at h2
    exact ⟨cs',F1,h3,fun b' i=>by have:=h1 b' i;omega,(fun e=>by cases e),fun _=>h2.symm⟩
  | eatv m=>
   obtain ⟨H,r1,p1,snap,cs,ad,rfl,hwp,hat,htv,hpl⟩:=hao
   subst hwp
   have hw:[(r,p)]=(r1,p1)::ws':=hw
   injection hw with hw1 hw2
   injection hw1 with hw1 hw3
   subst hw1;subst hw2;subst hw3
   have hself:(slotRoot (.ref r p snap)).count r=1:=by simp[slotRoot]
   obtain ⟨n1,n2⟩:=argsOk_none (R:=R) (P:=P) (A0:=fun b i=>True) (fun _ _ _=>trivial) (r0:=r) (fun _ _ _ _ _ _ _=>trivial) ps hrest (fun r' hm _ e=>by subst e;have:=List.count_pos_iff.2 hm;omega)
   refine ⟨by omega,true,false,true,t,m,H,v.1,cs,ad,⟨fun e=>(by cases e),(fun _=>rfl),(fun e=>absurd e (by simp[noEat])),fun e=>absurd e (by simp[u8P])⟩,hat,hpl,(fun e=>by cases e),fun ho=>?_,fun A0 F0 Fp a1 a2 a3 a4 a5 ho a6=>?_,fun _=>⟨rfl,rfl,fun σ' K out=>?_⟩,(fun _ e=>by cases e),fun e=>by cases e⟩
   ·simp only[allOwnP,Bool.and_eq_true] at ho;exact ho.1
   ·obtain ⟨k1,_⟩:=argsOk_none (R:=R) (P:=P) a1 (r0:=r) a2 ps hrest (fun r' hm _ e=>by subst e;have:=List.count_pos_iff.2 hm;omega)
    exact ⟨tv,tvs',F0,fun _ _=>0,rfl,fun b i=>Nat.le_refl _,⟨H,cs,a6 rfl,htv,a3.le (a5 rfl)⟩,k1 ho⟩
   ·show takeK σ' r p (fun σ''=>backK σ'' ps [] out K)=_
    congr 1
    funext σ''
    exact n2 _ K out
def nonB:Option Value->Bool
 | some (.int .u8 _)=>false
 | none=>false
 | _=>true
def resF (w:World) (F:Nat->FP):Nat->FP:=fun j b i=>if nonB (ce w b i) then F j b i else 0
theorem resF_le (w:World) (F:Nat->FP) (j b i:Nat):resF w F j b i<=F j b i:=by
 unfold resF
 split
 ·exact Nat.le_refl _
 ·exact Nat.zero_le _
theorem resF_non {w:World} {F:Nat->FP} {j b i:Nat} (h:1<=resF w F j b i):nonB (ce w b i)=true:=by
 unfold resF at h
 split at h
 ·assumption
 ·omega
theorem Ro.nb:∀ (t:Ty) {v:t.den} {cs:List Value},nbT t=true->Ro P w A t v cs->(∀ u ∈ cs,nonB (some u)=true)/\Ro P w (fun b i=>A b i/\nonB (ce w b i)=true) t v cs:=by
 intro t
 induction t with
 | int k=>
  intro v cs hn h
  have h:cs=[.int k (toI k v)]:=h
  refine ⟨fun u hu=>?_,h⟩
  rw[h,List.mem_singleton] at hu
  subst hu
  cases k <;> first | rfl | (simp[nbT] at hn)
 | bool=>
  intro v cs hn h
  have h:cs=[.bool v]:=h
  exact ⟨fun u hu=>by rw[h,List.mem_singleton] at hu;subst hu;rfl,h⟩
 | str=>
  intro v cs hn h
  have h:cs=[.string ⟨List.toArray v⟩]:=h
  exact ⟨fun u hu=>by rw[h,List.mem_singleton] at hu;subst hu;rfl,h⟩
 | unit=>
  intro v cs hn h
  have h:cs=[]:=h
  exact ⟨fun u hu=>(by rw[h] at hu;cases hu),h⟩
 | pair a b iha ihb=>
  intro v cs hn h
  simp only[nbT,Bool.and_eq_true] at hn
  obtain ⟨h1,h2⟩:=h
  obtain ⟨a1,a2⟩:=iha hn.1 h1
  obtain ⟨b1,b2⟩:=ihb hn.2 h2
  refine ⟨fun u hu=>?_,a2,b2⟩
  rw[<-List.take_append_drop a.sz cs] at hu
  rcases List.mem_append.1 hu with g | g
  ·exact a1 u g
  ·exact b1 u g
 | arr n e ih=>
  intro v cs hn h
  simp only[nbT] at hn
  obtain ⟨h1,h2,h3,h4⟩:=h
  refine ⟨fun u hu=>?_,h1,h2,h3,fun i x hx=>(ih hn (h4 i x hx)).2⟩
  obtain ⟨q,hq,rfl⟩:=List.getElem_of_mem hu
  have hs:0 < e.sz:=by
   rcases Nat.eq_zero_or_pos e.sz with h0 | h0
   ·rw[h0,Nat.mul_zero] at h3;omega
   ·exact h0
  have hi:q / e.sz < n:=by rw[Nat.div_lt_iff_lt_mul hs];omega
  have hx:=h4 (q / e.sz) (v[q / e.sz]'(by omega)) (List.getElem?_eq_getElem (by omega))
  refine (ih hn hx).1 _ ?_
  have hm:=Nat.mod_lt q hs
  have he:q / e.sz*e.sz+q % e.sz=q:=Nat.div_add_mod' q e.sz
  refine List.mem_iff_getElem?.2 ⟨q % e.sz,?_⟩
  rw[List.getElem?_take,if_pos hm,List.getElem?_drop,he,List.getElem?_eq_getElem hq]
 | slc e ih=>
  intro v cs hn h
  simp only[nbT] at hn
  obtain ⟨a,cap,h1,h2,h3,h4⟩:=h
  refine ⟨fun u hu=>by rw[h1,List.mem_singleton] at hu;subst hu;rfl,a,cap,h1,h2,h3,fun ad had=>⟨(h4 ad had).1,fun i x hx=>?_⟩⟩
  obtain ⟨L,l1,l2,l3⟩:=(h4 ad had).2 i x hx
  obtain ⟨g1,g2⟩:=ih hn l3
  exact ⟨L,l1,fun j u hu=>⟨(l2 j u hu).1,(l2 j u hu).2,by rw[(l2 j u hu).1];exact g1 u (List.mem_of_getElem? hu)⟩,g2⟩
 | ptr e ih=>
  intro v cs hn h
  simp only[nbT] at hn
  obtain ⟨ad,h1,h2,L,l1,l2,l3⟩:=h
  obtain ⟨g1,g2⟩:=ih hn l3
  exact ⟨fun u hu=>by rw[h1,List.mem_singleton] at hu;subst hu;rfl,ad,h1,h2,L,l1,fun j u hu=>⟨(l2 j u hu).1,(l2 j u hu).2,by rw[(l2 j u hu).1];exact g1 u (List.mem_of_getElem? hu)⟩,g2⟩
 | fn=>intro v cs hn h;simp[nbT] at hn
 | map k v _ _=>intro v cs hn h;simp[nbT] at hn
theorem argsOk_res {ow:Bool}:∀ (ps:List (PM×Ty)) {v:(tupT (ps.map (·.2))).den} {ss:List Slot} {tvs:List Value} {ws:List (Nat×Path)},u8P ps=true->ArgsOk P A σ a w F ow ps v ss tvs ws->ArgsOk P A σ a w (resF w F) ow ps v ss tvs ws
 | [],_,_,_,_,_,h=>h
 | (pm,t)::ps,v,_,_,_,hu,h=>by
  obtain ⟨s,ss',tv,tvs',wp,ws',e1,e2,hw,hao,hrest⟩:=h
  cases pm with
  | ro=>
   simp only[u8P,Bool.and_eq_true,Bool.or_eq_true] at hu
   refine ⟨s,ss',tv,tvs',wp,ws',e1,e2,hw,?_,argsOk_res ps hu.2 hrest⟩
   obtain ⟨hwp,cs,h1,h2⟩:=hao
   refine ⟨hwp,cs,h1,?_⟩
   rcases hu.1 with ⟨f1,f2⟩ | hn
   ·exact Ro.indep t f1 f2 h2
   ·refine Ro.mono (fun _ _ _ _ h=>h) (fun b i ha=>?_) t (Ro.nb t hn h2).2
    obtain ⟨g | ⟨how,r,g1,g2,g3⟩,hb⟩:=ha
    ·exact .inl g
    ·refine .inr ⟨how,r,g1,g2,?_⟩
     unfold resF
     rw[if_pos hb]
     exact g3
  | fix f=>
   simp only[u8P] at hu
   exact ⟨s,ss',tv,tvs',wp,ws',e1,e2,hw,hao,argsOk_res ps hu hrest⟩
  | mutp m m'=>
   simp only[u8P,Bool.and_eq_true] at hu
   exact ⟨s,ss',tv,tvs',wp,ws',e1,e2,hw,hao,argsOk_res ps hu.2 hrest⟩
  | muts m=>simp[u8P] at hu
  | eat m=>simp[u8P] at hu
  | eatv m=>simp[u8P] at hu
theorem u8P_noEat:∀ (ps:List (PM×Ty)),u8P ps=true->noEat ps=true
 | [],_=>rfl
 | (pm,t)::ps,h=>by
  cases pm with
  | ro=>simp only[u8P,Bool.and_eq_true] at h;exact u8P_noEat ps h.2
  | fix f=>simp only[u8P] at h;exact u8P_noEat ps h
  | mutp m m'=>simp only[u8P,Bool.and_eq_true] at h;exact u8P_noEat ps h.2
  | muts m=>simp[u8P] at h
  | eat m=>simp[u8P] at h
  | eatv m=>simp[u8P] at h
theorem Rep.u8 {A2:Cells} (hA:∀ b i n,A b i->ce w b i=some (.int .u8 n)->A2 b i):∀ (t:Ty) {m:Md} {H:List Path} {v:t.den} {cs:List Value} {G:FP},u8T t=true->Rep P w A t m H v cs G->Rep P w A2 t m H v cs G:=by
 intro t
 induction t with
 | pair a b iha ihb=>
  intro m H v cs G hu h
  simp only[u8T,Bool.and_eq_true] at hu
  obtain ⟨h0,F1,F2,h1,h2,h3⟩:=h
  exact ⟨h0,F1,F2,h1,iha hu.1 h2,ihb hu.2 h3⟩
 | slc e _=>
  intro m H v cs G hu h
  unfold u8T at hu
  split at hu
  ·rename_i heq;cases heq
  ·rename_i heq
   injection heq with heq
   subst heq
   simp only[Rep] at h ⊢
   split
   ·rename_i hh;rw[if_pos hh] at h;exact h
   ·rename_i hh
    rw[if_neg hh] at h
    split
    ·rename_i hm;rw[if_pos hm] at h;exact h
    ·rename_i hm
     rw[if_neg hm] at h
     obtain ⟨h1,h2,a,cap,h3,h4,h5,h6⟩:=h
     refine ⟨h1,h2,a,cap,h3,h4,h5,fun ad had=>⟨(h6 ad had).1,fun i x hx=>?_⟩⟩
     obtain ⟨L,l1,l2,l3⟩:=(h6 ad had).2 i x hx
     refine ⟨L,l1,fun j u hu=>⟨(l2 j u hu).1,hA _ _ (toI .u8 x) (l2 j u hu).2 ?_⟩,l3⟩
     have l3:L=[.int .u8 (toI .u8 x)]:=l3
     rw[(l2 j u hu).1]
     rw[l3] at hu
     cases j with
     | zero=>injection hu with hu;rw[hu]
     | succ j=>cases hu
  ·rename_i hf1 hf2
   simp[Ty.flat] at hu
 | int k=>intro m H v cs G _ h;exact h
 | bool=>intro m H v cs G _ h;exact h
 | str=>intro m H v cs G _ h;exact h
 | unit=>intro m H v cs G _ h;exact h
 | arr n e _=>
  intro m H v cs G hu h
  have hu:((Ty.arr n e).flat&&(Ty.arr n e).nofn)=true:=hu
  simp only[Bool.and_eq_true] at hu
  obtain ⟨h1,h2⟩:=h
  exact ⟨h1,Ro.indep _ hu.1 hu.2 h2⟩
 | ptr e _=>intro m H v cs G hu h;simp[u8T,Ty.flat] at hu
 | fn=>intro m H v cs G hu h;simp[u8T,Ty.nofn] at hu
 | map k v _ _=>intro m H v cs G hu h;simp[u8T,Ty.flat] at hu
theorem ret_ok {rs:List Res} {rv:Value} {G:FP} (h:RetRel P w A rs rv G):SlotRel P A σ a w rv (resSlot rs) G/\∀ t m H v,resSlot rs=.box t m H v->∃ b,rv=.pointer (some ⟨b,0,none⟩)/\OwnBlk w b (t.sz,false):=by
 match rs,h with
 | [],_=>exact ⟨trivial,fun _ _ _ _ e=>by cases e⟩
 | [x],h=>
  obtain ⟨cs,rfl,h2⟩:=h
  exact laid_ok h2
 | x::y::rs,h=>
  obtain ⟨vs,Fi,h1,h2,h3⟩:=h
  exact ⟨⟨vs,Fi,h1,h2,fun j z hz=>by
   obtain ⟨v,cs,g1,g2,g3⟩:=h3 j z hz
   exact ⟨v,g1,.inr ⟨cs,g2,g3⟩⟩⟩,fun _ _ _ _ e=>by cases e⟩
theorem RetRel.free {A':Cells}:∀ {rs:List Res} {rv:Value} {G:FP},(∀ x ∈ rs,(x.t.flat||decide (x.m=ownMd x.t))=true/\x.t.nofn=true)->RetRel P w A rs rv G->RetRel P w A' rs rv G
 | [],_,_,_,_=>trivial
 | [x],_,_,ho,⟨cs,h1,h2⟩=>⟨cs,h1,Rep.free (ho x (by simp)).1 (ho x (by simp)).2 h2⟩
 | x::y::rs,_,_,ho,⟨vs,Fi,h1,h2,h3⟩=>⟨vs,Fi,h1,h2,fun j z hz=>by
  grind [Rep.free]⟩
theorem split_own:∀ (rs:List (Ty×Md)) {ts:List Ty} (out:(tupT (rs.map (·.1)++ts)).den),allOwn rs=true->∀ x ∈ (splitR rs out).1,(x.t.flat||decide (x.m=ownMd x.t))=true/\x.t.nofn=true
 | [],_,_,_=>fun x hx=>by cases hx
 | (t,m)::rs,_,out,h=>fun x hx=>by
  simp only[allOwn,Bool.and_eq_true] at h
  simp only[splitR,List.mem_cons] at hx
  rcases hx with rfl | hx
  ·exact h.1
  ·exact split_own rs out.2 h.2 x hx
theorem RetRel.mono {A':Cells} (hA:∀ b i,A b i->A' b i):∀ {rs:List Res} {rv:Value} {G:FP},RetRel P w A rs rv G->RetRel P w A' rs rv G
 | [],_,_,_=>trivial
 | [x],_,_,⟨cs,h1,h2⟩=>⟨cs,h1,Rep.mono hA (fun _ _ _ _ h=>h) (fun _ _ h=>h) _ h2 (fun _ _=>Nat.le_refl _) (fun _ _ _ _ h=>h)⟩
 | x::y::rs,_,_,⟨vs,Fi,h1,h2,h3⟩=>⟨vs,Fi,h1,h2,fun j z hz=>by
  obtain ⟨v,cs,g1,g2,g3⟩:=h3 j z hz
  exact ⟨v,cs,g1,g2,Rep.mono hA (fun _ _ _ _ h=>h) (fun _ _ h=>h) _ g3 (fun _ _=>Nat.le_refl _) (fun _ _ _ _ h=>h)⟩⟩
end
end OT
