/- The proof's parts, merged: Operands used  slots laid.. No conditions but those that each states. -/
import Derived.Test.YtledflocbohofaaGreatSa
import Derived.Laws.Entries
import Derived.Laws.NewFold
import Derived.Laws.Sem
import Derived.Laws.Slices
import Derived.Laws.Concat
import Derived.Laws.StructEq
import Derived.Laws.Cover3
import Derived.ChangeKeysEq
import Derived.Laws.MakeOwn
import Derived.Laws.IdiomStrings
import Derived.Laws.BytesArg
import Derived.Laws.Tables
import Derived.Great.BuildSlice
import Derived.Deep.AppendSrc
set_option linter.unusedVariables false
set_option linter.unusedSimpArgs false
namespace OT
open Go
section
variable {P:Program} {C:Ctx} {A:Cells} {X:FP} {σ:St} {a:Act} {w:World} {F:Nat->FP} {R:Type} {x:R}
theorem xX {l:List (Nat×Nat×Bool)} {r:Nat} (h:tr l r=false) (k:Nat):(r,k,false) ∉ l:=by
 induction l with
 | nil=>intro hm;cases hm
 | cons y l ih=>
  obtain ⟨k',n,b⟩:=y
  simp only[tr,Bool.or_eq_false_iff] at h
  intro hm
  rcases List.mem_cons.1 hm with e | hm
  ·injection e with e1 e2
   injection e2 with e2 e3
   subst e1;subst e3
   simp at h
  ·exact ih h.2 hm
theorem ky (a:Act) (i:Nat):a.put (some i) (tmp a i)=a:=by
 have:a.tmps.setIfInBounds i (tmp a i)=a.tmps:=by
  apply Array.ext
  ·simp
  ·intro j h1 Y
   rw[Array.getElem_setIfInBounds (by simpa using h1)]
   split
   ·rename_i e;subst e;simp[tmp,Y]
   ·rfl
 simp[Act.put,this]
theorem mY (h:Rel P C A X σ a w F) {s:Slot} {tv:Value} {G:FP} (hs:ba P A σ a w tv s G) {mv:Bool} {t:Ty} {K:Md->t.den->St->Option R} (hk:gI σ s mv t K=some x) :
  ∃ (A':Cells) (σ':St) (F':Nat->FP) (m:Md) (v:t.den) (cs:List Value) (Fv:FP),K m v σ'=some x/\(∀ b i,A b i->A' b i)/\Rel P C A' (fun b i=>X b i+Fv b i) σ' a w F'/\σ'.n=σ.n/\jY σ σ' /\
   tv=bm t cs/\aj P w A' t m [] v cs Fv:=by
 have hz:Rel P C A (fun b i=>X b i+0) σ a w F:=h
 cases s with
 | val t' v=>
  simp only[gI] at hk
  obtain ⟨e,hk⟩:=bb hk;subst e
  obtain ⟨cs,h1,Y⟩:=hs
  exact ⟨A,σ,F,_,v,cs,fun _ _=>0,hk,fun _ _ h=>h,hz,rfl,jY.refl σ,h1,Ro.rep _ _ (cZ _) Y⟩
 | cp t' v=>
  simp only[gI] at hk
  obtain ⟨e,hk⟩:=bb hk;subst e
  exact ⟨A,σ,F,_,v,[tv],fun _ _=>0,hk,fun _ _ h=>h,hz,rfl,jY.refl σ,(bz _ _ rfl).symm,Ro.rep _ _ (cZ _) hs⟩
 | oN=>
  simp only[gI] at hk
  split at hk
  ·rename_i t e
   have hs:tv=.slice none 0 0:=hs
   subst hs
   refine ⟨A,σ,F,_,_,[.slice none 0 0],fun _ _=>0,hk,fun _ _ h=>h,hz,rfl,jY.refl σ,(bz _ _ rfl).symm,?_⟩
   simp only[aj,hole,List.any_nil,Bool.false_eq_true,if_false,ao,mN,Md.own,if_true]
   exact ⟨none,0,rfl,Nat.le_refl _,by simp[maxLen],fun _=>rfl,fun ad c8=>by cases c8⟩
  ·cases hk
 | ref r p snap=>
  simp only[gI] at hk
  split at hk
  ·rename_i az
   obtain ⟨hr,t',m',H',v',aL,a_,F',h1,Y,h3,h4,h5,h6⟩:=fw h hk
   obtain ⟨pl,g1,g2,g3⟩:=hs.2 az
   rw[h3] at g1
   injection g1 with g1
   subst g1
   split at h1
   ·rename_i hH
    have hH:=List.isEmpty_iff.1 hH;subst hH
    obtain ⟨e,h1⟩:=bb h1;subst e
    split at h1
    ·rename_i hm;subst hm
     exact ⟨A,σ,F,_,v',aL,fun _ _=>0,h1,fun _ _ h=>h,hz,rfl,jY.refl σ,g2,Ro.rep _ _ (cZ _) (aj.ro _ (cZ _) h4)⟩
    ·split at h1
     ·obtain ⟨A',σ',F2,cs,ad,Fv,k1,k2,k3,k4,kr,k5,k6⟩:=zB h h1 ⟨Y⟩
      rw[h3] at k5
      injection k5 with k5
      simp only[Pl.mk.injEq,true_and] at k5
      obtain ⟨rfl,rfl⟩:=k5
      exact ⟨A',σ',F2,_,v',aL,Fv,k1,k2,k3,k4,kr,g2,aj.mono k2 (fun _ _ _ _ h=>h) (fun _ _ h=>h) _ k6 (fun _ _=>Nat.le_refl _) (fun _ _ _ _ h=>h)⟩
     ·obtain ⟨A',σ',F2,t2,m2,v2,cs,ad,k1,k2,k3,k4,kr,k5,k6,k7⟩:=vo h h1
      obtain ⟨e1,e2,e3,e4⟩:=At.inj ⟨Y⟩ k5
      subst e1
      have e4:=eq_of_heq e4
      subst e4
      rw[h3] at k6
      injection k6 with k6
      simp only[Pl.mk.injEq,true_and] at k6
      obtain ⟨rfl,rfl⟩:=k6
      exact ⟨A',σ',F2,_,v',aL,fun _ _=>0,k1,k2,k3,k4,kr,g2,Ro.rep _ _ (cZ _) k7⟩
   ·cases h1
  ·cases hk
 | sub r p snap lo hi=>
  simp only[gI] at hk
  split at hk
  ·rename_i az
   obtain ⟨hr,t',m',H',v',aL,a_,F',h1,Y,h3,h4,h5,h6⟩:=fw h hk
   obtain ⟨pl,e,xa,n,cap,nD,cap',g1,g2,g3,g4,g5,g6,g7,Cb,g8,g9,g10⟩:=hs.2 az
   rw[h3] at g1
   injection g1 with g1
   subst g1
   simp only at g2 g3
   subst g2;subst g3
   split at h1
   ·rename_i hH
    have hH:=List.isEmpty_iff.1 hH;subst hH
    obtain ⟨e',h1⟩:=bb h1;subst e'
    simp only at h1
    have rC:tv=bm (.U e) [.slice nD (hi - lo) cap']:=by rw[bz _ _ rfl];exact g6
    split at h1
    ·rename_i hm;subst hm
     exact ⟨A,σ,F,_,_,_,fun _ _=>0,h1,fun _ _ h=>h,hz,rfl,jY.refl σ,rC,Ro.rep _ _ (cZ _) (Ro.piece (aj.ro _ (cZ _) h4) g4 g5 g7 g8 g9)⟩
    ·split at h1
     ·split at h1
      ·rename_i s8
       subst s8
       obtain ⟨A',σ',F2,cs,ad,Fv,k1,k2,k3,k4,kr,k5,k6⟩:=zB h h1 ⟨Y⟩
       rw[h3] at k5
       injection k5 with k5
       simp only[Pl.mk.injEq,true_and] at k5
       obtain ⟨rfl,rfl⟩:=k5
       have k6:=aj.mono k2 (fun _ _ _ _ h=>h) (fun _ _ h=>h) _ k6 (fun _ _=>Nat.le_refl _) (fun _ _ _ _ h=>h)
       refine ⟨A',σ',F2,_,_,_,Fv,k1,k2,k3,k4,kr,rC,?_⟩
       have rB:=Cb rfl
       subst rB
       simp only[Nat.add_zero] at g7
       subst g7
       simp only[aj,hole,List.any_nil,Bool.false_eq_true,if_false] at k6 ⊢
       split at k6
       ·rename_i dm
        rw[if_pos dm]
        obtain ⟨a0,Rb,q1,q2,q3,q4,q5⟩:=k6
        simp only[List.cons.injEq,Value.slice.injEq,and_true] at q1
        obtain ⟨rfl,rfl,rfl⟩:=q1
        have hlen:List.length ((v'.take hi).drop 0)=hi:=by simp;omega
        refine ⟨nD,cap',by rw[hlen];rfl,by rw[hlen];omega,q3,q4,fun ad c8=>?_⟩
        obtain ⟨r1,r2,r3,Fi,r4,r5⟩:=q5 ad c8
        refine ⟨r1,r2,r3,Fi,fun b i=>?_,fun i y hy=>?_⟩
        ·rw[hlen]
         have:=r4 b i;have:=HJ (List.length v') Fi 0 hi (by omega) b i
         simp only[Nat.zero_add] at this
         have this:ay hi Fi b i<=ay (List.length v') Fi b i:=this
         omega
        ·rw[List.drop_zero,List.getElem?_take] at hy
         split at hy
         ·exact r5 i y hy
         ·cases hy
       ·rename_i dm
        rw[if_neg dm]
        exact ⟨trivial,k6.2.1,Ro.piece (cap':=cap') k6.2.2 g4 g5 rfl g8 g9⟩
      ·cases h1
     ·obtain ⟨A',σ',F2,t2,m2,v2,cs,ad,k1,k2,k3,k4,kr,k5,k6,k7⟩:=vo h h1
      obtain ⟨e1,e2,e3,e4⟩:=At.inj ⟨Y⟩ k5
      subst e1
      have e4:=eq_of_heq e4
      subst e4
      rw[h3] at k6
      injection k6 with k6
      simp only[Pl.mk.injEq,true_and] at k6
      obtain ⟨rfl,rfl⟩:=k6
      exact ⟨A',σ',F2,_,_,_,fun _ _=>0,k1,k2,k3,k4,kr,rC,Ro.rep _ _ (cZ _) (Ro.piece k7 g4 g5 g7 g8 g9)⟩
   ·cases h1
  ·cases hk
 | ptr r p snap=>
  cases p with
  | cons s p=>simp[gI] at hk
  | nil=>
   simp only[gI] at hk
   split at hk
   ·rename_i az
    split at hk
    ·rename_i t' m' H' v' hg
     split at hk
     ·rename_i hc
      simp only[Bool.and_eq_true,List.isEmpty_iff,Bool.not_eq_true'] at hc
      obtain ⟨rfl,hl⟩:=hc
      obtain ⟨e,hk⟩:=bb hk;subst e
      have hr:r < σ.n:=by
       rcases Nat.lt_or_ge r σ.n with hr | hr
       ·exact hr
       ·rw[fk (Nat.not_lt.2 hr)] at hg;cases hg
      obtain ⟨pl,b,o,g1,g2,g3,g4⟩:=hs.2 az
      have ig:=h.dx r hr
      rw[hg] at ig
      obtain ⟨b0,o0,L,F1,q1,q2,q3,q4,q5,q6⟩:=ig
      unfold place at g1
      rw[hg,q1] at g1
      simp only[bp,Option.bind_some,aH,Option.some.injEq] at g1
      subst g1
      simp only[Option.some.injEq,Prod.mk.injEq] at g2
      obtain ⟨rfl,rfl⟩:=g2
      obtain ⟨b1,w1,w2⟩:=h.whole r t' m' [] v' hg (xX hl)
      rw[q1] at w1
      simp only[Value.pointer.injEq,Option.some.injEq,Addr.mk.injEq,and_true] at w1
      obtain ⟨rfl,rfl⟩:=w1
      have of:=h.put hr (s:=.dead) (v:=tmp a r) (Fd:=fun _ _=>0) (X':=fun b i=>X b i+F r b i) trivial (fun b i=>by omega) (fun t m H v e=>by cases e)
      rw[ky] at of
      refine ⟨A,_,_,_,v',[tv],F r,hk,fun _ _ h=>h,of,rfl,(fun w tv i R hR=>⟨R.H,by
       rw[pB] at hR
       split at hR
       ·cases hR
       ·exact hR⟩),(bz _ _ rfl).symm,?_⟩
      simp only[aj,hole,List.any_nil,Bool.false_eq_true,if_false,Md.own,if_true,Md.e]
      exact ⟨b0,by rw[g3],w2,L,F1,q2,q3,q5,q6⟩
     ·cases hk
    ·cases hk
   ·cases hk
 | _=>simp[gI] at hk
theorem wt {t:Ty} {m:Md} {v:t.den} {cs:List Value} {Fv:FP} (h:aj P w A t m [] v cs Fv) :
  ba P A σ a w (bm t cs) (laid t m v) Fv/\∀ t' m' H' v',laid t m v=.box t' m' H' v'->∃ b,bm t cs=.pointer (some ⟨b,0,none⟩)/\dq w b (t'.sz,false):=by
 unfold laid
 split
 ·rename_i hm;subst hm
  exact ⟨⟨cs,rfl,aj.ro _ (cZ _) h⟩,fun t' m' H' v' e=>by cases e⟩
 ·split
  ·rename_i e m' v' _
   simp only[aj,hole,List.any_nil,Bool.false_eq_true,if_false,Md.own,if_true,Md.e] at h
   obtain ⟨b,rfl,Y,L,F1,h3,h4,h5,h6⟩:=h
   rw[bz _ _ rfl]
   refine ⟨⟨b,0,L,F1,rfl,h3,h4,fun j hj=>by rw[Nat.zero_add];exact Y.frozen hj,h5,h6⟩,fun t' m' H' v' e=>?_⟩
   injection e with e1
   subst e1
   exact ⟨b,rfl,Y⟩
  ·exact ⟨⟨cs,rfl,h⟩,fun t' m' H' v' e=>by cases e⟩
theorem Rel.Ml (h:Rel P C A X σ a w F) {d:Nat} (hd:σ.n<=d) (s:Slot) (v:Value) {X':FP} (ht:∀ b i,X' b i<=X b i):Rel P C A X' (σ.put d s) (a.put (some d) v) w F:=by
 have eH:=h.size
 have ha:a.put (some d) v=a:=by simp[Act.put,Array.setIfInBounds,eH,Nat.not_lt.2 hd]
 rw[ha]
 have mW:∀ i,(σ.put d s).get i=σ.get i:=fun i=>by
  rw[pB];split
  ·omega
  ·rfl
 have gL:pA σ a w (σ.put d s) a w:=by
  intro r p snap hb
  rw[qY,St.ok,qY]
  by_cases hr:d=r
  ·subst hr
   simp only[if_true]
   refine ⟨hb.trans (lN _),fun az=>?_⟩
   have h0:=wI (h.fD d) hb az
   exact ⟨(wm hb (lN _) az).1,fun hl=>by omega⟩
  ·simp only[if_neg hr]
   refine ⟨hb,fun az=>⟨az,fun hl pl dZ=>⟨pl.H,pl.cs,?_,fun _=>rfl⟩⟩⟩
   unfold place at dZ ⊢
   rw[mW];exact dZ
 refine ⟨h.size,h.defers,fun i hi=>?_,?_,fun b i=>by have:=h.iP b i;have:=ht b i;show X' b i+ay σ.n F b i<=1;omega,fun b i hp=>h.jx b i (by have:=ht b i;have hp:1<=X' b i+ay σ.n F b i:=hp;omega),
  fun b i hp=>h.ez b i (hp.imp (fun hp=>by have:=ht b i;have hp:1<=X' b i+ay σ.n F b i:=hp;omega) id),fun i=>?_,h.ext,fun b i hp=>h.own b i (by have:=ht b i;have hp:1<=X' b i+ay σ.n F b i:=hp;omega),h.a0,h.a1,?_,?_,?_⟩
 ·rw[mW]
  exact ba.gd gL (fun _ _ h=>h) (fun _ _ _ _ h=>h) (fun _ _ h=>h) (fun _ _ _=>⟨fun _ h=>h,rfl⟩) (h.dx i hi)
 ·intro d' r p snap hm
  exact kx.gd gL (h.gh d' r p snap (BZ hm).1)
 ·rw[qY]
  split
  ·rw[vh];exact h.fD d
  ·exact h.fD i
 ·intro j k hm;exact h.it j k (qE hm).1
 ·intro r t m H v' hg hl
  rw[mW] at hg
  refine h.whole r t m H v' hg fun k hm=>hl k (xQ hm fun e=>?_)
  have e:r=d:=e
  subst e
  rw[fk (Nat.not_lt.2 hd)] at hg;cases hg
 ·intro j k hm R hR
  rw[mW] at hR
  exact h.gE j k (qE hm).1 R hR
theorem Rel.aQ (h:Rel P C A X σ a w F) (d:Option Tmp) {s:Slot} {v:Value} {Fd X':FP} (hs:ba P A σ a w v s Fd) (ht:∀ b i,X' b i+Fd b i<=X b i)
  (HR:∀ t m H v',s=.box t m H v'->∃ b,v=.pointer (some ⟨b,0,none⟩)/\dq w b (t.sz,false)):∃ F',Rel P C A X' (σ.aQ d s) (a.put d v) w F':=by
 cases d with
 | none=>exact ⟨F,h.less fun b i=>by have:=ht b i;omega⟩
 | some d=>
  rcases Nat.lt_or_ge d σ.n with hd | hd
  ·exact ⟨_,h.put hd hs (fun b i=>by have:=ht b i;omega) HR⟩
  ·exact ⟨_,h.Ml hd s v fun b i=>by have:=ht b i;omega⟩
def vt (P:Program) (C:Ctx) (σ:St) (a:Act) (w:World):Prop:=∃ A F,Rel P C A (fun _ _=>0) σ a w F
end
end OT
set_option linter.unusedVariables false
set_option linter.unusedSimpArgs false
namespace OT
open Go
def zc:Ty->Option (List Value)
 | .int k=>some [.int k 0]
 | .bool=>some [.bool false]
 | .str=>some [.string ⟨#[]⟩]
 | .unit=>some []
 | .pair a b=>match zc a,zc b with
  | some x,some y=>some (x++y)
  | _,_=>none
 | .arr n e=>match zc e with
  | some x=>some (List.replicate n x).flatten
  | none=>none
 | .U _=>some [.slice none 0 0]
 | _=>none
def Nv:Value->Value->Bool
 | .int k n,.int k' n'=>decide (k=k')&&decide (n=n')
 | .bool a,.bool b=>a == b
 | .string s,.string t=>decide (s.data.toList=t.data.toList)
 | .slice none 0 0,.slice none 0 0=>true
 | _,_=>false
def zC:List Value->List Value->Bool
 | [],[]=>true
 | a::x,b::y=>Nv a b&&zC x y
 | _,_=>false
theorem Nw {a b:Value} (h:Nv a b=true):a=b:=by
 unfold Nv at h
 split at h
 ·simp only[Bool.and_eq_true,decide_eq_true_eq] at h;rw[h.1,h.2]
 ·simp at h;rw[h]
 ·rename_i s t
  simp only[decide_eq_true_eq] at h
  congr 1
  cases s;cases t
  simp only at h
  congr 1
  exact Array.ext' h
 ·rfl
 ·cases h
theorem EZ:∀ {x y:List Value},zC x y=true->x=y
 | [],[],_=>rfl
 | a::x,b::y,h=>by
  simp only[zC,Bool.and_eq_true] at h
  rw[Nw h.1,EZ h.2]
 | [],_::_,h=>by simp[zC] at h
 | _::_,[],h=>by simp[zC] at h
def kW (P:Program) (t:Ty) (i:TypeId):Bool:=
 match P.info? i with
 | some inf=>Nat.beq inf.size t.sz&&Nat.ble inf.bytes 512&&(match inf.zero with
  | some z=>Nat.beq z.cells.size t.sz&&(match zc t with
   | some L=>zC z.cells.toList L
   | none=>true)
  | none=>false)
 | none=>false
def ke (P:Program):Ty->Sum TypeId (List Field)->Bool
 | .int _,.inl _=>true
 | .bool,.inl _=>true
 | .str,.inl _=>true
 | .unit,.inl i=>!P.stoodInHeld i
 | .unit,.inr _=>true
 | .pair a b,.inl i=>!P.stoodInHeld i&&(match P.underlying i with
  | some (.struct fs)=>(match fs.toList with
   | f::r=>f.name != "_" && ke P a (.inl f.type)&&ke P b (.inr r)
   | []=>false)
  | _=>false)
 | .pair a b,.inr (f::r)=>f.name != "_" && ke P a (.inl f.type)&&ke P b (.inr r)
 | .arr _ e,.inl i=>(match P.underlying i with
  | some (.array _ el)=>ke P e (.inl el)
  | _=>false)
 | _,_=>false
def dep:Ty->Nat
 | .arr _ e=>dep e+1
 | .pair a b=>max (dep a+1) (dep b)
 | _=>1
def Ny (P:Program) (k:Ty) (i:TypeId):Bool:=isAgg k&&k.gY&&k.flat&&ke P k (.inl i)&&Nat.ble (dep k) 9000
def Lm (P:Program) (v:Ty) (i:TypeId):Bool:=match P.info? i with
 | some inf=>(match inf.zero with
  | some (.agg _)=>isAgg v
  | some _=>!isAgg v
  | none=>false)
 | none=>false
def aD (P:Program):Ty->Sum TypeId (List Field×Nat)->Bool
 | .int k,.inl i=>kW P (.int k) i&&(match P.underlying i with | some (.int k')=>decide (k=k') | _=>false)
 | .bool,.inl i=>kW P .bool i&&(match P.underlying i with | some .bool=>true | _=>false)
 | .str,.inl i=>kW P .str i&&(match P.underlying i with | some .string=>true | _=>false)
 | .unit,.inl i=>kW P .unit i&&(match P.underlying i with | some (.struct fs)=>fs.toList.isEmpty | _=>false)
 | .unit,.inr (fs,_)=>fs.isEmpty
 | .pair a b,.inl i=>kW P (.pair a b) i&&(match P.underlying i with
  | some (.struct fs)=>(match fs.toList with
   | f::r=>Nat.beq f.offset 0&&Nat.ble 1 a.sz&&aD P a (.inl f.type)&&aD P b (.inr (r,a.sz))
   | []=>false)
  | _=>false)
 | .pair a b,.inr (f::r,off)=>Nat.beq f.offset off&&Nat.ble 1 a.sz&&aD P a (.inl f.type)&&aD P b (.inr (r,off+a.sz))
 | .arr n e,.inl i=>kW P (.arr n e) i&&e.flat&&(match P.underlying i with | some (.array n' el)=>Nat.beq n n'&&Nat.ble 1 e.sz&&aD P e (.inl el) | _=>false)
 | .U e,.inl i=>kW P (.U e) i&&(match P.underlying i with | some (.slice el)=>Nat.ble 1 e.sz&&aD P e (.inl el) | _=>false)
 | .ptr e,.inl i=>kW P (.ptr e) i&&(match P.underlying i with | some (.pointer el)=>aD P e (.inl el) | _=>false)
 | .fn,.inl i=>kW P .fn i&&(match P.underlying i with | some (.func ..)=>true | _=>false)
 | .map k v,.inl i=>kW P (.map k v) i&&(match P.underlying i with | some (.map ki vi)=>aD P k (.inl ki)&&aD P v (.inl vi)&&Ny P k ki&&Lm P v vi | _=>false)
 | _,_=>false
section
variable {P:Program} {w:World} {A:Cells}
theorem wJ {t:Ty} {i:TypeId} (h:kW P t i=true):∃ inf z,P.info? i=some inf/\inf.size=t.sz/\inf.bytes<=512/\inf.zero=some z/\z.cells.size=t.sz/\∀ L,zc t=some L->z.cells.toList=L:=by
 unfold kW at h
 split at h
 ·rename_i inf hi
  simp only[Bool.and_eq_true,Nat.beq_eq,Nat.ble_eq] at h
  have Y:=h.2
  split at Y
  ·rename_i z hz
   simp only[Bool.and_eq_true,Nat.beq_eq] at Y
   refine ⟨inf,z,hi,h.1.1,h.1.2,hz,Y.1,fun L hL=>?_⟩
   have h3:=Y.2
   rw[hL] at h3
   exact EZ h3
  ·cases Y
 ·cases h
theorem eV {t:Ty} {i:TypeId} (h:kW P t i=true):∃ inf,P.info? i=some inf/\inf.size=t.sz/\inf.bytes<=512/\∀ L,zc t=some L->∃ z,inf.zero=some z/\z.cells.toList=L:=by
 obtain ⟨inf,z,h1,Y,h3,h4,h5,h6⟩:=wJ h
 exact ⟨inf,h1,Y,h3,fun L hL=>⟨z,h4,h6 L hL⟩⟩
theorem gn {t:Ty} {i:TypeId} (h:aD P t (.inl i)=true):kW P t i=true:=by
 cases t <;> simp only[aD,Bool.and_eq_true] at h <;> first | exact h.1 | exact h.1.1 | cases h
theorem qG {t:Ty} {i:TypeId} (h:aD P t (.inl i)=true):∃ d,P.underlying i=some d/\(isAgg t=true->(∃ fs,d=.struct fs)\/∃ n e,d=.array n e)/\(isAgg t=false->(∀ fs,d≠.struct fs)/\∀ n e,d≠.array n e):=by
 cases hd:P.underlying i with
 | none=>cases t <;> simp[aD,hd] at h
 | some d=>
  refine ⟨d,rfl,?_,?_⟩
  ·intro ha
   cases t <;> simp only[isAgg] at ha <;> first | cases ha | skip
   all_goals
    simp only[aD,hd,Bool.and_eq_true] at h
    cases d <;> simp_all
  ·intro ha
   cases t <;> simp only[isAgg] at ha <;> first | cases ha | skip
   all_goals
    simp only[aD,hd,Bool.and_eq_true] at h
    cases d <;> simp_all
theorem vu {t:Ty} {i:TypeId} (h:aD P t (.inl i)=true):(Go.isAgg i).run P w=.ok (isAgg t) w:=by
 obtain ⟨d,h1,Y,h3⟩:=qG h
 unfold Go.isAgg
 simp only[Sem.run_bind,run_underlying h1,Result.andThen_ok]
 cases ht:isAgg t with
 | true=>
  rcases Y ht with ⟨fs,rfl⟩ | ⟨n,e,rfl⟩ <;> rfl
 | false=>
  obtain ⟨h4,h5⟩:=h3 ht
  cases d <;> first | rfl | (exact absurd rfl (h4 _)) | (exact absurd rfl (h5 _ _))
theorem run_sizeOf {t:Ty} {i:TypeId} (h:aD P t (.inl i)=true):(Go.sizeOf i).run P w=.ok t.sz w:=by
 obtain ⟨inf,h1,Y,_⟩:=eV (gn h)
 simp[Go.sizeOf,typeInfo,h1,Y]
theorem xe {t:Ty} (h:isAgg t=false):t.sz=1:=by cases t <;> simp_all [isAgg,Ty.sz]
theorem jO (b o n:Nat):(⟨b,o,none⟩:Addr).add n=⟨b,o+n,none⟩:=by unfold Addr.add;split <;> simp_all
theorem pN {t:Ty} {i:TypeId} (h:aD P t (.inl i)=true) {b o:Nat} {L:List Value} (hL:Has w b o L) (hl:L.length=t.sz) (hJ:∀ u ∈ L,u.oneCell'=true):(loadVar i ⟨b,o,none⟩).run P w=.ok (bm t L) w:=by
 unfold loadVar
 simp only[Sem.run_bind,vu h,Result.andThen_ok]
 cases ht:isAgg t with
 | true=>
  have:=run_loadCells_list (P:=P) w ⟨b,o,none⟩ L (fun j v hj=>by rw[jO];exact nq (hL j v hj) (hJ v (List.mem_of_getElem? hj)))
  rw[hl] at this
  simp only[if_true,Sem.run_bind,run_sizeOf h,Result.andThen_ok,this,Sem.run_pure,bm,ht]
 | false=>
  have hs:=xe ht
  match L,hl with
  | [y],_=>
   have:=nq (hL 0 y rfl) (hJ y (by simp))
   simp only[Nat.add_zero] at this
   simp only[Bool.false_eq_true,if_false,run_load,this,bm,ht,List.headD_cons]
  | [],hl=>simp[hs] at hl
  | _::_::_,hl=>simp[hs] at hl
theorem tJ:∀ (t:Ty) {L:List Value} {i:Sum TypeId (List Field×Nat)},zc t=some L->aD P t i=true->aj P w A t (ao t) [] t.zero L (fun _ _=>0)/\Ro P w A t t.zero L/\L.length=t.sz:=by
 intro t
 induction t with
 | int k=>intro L i h _;injection h with h;subst h;cases k <;> exact ⟨rfl,rfl,rfl⟩
 | bool=>intro L i h _;injection h with h;subst h;exact ⟨rfl,rfl,rfl⟩
 | str=>intro L i h _;injection h with h;subst h;exact ⟨rfl,rfl,rfl⟩
 | unit=>intro L i h _;injection h with h;subst h;exact ⟨rfl,rfl,rfl⟩
 | pair a b ey eg=>
  intro L i h hl
  simp only[zc] at h
  split at h
  ·rename_i x y hx hy
   injection h with h;subst h
   have:∃ ia ib,aD P a ia=true/\aD P b ib=true:=by
    cases i with
    | inl i=>
     simp only[aD,Bool.and_eq_true] at hl
     have Y:=hl.2
     split at Y
     ·split at Y
      ·simp only[Bool.and_eq_true] at Y;exact ⟨_,_,Y.1.2,Y.2⟩
      ·cases Y
     ·cases Y
    | inr fo=>
     obtain ⟨fs,off⟩:=fo
     cases fs with
     | nil=>simp[aD] at hl
     | cons f r=>simp only[aD,Bool.and_eq_true] at hl;exact ⟨_,_,hl.1.2,hl.2⟩
   obtain ⟨ia,ib,h1,Y⟩:=this
   obtain ⟨ra,oa,la⟩:=ey hx h1
   obtain ⟨rb,ob,lb⟩:=eg hy Y
   have e1:(x++y).take a.sz=x:=List.take_left' la
   have e2:(x++y).drop a.sz=y:=List.drop_left' la
   refine ⟨⟨rfl,fun _ _=>0,fun _ _=>0,fun _ _=>Nat.le_refl _,by rw[e1];exact ra,by rw[e2];exact rb⟩,⟨by rw[e1];exact oa,by rw[e2];exact ob⟩,by simp[la,lb,Ty.sz]⟩
  ·cases h
 | arr n e ih=>
  intro L i h hl
  simp only[zc] at h
  split at h
  ·rename_i z hz
   injection h with h;subst h
   have:e.flat=true/\∃ ie,aD P e ie=true:=by
    cases i with
    | inl i=>
     simp only[aD,Bool.and_eq_true] at hl
     have Y:=hl.2
     split at Y
     ·simp only[Bool.and_eq_true] at Y;exact ⟨hl.1.2,_,Y.2⟩
     ·cases Y
    | inr fo=>simp[aD] at hl
   obtain ⟨hf,ie,he⟩:=this
   obtain ⟨re,oe,le⟩:=ih hz he
   have hlen:∀ n,((List.replicate n z).flatten).length=n*e.sz:=fun n=>by
    induction n with
    | zero=>simp
    | succ n ih=>rw[List.replicate_succ,List.flatten_cons,List.length_append,ih,le,Nat.add_mul];omega
   have lK:Ro P w A (.arr n e) (Ty.arr n e).zero ((List.replicate n z).flatten):=by
    refine ⟨hf,by simp[Ty.zero],hlen n,fun i x hx=>?_⟩
    have hi:i < n:=by have:=(List.getElem?_eq_some_iff.1 hx).1;simpa [Ty.zero] using this
    have hx:x=e.zero:=by
     simp only[Ty.zero,List.getElem?_replicate,hi,if_true,Option.some.injEq] at hx;exact hx.symm
    subst hx
    have:(((List.replicate n z).flatten).drop (i*e.sz)).take e.sz=z:=by
     have e1:n=i+(1+(n - i - 1)):=by omega
     rw[e1,<- List.replicate_append_replicate,<- List.replicate_append_replicate,List.flatten_append,List.flatten_append]
     have e2:=hlen i
     rw[List.drop_left' e2]
     simp only[List.replicate_one,List.flatten_cons,List.flatten_nil,List.append_nil]
     exact List.take_left' le
    rw[this];exact oe
   exact ⟨⟨rfl,lK⟩,lK,hlen n⟩
  ·cases h
 | U e ih=>
  intro L i h _
  injection h with h;subst h
  refine ⟨?_,⟨none,0,rfl,Nat.le_refl _,fun _=>rfl,fun ad c8=>by cases c8⟩,rfl⟩
  simp only[aj,hole,List.any_nil,Bool.false_eq_true,if_false,ao,mN,Md.own,if_true]
  exact ⟨none,0,rfl,Nat.le_refl _,by simp[maxLen],fun _=>rfl,fun ad c8=>by cases c8⟩
 | ptr e ih=>intro L i h _;simp[zc] at h
 | fn=>intro L i h _;simp[zc] at h
 | map k v=>intro L i h _;simp[zc] at h
theorem qn {t:Ty} {i:TypeId} (h:aD P t (.inl i)=true) {L:List Value} (hz:zc t=some L):∃ z,(zeroValue i).run P w=.ok z w/\z.cells.toList=L:=by
 obtain ⟨inf,h1,Y,_,h3⟩:=eV (gn h)
 obtain ⟨z,h4,h5⟩:=h3 L hz
 exact ⟨z,by simp[zeroValue,typeInfo,h1,h4],h5⟩
end
end OT
set_option linter.unusedVariables false
set_option linter.unusedSimpArgs false
namespace OT
open Go
section
variable {P:Program} {C:Ctx} {A:Cells} {X:FP} {σ:St} {a:Act} {w:World} {F:Nat->FP} {R:Type} {x:R} {Q:Exit->Act->World->Prop} {o:Oper} {E:Env}
def Nx (P:Program) (C:Ctx) {R:Type} (K:St->Option R) (x:R) (a:Act) (w:World):Prop:=∃ σ',K σ'=some x/\vt P C σ' a w
abbrev bC (P:Program) (C:Ctx) (A:Cells) (σ:St) (a:Act) (w:World) (F:Nat->FP):Prop:=Rel P C A (fun _ _=>0) σ a w F
theorem ij {v:Value} {w':World} {next:Act->World->Prop} (dn:(execOp a.eval o).run P w=.ok (.value v) w') (hn:next (a.put o.dst v) w'):o.wp P a w next Q:=by
 unfold Oper.wp;rw[dn];exact hn
theorem Cc {w':World} {next:Act->World->Prop} (dn:(execOp a.eval o).run P w=.ok .skip w') (hd:o.dst=none) (hn:next a w'):o.wp P a w next Q:=by
 unfold Oper.wp;rw[dn,Oper.upon,hd];exact hn
def reads:Op->Bool
 | .load .. | .convert ..=>true
 | _=>false
def l5 (o:Oper) (w w':World):Prop:=reads o.op=true->Ext w w' (fun _ _=>0)
theorem l5.ext {o:Oper} {w w':World} (h:l5 o w w') (hr:reads o.op=true):Ext w w' (fun _ _=>0):=h hr
def Tk (P:Program) (o:Oper) (a:Act) (w:World) (next:Act->World->Prop):Prop:=
 ∃ v,(∀ w',l5 o w w'->(execOp a.eval o).run P w'=.ok (.value v) w')/\next (a.put o.dst v) w
theorem cz {v:Value} {next:Act->World->Prop} (dn:∀ w',l5 o w w'->(execOp a.eval o).run P w'=.ok (.value v) w') (hn:next (a.put o.dst v) w):Tk P o a w next:=⟨v,dn,hn⟩
theorem Tk.wp {next:Act->World->Prop} (h:Tk P o a w next):o.wp P a w next Q:=by
 obtain ⟨v,h1,Y⟩:=h
 exact ij (h1 w fun _=>Ext.refl _ _) Y
theorem oY {b i:Nat} {u:Value} (h:ce w b i=some u):b < w.heap.size:=by
 rcases Nat.lt_or_ge b w.heap.size with hb | hb
 ·exact hb
 ·have hn:w.heap[b]?=none:=Array.getElem?_eq_none hb
  simp[ce,World.cell?,hn] at h
theorem Has.ext {b o:Nat} {L:List Value} {w':World} (h:Has w b o L) (hw:Ext w w' (fun _ _=>0)):Has w' b o L:=fun j u hu=>hw.cell b (o+j) (oY (h j u hu)) rfl u (h j u hu)
theorem jj (h:Rel P C A X σ a w F) {K:St->Option R} {d:Option Tmp} {s:Slot} {v:Value} {Fd:FP} (hk:K (σ.aQ d s)=some x) (hs:ba P A σ a w v s Fd) (ht:∀ b i,Fd b i<=X b i)
  (HR:∀ t m H v',s=.box t m H v'->∃ b,v=.pointer (some ⟨b,0,none⟩)/\dq w b (t.sz,false)):Nx P C K x (a.put d v) w:=by
 obtain ⟨F',hF⟩:=h.aQ d (X':=fun _ _=>0) hs (fun b i=>by have:=ht b i;omega) HR
 exact ⟨_,hk,A,F',hF⟩
theorem aV (h:Rel P C A X σ a w F) {K:St->Option R} {d:Option Tmp} {s:Slot} {v:Value} (hk:K (σ.aQ d s)=some x) (hs:ba P A σ a w v s (fun _ _=>0))
  (hb:∀ t m H v',s≠.box t m H v'):Nx P C K x (a.put d v) w:=
 jj h hk hs (fun _ _=>Nat.zero_le _) (fun t m H v' e=>absurd e (hb t m H v'))
theorem rD (h:Rel P C A X σ a w F) {K:St->Option R} {d:Option Tmp} {t:Ty} {m:Md} {v:t.den} {cs:List Value} {Fd:FP} (hk:K (σ.aQ d (laid t m v))=some x) (hr:aj P w A t m [] v cs Fd) (ht:∀ b i,Fd b i<=X b i) :
  Nx P C K x (a.put d (bm t cs)) w:=
 jj h hk (wt (σ:=σ) (a:=a) hr).1 ht (wt (σ:=σ) (a:=a) hr).2
theorem cw {t:Nat} {K:Ty->Option R} (h:jw E t K=some x):∃ T,E.TI t=some T/\K T=some x:=by
 unfold jw at h
 split at h
 ·rename_i T hT;exact ⟨T,hT,h⟩
 ·cases h
theorem xY {s:Slot} {K:Bool->Option R} {tv:Value} {G:FP} (hs:ba P A σ a w tv s G) (h:xJ s K=some x):∃ b,tv=.bool b/\K b=some x:=by
 unfold xJ at h
 split at h
 ·rename_i b;obtain ⟨cs,h1,Y⟩:=hs;simp only[Ro] at Y;subst Y;exact ⟨b,by rw[h1];rfl,h⟩
 ·cases h
theorem lT {s:Slot} {K:Int->Option R} {tv:Value} {G:FP} (hs:ba P A σ a w tv s G) (h:n9 s K=some x):∃ k n,tv=.int k n/\K n=some x:=by
 unfold n9 at h
 split at h
 ·rename_i k n;obtain ⟨cs,h1,Y⟩:=hs;simp only[Ro] at Y;subst Y;exact ⟨k,_,by rw[h1];rfl,h⟩
 ·cases h
theorem xZ (h:Rel P C A X σ a w F) {r:Nat} {p:Path} {pl:Pl} (hp:place σ a w r p=some pl):kx σ a w (bm pl.t pl.cs) r p (ox σ r p pl.t):=by
 have h5:=h.fD r
 refine ⟨?_,fun _=>⟨_,hp,rfl,?_⟩⟩
 ·unfold ox
  split
  ·intro j y hj;rw[List.getElem?_take] at hj;split at hj;exact ⟨y,hj,Nat.le_refl _⟩;cases hj
  ·intro j y hj;rw[List.getElem?_take] at hj;split at hj;exact ⟨y,hj,Nat.le_refl _⟩;cases hj
  ·exact Below.refl _
 ·unfold ox
  split
  ·rename_i e he;left;exact ⟨by rw[he];rfl,by rw[List.length_take,h5];omega⟩
  ·rename_i k v he;left;exact ⟨by rw[he];rfl,by rw[List.length_take,h5];omega⟩
  ·right;exact h5
theorem Af (σ:St) (y:Operand) (t:Ty) (m:Md) (H:List Path) (v:t.den):bA σ y≠.box t m H v:=by
 intro e
 cases y with
 | tmp i=>simp only[bA] at e;cases hg:σ.get i <;> rw[hg] at e <;> cases e
 | const v=>simp only[bA] at e;unfold pX at e;split at e <;> first | (cases e;done) | (split at e <;> cases e)
 | func f=>cases e
 | global g=>cases e
theorem HX (h:bC P C A σ a w F) {y:Operand} (ho:o.op=.move y) (az:bu P y=true) {K:St->Option R} (hk:FR σ y o.dst K=some x):Tk P o a w (Nx P C K x):=by
 refine cz (v:=a.eval y) (by simp[execOp,ho]) ?_
 unfold FR at hk
 have hs:=cd h az
 split at hk
 ·rename_i xs i hx
  have hi:i < σ.n:=by
   rcases Nat.lt_or_ge i σ.n with hi | hi
   ·exact hi
   ·simp only[bA,fk (Nat.not_lt.2 hi)] at hx;cases hx
  have hg:σ.get i=.kO xs:=by
   simp only[bA] at hx;cases hg:σ.get i <;> rw[hg] at hx <;> first | (cases hx;done) | exact hx
  have ig:=h.dx i hi
  rw[hg] at ig
  have Y:=h.put hi (s:=.dead) (v:=tmp a i) (Fd:=fun _ _=>0) (X':=fun b k=>F i b k) trivial (fun b k=>by omega) (fun t m H v e=>by cases e)
  rw[ky] at Y
  refine jj Y hk (Fd:=F i) ?_ (fun b i=>Nat.le_refl _) (fun t m H v e=>by cases e)
  obtain ⟨vs,Fi,h3,h4,h5⟩:=ig
  exact ⟨vs,Fi,h3,h4,h5⟩
 ·cases hk
 ·rename_i s' y' E0 Ag
  rcases hs with hs | ⟨xs,e⟩
  ·exact aV h hk hs fun t m H v e=>Af σ _ t m H v e
  ·exact (E0 xs e).elim
theorem HY (h:bC P C A σ a w F) {c y z:Operand} (ho:o.op=.pick c y z) (az:bu P c=true/\bu P y=true/\bu P z=true) {K:St->Option R}
  (hk:(xJ (bA σ c) fun c=>match bA σ (bif c then y else z) with
   | .val .bool b=>K (σ.aQ o.dst (.val .bool b))
   | _=>none)=some x):Tk P o a w (Nx P C K x):=by
 have hc:=cd h az.1
 rcases hc with hc | ⟨xs,e⟩
 ·obtain ⟨b,hb,hk⟩:=xY hc hk
  have Ln:∀ y':Operand,bu P y'=true->(match bA σ y' with
   | .val .bool b=>K (σ.aQ o.dst (.val .bool b))
   | _=>none)=some x->Nx P C K x (a.put o.dst (a.eval y')) w:=fun y' hy hk=>by
   split at hk
   ·rename_i b' lP
    rcases cd h hy with hs | ⟨xs,e⟩
    ·rw[lP] at hs;exact aV h hk hs (fun _ _ _ _ e=>by cases e)
    ·rw[lP] at e;cases e
   ·cases hk
  cases b with
  | true=>exact cz (v:=a.eval y) (by simp[execOp,ho,hb,asBool]) (Ln y az.2.1 hk)
  | false=>exact cz (v:=a.eval z) (by simp[execOp,ho,hb,asBool]) (Ln z az.2.2 hk)
 ·rw[e] at hk;cases hk
theorem HZ (h:bC P C A σ a w F) (eD:∀ i T,E.TI i=some T->aD P T (.inl i)=true) {t:Nat} {y:Operand} (ho:o.op=.load t y) (az:bu P y=true) {K:St->Option R}
  {mv:Bool} (hk:xK E σ t (bA σ y) mv o.dst K=some x):Tk P o a w (Nx P C K x):=by
 unfold xK at hk
 obtain ⟨T,hT,hk⟩:=cw hk
 have cJ:=eD _ _ hT
 have run:∀ b off L,a.eval y=.pointer (some ⟨b,off,none⟩)->Has w b off L->L.length=T.sz->(∀ u ∈ L,u.oneCell'=true)->∀ w',l5 o w w'->(execOp a.eval o).run P w'=.ok (.value (bm T L)) w':=fun b off L hy hL hl hJ w' kf=>by
  have kf:=kf (by rw[ho];rfl)
  simp[execOp,ho,hy,Instr.loadAt,Instr.sureAddr,pN cJ (hL.ext kf) hl hJ]
 rcases cd h az with hs | ⟨xs,e⟩
 rotate_left
 ·rw[e] at hk;cases hk
 split at hk
 ·rename_i t' v hv
  rw[hv] at hs
  split at hk
  ·rename_i e;subst e
   obtain ⟨⟨b,off,sp⟩,h1,Y,L,h3,h4,h5⟩:=hs
   simp only[List.cons.injEq,and_true] at h1
   simp only at Y;subst Y
   exact cz (run b off L h1 (fun j u hu=>(h4 j u hu).1) h3 (Ro.one _ h5)) (aV h hk ⟨L,rfl,h5⟩ (fun _ _ _ _ e=>by cases e))
  ·cases hk
 ·rename_i r p snap hv
  rw[hv] at hs
  split at hk
  ·rename_i ik
   obtain ⟨hr,t',m',H',v',aL,a_,F',h1,Y,h3,h4,h5,h6⟩:=fw h hk
   obtain ⟨pl,b,off,g1,g2,g3,g4⟩:=hs.2 ik
   rw[h3] at g1
   injection g1 with g1
   subst g1
   simp only at g2
   subst g2
   split at h1
   ·rename_i e;subst e
    refine cz (run b off aL g3 (h6 b off rfl) (aj.length _ h4) (aj.one _ h4)) ?_
    split at h1
    ·rename_i hf
     split at h1
     ·exact aV h h1 ⟨aL,rfl,aj.flat _ hf h4⟩ (fun _ _ _ _ e=>by cases e)
     ·cases h1
    ·split at h1
     ·rename_i hm
      split at h1
      ·rename_i hH
       have hH:=List.isEmpty_iff.1 hH;subst hH;subst hm
       exact aV h h1 ⟨aL,rfl,aj.ro _ (cZ _) h4⟩ (fun _ _ _ _ e=>by cases e)
      ·cases h1
     ·cases mv with
      | false=>exact aV h h1 (xZ h h3) (fun _ _ _ _ e=>by cases e)
      | true=>
       simp only at h1
       split at h1
       ·rename_i hH
        have hH:=List.isEmpty_iff.1 hH;subst hH
        obtain ⟨A2,eU,F2,bn,p6,Fv,k1,k2,k3,k4,k5,k6,k7⟩:=zB h h1 ⟨Y⟩
        rw[h3] at k6
        simp only[Option.some.injEq,Pl.mk.injEq,true_and] at k6
        obtain ⟨rfl,rfl⟩:=k6
        have hl:=wt (σ:=eU) (a:=a) (aj.mono k2 (fun _ _ _ _ h=>h) (fun _ _ h=>h) _ k7 (fun _ _=>Nat.le_refl _) (fun _ _ _ _ h=>h))
        exact jj k3 k1 hl.1 (fun b i=>by omega) hl.2
       ·cases h1
   ·cases h1
  ·cases hk
 ·cases hk
theorem F_ {b o b' i:Nat} {v u:Value} (eG:¬ (b=b'/\o=i)) (h:ce w b' i=some u):ce (w.setCell ⟨b,o,none⟩ v) b' i=some u:=by
 by_cases hb:b=b'
 ·subst hb
  cases hh:w.heap[b]? with
  | none=>simp[ce,World.cell?,hh] at h
  | some ob=>
   cases ob with
   | map es clock=>
    have:(w.setCell ⟨b,o,none⟩ v).heap[b]?=w.heap[b]?:=by simp[World.setCell,Array.getElem?_modify,hh]
    rw[pz this];exact h
   | cells c e fr=>
    have Y:(w.setCell ⟨b,o,none⟩ v).heap[b]?=some (.cells (c.setIfInBounds o v) e fr):=by simp[World.setCell,Array.getElem?_modify,hh]
    simp only[ce,World.cell?,hh,Y] at h ⊢
    rw[Array.getElem?_setIfInBounds_ne (fun e=>eG ⟨rfl,e⟩)]
    exact h
   | _=>simp[ce,World.cell?,hh] at h
 ·have:(w.setCell ⟨b,o,none⟩ v).heap[b']?=w.heap[b']?:=by simp[World.setCell,Array.getElem?_modify,hb]
  rw[pz this];exact h
theorem kA {b o:Nat}:∀ (L:List Value) (w:World) (o:Nat),Ext w (w.setCells b o L) (bq b o L.length)
 | [],w,o=>Ext.refl _ _
 | v::L,w,o=>by
  have ih:=kA (b:=b) (o:=o+1) L (w.setCell ⟨b,o,none⟩ v) (o+1)
  have h1:Ext w (w.setCell ⟨b,o,none⟩ v) (bq b o (L.length+1)):=by
   refine ⟨by simp,fun b' i hb hz u hu=>?_,fun b' n hn=>?_,fun b' i hb=>by simp,rfl,rfl,rfl,fun b' hb hz=>?_,Nat.le_refl _⟩
   ·refine F_ (fun e=>?_) hu
    obtain ⟨e1,e2⟩:=e
    subst e1;subst e2
    simp[bq] at hz
   ·obtain ⟨c,e,fr,h1,Y,h3⟩:=hn
    by_cases qy:b=b'
    ·subst qy
     exact ⟨c.setIfInBounds o v,e,fr,by simp[World.setCell,Array.getElem?_modify,h1],by simp[Y],h3⟩
    ·exact ⟨c,e,fr,by simp[World.setCell,Array.getElem?_modify,qy,h1],Y,h3⟩
   ·have eG:b≠b':=fun e=>by
     subst e
     have:=hz o
     simp[bq] at this
    simp[World.setCell,Array.getElem?_modify,eG]
  exact h1.trans ih fun b' i hb hz=>by
   simp only[bq] at hz ⊢
   split at hz
   ·cases hz
   ·rename_i hn;rw[if_neg];omega
theorem rE {w:World} {b o:Nat} {L:List Value} (h:∀ j,j < L.length->(w.cell? ⟨b,o+j,none⟩).isSome=true) (hJ:∀ u ∈ L,u.oneCell'=true):Has (w.setCells b o L) b o L:=by
 intro j u hu
 have hj:=(List.getElem?_eq_some_iff.1 hu)
 obtain ⟨hj,e⟩:=hj
 refine wl ?_ (hJ u (List.mem_of_getElem? hu))
 rw[World.cell?_setCells_in b L o w h j hj,e]
theorem Ga (h:bC P C A σ a w F) (eD:∀ i T,E.TI i=some T->aD P T (.inl i)=true) {t:Nat} {y z:Operand} (ho:o.op=.store t y z) (hd:o.dst=none) (az:bu P y=true/\bu P z=true) {mv:Bool} {K:St->Option R}
  (hk:BE E σ t (bA σ y) (bA σ z) mv K=some x):o.wp P a w (Nx P C K x) Q:=by
 unfold BE at hk
 obtain ⟨T,hT,hk⟩:=cw hk
 have cJ:=eD _ _ hT
 rcases cd h az.1 with hs | ⟨xs,e⟩
 rotate_left
 ·rw[e] at hk;cases hk
 split at hk
 ·rename_i r p snap hv
  rw[hv] at hs
  split at hk
  ·rename_i ik
   split at hk
   ·obtain ⟨pl,b,off,g1,g2,g3,g4⟩:=hs.2 ik
    rcases cd h az.2 with hz | ⟨xs,e⟩
    rotate_left
    ·rw[e] at hk;simp[gI] at hk
    obtain ⟨A',σ',F',m,v,cs,Fv,k1,k2,k3,k4,kr,k5,k6⟩:=mY h hz hk
    obtain ⟨hr,m2,H2,v2,bn,p6,F2,q1,q2,q3,q4,q5,q6⟩:=s7 k3 k1
    have dZ:p6=some (b,off):=by
     unfold place at g1 q2
     cases hR:bp w (tmp a r) (σ'.get r) with
     | none=>rw[hR] at q2;cases q2
     | some R1=>
      rw[hR] at q2
      obtain ⟨H0,nC⟩:=kr w (tmp a r) r R1 hR
      rw[nC] at g1
      have:=(O5 p R1.t g1 q2).2.2
      simp only at this
      rw[this,g2]
    subst dZ
    obtain ⟨vn,gX⟩:=q5 b off rfl
    have hl:=aj.length _ k6
    have oA:=aj.length _ q3
    have hJ:=aj.one _ k6
    have Pa:=aj.one _ q3
    have vv:∀ j,j < cs.length->(w.cell? ⟨b,off+j,none⟩).isSome=true:=fun j hj=>by
     rw[nq (vn j _ (List.getElem?_eq_getElem (by omega))) (Pa _ (List.getElem_mem _))];rfl
    have bh:=run_storeCells_cells (P:=P) b off cs 0 w (by simpa using vv) (fun j hj=>by simpa using gX j (by omega)) hJ
    have Lo:(bm T cs).cells.toList=cs:=fE hl hJ
    have eH:(bm T cs).cells.size=T.sz:=by rw[<-hl,<- Array.length_toList,Lo]
    have dn:(execOp a.eval o).run P w=.ok .skip (w.setCells b off cs):=by
     simp[execOp,ho,g3,k5,Instr.storeAt,Instr.sureAddr,storeVar,run_sizeOf cJ,eH,Lo,bh]
    refine Cc dn hd ?_
    have cI:aj P (w.setCells b off cs) A' T m [] v cs Fv:=by
     refine aj.mono (fun _ _ h=>h) (fun b' i ha u hu=>?_) (kA (b:=b) (o:=off) cs w off).pt _ k6 (fun _ _=>Nat.le_refl _) (fun b' i hp u hu=>?_)
     ·refine (kA (b:=b) (o:=off) cs w off).cell b' i (k3.ez b' i (.inr ha)) ?_ u hu
      have h1:=q4 b' i;have Y:=bk F' hr b' i
      rcases Nat.eq_zero_or_pos (dr (some (b,off)) T.sz b' i) with h0 | h0
      ·rw[hl];exact h0
      ·exact absurd ha (k3.jx b' i (by omega))
     ·have h1:=q4 b' i;have Y:=bk F' hr b' i;have h3:=k3.iP b' i
      refine (kA (b:=b) (o:=off) cs w off).cell b' i (k3.ez b' i (.inl (by omega))) ?_ u hu
      rw[hl]
      show dr (some (b,off)) T.sz b' i=0
      omega
    have ci:Ext w (w.setCells b off cs) (fun b' i=>(0+Fv b' i)+(F2 b' i+dr (some (b,off)) T.sz b' i)):=(kA (b:=b) (o:=off) cs w off).mono fun b' i hz=>by
     have:dr (some (b,off)) T.sz b' i=0:=by have hz:(0+Fv b' i)+(F2 b' i+dr (some (b,off)) T.sz b' i)=0:=hz;omega
     rw[hl];exact this
    obtain ⟨A3,qz,Fr,n1,n2,n3,_⟩:=q6 (w.setCells b off cs) A' cs Fv (fun _ _=>0) ci (fun _ _ h=>h) (fun _ _ h=>.inl h) (fun b i=>by omega) (fun b' o' e=>by
      simp only[Option.some.injEq,Prod.mk.injEq] at e;obtain ⟨rfl,rfl⟩:=e;exact rE vv hJ) (fun e=>by cases e) cI
    exact ⟨qz,n1,A3,_,n3⟩
   ·cases hk
  ·cases hk
 ·cases hk
end
end OT
set_option linter.unusedVariables false
set_option linter.unusedSimpArgs false
namespace OT
open Go
section
variable {P:Program} {w:World} {A:Cells}
theorem Gb:∀ (p q:Path) (t:Ty) {H:List Path} {cs:List Value} {ad:Option (Nat×Nat)},aH w (p++q) t H cs ad=(aH w p t H cs ad).bind fun pl=>aH w q pl.t pl.H pl.cs pl.ad:=by
 intro p
 induction p with
 | nil=>intro q t H cs ad;rfl
 | cons s p ih=>
  intro q t H cs ad
  cases t with
  | pair a b=>
   cases s with
   | fst=>simp only[List.cons_append,aH];split;rfl;exact ih q a
   | snd=>simp only[List.cons_append,aH];split;rfl;exact ih q b
   | _=>simp[aH]
  | U e=>
   cases s with
   | idx i=>
    simp only[List.cons_append,aH]
    split
    ·rfl
    ·split
     ·split
      ·exact ih q e
      ·rfl
     ·rfl
   | _=>simp[aH]
  | arr n e=>
   cases s with
   | je i=>
    simp only[List.cons_append,aH]
    split
    ·split
     ·exact ih q e
     ·rfl
    ·rfl
   | _=>simp[aH]
  | _=>cases s <;> simp[aH]
theorem xf:∀ (p:Path) (t:Ty) {H:List Path} {cs:List Value} {ad:Option (Nat×Nat)} {pl:Pl},aH w p t H cs ad=some pl->sG p t=some pl.t:=by
 intro p
 induction p with
 | nil=>intro t H cs ad pl h;simp only[aH,Option.some.injEq] at h;subst h;rfl
 | cons s p ih=>
  intro t H cs ad pl h
  cases t with
  | pair a b=>
   cases s with
   | fst=>simp only[aH] at h;split at h;cases h;exact ih a h
   | snd=>simp only[aH] at h;split at h;cases h;exact ih b h
   | _=>simp[aH] at h
  | U e=>
   cases s with
   | idx i=>
    simp only[aH] at h
    split at h
    ·cases h
    ·split at h
     ·split at h
      ·exact ih e h
      ·cases h
     ·cases h
   | _=>simp[aH] at h
  | arr n e=>
   cases s with
   | je i=>
    simp only[aH] at h
    split at h
    ·split at h
     ·exact ih e h
     ·cases h
    ·cases h
   | _=>simp[aH] at h
  | _=>cases s <;> simp[aH] at h
theorem Mm:∀ (q:Path) (t:Ty) {m:Md} {H:List Path} {v:t.den} {cs:List Value} {F:FP} {ad:Option (Nat×Nat)} {pl:Pl},aj P w A t m H v cs F->aH w q t H cs ad=some pl ->
  ∃ (m':Md) (v':pl.t.den) (F':FP),aj P w A pl.t m' pl.H v' pl.cs F':=by
 intro q
 induction q with
 | nil=>intro t m H v cs F ad pl hr h;simp only[aH,Option.some.injEq] at h;subst h;exact ⟨m,v,F,hr⟩
 | cons s q ih=>
  intro t m H v cs F ad pl hr h
  cases t with
  | pair a b=>
   obtain ⟨h0,F1,F2,hs,h1,Y⟩:=hr
   cases s with
   | fst=>simp only[aH,h0,if_false] at h;exact ih a h1 h
   | snd=>simp only[aH,h0,if_false] at h;exact ih b Y h
   | _=>simp[aH] at h
  | U e=>
   cases s with
   | idx i=>
    simp only[aj] at hr
    simp only[aH] at h
    split at h
    ·cases h
    ·rename_i hh
     rw[if_neg hh] at hr
     split at hr
     ·obtain ⟨a,cap,rfl,Y,h3,h4,h5⟩:=hr
      cases a with
      | none=>cases h
      | some cc=>
       obtain ⟨g1,g2,g3,Fi,g4,g5⟩:=h5 cc rfl
       simp only at h
       split at h
       ·rename_i hi
        obtain ⟨L,hl,hL,cI⟩:=g5 i _ (List.getElem?_eq_getElem hi)
        rw[g1,Nat.zero_add,bB hL hl] at h
        exact ih e cI h
       ·cases h
     ·obtain ⟨rfl,kP,a,cap,rfl,Y,h3,h4⟩:=hr
      cases a with
      | none=>cases h
      | some cc=>
       simp only at h
       split at h
       ·rename_i hi
        obtain ⟨L,hl,hL,cI⟩:=(h4 cc rfl).2 i _ (List.getElem?_eq_getElem hi)
        rw[bB (fun j u hu=>(hL j u hu).1) hl] at h
        exact ih e (Ro.rep e (fun _ _=>0) kP cI) h
       ·cases h
   | _=>simp[aH] at h
  | arr n e=>
   cases s with
   | je i=>
    obtain ⟨rfl,hf,hl,hlen,hr⟩:=hr
    simp only[aH,List.isEmpty_nil,if_true] at h
    split at h
    ·rename_i hi
     exact ih e (Ro.flat e (m:=.leaf) (fun _ _=>0) hf (hr i _ (List.getElem?_eq_getElem (by rw[hl];exact hi)))) h
    ·cases h
   | _=>simp[aH] at h
  | _=>cases s <;> simp[aH] at h
def dy:Nat->Ty->Nat
 | j+1,.pair a b=>a.sz+dy j b
 | _,_=>0
theorem DZ (ad:Option (Nat×Nat)):cG ad 0=ad:=by cases ad <;> simp[cG]
theorem Gc (ad:Option (Nat×Nat)) (j k:Nat):cG (cG ad j) k=cG ad (j+k):=by cases ad <;> simp[cG,Nat.add_assoc]
theorem E1:∀ (j:Nat) (S:Ty) {t':Ty} {m:Md} {H:List Path} {v:S.den} {cs:List Value} {F:FP} {ad:Option (Nat×Nat)},aj P w A S m H v cs F->mG j S=some t' ->
  ∃ H',aH w (g_ j) S H cs ad=some ⟨t',H',(cs.drop (dy j S)).take t'.sz,cG ad (dy j S)⟩:=by
 intro j
 induction j with
 | zero=>
  intro S t' m H v cs F ad hr h
  cases S with
  | pair a b=>
   injection h with h;subst h
   obtain ⟨h0,F1,F2,hs,h1,Y⟩:=hr
   exact ⟨_,by simp only[g_,aH,h0,Bool.false_eq_true,if_false,dy,List.drop_zero,DZ];rfl⟩
  | _=>cases h
 | succ j ih=>
  intro S t' m H v cs F ad hr h
  cases S with
  | pair a b=>
   obtain ⟨h0,F1,F2,hs,h1,Y⟩:=hr
   obtain ⟨H',e⟩:=ih b (ad:=cG ad a.sz) Y h
   exact ⟨H',by simp only[g_,aH,h0,Bool.false_eq_true,if_false,dy];rw[e,List.drop_drop,Gc]⟩
  | _=>cases h
theorem JL:∀ (j:Nat) (T:Ty) {t:Ty},sG (g_ j) T=some t->∃ t2,mG j T=some t2:=by
 intro j
 induction j with
 | zero=>intro T t h;cases T <;> first | exact ⟨_,rfl⟩ | (simp[g_,sG] at h;done)
 | succ j ih=>intro T t h;cases T <;> first | (simp[g_,sG] at h;done) | exact ih _ (by simpa [g_,sG] using h)
theorem E2:∀ (j:Nat) (S:Ty) {t':Ty} {fs:List Field} {off:Nat},aD P S (.inr (fs,off))=true->mG j S=some t' ->
  ∃ f,fs[j]?=some f/\f.offset=off+dy j S/\aD P t' (.inl f.type)=true/\1<=t'.sz:=by
 intro j
 induction j with
 | zero=>
  intro S t' fs off hl h
  cases S with
  | pair a b=>
   injection h with h;subst h
   cases fs with
   | nil=>simp[aD] at hl
   | cons f r=>
    simp only[aD,Bool.and_eq_true,Nat.beq_eq,Nat.ble_eq] at hl
    exact ⟨f,rfl,by simp[dy,hl.1.1.1],hl.1.2,hl.1.1.2⟩
  | _=>cases h
 | succ j ih=>
  intro S t' fs off hl h
  cases S with
  | pair a b=>
   cases fs with
   | nil=>simp[aD] at hl
   | cons f r=>
    simp only[aD,Bool.and_eq_true,Nat.beq_eq,Nat.ble_eq] at hl
    obtain ⟨f',h1,Y,h3⟩:=ih b hl.2 h
    exact ⟨f',by simpa using h1,by rw[Y,dy];omega,h3⟩
  | _=>cases h
theorem x9 {j:Nat} {S t':Ty} {i:TypeId} (hl:aD P S (.inl i)=true) (h:mG j S=some t') :
  ∃ fs f,P.underlying i=some (.struct fs)/\fs[j]?=some f/\f.offset=dy j S/\aD P t' (.inl f.type)=true/\1<=t'.sz:=by
 cases S with
 | pair a b=>
  simp only[aD,Bool.and_eq_true] at hl
  have Y:=hl.2
  split at Y
  ·rename_i fs hu
   split at Y
   ·rename_i f r vw
    have h3:aD P (.pair a b) (.inr (f::r,0))=true:=by
     simp only[aD,Nat.zero_add];exact Y
    obtain ⟨f',q1,q2,q3,q4⟩:=E2 j (.pair a b) h3 h
    refine ⟨fs,f',hu,?_,by omega,q3,q4⟩
    rw[<-vw] at q1
    simpa using q1
   ·cases Y
  ·cases Y
 | _=>cases j <;> cases h
theorem mZ {t:Ty} {i:TypeId} (h:aD P t (.inl i)=true) {cs:Array Value} {off:Nat} (hl:((cs.toList.drop off).take t.sz).length=t.sz):(part i cs off).run P w=.ok (bm t ((cs.toList.drop off).take t.sz)) w:=by
 unfold part
 simp only[Sem.run_bind,vu h,Result.andThen_ok]
 cases ht:isAgg t with
 | true=>
  simp only[if_true,Sem.run_bind,run_sizeOf h,Result.andThen_ok,Sem.run_pure,bm,ht]
  congr 2
  apply Array.ext'
  simp[Array.toList_extract,List.extract_eq_take_drop]
 | false=>
  have hs:=xe ht
  rw[hs] at hl ⊢
  have ho:off < cs.size:=by simp at hl;omega
  have e:(cs.toList.drop off).take 1=[cs[off]]:=by
   rw[List.take_one];simp[ho]
  simp only[Bool.false_eq_true,if_false,bm,ht,e,List.headD_cons]
  simp[ho]
end
section
variable {P:Program} {C:Ctx} {A:Cells} {X:FP} {σ:St} {a:Act} {w:World} {F:Nat->FP} {R:Type} {x:R} {Q:Exit->Act->World->Prop} {o:Oper} {E:Env}
theorem Ah (h:Rel P C A X σ a w F) {r:Nat} {p:Path} {pl:Pl} (hp:place σ a w r p=some pl):∃ (m':Md) (v':pl.t.den) (F':FP),aj P w A pl.t m' pl.H v' pl.cs F':=by
 have ai:=mV hp
 unfold place at hp
 cases hR:bp w (tmp a r) (σ.get r) with
 | none=>rw[hR] at hp;cases hp
 | some R0=>
  rw[hR] at hp
  obtain ⟨m0,v0,F1,q1,q2,q3,_⟩:=qF (h.dx r ai) hR
  exact Mm p R0.t q1 hp
theorem lQ (r:Nat) (p q:Path):place σ a w r (p++q)=(place σ a w r p).bind fun pl=>aH w q pl.t pl.H pl.cs pl.ad:=by
 unfold place
 cases bp w (tmp a r) (σ.get r) with
 | none=>rfl
 | some R0=>exact Gb p q R0.t
theorem x_ {r:Nat} {p:Path} {pl:Pl} (hp:place σ a w r p=some pl):w4 σ r p=some pl.t:=by
 unfold place at hp
 unfold w4 BD
 cases hg:σ.get r with
 | own t m H v=>rw[hg] at hp;simp only[bp,Option.bind_some] at hp;exact xf p t hp
 | box t m H v=>
  rw[hg] at hp
  simp only[bp] at hp
  split at hp
  ·exact xf p t hp
  ·cases hp
 | _=>rw[hg] at hp;simp[bp] at hp
theorem JM (p:Path) (j:Nat):br (p++g_ j)=br p:=by
 induction p with
 | nil=>induction j with
  | zero=>rfl
  | succ j ih=>simpa [g_,br] using ih
 | cons s p ih=>cases s <;> simp only[List.cons_append,br,ih]
theorem Ai {A':Cells}:∀ (j:Nat) (S:Ty) {v:S.den} {K:(t':Ty)->t'.den->Option R} {cs:List Value},FO j S v K=some x->Ro P w A' S v cs ->
  ∃ t' v',mG j S=some t'/\K t' v'=some x/\Ro P w A' t' v' ((cs.drop (dy j S)).take t'.sz):=by
 intro j
 induction j with
 | zero=>
  intro S v K cs h hr
  cases S with
  | pair a b=>exact ⟨a,v.1,rfl,h,by simp only[dy,List.drop_zero];exact hr.1⟩
  | _=>cases h
 | succ j ih=>
  intro S v K cs h hr
  cases S with
  | pair a b=>
   obtain ⟨t',v',h1,Y,h3⟩:=ih b (v:=v.2) h hr.2
   exact ⟨t',v',h1,Y,by rw[dy,<- List.drop_drop];exact h3⟩
  | _=>cases h
theorem A4 (h:bC P C A σ a w F) {y:Operand} (ho:o.op=.nilCheck y) (az:bu P y=true) {K:St->Option R}
  (hk:(match bA σ y with
  | .ptr r p snap=>if σ.ok r snap then K (σ.aQ o.dst (.ptr r p snap)) else none
  | .cp t v=>K (σ.aQ o.dst (.cp t v))
  | .val .fn f=>K (σ.aQ o.dst (.val .fn f))
  | _=>none)=some x):Tk P o a w (Nx P C K x):=by
 rcases cd h az with hs | ⟨xs,e⟩
 rotate_left
 ·rw[e] at hk;cases hk
 split at hk
 ·rename_i r p snap hv
  rw[hv] at hs
  split at hk
  ·rename_i ik
   obtain ⟨pl,b,off,g1,g2,g3,g4⟩:=hs.2 ik
   exact cz (v:=a.eval y) (by simp[execOp,ho,g3]) (aV h hk hs (fun _ _ _ _ e=>by cases e))
  ·cases hk
 ·rename_i t v hv
  rw[hv] at hs
  obtain ⟨ad,h1,_⟩:=id hs
  simp only[List.cons.injEq,and_true] at h1
  exact cz (v:=a.eval y) (by simp[execOp,ho,h1]) (aV h hk hs (fun _ _ _ _ e=>by cases e))
 ·rename_i f hv
  rw[hv] at hs
  obtain ⟨cs,h1,qk,Y,_⟩:=id hs
  subst Y
  exact cz (v:=a.eval y) (by simp[execOp,ho,h1,bm,isAgg]) (aV h hk hs (fun _ _ _ _ e=>by cases e))
 ·cases hk
theorem zD (h:bC P C A σ a w F) (eD:∀ i T,E.TI i=some T->aD P T (.inl i)=true) {S:Nat} {y:Operand} {j:Nat} (ho:o.op=.fieldAddr S y j) (az:bu P y=true) {K:St->Option R}
  (hk:tt E σ S (bA σ y) j o.dst K=some x):Tk P o a w (Nx P C K x):=by
 unfold tt at hk
 obtain ⟨T,hT,hk⟩:=cw hk
 have cJ:=eD _ _ hT
 have run:∀ t' b off,mG j T=some t'->a.eval y=.pointer (some ⟨b,off,none⟩)->∀ w',l5 o w w'->(execOp a.eval o).run P w'=.ok (.value (.pointer (some ⟨b,off+dy j T,none⟩))) w':=fun t' b off ht hy w' _=>by
  obtain ⟨fs,f,h1,Y,h3,h4,h5⟩:=x9 cJ ht
  have eH:=run_sizeOf (P:=P) (w:=w') h4
  have eG:¬ t'.sz=0:=by omega
  simp[execOp,ho,hy,Instr.fieldAt,Instr.sureAddr,run_underlying h1,Y,fieldPlace,eH,eG,jO,h3]
 rcases cd h az with hs | ⟨xs,e⟩
 rotate_left
 ·rw[e] at hk;cases hk
 split at hk
 ·rename_i t' v hv
  rw[hv] at hs
  split at hk
  ·rename_i e;subst e
   obtain ⟨⟨b,off,sp⟩,h1,Y,L,h3,h4,h5⟩:=hs
   simp only[List.cons.injEq,and_true] at h1
   simp only at Y;subst Y
   obtain ⟨t2,v2,q1,q2,q3⟩:=Ai j t' hk h5
   refine cz (run t2 b off q1 h1) (aV h q2 ⟨_,rfl,rfl,_,Ro.length _ q3,fun k u hu=>?_,q3⟩ (fun _ _ _ _ e=>by cases e))
   rw[List.getElem?_take] at hu
   split at hu
   ·rw[List.getElem?_drop] at hu
    have:=h4 _ u hu
    simpa [Nat.add_assoc] using this
   ·cases hu
  ·cases hk
 ·rename_i r p snap hv
  rw[hv] at hs
  split at hk
  ·rename_i ik
   split at hk
   ·rename_i rF
    split at hk
    ·rename_i hf
     obtain ⟨pl,b,off,g1,g2,g3,g4⟩:=hs.2 ik
     rw[x_ g1] at rF
     injection rF with rF
     obtain ⟨t',uM⟩:=Option.isSome_iff_exists.1 hf
     refine cz (run t' b off uM g3) (aV h hk ⟨hs.1,fun _=>?_⟩ (fun _ _ _ _ e=>by cases e))
     obtain ⟨m',v',F',cI⟩:=Ah h g1
     obtain ⟨tp,Hp,Lp,H6⟩:=pl
     simp only at rF g2 cI
     subst rF
     obtain ⟨H',e⟩:=E1 (ad:=H6) j tp cI uM
     refine ⟨⟨t',H',(Lp.drop (dy j tp)).take t'.sz,cG H6 (dy j tp)⟩,b,off+dy j tp,?_,?_,rfl,by rw[JM];exact g4⟩
     ·rw[lQ,g1];exact e
     ·simp[cG,g2]
    ·cases hk
   ·cases hk
  ·cases hk
 ·cases hk
theorem Gd (h:bC P C A σ a w F) (eD:∀ i T,E.TI i=some T->aD P T (.inl i)=true) {S:Nat} {y:Operand} {j:Nat} (ho:o.op=.field S y j) (az:bu P y=true) {K:St->Option R}
  (hk:zo E σ S (bA σ y) j o.dst K=some x):Tk P o a w (Nx P C K x):=by
 unfold zo at hk
 obtain ⟨T,hT,hk⟩:=cw hk
 have cJ:=eD _ _ hT
 have run:∀ t' cs,mG j T=some t'->a.eval y=bm T cs->((cs.drop (dy j T)).take t'.sz).length=t'.sz->∀ w',l5 o w w'->(execOp a.eval o).run P w'=.ok (.value (bm t' ((cs.drop (dy j T)).take t'.sz))) w':=fun t' cs ht hy hl w' _=>by
  obtain ⟨fs,f,h1,Y,h3,h4,h5⟩:=x9 cJ ht
  have Rc:bm T cs=.agg cs.toArray:=by cases T <;> first | rfl | (cases j <;> cases ht)
  have:=mZ (P:=P) (w:=w') h4 (cs:=cs.toArray) (off:=dy j T) (by simpa using hl)
  simp only[List.toList_toArray] at this
  simp[execOp,ho,hy,Rc,Instr.field,run_underlying h1,Y,asAgg,h3,this]
 rcases cd h az with hs | ⟨xs,e⟩
 rotate_left
 ·rw[e] at hk;cases hk
 split at hk
 ·rename_i t' v hv
  rw[hv] at hs
  split at hk
  ·rename_i e;subst e
   obtain ⟨cs,h1,Y⟩:=hs
   obtain ⟨t2,v2,q1,q2,q3⟩:=Ai j t' hk Y
   exact cz (run t2 cs q1 h1 (Ro.length _ q3)) (aV h q2 ⟨_,rfl,q3⟩ (fun _ _ _ _ e=>by cases e))
  ·cases hk
 ·rename_i r p snap hv
  rw[hv] at hs
  split at hk
  ·rename_i ik
   split at hk
   ·rename_i rF
    obtain ⟨hr,t',m',H',v',aL,a_,F',h1,Y,h3,h4,h5,h6⟩:=fw h hk
    obtain ⟨pl,g1,g2,g3⟩:=hs.2 ik
    rw[x_ g1] at rF
    injection rF with rF
    obtain ⟨m0,v0,F0,cI⟩:=Ah h g1
    obtain ⟨tp,Hp,Lp,H6⟩:=pl
    simp only at rF g2 cI
    subst rF
    have hf:∃ t2,mG j tp=some t2:=by
     have h7:=h3
     rw[lQ,g1] at h7
     exact JL j tp (xf _ _ h7)
    obtain ⟨t2,P8⟩:=hf
    obtain ⟨H2,e⟩:=E1 (ad:=H6) j tp cI P8
    have dZ:place σ a w r (p++g_ j)=some ⟨t2,H2,(Lp.drop (dy j tp)).take t2.sz,cG H6 (dy j tp)⟩:=by rw[lQ,g1];exact e
    rw[dZ] at h3
    injection h3 with h3
    simp only[Pl.mk.injEq] at h3
    obtain ⟨rfl,rfl,rfl,rfl⟩:=h3
    refine cz (run t2 Lp P8 g2 (aj.length _ h4)) ?_
    split at h1
    ·rename_i hc
     split at h1
     ·rename_i hH
      have hH:=List.isEmpty_iff.1 hH;subst hH
      refine aV h h1 ⟨_,rfl,?_⟩ (fun _ _ _ _ e=>by cases e)
      simp only[Bool.or_eq_true,decide_eq_true_eq] at hc
      rcases hc with hc | hc
      ·exact aj.flat _ hc h4
      ·subst hc;exact aj.ro _ (cZ _) h4
     ·cases h1
    ·exact aV h h1 (xZ h dZ) (fun _ _ _ _ e=>by cases e)
   ·cases hk
  ·cases hk
 ·cases hk
end
end OT
set_option linter.unusedVariables false
set_option linter.unusedSimpArgs false
namespace OT
open Go
section
variable {P:Program} {C:Ctx} {A:Cells} {X:FP} {σ:St} {a:Act} {w:World} {F:Nat->FP} {R:Type} {x:R} {Q:Exit->Act->World->Prop} {o:Oper} {E:Env}
theorem xg {n:Int} {len:Nat} {K:Nat->Option R} (h:HD n len K=some x):0<=n/\n < (len:Int)/\K n.toNat=some x:=by
 unfold HD at h
 split at h
 ·rename_i hc;exact ⟨hc.1,hc.2,h⟩
 ·cases h
theorem bind_some {α:Type} {o:Option α} {K:α->Option R} (h:o.bind K=some x):∃ y,o=some y/\K y=some x:=by
 cases o with
 | none=>cases h
 | some y=>exact ⟨y,rfl,h⟩
theorem mC {e:Ty} {i:TypeId} (h:aD P (.U e) (.inl i)=true):∃ el,P.underlying i=some (.slice el)/\1<=e.sz/\aD P e (.inl el)=true:=by
 simp only[aD,Bool.and_eq_true] at h
 have Y:=h.2
 split at Y
 ·rename_i el hu;simp only[Bool.and_eq_true,Nat.ble_eq] at Y;exact ⟨el,hu,Y.1,Y.2⟩
 ·cases Y
theorem E3 {n:Nat} {e:Ty} {i:TypeId} (h:aD P (.arr n e) (.inl i)=true):∃ el,P.underlying i=some (.array n el)/\1<=e.sz/\aD P e (.inl el)=true:=by
 simp only[aD,Bool.and_eq_true] at h
 have Y:=h.2
 split at Y
 ·rename_i n' el hu;simp only[Bool.and_eq_true,Nat.ble_eq,Nat.beq_eq] at Y;rw[Y.1.1];exact ⟨el,hu,Y.1.2,Y.2⟩
 ·cases Y
theorem gf {i:TypeId} (h:aD P .str (.inl i)=true):P.underlying i=some .string:=by
 simp only[aD,Bool.and_eq_true] at h
 have Y:=h.2
 split at Y
 ·assumption
 ·cases Y
theorem jI {k:IntKind} {i:TypeId} (h:aD P (.int k) (.inl i)=true):P.underlying i=some (.int k):=by
 simp only[aD,Bool.and_eq_true] at h
 have Y:=h.2
 split at Y
 ·rename_i k' hu;simp only[decide_eq_true_eq] at Y;rw[Y];exact hu
 ·cases Y
theorem D0 (p q:Path):br (p++q)=br p+br q:=by
 induction p with
 | nil=>simp[br]
 | cons s p ih=>cases s <;> simp only[List.cons_append,br,ih] <;> omega
theorem ya (h:Rel P C A X σ a w F) {r:Nat} {p:Path} {pl:Pl} {b off:Nat} (hp:place σ a w r p=some pl) (c8:pl.ad=some (b,off)):sZ σ a w (.pointer (some ⟨b,off,none⟩)) r p (ov σ r p):=by
 have h5:=h.fD r
 refine ⟨?_,fun _=>⟨pl,b,off,hp,c8,rfl,by unfold ov;rw[List.length_take,h5];omega⟩⟩
 unfold ov
 intro j y hj;rw[List.getElem?_take] at hj;split at hj;exact ⟨y,hj,Nat.le_refl _⟩;cases hj
theorem zE (h:bC P C A σ a w F) (eD:∀ i T,E.TI i=some T->aD P T (.inl i)=true) {t:Nat} {y z:Operand} (ho:o.op=.indexAddr t y z) (az:bu P y=true/\bu P z=true) {K:St->Option R}
  (hk:tu E σ t (bA σ y) (bA σ z) o.dst K=some x):Tk P o a w (Nx P C K x):=by
 unfold tu at hk
 obtain ⟨T,hT,hk⟩:=cw hk
 have cJ:=eD _ _ hT
 rcases cd h az.2 with hz | ⟨xs,e⟩
 rotate_left
 ·rw[e] at hk;cases hk
 obtain ⟨kz,n,Cd,hk⟩:=lT hz hk
 have vx:∀ e ad len cap,T=.U e->a.eval y=.slice (some ad) len cap->ad.spot=none->0<=n->n < (len:Int)->∀ w',l5 o w w'->(execOp a.eval o).run P w'=.ok (.value (.pointer (some ⟨ad.block,ad.off+n.toNat*e.sz,none⟩))) w':=fun e ad len cap kB hy jq h0 h1 w' _=>by
  subst kB
  obtain ⟨el,hu,_,hle⟩:=mC cJ
  obtain ⟨b,off,sp⟩:=ad
  simp only at jq;subst jq
  have eH:=run_sizeOf (P:=P) (w:=w') hle
  simp[execOp,ho,hy,Cd,Instr.indexAt,asIntOf,run_underlying hu,h0,h1,eH,jO]
 have Nz:∀ m e b off,T=.arr m e->a.eval y=.pointer (some ⟨b,off,none⟩)->0<=n->n < (m:Int)->∀ w',l5 o w w'->(execOp a.eval o).run P w'=.ok (.value (.pointer (some ⟨b,off+n.toNat*e.sz,none⟩))) w':=fun m e b off kB hy h0 h1 w' _=>by
  subst kB
  obtain ⟨el,hu,_,hle⟩:=E3 cJ
  have eH:=run_sizeOf (P:=P) (w:=w') hle
  simp[execOp,ho,hy,Cd,Instr.indexAt,asIntOf,run_underlying hu,h0,h1,eH,jO,Instr.sureAddr]
 have P9:∀ (e:Ty) (v:List e.den) (tv:Value) (yv:e.den),T=.U e->a.eval y=tv->Ro P w A (.U e) v [tv]->0<=n->v[n.toNat]?=some yv->K (σ.aQ o.dst (.cp e yv))=some x->Tk P o a w (Nx P C K x):=fun e v tv yv kB hy lK h0 uN hk=>by
  obtain ⟨xa,cap,h1,Y,h3,h4⟩:=lK
  simp only[List.cons.injEq,and_true] at h1
  subst h1
  have ai:=(List.getElem?_eq_some_iff.1 uN).1
  cases xa with
  | none=>have:=h3 rfl;omega
  | some ad=>
   obtain ⟨g1,g2⟩:=h4 ad rfl
   obtain ⟨L,l1,l2,l3⟩:=g2 _ _ uN
   exact cz (vx e ad _ cap kB hy (g1 (by omega)) h0 (by omega)) (aV h hk ⟨_,rfl,rfl,L,l1,l2,l3⟩ (fun _ _ _ _ e=>by cases e))
 rcases cd h az.1 with hs | ⟨xs,e⟩
 rotate_left
 ·rw[e] at hk;cases hk
 split at hk
 ·rename_i e v hv
  rw[hv] at hs
  split at hk
  ·rename_i kB
   split at hk
   ·rename_i h0
    obtain ⟨yv,uN,hk⟩:=bind_some hk
    obtain ⟨cs,h1,Y⟩:=hs
    have hl:=Ro.length _ Y
    match cs,hl with
    | [tv],_=>exact P9 e v tv yv kB (by rw[h1,bz _ _ rfl]) Y h0 uN hk
   ·cases hk
  ·cases hk
 ·rename_i m e v hv
  rw[hv] at hs
  split at hk
  ·rename_i kB
   split at hk
   ·rename_i h0
    obtain ⟨yv,uN,hk⟩:=bind_some hk
    obtain ⟨⟨b,off,sp⟩,h1,Y,L,h3,h4,h5⟩:=hs
    simp only[List.cons.injEq,and_true] at h1
    simp only at Y;subst Y
    obtain ⟨q1,q2,q3,q4⟩:=h5
    have ai:n.toNat < m:=q2 ▸ (List.getElem?_eq_some_iff.1 uN).1
    have lK:=q4 _ _ uN
    refine cz (Nz m e b off kB h1 h0 (by omega)) (aV h hk ⟨_,rfl,rfl,_,Ro.length _ lK,fun k u hu=>?_,lK⟩ (fun _ _ _ _ e=>by cases e))
    rw[List.getElem?_take] at hu
    split at hu
    ·rw[List.getElem?_drop] at hu
     have:=h4 _ u hu
     simp only[<-Nat.add_assoc] at this
     exact this
    ·cases hu
   ·cases hk
  ·cases hk
 ·rename_i r p snap hv
  rw[hv] at hs
  split at hk
  ·rename_i ik
   obtain ⟨hr,t',m',H',v',aL,a_,F',h1,Y,h3,h4,h5,h6⟩:=fw h hk
   obtain ⟨pl,g1,g2,g3⟩:=hs.2 ik
   rw[h3] at g1
   injection g1 with g1
   subst g1
   simp only at g2
   split at h1
   ·cases h1
   ·rename_i hH
    have hH:hole H'=false:=Bool.eq_false_iff.2 hH
    split at h1
    ·rename_i kB
     split at h1
     ·rename_i e Ce
      have hl:=aj.length _ h4
      split at h1
      ·rename_i dm
       obtain ⟨i0,i1,h1⟩:=xg h1
       have cI:=h4
       simp only[aj,hH,Bool.false_eq_true,if_false,dm,if_true] at cI
       obtain ⟨xa,cap,rfl,q2,q3,q4,q5⟩:=cI
       cases xa with
       | none=>have:=q4 rfl;omega
       | some cc=>
        obtain ⟨r1,r2,r3,Fi,r4,r5⟩:=q5 cc rfl
        rw[bz _ _ rfl] at g2
        have ai:n.toNat < List.length Ce:=by omega
        refine cz (vx e cc _ cap kB.symm g2 r2 i0 i1) (aV h h1 (ya (pl:=⟨e,H'.filterMap (gm n.toNat),rd w cc.block (cc.off+n.toNat*e.sz) e.sz,some (cc.block,cc.off+n.toNat*e.sz)⟩) h ?_ rfl) (fun _ _ _ _ e=>by cases e))
        rw[lQ,h3]
        simp only[Option.bind_some,aH,hH,Bool.false_eq_true,if_false,ai,if_true]
      ·rename_i dm
       split at h1
       ·rename_i h0
        obtain ⟨yv,uN,h1⟩:=bind_some h1
        have cI:=h4
        simp only[aj,hH,Bool.false_eq_true,if_false,dm] at cI
        match aL,hl with
        | [tv],_=>
         rw[bz _ _ rfl] at g2
         exact P9 e Ce tv yv kB.symm g2 cI.2.2 h0 uN h1
       ·cases h1
     ·cases h1
    ·cases h1
  ·cases hk
 ·rename_i r p snap lo hi hv
  rw[hv] at hs
  split at hk
  ·rename_i ik
   obtain ⟨hr,t',m',H',v',aL,a_,F',h1,Y,h3,h4,h5,h6⟩:=fw h hk
   obtain ⟨pl,e,xa,len,cap,nD,cap',g1,g2,g3,g4,g5,g6,g7,Cb,g8,g9,g10⟩:=hs.2 ik
   rw[h3] at g1
   injection g1 with g1
   subst g1
   simp only at g2 g3
   subst g2;subst g3
   split at h1
   ·cases h1
   ·rename_i hH
    have hH:hole H'=false:=Bool.eq_false_iff.2 hH
    split at h1
    ·rename_i kB
     obtain ⟨i0,i1,h1⟩:=xg h1
     have nG:∃ cc,xa=some cc/\cc.spot=none:=by
      simp only[aj,hH,Bool.false_eq_true,if_false] at h4
      cases xa with
      | none=>
       split at h4
       ·obtain ⟨E4,tK,q1,q2,q3,q4,_⟩:=h4
        simp only[List.cons.injEq,Value.slice.injEq,and_true] at q1
        have:=q4 q1.1.symm;omega
       ·obtain ⟨_,_,E4,tK,q1,q2,q3,_⟩:=h4
        simp only[List.cons.injEq,Value.slice.injEq,and_true] at q1
        have:=q3 q1.1.symm;omega
      | some cc=>
       refine ⟨cc,rfl,?_⟩
       split at h4
       ·obtain ⟨E4,tK,q1,q2,q3,q4,q5⟩:=h4
        simp only[List.cons.injEq,Value.slice.injEq,and_true] at q1
        exact (q5 cc q1.1.symm).2.1
       ·obtain ⟨_,_,E4,tK,q1,q2,q3,q4⟩:=h4
        simp only[List.cons.injEq,Value.slice.injEq,and_true] at q1
        exact (q4 cc q1.1.symm).1 (by have:=q1.2.1;have:=q1.2.2;omega)
     obtain ⟨cc,rfl,jq⟩:=nG
     obtain ⟨sf,e1,e2,e3,e4⟩:=g9 cc rfl
     subst e1
     have e4:=e4 (by omega)
     refine cz (vx e sf _ cap' kB.symm g6 (e2.trans jq) i0 i1) ?_
     have Cf:(⟨sf.block,sf.off+n.toNat*e.sz,none⟩:Addr)=⟨cc.block,cc.off+(lo+n.toNat)*e.sz,none⟩:=by
      rw[e3,e4,Nat.add_mul,Nat.add_assoc]
     rw[Cf]
     have ai:lo+n.toNat < len:=by omega
     refine aV h h1 (ya (pl:=⟨e,H'.filterMap (gm (lo+n.toNat)),rd w cc.block (cc.off+(lo+n.toNat)*e.sz) e.sz,some (cc.block,cc.off+(lo+n.toNat)*e.sz)⟩) h ?_ rfl) (fun _ _ _ _ e=>by cases e)
     rw[lQ,h3]
     simp only[Option.bind_some,aH,hH,Bool.false_eq_true,if_false,ai,if_true]
    ·cases h1
  ·cases hk
 ·rename_i r p snap hv
  rw[hv] at hs
  split at hk
  ·rename_i ik
   obtain ⟨hr,t',m',H',v',aL,a_,F',h1,Y,h3,h4,h5,h6⟩:=fw h hk
   obtain ⟨pl,b,off,g1,g2,g3,g4⟩:=hs.2 ik
   rw[h3] at g1
   injection g1 with g1
   subst g1
   simp only at g2
   subst g2
   split at h1
   ·rename_i kB
    split at h1
    ·rename_i m e Ce
     obtain ⟨i0,i1,h1⟩:=xg h1
     obtain ⟨hH,hf,hl,hlen,lK⟩:=h4
     subst hH
     have ai:n.toNat < m:=by omega
     refine cz (Nz m e b off kB.symm g3 i0 (by omega)) (aV h h1 ⟨hs.1,fun _=>⟨⟨e,[],(aL.drop (n.toNat*e.sz)).take e.sz,some (b,off+n.toNat*e.sz)⟩,b,off+n.toNat*e.sz,?_,rfl,rfl,?_⟩⟩ (fun _ _ _ _ e=>by cases e))
     ·rw[lQ,h3]
      simp only[Option.bind_some,aH,List.isEmpty_nil,if_true,ai,cG,Option.map_some]
     ·rw[D0];exact g4
    ·cases h1
   ·cases h1
  ·cases hk
 ·cases hk
end
end OT
set_option linter.unusedVariables false
set_option linter.unusedSimpArgs false
namespace OT
open Go
section
variable {P:Program} {C:Ctx} {A:Cells} {X:FP} {σ:St} {a:Act} {w:World} {F:Nat->FP} {R:Type} {x:R} {Q:Exit->Act->World->Prop} {o:Oper} {E:Env}
theorem H7 (s:List UInt8) (n:Nat):(⟨s.toArray⟩:ByteArray)[n]?=s[n]?:=by
 by_cases h:n < s.length
 ·have h1:n < (⟨s.toArray⟩:ByteArray).size:=by simpa [ByteArray.size] using h
  rw[getElem?_pos _ n h1,List.getElem?_eq_getElem h]
  rfl
 ·have h1:¬ n < (⟨s.toArray⟩:ByteArray).size:=by simpa [ByteArray.size] using h
  rw[getElem?_neg _ n h1,List.getElem?_eq_none (Nat.le_of_not_lt h)]
theorem Ge (h:bC P C A σ a w F) (eD:∀ i T,E.TI i=some T->aD P T (.inl i)=true) {t:Nat} {y z:Operand} (ho:o.op=.index t y z) (az:bu P y=true/\bu P z=true) {K:St->Option R}
  (hk:BF E σ t (bA σ y) (bA σ z) o.dst K=some x):Tk P o a w (Nx P C K x):=by
 unfold BF at hk
 have Cg:=cw hk
 clear hk
 obtain ⟨T,hT,gD⟩:=Cg
 have cJ:=eD _ _ hT
 rcases cd h az.2 with hz | ⟨xs,e⟩
 rotate_left
 ·rw[e] at gD;cases gD
 have Sn:=lT hz gD
 clear gD
 obtain ⟨kz,n,Cd,hk⟩:=Sn
 rcases cd h az.1 with hs | ⟨xs,e⟩
 rotate_left
 ·rw[e] at hk;cases hk
 split at hk
 ·rename_i s hv
  rw[hv] at hs
  split at hk
  ·rename_i kB;subst kB
   split at hk
   ·rename_i h0
    obtain ⟨c,hc,hk⟩:=bind_some hk
    obtain ⟨cs,h1,Y⟩:=hs
    simp only[Ro] at Y;subst Y
    have hb:=H7 s n.toNat
    rw[hc] at hb
    refine cz (v:=.int .u8 c.toNat) ?_ (aV h hk ⟨[_],rfl,rfl⟩ (fun _ _ _ _ e=>by cases e))
    simp[execOp,ho,h1,bm,isAgg,Cd,Instr.index,asIntOf,run_underlying (gf cJ),h0,hb]
   ·cases hk
  ·cases hk
 ·rename_i m e v hv
  rw[hv] at hs
  split at hk
  ·rename_i kB;subst kB
   split at hk
   ·rename_i h0
    obtain ⟨yv,uN,hk⟩:=bind_some hk
    obtain ⟨cs,h1,Y⟩:=hs
    obtain ⟨q1,q2,q3,q4⟩:=id Y
    obtain ⟨el,hu,_,hle⟩:=E3 cJ
    have ai:n.toNat < m:=q2 ▸ (List.getElem?_eq_some_iff.1 uN).1
    have oc:n < (m:Int):=by omega
    have lK:=q4 _ _ uN
    refine cz (v:=bm e ((cs.drop (n.toNat*e.sz)).take e.sz)) (fun w' _=>?_) (aV h hk ⟨_,rfl,lK⟩ (fun _ _ _ _ e=>by cases e))
    have hp:=mZ (P:=P) (w:=w') hle (cs:=cs.toArray) (off:=n.toNat*e.sz) (by simpa using Ro.length _ lK)
    simp only[List.toList_toArray] at hp
    have eH:=run_sizeOf (P:=P) (w:=w') hle
    simp[execOp,ho,h1,bm,isAgg,Cd,Instr.index,asIntOf,run_underlying hu,h0,oc,eH,hp]
   ·cases hk
  ·cases hk
 ·cases hk
theorem rG {t:Ty} {m:Md} {H:List Path} {e:Ty} {v:List e.den} {cs:List Value} {G:FP} (h:aj P w A (.U e) m H v cs G) (hH:hole H=false) :
  ∃ xa cap,cs=[.slice xa (List.length v) cap]/\List.length v<=cap/\(xa=none->List.length v=0):=by
 simp only[aj,hH,Bool.false_eq_true,if_false] at h
 split at h
 ·obtain ⟨xa,cap,q1,q2,q3,q4,q5⟩:=h
  exact ⟨xa,cap,q1,q2,fun e=>by have:=q4 e;omega⟩
 ·obtain ⟨_,_,xa,cap,q1,q2,q3,q4⟩:=h
  exact ⟨xa,cap,q1,q2,q3⟩
theorem rH {t:Nat} {y:Operand} (ho:o.op=.call { callee:=.builtin .len,args:=#[y],argTypes:=#[t] }) :
  (execOp a.eval o).run P w=((Builtin.len_ #[t] o.type #[a.eval y]).run P w).andThen fun v w'=>.ok (.value v) w':=by
 unfold execOp
 simp only[ho,resolve,invoke,builtin,Sem.run_bind,Sem.run_pure,Result.andThen_ok,List.map_toArray,List.map_cons,List.map_nil]
theorem JN (h:bC P C A σ a w F) (eD:∀ i T,E.TI i=some T->aD P T (.inl i)=true) {t:Nat} {y:Operand} (ho:o.op=.call { callee:=.builtin .len,args:=#[y],argTypes:=#[t] }) (az:bu P y=true) {K:St->Option R}
  (hk:JE E σ t (bA σ y) (fun n=>K (σ.aQ o.dst (.val (.int .i64) (n:Int))))=some x):Tk P o a w (Nx P C K x):=by
 unfold JE at hk
 obtain ⟨T,hT,hk⟩:=cw hk
 have cJ:=eD _ _ hT
 rcases cd h az with hs | ⟨xs,e⟩
 rotate_left
 ·rw[e] at hk;split at hk <;> cases hk
 have fin:∀ n:Nat,K (σ.aQ o.dst (.val (.int .i64) (n:Int)))=some x->Nx P C K x (a.put o.dst (.int .i64 (n:Int))) w:=fun n hk=>aV h hk ⟨[_],rfl,rfl⟩ (fun _ _ _ _ e=>by cases e)
 split at hk
 ·split at hk
  ·rename_i s hv
   rw[hv] at hs
   obtain ⟨cs,h1,Y⟩:=hs
   simp only[Ro] at Y;subst Y
   refine cz (v:=.int .i64 (s.length:Int)) (fun w' _=>?_) (fin _ hk)
   have e:a.eval y=.string ⟨List.toArray s⟩:=h1
   have e2:(⟨List.toArray s⟩:ByteArray).size=s.length:=rfl
   rw[rH ho,e]
   unfold Builtin.len_
   simp only[List.getElem?_toArray,List.getElem?_cons_zero,Sem.run_bind,run_underlying (gf cJ),Result.andThen_ok,Sem.run_pure,goInt,e2]
  ·cases hk
 ·rename_i e
  obtain ⟨el,hu,_,hle⟩:=mC cJ
  have run:∀ xa n cap,a.eval y=.slice xa n cap->∀ w',l5 o w w'->(execOp a.eval o).run P w'=.ok (.value (.int .i64 (n:Int))) w':=fun xa n cap hy w' _=>by
   rw[rH ho]
   simp[Builtin.len_,hy,run_underlying hu,goInt]
  split at hk
  ·rename_i e' v hv
   rw[hv] at hs
   obtain ⟨cs,h1,xa,cap,Y,_⟩:=hs
   subst Y
   exact cz (run xa _ cap h1) (fin _ hk)
  ·rename_i hv
   rw[hv] at hs
   exact cz (run none 0 0 hs) (fin _ hk)
  ·rename_i r p snap hv
   rw[hv] at hs
   split at hk
   ·rename_i ik
    obtain ⟨hr,t',m',H',v',aL,a_,F',h1,Y,h3,h4,h5,h6⟩:=fw h hk
    obtain ⟨pl,g1,g2,g3⟩:=hs.2 ik
    rw[h3] at g1
    injection g1 with g1
    subst g1
    simp only at g2
    split at h1
    ·cases h1
    ·rename_i hH
     have hH:hole H'=false:=Bool.eq_false_iff.2 hH
     split at h1
     ·rename_i e' Ce
      obtain ⟨xa,cap,q1,q2,q3⟩:=rG (t:=.unit) h4 hH
      subst q1
      exact cz (run xa _ cap g2) (fin _ h1)
     ·cases h1
   ·cases hk
  ·rename_i r p snap lo hi hv
   rw[hv] at hs
   split at hk
   ·rename_i ik
    obtain ⟨pl,e',xa,len,cap,nD,cap',g1,g2,g3,g4,g5,g6,g7,Cb,g8,g9,g10⟩:=hs.2 ik
    exact cz (run nD _ cap' g6) (fin _ hk)
   ·cases hk
  ·cases hk
 ·cases hk
theorem H8 {len cap:Nat} {lo hi:Option Operand} {K:Nat->Nat->Option R} (kC:len<=cap) (s8:∀ y,lo=some y->ba P A σ a w (a.eval y) (bA σ y) (fun _ _=>0)) (NA:∀ y,hi=some y->ba P A σ a w (a.eval y) (bA σ y) (fun _ _=>0))
  (hk:mB len (lo.map (bA σ)) (hi.map (bA σ)) K=some x):∃ l h,l<=h/\h<=len/\K l h=some x/\(∀ w',(Instr.sliceBounds true len cap (lo.map a.eval) (hi.map a.eval) none).run P w'=.ok (l,h,cap) w') /\
   (len=cap->∀ w',(Instr.sliceBounds false len cap (lo.map a.eval) (hi.map a.eval) none).run P w'=.ok (l,h,cap) w'):=by
 have ez:∀ (k:IntKind) (i:Int) (y:Nat) code,0<=i->i<=(y:Int)->∀ w',(Instr.sliceBound (.int k i) y code).run P w'=.ok i.toNat w':=fun k i y code h0 h1 w'=>run_sliceBound w' k i y code h0 h1
 have two:∀ (H9 fj:Option Value) (l h:Nat),(H9=none/\l=0\/∃ k n,H9=some (.int k n)/\0<=n/\n<=(h:Int)/\l=n.toNat)->(fj=none/\h=len\/∃ k n,fj=some (.int k n)/\0<=n/\n<=(len:Int)/\h=n.toNat) ->
   (∀ w',(Instr.sliceBounds true len cap H9 fj none).run P w'=.ok (l,h,cap) w')/\(len=cap->∀ w',(Instr.sliceBounds false len cap H9 fj none).run P w'=.ok (l,h,cap) w'):=fun H9 fj l h h1 Y=>by
  rcases Y with ⟨rfl,rfl⟩ | ⟨k2,n2,rfl,b1,b2,rfl⟩
  ·rcases h1 with ⟨rfl,rfl⟩ | ⟨k1,n1,rfl,a1,a2,rfl⟩
   ·exact ⟨by simp[Instr.sliceBounds],fun _=>by simp[Instr.sliceBounds]⟩
   ·exact ⟨by simp[Instr.sliceBounds,ez k1 n1 _ .sliceB a1 a2],fun _=>by simp[Instr.sliceBounds,ez k1 n1 _ .sliceB a1 a2]⟩
  ·have c1:=ez k2 n2 cap .sliceAcap b1 (by omega)
   have c2:=ez k2 n2 cap .sliceAlen b1 (by omega)
   rcases h1 with ⟨rfl,rfl⟩ | ⟨k1,n1,rfl,a1,a2,rfl⟩
   ·exact ⟨by simp[Instr.sliceBounds,c1],fun e=>by subst e;simp[Instr.sliceBounds,c2]⟩
   ·have c3:=ez k1 n1 _ .sliceB a1 a2
    exact ⟨by simp[Instr.sliceBounds,c1,c3],fun e=>by subst e;simp[Instr.sliceBounds,c2,c3]⟩
 unfold mB at hk
 cases lo with
 | none=>
  cases hi with
  | none=>
   have:=two none none 0 len (.inl ⟨rfl,rfl⟩) (.inl ⟨rfl,rfl⟩)
   exact ⟨0,len,Nat.zero_le _,Nat.le_refl _,hk,this.1,this.2⟩
  | some yh=>
   obtain ⟨kh,nh,hv,hk⟩:=lT (NA yh rfl) hk
   split at hk
   ·rename_i hc
    have:=two none (some (a.eval yh)) 0 nh.toNat (.inl ⟨rfl,rfl⟩) (.inr ⟨kh,nh,by rw[hv],hc.1,hc.2,rfl⟩)
    exact ⟨0,nh.toNat,Nat.zero_le _,by omega,hk,this.1,this.2⟩
   ·cases hk
 | some yl=>
  cases hi with
  | none=>
   obtain ⟨kl,nl,hv,hk⟩:=lT (s8 yl rfl) hk
   split at hk
   ·rename_i hc
    have:=two (some (a.eval yl)) none nl.toNat len (.inr ⟨kl,nl,by rw[hv],hc.1,hc.2,rfl⟩) (.inl ⟨rfl,rfl⟩)
    exact ⟨nl.toNat,len,by omega,Nat.le_refl _,hk,this.1,this.2⟩
   ·cases hk
  | some yh=>
   obtain ⟨kl,nl,hv,hk⟩:=lT (s8 yl rfl) hk
   obtain ⟨kh,nh,yc,hk⟩:=lT (NA yh rfl) hk
   split at hk
   ·rename_i hc
    have:=two (some (a.eval yl)) (some (a.eval yh)) nl.toNat nh.toNat (.inr ⟨kl,nl,by rw[hv],hc.1,by omega,rfl⟩) (.inr ⟨kh,nh,by rw[yc],by omega,hc.2.2,rfl⟩)
    exact ⟨nl.toNat,nh.toNat,by omega,by omega,hk,this.1,this.2⟩
   ·cases hk
theorem A5 (s:List UInt8) (l h:Nat) (hl:l<=h) (hh:h<=s.length):(⟨s.toArray⟩:ByteArray).extract l h=⟨((s.take h).drop l).toArray⟩:=by
 apply ByteArray.ext
 rw[ByteArray.data_extract]
 apply Array.ext'
 simp[List.extract_eq_take_drop]
 rw[List.drop_take]
theorem Gf (h:bC P C A σ a w F) (eD:∀ i T,E.TI i=some T->aD P T (.inl i)=true) {t:Nat} {y:Operand} {lo hi:Option Operand} (ho:o.op=.slice t y lo hi none)
  (az:bu P y=true/\(∀ z,lo=some z->bu P z=true)/\(∀ z,hi=some z->bu P z=true)) {K:St->Option R}
  (hk:BG E σ t (bA σ y) (lo.map (bA σ)) (hi.map (bA σ)) o.dst K=some x):Tk P o a w (Nx P C K x):=by
 unfold BG at hk
 have Cg:=cw hk
 clear hk
 obtain ⟨T,hT,hk⟩:=Cg
 have cJ:=eD _ _ hT
 have Lq:∀ z,bu P z=true->(∀ xs,bA σ z≠.kO xs)->ba P A σ a w (a.eval z) (bA σ z) (fun _ _=>0):=fun z hz hn=>by
  rcases cd h hz with hs | ⟨xs,e⟩
  ·exact hs
  ·exact absurd e (hn xs)
 have bound:∀ (len cap:Nat) (K':Nat->Nat->Option R),len<=cap->mB len (lo.map (bA σ)) (hi.map (bA σ)) K'=some x->∃ l h,l<=h/\h<=len/\K' l h=some x/\(∀ w',(Instr.sliceBounds true len cap (lo.map a.eval) (hi.map a.eval) none).run P w'=.ok (l,h,cap) w') /\
   (len=cap->∀ w',(Instr.sliceBounds false len cap (lo.map a.eval) (hi.map a.eval) none).run P w'=.ok (l,h,cap) w'):=fun len cap K' hc hb=>by
  refine H8 hc (fun z hz=>Lq z (az.2.1 z hz) fun xs e=>?_) (fun z hz=>Lq z (az.2.2 z hz) fun xs e=>?_) hb
  ·subst hz
   unfold mB at hb
   cases hi <;> simp only[Option.map_some,Option.map_none,e,n9] at hb <;> cases hb
  ·subst hz
   unfold mB at hb
   cases lo with
   | none=>simp only[Option.map_some,Option.map_none,e,n9] at hb;cases hb
   | some yl=>
    simp only[Option.map_some,e] at hb
    unfold n9 at hb
    split at hb <;> cases hb
 have vx:∀ e xa len cap l h,T=.U e->a.eval y=.slice xa len cap->l<=cap->(∀ ad,xa=some ad->0 < cap->ad.spot=none)->(∀ w',(Instr.sliceBounds true len cap (lo.map a.eval) (hi.map a.eval) none).run P w'=.ok (l,h,cap) w') ->
   ∀ w',l5 o w w'->(execOp a.eval o).run P w'=.ok (.value (.slice (if cap=l then xa else xa.map fun ad=>⟨ad.block,ad.off+l*e.sz,none⟩) (h - l) (cap - l))) w':=fun e xa len cap l h kB hy P_ jq hb w' _=>by
  have hb:=hb w'
  subst kB
  obtain ⟨el,hu,_,hle⟩:=mC cJ
  have eH:=run_sizeOf (P:=P) (w:=w') hle
  unfold execOp
  simp only[ho,Option.map_none,Instr.sliceAt,Instr.slice,Sem.run_bind,run_underlying hu,Result.andThen_ok,hy,hb,eH,Sem.run_pure]
  by_cases Lr:cap=l
  ·simp[Lr]
  ·congr 4
   cases xa with
   | none=>rfl
   | some ad=>
    obtain ⟨b,off,sp⟩:=ad
    have:=jq _ rfl (by omega)
    simp only at this
    subst this
    simp[jO]
 have addr:∀ (xa:Option Addr) (cap l h n:Nat) (e:Ty),l<=h->h<=n->n<=cap->(∀ ad,xa=some ad->0 < cap->ad.spot=none) ->
   (xa=none->(if cap=l then xa else xa.map fun ad=>⟨ad.block,ad.off+l*e.sz,none⟩)=none) /\
   (∀ ad,xa=some ad->∃ a_,(if cap=l then xa else xa.map fun ad=>⟨ad.block,ad.off+l*e.sz,none⟩)=some a_/\a_.spot=ad.spot/\a_.block=ad.block/\(l < h->a_.off=ad.off+l*e.sz)) /\
   (l=0->(if cap=l then xa else xa.map fun ad=>(⟨ad.block,ad.off+l*e.sz,none⟩:Addr))=xa):=fun xa cap l h n e h1 Y h3 jq=>by
  refine ⟨fun e=>by subst e;split <;> rfl,fun ad e=>?_,fun e0=>?_⟩
  ·subst e
   split
   ·exact ⟨ad,rfl,rfl,rfl,fun _=>by omega⟩
   ·exact ⟨_,rfl,(jq ad rfl (by omega)).symm,rfl,fun _=>rfl⟩
  ·subst e0
   split
   ·rfl
   ·cases xa with
    | none=>rfl
    | some ad=>
     obtain ⟨b,off,sp⟩:=ad
     have:=jq _ rfl (by omega)
     simp only at this
     subst this
     simp
 have Ls:∀ {e:Ty} {v:List e.den} {m:Md} {H:List Path} {xa n cap} {G:FP},aj P w A (.U e) m H v [.slice xa n cap] G->hole H=false->∀ ad,xa=some ad->0 < cap->ad.spot=none:=fun {e v m H xa n cap G} cI hH ad rB zF=>by
  simp only[aj,hH,Bool.false_eq_true,if_false] at cI
  split at cI
  ·obtain ⟨E4,tK,q1,q2,q3,q4,q5⟩:=cI
   simp only[List.cons.injEq,Value.slice.injEq,and_true] at q1
   exact (q5 ad (q1.1.symm.trans rB)).2.1
  ·obtain ⟨_,_,E4,tK,q1,q2,q3,q4⟩:=cI
   simp only[List.cons.injEq,Value.slice.injEq,and_true] at q1
   exact (q4 ad (q1.1.symm.trans rB)).1 (by omega)
 rcases cd h az.1 with hs | ⟨xs,e⟩
 rotate_left
 ·rw[e] at hk;cases hk
 split at hk
 ·rename_i s hv
  rw[hv] at hs
  split at hk
  ·rename_i kB
   have Lt:=cJ
   rw[kB] at Lt
   obtain ⟨l,h',b1,b2,hk,b3,b4⟩:=bound s.length s.length _ (Nat.le_refl _) hk
   obtain ⟨cs,h1,Y⟩:=hs
   simp only[Ro] at Y;subst Y
   have e1:a.eval y=.string ⟨List.toArray s⟩:=h1
   have e2:(⟨List.toArray s⟩:ByteArray).size=s.length:=rfl
   refine cz (v:=.string ⟨((s.take h').drop l).toArray⟩) (fun w' _=>?_) (aV h hk ⟨[_],rfl,rfl⟩ (fun _ _ _ _ e=>by cases e))
   unfold execOp
   simp only[ho,Option.map_none,Instr.sliceAt,Instr.slice,Sem.run_bind,run_underlying (gf Lt),Result.andThen_ok,e1,Option.isSome_none,Bool.false_eq_true,if_false,e2,b4 rfl w',Sem.run_pure,A5 s l h' b1 b2]
  ·cases hk
 ·rename_i e v hv
  rw[hv] at hs
  split at hk
  ·rename_i kB
   obtain ⟨cs,h1,Y⟩:=hs
   obtain ⟨xa,cap,q1,q2,q3,q4⟩:=id Y
   subst q1
   rw[bz _ _ rfl] at h1
   obtain ⟨l,h',b1,b2,hk,b3,_⟩:=bound (List.length v) cap _ q2 hk
   obtain ⟨r1,r2,r3⟩:=addr xa cap l h' _ e b1 b2 q2 (fun ad e=>(q4 ad e).1)
   exact cz (vx e xa _ cap l h' kB h1 (by omega) (fun ad e=>(q4 ad e).1) b3) (aV h hk ⟨_,(bz (.U e) _ rfl).symm,Ro.piece Y b1 b2 (by omega) r1 r2⟩ (fun _ _ _ _ e=>by cases e))
  ·cases hk
 ·rename_i r p snap hv
  rw[hv] at hs
  split at hk
  ·rename_i ik
   obtain ⟨hr,t',m',H',v',aL,a_,F',h1,Y,h3,h4,h5,h6⟩:=fw h hk
   obtain ⟨pl,g1,g2,g3⟩:=hs.2 ik
   rw[h3] at g1
   injection g1 with g1
   subst g1
   simp only at g2 g3
   split at h1
   ·cases h1
   ·rename_i hH
    have hH:hole H'=false:=Bool.eq_false_iff.2 hH
    split at h1
    ·rename_i kB
     split at h1
     ·rename_i e Ce
      obtain ⟨xa,cap,q1,q2,q3⟩:=rG (t:=.unit) h4 hH
      subst q1
      rw[bz _ _ rfl] at g2
      have jq:=Ls h4 hH
      split at h1
      ·obtain ⟨l,h',b1,b2,h1,b3,_⟩:=bound (List.length Ce) cap _ q2 h1
       obtain ⟨r1,r2,r3⟩:=addr xa cap l h' _ e b1 b2 q2 jq
       refine cz (vx e xa _ cap l h' kB.symm g2 (by omega) jq b3) (aV h h1 ⟨hs.1,fun _=>⟨_,e,xa,_,cap,_,cap - l,h3,rfl,rfl,b1,b2,rfl,by omega,r3,r1,r2,?_⟩⟩ (fun _ _ _ _ e=>by cases e))
       exact g3.imp (·.2) id
      ·rename_i dm
       obtain ⟨l,h',b1,b2,h1,b3,_⟩:=bound (List.length Ce) cap _ q2 h1
       obtain ⟨r1,r2,r3⟩:=addr xa cap l h' _ e b1 b2 q2 jq
       simp only[aj,hH,Bool.false_eq_true,if_false,dm] at h4
       exact cz (vx e xa _ cap l h' kB.symm g2 (by omega) jq b3) (aV h h1 ⟨_,(bz (.U e) _ rfl).symm,Ro.piece h4.2.2 b1 b2 (by omega) r1 r2⟩ (fun _ _ _ _ e=>by cases e))
     ·cases h1
    ·cases h1
  ·cases hk
 ·rename_i r p snap l0 h0 hv
  rw[hv] at hs
  split at hk
  ·rename_i ik
   obtain ⟨hr,t',m',H',v',aL,a_,F',h1,Y,h3,h4,h5,h6⟩:=fw h hk
   obtain ⟨pl,e,xa,n,cap,nD,cap',g1,g2,g3,g4,g5,g6,g7,Cb,g8,g9,g10⟩:=hs.2 ik
   have Ur:=g1
   rw[h3] at g1
   injection g1 with g1
   subst g1
   simp only at g2 g3
   subst g2;subst g3
   split at h1
   ·cases h1
   ·rename_i hH
    have hH:hole H'=false:=Bool.eq_false_iff.2 hH
    split at h1
    ·rename_i kB
     obtain ⟨E4,tK,q1,q2,q3⟩:=rG (t:=.unit) h4 hH
     simp only[List.cons.injEq,Value.slice.injEq,and_true] at q1
     obtain ⟨rfl,rfl,rfl⟩:=q1
     have jq:=Ls h4 hH
     have NB:∀ ad,nD=some ad->0 < cap'->ad.spot=none:=fun ad e' zF=>by
      cases rB:xa with
      | none=>rw[g8 rB] at e';cases e'
      | some cc=>
       obtain ⟨sf,e1,e2,_⟩:=g9 cc rB
       rw[e'] at e1;injection e1 with e1;subst e1
       exact e2.trans (jq cc rB (by omega))
     obtain ⟨l,h',b1,b2,h1,b3,_⟩:=bound (h0 - l0) cap' _ (by omega) h1
     obtain ⟨r1,r2,r3⟩:=addr nD cap' l h' _ e b1 b2 (by omega) NB
     refine cz (vx e nD _ cap' l h' kB.symm g6 (by omega) NB b3) (aV h h1 ⟨hs.1,fun _=>⟨⟨.U e,H',[.slice xa (List.length v') cap],a_⟩,e,xa,List.length v',cap,(if cap'=l then nD else nD.map fun ad=>⟨ad.block,ad.off+l*e.sz,none⟩),cap' - l,h3,rfl,rfl,by omega,by omega,?_,by omega,fun e0=>?_,fun e'=>?_,fun ad e'=>?_,g10⟩⟩ (fun _ _ _ _ e=>by cases e))
     ·rw[show l0+h' - (l0+l)=h' - l by omega]
     ·rw[r3 (by omega),Cb (by omega)]
     ·exact r1 (g8 e')
     ·obtain ⟨sf,e1,e2,e3,e4⟩:=g9 ad e'
      obtain ⟨p6,f1,f2,f3,f4⟩:=r2 sf e1
      exact ⟨p6,f1,f2.trans e2,f3.trans e3,fun ai=>by rw[f4 (by omega),e4 (by omega),Nat.add_mul,Nat.add_assoc]⟩
    ·cases h1
  ·cases hk
 ·cases hk
end
end OT
set_option linter.unusedVariables false
set_option linter.unusedSimpArgs false
namespace OT
open Go
theorem kT (k:IntKind) (n:Int):jp k (uH k n)=k.wrap n:=by
 cases k <;> first | rfl | skip
 show ((UInt8.ofNat (n % 2 ^ 8).toNat).toNat:Int)=_
 rw[UInt8.toNat_ofNat']
 simp[IntKind.wrap,IntKind.bits,IntKind.signed]
 omega
theorem zG (k:IntKind) (n:Int) (h:k=.u8->0<=n/\n < 256):jp k (La k n)=n:=by
 cases k <;> first | rfl | skip
 obtain ⟨h1,Y⟩:=h rfl
 show ((UInt8.ofNat (n % 2 ^ 8).toNat).toNat:Int)=_
 rw[UInt8.toNat_ofNat']
 omega
theorem H_ (v:sU .u8):0<=jp .u8 v/\jp .u8 v < 256:=by
 have:UInt8.toNat v < 256:=UInt8.toNat_lt v
 show 0<=((UInt8.toNat v:Nat):Int)/\((UInt8.toNat v:Nat):Int) < 256
 omega
section
variable {P:Program} {C:Ctx} {A:Cells} {X:FP} {σ:St} {a:Act} {w:World} {F:Nat->FP} {R:Type} {x:R} {Q:Exit->Act->World->Prop} {o:Oper} {E:Env}
theorem Mn {op:BinOp} {k k':IntKind} {na nb:Int} {K:(t:Ty)->t.den->Option R} (hk:BI op k na nb K=some x) (Ac:k=k'\/op=.shl\/op=.shr) (hu:k=.u8->0<=na/\na < 256) (NC:k'=.u8->0<=nb/\nb < 256) (T:TypeId) :
  ∃ t v tv,K t v=some x/\Ro P w A t v [tv]/\isAgg t=false/\∀ w:World,(binOp op T (.int k na) (.int k' nb)).run P w=.ok tv w:=by
 have same:op≠.shl->op≠.shr->k=k':=fun h1 Y=>by rcases Ac with h | h | h;exact h;exact absurd h h1;exact absurd h Y
 unfold BI at hk
 split at hk
 ·have:=same (by simp) (by simp);subst this
  exact ⟨_,_,.int k (k.wrap (na+nb)),hk,by simp only[Ro,kT],rfl,fun w=>by simp[Go.binOp,Op.intArith]⟩
 ·have:=same (by simp) (by simp);subst this
  exact ⟨_,_,.int k (k.wrap (na - nb)),hk,by simp only[Ro,kT],rfl,fun w=>by simp[Go.binOp,Op.intArith]⟩
 ·have:=same (by simp) (by simp);subst this
  exact ⟨_,_,.int k (k.wrap (na*nb)),hk,by simp only[Ro,kT],rfl,fun w=>by simp[Go.binOp,Op.intArith]⟩
 ·have:=same (by simp) (by simp);subst this
  split at hk
  ·cases hk
  ·rename_i ND
   exact ⟨_,_,.int k (k.wrap (na.tdiv nb)),hk,by simp only[Ro,kT],rfl,fun w=>by simp[Go.binOp,Op.intDiv,ND]⟩
 ·have:=same (by simp) (by simp);subst this
  split at hk
  ·cases hk
  ·rename_i ND
   refine ⟨_,_,.int k (na.tmod nb),hk,?_,rfl,fun w=>by simp[Go.binOp,Op.intDiv,ND]⟩
   simp only[Ro]
   rw[zG k _ (fun e=>?_)]
   have h1:=hu e;have Y:=NC e
   have:=Int.tmod_nonneg nb h1.1
   have h3:na.tmod nb < nb:=Int.tmod_lt_of_pos na (by omega)
   omega
 ·have:=same (by simp) (by simp);subst this
  exact ⟨_,_,.int k (k.wrap ((BitVec.ofInt k.bits na &&& BitVec.ofInt k.bits nb).toNat:Int)),hk,by simp only[Ro,kT],rfl,fun w=>by unfold Go.binOp;simp only[ne_eq,not_true_eq_false,if_false,Op.intBits,Sem.run_pure]⟩
 ·have:=same (by simp) (by simp);subst this
  exact ⟨_,_,.int k (k.wrap ((BitVec.ofInt k.bits na ||| BitVec.ofInt k.bits nb).toNat:Int)),hk,by simp only[Ro,kT],rfl,fun w=>by unfold Go.binOp;simp only[ne_eq,not_true_eq_false,if_false,Op.intBits,Sem.run_pure]⟩
 ·have:=same (by simp) (by simp);subst this
  exact ⟨_,_,.int k (k.wrap ((BitVec.ofInt k.bits na ^^^ BitVec.ofInt k.bits nb).toNat:Int)),hk,by simp only[Ro,kT],rfl,fun w=>by unfold Go.binOp;simp only[ne_eq,not_true_eq_false,if_false,Op.intBits,Sem.run_pure]⟩
 ·split at hk
  ·cases hk
  ·rename_i hn
   exact ⟨_,_,.int k (k.wrap (na*2 ^ (min nb.toNat k.bits))),hk,by simp only[Ro,kT],rfl,fun w=>by simp[Go.binOp,Op.shift,hn]⟩
 ·split at hk
  ·cases hk
  ·rename_i hn
   refine ⟨_,_,.int k (na.fdiv (2 ^ (min nb.toNat k.bits))),hk,?_,rfl,fun w=>by simp[Go.binOp,Op.shift,hn]⟩
   simp only[Ro]
   rw[zG k _ (fun e=>?_)]
   have h1:=hu e
   have hp:(0:Int) < 2 ^ (min nb.toNat k.bits):=Int.pow_pos (by omega)
   rw[Int.fdiv_eq_ediv_of_nonneg _ (by omega)]
   have Y:=Int.ediv_nonneg h1.1 (Int.le_of_lt hp)
   have h3:=Int.ediv_le_self (2 ^ (min nb.toNat k.bits)) h1.1
   omega
 ·have:=same (by simp) (by simp);subst this
  exact ⟨.bool,decide (na=nb),_,hk,rfl,rfl,fun w=>by simp[Go.binOp,Op.intCmp];rfl⟩
 ·have:=same (by simp) (by simp);subst this
  exact ⟨.bool,!decide (na=nb),_,hk,rfl,rfl,fun w=>by simp[Go.binOp,Op.intCmp,bne];rfl⟩
 ·have:=same (by simp) (by simp);subst this
  exact ⟨.bool,decide (na < nb),_,hk,rfl,rfl,fun w=>by simp[Go.binOp,Op.intCmp]⟩
 ·have:=same (by simp) (by simp);subst this
  exact ⟨.bool,decide (na<=nb),_,hk,rfl,rfl,fun w=>by simp[Go.binOp,Op.intCmp]⟩
 ·have:=same (by simp) (by simp);subst this
  exact ⟨.bool,decide (nb < na),_,hk,rfl,rfl,fun w=>by simp[Go.binOp,Op.intCmp]⟩
 ·have:=same (by simp) (by simp);subst this
  exact ⟨.bool,decide (nb<=na),_,hk,rfl,rfl,fun w=>by simp[Go.binOp,Op.intCmp]⟩
 ·cases hk
theorem Mo {op:BinOp} {s t:List UInt8} {K:(t:Ty)->t.den->Option R} (hk:JF op s t K=some x) (T:TypeId) :
  ∃ ty v tv,K ty v=some x/\Ro P w A ty v [tv]/\isAgg ty=false/\∀ w:World,(binOp op T (.string ⟨s.toArray⟩) (.string ⟨t.toArray⟩)).run P w=.ok tv w:=by
 have h0:∀ w:World,(binOp op T (.string ⟨s.toArray⟩) (.string ⟨t.toArray⟩)).run P w=(Op.stringOp op ⟨s.toArray⟩ ⟨t.toArray⟩).run P w:=fun w=>by cases op <;> rfl
 simp only[h0]
 unfold JF at hk
 split at hk
 ·split at hk
  ·rename_i hc
   refine ⟨.str,s++t,.string ⟨(s++t).toArray⟩,hk,rfl,rfl,fun w=>?_⟩
   rw[run_string_add_sum w _ _ (by simp only[ByteArray.size,List.size_toArray];simp only[bf] at hc;omega),ByteArray.mk_append_mk]
  ·cases hk
 ·exact ⟨.bool,decide (s=t),_,hk,rfl,rfl,fun w=>by simp[Op.stringOp];exact Bool.eq_iff_iff.2 (by simp)⟩
 ·exact ⟨.bool,!decide (s=t),_,hk,rfl,rfl,fun w=>by simp[Op.stringOp];exact Bool.eq_iff_iff.2 (by simp)⟩
 ·cases hk
theorem qZ {tv:Value} {s:List UInt8} {G:FP} (h:ba P A σ a w tv (.val .str s) G):tv=.string ⟨s.toArray⟩:=by
 obtain ⟨cs,h1,Y⟩:=h
 simp only[Ro] at Y
 subst Y
 exact h1
theorem q9 {tv:Value} {k:IntKind} {n:sU k} {G:FP} (h:ba P A σ a w tv (.val (.int k) n) G):tv=.int k (jp k n):=by
 obtain ⟨cs,h1,Y⟩:=h
 simp only[Ro] at Y
 subst Y
 exact h1
theorem Ch {tv:Value} {b:Bool} {G:FP} (h:ba P A σ a w tv (.val .bool b) G):tv=.bool b:=by
 obtain ⟨cs,h1,Y⟩:=h
 simp only[Ro] at Y
 subst Y
 exact h1
theorem Ia (h:bC P C A σ a w F) {op:UnOp} {t:Nat} {y:Operand} (ho:o.op=.unOp op t y) (az:bu P y=true) {K:St->Option R}
  (hk:(match op,bA σ y with
  | .not,.val .bool b=>K (σ.aQ o.dst (.val .bool (!b)))
  | .neg,.val (.int k) n=>K (σ.aQ o.dst (.val (.int k) (uH k (0 - jp k n))))
  | _,_=>none)=some x):Tk P o a w (Nx P C K x):=by
 rcases cd h az with hs | ⟨xs,e⟩
 rotate_left
 ·rw[e] at hk;split at hk <;> simp_all
 split at hk
 ·rename_i b ho hv
  rw[hv] at hs
  have e:=Ch hs
  exact cz (v:=.bool (!b)) (by simp[execOp,ho,e,Op.unary]) (aV h hk ⟨[_],rfl,rfl⟩ (fun _ _ _ _ e=>by cases e))
 ·rename_i k n ho hv
  rw[hv] at hs
  have e:=q9 hs
  exact cz (v:=.int k (k.wrap (0 - jp k n))) (by simp[execOp,ho,e,Op.unary,Op.intArith]) (aV h hk ⟨[_],rfl,by simp only[Ro,kT]⟩ (fun _ _ _ _ e=>by cases e))
 ·cases hk
end
end OT
set_option linter.unusedVariables false
set_option linter.unusedSimpArgs false
namespace OT
open Go
section
variable {P:Program} {w:World} {A:Cells}
theorem Lu:∀ (t:Ty),(∀ (i:TypeId) (d:Nat) (v1 v2:t.den) (iv bn:List Value),aD P t (.inl i)=true->ke P t (.inl i)=true->dep t<=d->Ro P w A t v1 iv->Ro P w A t v2 bn->(Op.equalIn d i (bm t iv) (bm t bn)).run P w=.ok (t.eq v1 v2) w) /\
  (∀ (fs:List Field) (off d:Nat) (v1 v2:t.den) (xs ys:Array Value),aD P t (.inr (fs,off))=true->ke P t (.inr fs)=true->dep t<=d+1->Ro P w A t v1 (xs.toList.drop off)->Ro P w A t v2 (ys.toList.drop off)->(Op.eqFields d xs ys fs).run P w=.ok (t.eq v1 v2) w):=by
 intro t
 induction t with
 | int k=>
  refine ⟨fun i d v1 v2 iv bn hl he hd h1 Y=>?_,fun fs off d v1 v2 xs ys hl=>by simp[aD] at hl⟩
  simp only[Ro] at h1 Y
  subst h1;subst Y
  cases d with
  | zero=>simp[dep] at hd
  | succ d=>
   rw[bz _ _ rfl,bz _ _ rfl,run_equalIn_int w d i k k _ _ (jI hl)]
   congr 1
   cases k with
   | u8=>exact Bool.eq_iff_iff.2 (by simp only[jp,Ty.eq,beq_iff_eq];constructor;(intro h;exact UInt8.toNat_inj.1 (by omega));(intro h;rw[h]))
   | _=>exact Bool.eq_iff_iff.2 (by simp[jp,Ty.eq])
 | bool=>
  refine ⟨fun i d v1 v2 iv bn hl he hd h1 Y=>?_,fun fs off d v1 v2 xs ys hl=>by simp[aD] at hl⟩
  simp only[Ro] at h1 Y
  subst h1;subst Y
  have hu:P.underlying i=some .bool:=by
   simp only[aD,Bool.and_eq_true] at hl
   have Y:=hl.2
   split at Y
   ·assumption
   ·cases Y
  cases d with
  | zero=>simp[dep] at hd
  | succ d=>rw[bz _ _ rfl,bz _ _ rfl,run_equalIn_bool' w d i _ _ hu];rfl
 | str=>
  refine ⟨fun i d v1 v2 iv bn hl he hd h1 Y=>?_,fun fs off d v1 v2 xs ys hl=>by simp[aD] at hl⟩
  simp only[Ro] at h1 Y
  subst h1;subst Y
  cases d with
  | zero=>simp[dep] at hd
  | succ d=>
   rw[bz _ _ rfl,bz _ _ rfl,run_equalIn_string w d i _ _ (gf hl),ByteArray.toList_mk,ByteArray.toList_mk]
   congr 1
   exact Bool.eq_iff_iff.2 (by simp[Ty.eq])
 | unit=>
  refine ⟨fun i d v1 v2 iv bn hl he hd h1 Y=>?_,fun fs off d v1 v2 xs ys hl he hd h1 Y=>?_⟩
  ·simp only[Ro] at h1 Y
   subst h1;subst Y
   simp only[aD,Bool.and_eq_true] at hl
   have h3:=hl.2
   split at h3
   ·rename_i fs hu
    have hf:P.fieldsOf i=fs:=by simp[Program.fieldsOf,hu]
    cases d with
    | zero=>simp[dep] at hd
    | succ d=>
     have xh:fs.toList=[]:=List.isEmpty_iff.1 h3
     simp only[ke,Bool.not_eq_true'] at he
     show (Op.equalIn (d+1) i (.agg #[]) (.agg #[])).run P w=_
     rw[run_equalIn_struct w d i _ _ (by rw[hf];exact hu) he,hf,xh]
     rfl
   ·cases h3
  ·simp only[aD,List.isEmpty_iff] at hl
   subst hl
   rfl
 | pair a b ey eg=>
  have second:∀ (fs:List Field) (off d:Nat) (v1 v2:(Ty.pair a b).den) (xs ys:Array Value),aD P (.pair a b) (.inr (fs,off))=true->ke P (.pair a b) (.inr fs)=true->dep (.pair a b)<=d+1->Ro P w A (.pair a b) v1 (xs.toList.drop off)->Ro P w A (.pair a b) v2 (ys.toList.drop off)->(Op.eqFields d xs ys fs).run P w=.ok ((Ty.pair a b).eq v1 v2) w:=by
   intro fs off d v1 v2 xs ys hl he hd h1 Y
   cases fs with
   | nil=>simp[aD] at hl
   | cons f r=>
    simp only[aD,Bool.and_eq_true,Nat.beq_eq,Nat.ble_eq] at hl
    simp only[ke,Bool.and_eq_true,bne_iff_ne,ne_eq] at he
    simp only[dep] at hd
    obtain ⟨Ib,Ic⟩:=h1
    obtain ⟨Qa,Qb⟩:=Y
    have p1:=mZ (P:=P) (w:=w) hl.1.2 (cs:=xs) (off:=off) (Ro.length _ Ib)
    have p2:=mZ (P:=P) (w:=w) hl.1.2 (cs:=ys) (off:=off) (Ro.length _ Qa)
    have e1:=ey.1 f.type d v1.1 v2.1 _ _ hl.1.2 he.1.2 (by omega) Ib Qa
    rw[List.drop_drop] at Ic Qb
    have e2:=eg.2 r (off+a.sz) d v1.2 v2.2 xs ys hl.2 he.2 (by omega) Ic Qb
    simp only[Op.eqFields,ne_eq,he.1.1,not_false_eq_true,if_true,Sem.run_bind,hl.1.1.1,p1,p2,e1,Result.andThen_ok]
    cases hq:a.eq v1.1 v2.1 with
    | true=>simp[e2,Ty.eq,hq]
    | false=>simp[Ty.eq,hq]
  refine ⟨fun i d v1 v2 iv bn hl he hd h1 Y=>?_,second⟩
  simp only[aD,Bool.and_eq_true] at hl
  simp only[ke,Bool.and_eq_true,Bool.not_eq_true'] at he
  have h3:=hl.2
  have h4:=he.2
  split at h3
  ·rename_i fs hu
   rw[hu] at h4
   simp only at h4
   have hf:P.fieldsOf i=fs:=by simp[Program.fieldsOf,hu]
   split at h3
   ·rename_i f r vw
    rw[vw] at h4
    simp only at h4
    cases d with
    | zero =>have:1<=dep (.pair a b):=by simp only[dep];omega
             omega
    | succ d=>
     show (Op.equalIn (d+1) i (.agg iv.toArray) (.agg bn.toArray)).run P w=_
     rw[run_equalIn_struct w d i _ _ (by rw[hf];exact hu) he.1,hf,vw]
     refine second (f::r) 0 d v1 v2 _ _ ?_ ?_ hd (by simpa using h1) (by simpa using Y)
     ·simp only[aD,Nat.zero_add];exact h3
     ·simp only[ke];exact h4
   ·cases h3
  ·cases h3
 | arr n e ih=>
  refine ⟨fun i d v1 v2 iv bn hl he hd h1 Y=>?_,fun fs off d v1 v2 xs ys hl=>by simp[aD] at hl⟩
  simp only[aD,Bool.and_eq_true] at hl
  have h3:=hl.2
  simp only[ke] at he
  split at h3
  ·rename_i n' el hu
   simp only[Bool.and_eq_true,Nat.beq_eq,Nat.ble_eq] at h3
   obtain ⟨⟨rfl,_⟩,hle⟩:=h3
   rw[hu] at he
   simp only at he
   obtain ⟨inf,i1,i2,_⟩:=eV (gn hle)
   have eH:P.cellsOf el=e.sz:=by simp[Program.cellsOf,i1,i2]
   obtain ⟨_,l1,_,r1⟩:=h1
   obtain ⟨_,l2,_,r2⟩:=Y
   cases d with
   | zero=>simp[dep] at hd
   | succ d=>
    simp only[dep] at hd
    have key:∀ (m j:Nat),j+m=n->(Op.eqItems d el e.sz iv.toArray bn.toArray (List.range' j m)).run P w=.ok (((List.drop j v1).zip (List.drop j v2)).all fun p=>e.eq p.1 p.2) w:=by
     intro m
     induction m with
     | zero=>
      intro j hj
      rw[List.drop_of_length_le (by omega)]
      rfl
     | succ m Id=>
      intro j hj
      have g1:=List.getElem?_eq_getElem (l:=v1) (i:=j) (by omega)
      have g2:=List.getElem?_eq_getElem (l:=v2) (i:=j) (by omega)
      have a1:=r1 j _ g1
      have a2:=r2 j _ g2
      have p1:=mZ (P:=P) (w:=w) hle (cs:=iv.toArray) (off:=j*e.sz) (Ro.length _ a1)
      have p2:=mZ (P:=P) (w:=w) hle (cs:=bn.toArray) (off:=j*e.sz) (Ro.length _ a2)
      have e1:=ih.1 el d _ _ _ _ hle he (by omega) a1 a2
      rw[List.range'_succ,List.drop_eq_getElem_cons (l:=v1) (i:=j) (by omega),List.drop_eq_getElem_cons (l:=v2) (i:=j) (by omega)]
      simp only[Op.eqItems,Sem.run_bind,p1,p2,e1,Result.andThen_ok,List.zip_cons_cons,List.all_cons]
      cases hq:e.eq v1[j] v2[j] with
      | true=>simpa using Id (j+1) (by omega)
      | false=>simp
    show (Op.equalIn (d+1) i (.agg iv.toArray) (.agg bn.toArray)).run P w=_
    rw[run_equalIn_array w d _ _ hu i1,eH,List.range_eq_range']
    exact key n 0 (by omega)
  ·cases h3
 | _=>exact ⟨fun i d v1 v2 iv bn hl he=>by simp[ke] at he,fun fs off d v1 v2 xs ys hl he=>by simp[ke] at he⟩
end
section
variable {P:Program} {C:Ctx} {A:Cells} {X:FP} {σ:St} {a:Act} {w:World} {F:Nat->FP} {R:Type} {x:R} {Q:Exit->Act->World->Prop} {o:Oper} {E:Env}
def Lv (P:Program) (E:Env):Prop:=∀ i T,E.TI i=some T->T.gY=true->isAgg T=true->ke P T (.inl i)=true/\P.eqGuardType P.depth i=false/\dep T<=10000
theorem tL {op:BinOp} {t:TypeId} {y z:Operand} {u v:Value} (h:¬ (∃ p q,u=.agg p/\v=.agg q)) (Y:u≠.nilIface):(eqGuard op t y z u v).run P w=.ok () w:=by
 cases op <;> first | rfl | skip
 all_goals
  unfold eqGuard
  cases u <;> cases v <;> first | rfl | (exact absurd rfl Y) | (exact absurd ⟨_,_,rfl,rfl⟩ h)
theorem Ro.gY {w':World} {A':Cells}:∀ (t:Ty) {v:t.den} {cs:List Value},t.gY=true->Ro P w A t v cs->Ro P w' A' t v cs:=by
 intro t
 induction t with
 | pair a b ey eg=>
  intro v cs hq h
  simp only[Ty.gY,Bool.and_eq_true] at hq
  exact ⟨ey hq.1 h.1,eg hq.2 h.2⟩
 | arr n e ih=>intro v cs hq h;exact ⟨h.1,h.2.1,h.2.2.1,fun i x hx=>ih hq (h.2.2.2 i x hx)⟩
 | U e ih=>intro v cs hq;simp[Ty.gY] at hq
 | ptr e ih=>intro v cs hq;simp[Ty.gY] at hq
 | fn=>intro v cs hq;simp[Ty.gY] at hq
 | map k v=>intro v cs hq;simp[Ty.gY] at hq
 | _=>intro v cs hq h;exact h
theorem Gg (h:bC P C A σ a w F) (eD:∀ i T,E.TI i=some T->aD P T (.inl i)=true) (heq:Lv P E) {op:BinOp} {t t2:Nat} {y z:Operand} (ho:o.op=.binOp op t y z t2) (az:bu P y=true/\bu P z=true) {K:St->Option R}
  (hk:BJ E t op (bA σ y) (bA σ z) (fun t v=>K (σ.aQ o.dst (.val t v)))=some x):Tk P o a w (Nx P C K x):=by
 rcases cd h az.1 with hy | ⟨xs,e⟩
 rotate_left
 ·rw[e] at hk;simp[BJ] at hk
 rcases cd h az.2 with hz | ⟨xs,e⟩
 rotate_left
 ·rw[e] at hk;unfold BJ at hk;split at hk <;> simp_all
 have fin:∀ (ty:Ty) (v:ty.den) (tv:Value),K (σ.aQ o.dst (.val ty v))=some x->Ro P w A ty v [tv]->isAgg ty=false->(∀ w',l5 o w w'->(eqGuard op t y z (a.eval y) (a.eval z)).run P w'=.ok () w')->(∀ w',l5 o w w'->(binOp op t (a.eval y) (a.eval z)).run P w'=.ok tv w')->Tk P o a w (Nx P C K x):=fun ty v tv hk hr ha hg hb=>by
  refine cz (v:=tv) (fun w' kf=>?_) (aV h hk ⟨[tv],(bz ty tv ha).symm,hr⟩ (fun _ _ _ _ e=>by cases e))
  unfold execOp
  simp only[ho,Sem.run_bind,hg w' kf,hb w' kf,Result.andThen_ok,Sem.run_pure]
 unfold BJ at hk
 split at hk
 ·rename_i k n1 k' n2 yd yc
  rw[yd] at hy
  rw[yc] at hz
  have e1:=q9 hy
  have e2:=q9 hz
  have hg:∀ w',l5 o w w'->(eqGuard op t y z (a.eval y) (a.eval z)).run P w'=.ok () w':=fun w' _=>by rw[e1,e2];exact tL (by rintro ⟨p,q,h,_⟩;cases h) (by intro h;cases h)
  have Ac:(k=k'\/op=.shl\/op=.shr)/\BI op k (jp k n1) (jp k' n2) (fun t v=>K (σ.aQ o.dst (.val t v)))=some x:=by
   split at hk
   ·exact ⟨.inr (.inl rfl),hk⟩
   ·exact ⟨.inr (.inr rfl),hk⟩
   ·split at hk
    ·rename_i e;exact ⟨.inl e,hk⟩
    ·cases hk
  obtain ⟨ty,v,tv,q1,q2,q3,q4⟩:=Mn (P:=P) (A:=A) (w:=w) Ac.2 Ac.1 (fun e=>by subst e;exact H_ n1) (fun e=>by subst e;exact H_ n2) t
  exact fin ty v tv q1 q2 q3 hg (fun w' _=>by rw[e1,e2];exact q4 w')
 ·rename_i s1 s2 yd yc
  rw[yd] at hy
  rw[yc] at hz
  have e1:=qZ hy
  have e2:=qZ hz
  have hg:∀ w',l5 o w w'->(eqGuard op t y z (a.eval y) (a.eval z)).run P w'=.ok () w':=fun w' _=>by rw[e1,e2];exact tL (by rintro ⟨p,q,h,_⟩;cases h) (by intro h;cases h)
  obtain ⟨ty,v,tv,q1,q2,q3,q4⟩:=Mo (P:=P) (A:=A) (w:=w) hk t
  exact fin ty v tv q1 q2 q3 hg (fun w' _=>by rw[e1,e2];exact q4 w')
 ·rename_i ty v1 So v2 Sp Qc yd yc
  rw[yd] at hy
  rw[yc] at hz
  have main:∀ (e:ty=So) (hq:ty.gY=true) (hT:E.TI t=some ty) (w':World),l5 o w w'->(eqGuard op t y z (a.eval y) (a.eval z)).run P w'=.ok () w'/\(∀ b,b=ty.eq v1 (e ▸ v2)->(op=.eql->(binOp op t (a.eval y) (a.eval z)).run P w'=.ok (.bool b) w')/\(op=.neq->(binOp op t (a.eval y) (a.eval z)).run P w'=.ok (.bool (!b)) w')):=fun e hq hT w' kf=>by
   subst e
   obtain ⟨iv,e1,r1⟩:=hy
   obtain ⟨bn,e2,r2⟩:=hz
   have r1:=Ro.gY (w':=w') (A':=A) _ hq r1
   have r2:=Ro.gY (w':=w') (A':=A) _ hq r2
   have cJ:=eD _ _ hT
   cases Lw:isAgg ty with
   | true=>
    obtain ⟨q1,q2,q3⟩:=heq _ _ hT hq Lw
    have JO:=(Lu (P:=P) (w:=w') (A:=A) ty).1 t 10000 v1 v2 iv bn cJ q1 q3 r1 r2
    have m1:bm ty iv=.agg iv.toArray:=by simp[bm,Lw]
    have m2:bm ty bn=.agg bn.toArray:=by simp[bm,Lw]
    rw[m1,m2] at JO
    rw[e1,e2,m1,m2]
    refine ⟨run_eqGuard_agg w' op t y z _ _ q2,fun b hb=>⟨fun h=>?_,fun h=>?_⟩⟩
    ·subst h;subst hb;rw[run_eql_struct,JO];rfl
    ·subst h;subst hb;rw[run_neq_struct,JO];rfl
   | false=>
    cases ty with
    | int k=>exact (Sp k v1 k v2 rfl HEq.rfl rfl HEq.rfl).elim
    | str=>exact (Qc v1 v2 rfl HEq.rfl rfl HEq.rfl).elim
    | bool=>
     simp only[Ro] at r1 r2
     subst r1;subst r2
     rw[bz _ _ rfl] at e1 e2
     have hu:P.underlying t=some .bool:=by
      simp only[aD,Bool.and_eq_true] at cJ
      have Y:=cJ.2
      split at Y
      ·assumption
      ·cases Y
     rw[e1,e2]
     refine ⟨tL (by rintro ⟨p,q,h,_⟩;cases h) (by intro h;cases h),fun b hb=>⟨fun h=>?_,fun h=>?_⟩⟩
     ·subst h;subst hb
      have:=run_equalIn_bool' (P:=P) w' 9999 t v1 v2 hu
      simp only[Go.binOp,Op.equal,Op.maxDepth,Sem.run_bind,this,Result.andThen_ok,Sem.run_pure];rfl
     ·subst h;subst hb
      have:=run_equalIn_bool' (P:=P) w' 9999 t v1 v2 hu
      simp only[Go.binOp,Op.equal,Op.maxDepth,Sem.run_bind,this,Result.andThen_ok,Sem.run_pure];rfl
    | _=>first | (simp[Ty.gY] at hq;done) | (simp[isAgg] at Lw;done)
  split at hk
  ·split at hk
   ·rename_i hq
    obtain ⟨T,hT,hk⟩:=cw hk
    split at hk
    ·rename_i e;subst e
     obtain ⟨e,hk⟩:=bb hk
     have m:=main e.symm hq hT
     subst e
     exact fin .bool _ _ hk rfl rfl (fun w' kf=>(m w' kf).1) (fun w' kf=>((m w' kf).2 _ rfl).1 rfl)
    ·cases hk
   ·cases hk
  ·split at hk
   ·rename_i hq
    obtain ⟨T,hT,hk⟩:=cw hk
    split at hk
    ·rename_i e;subst e
     obtain ⟨e,hk⟩:=bb hk
     have m:=main e.symm hq hT
     subst e
     exact fin .bool _ _ hk rfl rfl (fun w' kf=>(m w' kf).1) (fun w' kf=>((m w' kf).2 _ rfl).2 rfl)
    ·cases hk
   ·cases hk
  ·cases hk
 ·rename_i e v yd yc
  rw[yd] at hy
  rw[yc] at hz
  obtain ⟨T,hT,hk⟩:=cw hk
  split at hk
  ·rename_i eT
   subst eT
   obtain ⟨te,hu⟩:∃ te,P.underlying t=some (.slice te):=by
    have cJ:=eD _ _ hT
    simp only[aD,Bool.and_eq_true] at cJ
    have Y:=cJ.2
    split at Y
    ·rename_i el jy;exact ⟨el,jy⟩
    ·cases Y
   obtain ⟨cs,h1,a0,cap,Y,h3,h4,h5⟩:=hy
   subst Y
   rw[bz _ _ rfl] at h1
   have Ci:a.eval z=.slice none 0 0:=hz
   have hg:∀ w',l5 o w w'->(eqGuard op t y z (a.eval y) (a.eval z)).run P w'=.ok () w':=fun w' _=>by rw[h1,Ci];exact tL (by rintro ⟨p,q,h,_⟩;cases h) (by intro h;cases h)
   have key:∀ (b:Bool),uX v (K (σ.aQ o.dst (.val .bool b))) (K (σ.aQ o.dst (.val .bool !b)))=some x->K (σ.aQ o.dst (.val .bool (if a0.isNone then b else !b)))=some x:=fun b hb=>by
    cases v with
    | nil=>
     simp only[uX,both] at hb
     split at hb
     ·rename_i e
      split
      ·exact hb
      ·rw[<-e];exact hb
     ·cases hb
    | cons y v=>
     have:a0.isNone=false:=by
      cases a0 with
      | none=>have:=h4 rfl;simp at this
      | some _=>rfl
     rw[this]
     exact hb
   unfold M7 at hk
   split at hk
   ·refine fin .bool _ (.bool a0.isNone) (key true hk) ?_ rfl hg fun w' _=>?_
    ·cases a0 <;> rfl
    ·rw[h1,Ci]
     have:=run_equal_slice_nil (P:=P) w' t te a0 (List.length v) cap hu
     simp only[Go.binOp,Sem.run_bind,this,Result.andThen_ok,Sem.run_pure]
   ·refine fin .bool _ (.bool !a0.isNone) (key false hk) ?_ rfl hg fun w' _=>?_
    ·cases a0 <;> rfl
    ·rw[h1,Ci]
     exact run_neq_slice_nil (P:=P) w' t te a0 (List.length v) cap hu
   ·cases hk
  ·cases hk
 ·cases hk
end
end OT
set_option linter.unusedVariables false
set_option linter.unusedSimpArgs false
namespace OT
open Go
section
variable {P:Program} {C:Ctx} {A:Cells} {X:FP} {σ:St} {a:Act} {w:World} {F:Nat->FP} {R:Type} {x:R} {Q:Exit->Act->World->Prop} {o:Oper} {E:Env}
theorem iQ (w:World) (ob:Obj):Ext w (w.alloc ob) (fun _ _=>0):=by
 refine ⟨by simp,fun b i hb _ u hu=>?_,fun b n hn=>?_,fun b i hb=>World.frozen?_alloc_old w ob _ (by simp;omega),rfl,rfl,rfl,fun b hb _=>?_,Nat.le_refl _⟩
 ·rw[pz (w:=w) (by simp only[World.alloc,Array.getElem?_push];rw[if_neg (by omega)])];exact hu
 ·obtain ⟨c,e,fr,h1,Y,h3⟩:=hn
  refine ⟨c,e,fr,?_,Y,h3⟩
  have hb:=(Array.getElem?_eq_some_iff.1 h1).1
  simp only[World.alloc,Array.getElem?_push]
  rw[if_neg (by omega)];exact h1
 ·simp only[World.alloc,Array.getElem?_push]
  rw[if_neg (by omega)]
theorem Cj (w:World):Ext w w.drew (fun _ _=>0):=⟨Nat.le_refl _,fun _ _ _ _ _ h=>h,fun _ _ h=>h,fun _ _ _=>rfl,rfl,rfl,rfl,fun _ _ _=>rfl,Nat.le_succ _⟩
theorem sh (w:World) (c:Array Value) (e:TypeId) (fr:Nat×Nat) (u:Bool) (gX:(u=true/\c.size<=fr.1)\/fr.2<=fr.1):dq (w.alloc (.cells c e fr)) w.heap.size (c.size,u):=
 ⟨c,e,fr,heap_alloc_new w _,rfl,fun i hi=>by simp only at hi;omega,fun hu=>by simp only at hu ⊢;subst hu;rcases gX with ⟨h,_⟩ | h;cases h;omega⟩
theorem si (w:World) (c:Array Value) (e:TypeId) (fr:Nat×Nat) {k:Nat} {L:List Value} (hL:∀ j u,L[j]?=some u->c[k+j]?=some u) (hJ:∀ u ∈ L,u.oneCell'=true):Has (w.alloc (.cells c e fr)) w.heap.size k L:=by
 intro j u hu
 have:=hL j u hu
 refine wl ?_ (hJ u (List.mem_of_getElem? hu))
 unfold World.cell?
 simp only[heap_alloc_new,Option.isSome_none,Bool.false_eq_true,if_false,this]
theorem Rel.alloc (h:Rel P C A X σ a w F) (c:Array Value) (e:TypeId) (fr:Nat×Nat):Rel P C A (fun b i=>X b i+bq w.heap.size 0 c.size b i) σ a (w.alloc (.cells c e fr)) F:=by
 refine h.grow (iQ w _) (fun _ _ h=>h) (fun _ _ h=>.inl h) (fun b i=>?_)
 by_cases hb:b=w.heap.size
 ·subst hb
  right
  have hx:X w.heap.size i=0:=by
   rcases Nat.eq_zero_or_pos (X w.heap.size i) with h0 | h0
   ·exact h0
   ·have:=h.ez w.heap.size i (.inl (by omega));omega
  exact ⟨Nat.le_refl _,by simp,by rw[hx];simp only[bq];split <;> omega⟩
 ·left
  simp[bq,hb]
theorem Rel.drew (h:Rel P C A X σ a w F):Rel P C A X σ a w.drew F:=h.grow (Cj w) (fun _ _ h=>h) (fun _ _ h=>.inl h) (fun _ _=>.inl (Nat.le_refl _))
theorem aj.alloc (h:Rel P C A X σ a w F) {t:Ty} {m:Md} {H:List Path} {v:t.den} {cs:List Value} {G:FP} (hr:aj P w A t m H v cs G) (hG:∀ b i,1<=G b i->b < w.heap.size) {w':World} (hw:Ext w w' (fun _ _=>0)):aj P w' A t m H v cs G:=
 aj.mono (fun _ _ h=>h) (fun b i ha u hu=>hw.cell b i (h.ez b i (.inr ha)) rfl u hu) hw.pt t hr (fun _ _=>Nat.le_refl _) (fun b i hp u hu=>hw.cell b i (hG b i hp) rfl u hu)
theorem E5 (h:Rel P C A X σ a w F) {K:St->Option R} {d:Option Tmp} {t:Ty} {m:Md} {v:t.den} {cs:List Value} {Fv:FP} (e:TypeId) (hk:K (σ.aQ d (.box t m [] v))=some x)
  (hr:aj P w A t m [] v cs Fv) (hX:∀ b i,Fv b i<=X b i):∃ A' F',Rel P C A' (fun _ _=>0) (σ.aQ d (.box t m [] v)) (a.put d (.pointer (some ⟨w.heap.size,0,none⟩))) (w.alloc (.cells cs.toArray e)) F':=by
 have hl:=aj.length t hr
 have h1:=h.alloc cs.toArray e (0,0)
 have dm:=sh w cs.toArray e (0,0) false (.inr (Nat.le_refl _))
 simp only[List.size_toArray,hl] at dm h1
 have mT:=aj.alloc h hr (fun b i hp=>h.ez b i (.inl (by have:=hX b i;omega))) (iQ w (.cells cs.toArray e))
 obtain ⟨F',hF⟩:=h1.aQ d (s:=.box t m [] v) (v:=.pointer (some ⟨w.heap.size,0,none⟩)) (Fd:=fun b i=>bq w.heap.size 0 t.sz b i+Fv b i) (X':=fun _ _=>0)
  ⟨w.heap.size,0,cs,Fv,rfl,hl,si w cs.toArray e (0,0) (fun j u hu=>by simpa using hu) (aj.one _ hr),fun j hj=>by rw[Nat.zero_add];exact dm.frozen hj,fun _ _=>Nat.le_refl _,mT⟩
  (fun b i=>by have:=hX b i;omega) (fun t' m' H' v' e'=>by injection e' with e1;subst e1;exact ⟨_,rfl,dm⟩)
 exact ⟨A,F',hF⟩
theorem og:∀ (t:Ty),t.ot=true->∃ L,zc t=some L:=by
 intro t
 induction t with
 | pair a b ey eg=>
  intro h
  simp only[Ty.ot,Bool.and_eq_true] at h
  obtain ⟨x,hx⟩:=ey h.1
  obtain ⟨y,hy⟩:=eg h.2
  exact ⟨x++y,by simp[zc,hx,hy]⟩
 | arr n e ih=>
  intro h
  obtain ⟨x,hx⟩:=ih h
  exact ⟨(List.replicate n x).flatten,by simp only[zc,hx]⟩
 | ptr e ih=>intro h;cases h
 | fn=>intro h;cases h
 | map k v=>intro h;cases h
 | _=>intro h;exact ⟨_,rfl⟩
theorem Ie (h:bC P C A σ a w F) (eD:∀ i T,E.TI i=some T->aD P T (.inl i)=true) {t:Nat} (ho:o.op=.alloc t) {K:St->Option R}
  (hk:(jw E t fun T=>if T.ot then K (σ.aQ o.dst (.box T (ao T) [] T.zero)) else none)=some x):o.wp P a w (fun a' w'=>Nx P C K x a' w'/\Ext w w' (fun _ _=>0)) Q:=by
 obtain ⟨T,hT,hk⟩:=cw hk
 split at hk
 ·rename_i If
  have cJ:=eD _ _ hT
  obtain ⟨L,hL⟩:=og T If
  obtain ⟨z,s9,vy⟩:=qn (P:=P) (w:=w) cJ hL
  obtain ⟨r1,r2,r3⟩:=tJ (P:=P) (w:=w) (A:=A) T hL cJ
  refine ij (v:=.pointer (some ⟨w.heap.size,0,none⟩)) (w':=w.alloc (.cells L.toArray t)) ?_ ?_
  ·have:z.cells=L.toArray:=by apply Array.ext';simpa using vy
   unfold execOp
   simp[ho,Instr.alloc,s9,newVar,newRow,this]
  ·obtain ⟨A',F',hF⟩:=E5 h t hk r1 (fun _ _=>Nat.le_refl _)
   exact ⟨⟨_,hk,A',F',hF⟩,iQ w _⟩
 ·cases hk
end
end OT
set_option linter.unusedVariables false
set_option linter.unusedSimpArgs false
namespace OT
open Go
section
variable {P:Program} {C:Ctx} {A:Cells} {X:FP} {σ:St} {a:Act} {w:World} {F:Nat->FP} {R:Type} {x:R} {Q:Exit->Act->World->Prop} {o:Oper} {E:Env}
theorem wu (h:Rel P C A X σ a w F) {K:St->Option R} {d:Option Tmp} {e:Ty} {m:Md} {v:List e.den} {c:Array Value} {cap:Nat} {el:TypeId} {fr:Nat×Nat} {Fi:Nat->FP} (gX:(BQ e=true/\c.size<=fr.1)\/fr.2<=fr.1)
  (hk:K (σ.aQ d (.own (.U e) (.U true m) [] v))=some x) (hc:c.size=cap*e.sz) (kC:cap<=maxLen) (hv:List.length v<=cap) (hX:∀ b i,ay (List.length v) Fi b i<=X b i)
  (jy:∀ (i:Nat) (y:e.den),v[i]?=some y->∃ L:List Value,L.length=e.sz/\(∀ j u,L[j]?=some u->c[i*e.sz+j]?=some u)/\aj P w A e m [] y L (Fi i)) :
  Nx P C K x (a.put d (.slice (some ⟨w.heap.size,0,none⟩) (List.length v) cap)) (w.alloc (.cells c el fr)):=by
 have h1:=h.alloc c el fr
 have dm:=sh w c el fr (BQ e) gX
 rw[hc] at dm h1
 refine jj h1 hk (Fd:=fun b i=>bq w.heap.size 0 (cap*e.sz) b i+ay (List.length v) Fi b i) ⟨_,(bz (.U e) _ rfl).symm,?_⟩ (fun b i=>by have:=hX b i;omega) (fun _ _ _ _ e=>by cases e)
 simp only[aj,hole,List.any_nil,Bool.false_eq_true,if_false,Md.own,if_true,Md.e]
 refine ⟨_,cap,rfl,hv,kC,(fun e=>by cases e),fun ad c8=>?_⟩
 injection c8 with c8;subst c8
 refine ⟨rfl,rfl,dm,Fi,fun _ _=>Nat.le_refl _,fun i y hy=>?_⟩
 obtain ⟨L,l1,l2,l3⟩:=jy i y hy
 have hi:=(List.getElem?_eq_some_iff.1 hy).1
 refine ⟨L,l1,si w c el fr l2 (aj.one _ l3),?_⟩
 simp only[List.filterMap_nil]
 exact aj.alloc h l3 (fun b k hp=>h.ez b k (.inl (by have:=hX b k;have:=bk Fi hi b k;omega))) (iQ w _)
theorem A6 (h:bC P C A σ a w F) (eD:∀ i T,E.TI i=some T->aD P T (.inl i)=true) {t:Nat} {y z:Operand} (ho:o.op=.makeSlice t y z) (az:bu P y=true/\bu P z=true) {K:St->Option R}
  (hk:(jw E t fun t=>match t with
  | .U e=>n9 (bA σ y) fun n=>n9 (bA σ z) fun c=>
   if e.ot then (if 0<=n/\n<=c/\c<=(bf:Int) then K (σ.aQ o.dst (.own (.U e) (ao (.U e)) [] (List.replicate n.toNat e.zero))) else none) else none
  | _=>none)=some x):o.wp P a w (fun a' w'=>Nx P C K x a' w'/\Ext w w' (fun _ _=>0)) Q:=by
 obtain ⟨T,hT,hk⟩:=cw hk
 have cJ:=eD _ _ hT
 split at hk
 ·rename_i e
  rcases cd h az.1 with hy | ⟨xs,e'⟩
  rotate_left
  ·rw[e'] at hk;cases hk
  obtain ⟨k1,n,hn,hk⟩:=lT hy hk
  rcases cd h az.2 with hz | ⟨xs,e'⟩
  rotate_left
  ·rw[e'] at hk;cases hk
  obtain ⟨k2,c,hc,hk⟩:=lT hz hk
  split at hk
  ·rename_i If
   split at hk
   ·rename_i hb
    obtain ⟨el,hu,eH,hle⟩:=mC cJ
    obtain ⟨inf,i1,i2,i3,i4⟩:=eV (gn hle)
    obtain ⟨L,hL⟩:=og e If
    obtain ⟨zv,z1,z2⟩:=i4 L hL
    obtain ⟨r1,r2,r3⟩:=tJ (P:=P) (w:=w) (A:=A) e hL hle
    have NE:(inf.bytes:Int)*c<=281474976710656:=by
     have h1:(inf.bytes:Int)<=512:=by omega
     have Y:(inf.bytes:Int)*c<=512*c:=Int.mul_le_mul_of_nonneg_right h1 (by omega)
     simp only[bf] at hb
     omega
    have dn:=run_make (P:=P) w t el inf zv hu i1 z1 k1 k2 n c hb.1 hb.2.1 NE (by simp only[bf] at hb;omega)
    have Sq:zv.cells.size=e.sz:=by rw[<-Array.length_toList,z2,r3]
    have hlen:List.length (List.replicate n.toNat e.zero)=n.toNat:=by simp
    refine ij (v:=.slice (some ⟨w.heap.size,0,none⟩) n.toNat c.toNat) (w':=w.alloc (.cells (madeCells zv.cells (c.toNat*inf.size)) el)) ?_ ?_
    ·unfold execOp
     simp only[ho,hn,hc,Sem.run_bind,dn,Result.andThen_ok,Sem.run_pure]
    ·refine ⟨?_,iQ w _⟩
     have Qd:=wu h (K:=K) (d:=o.dst) (v:=List.replicate n.toNat e.zero) (c:=madeCells zv.cells (c.toNat*inf.size)) (cap:=c.toNat) (el:=el) (fr:=(0,0)) (m:=ao e) (Fi:=fun _ _ _=>0) (.inr (Nat.le_refl _)) hk
      (by rw[size_madeCells,i2]) (by simp only[bf] at hb;simp only[maxLen];omega) (by rw[hlen];omega) (fun b i=>by rw[gK];exact Nat.le_refl _)
      (fun i y hy=>by
       have hi:i < n.toNat:=by have:=(List.getElem?_eq_some_iff.1 hy).1;simpa using this
       have hy:y=e.zero:=by simp only[List.getElem?_replicate,hi,if_true,Option.some.injEq] at hy;exact hy.symm
       subst hy
       refine ⟨L,r3,fun j u hu=>?_,r1⟩
       have hj:j < e.sz:=r3 ▸ (List.getElem?_eq_some_iff.1 hu).1
       have ai:i*e.sz+j < c.toNat*e.sz:=by
        have:(i+1)*e.sz<=c.toNat*e.sz:=Nat.mul_le_mul_right _ (by omega)
        rw[Nat.add_mul] at this;omega
       have JP:(i*e.sz+j) % e.sz=j:=by rw[Nat.mul_comm,Nat.mul_add_mod];exact Nat.mod_eq_of_lt hj
       have Sr:zv.cells[j]?=some u:=by rw[<-Array.getElem?_toList,z2];exact hu
       obtain ⟨Ss,Rd⟩:=Array.getElem?_eq_some_iff.1 Sr
       unfold madeCells
       rw[i2,Array.getElem?_map,Array.getElem?_range]
       simp only[ai,if_true,Option.map_some,Sq,JP]
       rw[getElem!_pos _ j Ss,Rd])
     rw[hlen] at Qd
     exact Qd
   ·cases hk
  ·cases hk
 ·cases hk
theorem Ck (h:bC P C A σ a w F) (eD:∀ i T,E.TI i=some T->aD P T (.inl i)=true) {s t:Nat} {y:Operand} (ho:o.op=.convert s t y) (az:bu P y=true) (E6:∀ T,E.TI t=some T->T.flat=true) {K:St->Option R}
  (hk:tw E σ s t (bA σ y) o.dst K=some x):Tk P o a w (Nx P C K x):=by
 unfold tw at hk
 obtain ⟨S,hS,hk⟩:=cw hk
 obtain ⟨T,hT,hk⟩:=cw hk
 have ry:=eD _ _ hS
 have rI:=eD _ _ hT
 rcases cd h az with hs | ⟨xs,e⟩
 rotate_left
 ·rw[e] at hk;split at hk <;> first | (cases hk;done) | (split at hk <;> first | (cases hk;done) | (simp[kK] at hk;done))
 split at hk
 ·rename_i k
  split at hk
  ·rename_i k' n hv
   rw[hv] at hs
   have e:=q9 hs
   split at hk
   ·rename_i Lx
    obtain ⟨dS,hd,_⟩:=qG ry
    refine cz (v:=.int k (k.wrap (jp k' n))) (fun w' _=>?_) (aV h hk ⟨[_],rfl,by simp only[Ro,kT]⟩ (fun _ _ _ _ e=>by cases e))
    unfold execOp
    simp only[ho,e,Sem.run_bind]
    have:(convert s t (.int k' (jp k' n))).run P w'=.ok (.int k (k.wrap (jp k' n))) w':=by
     unfold convert
     simp only[Sem.run_bind,run_underlying hd,run_underlying (jI rI),Result.andThen_ok]
     cases dS <;> rfl
    simp only[this,Result.andThen_ok,Sem.run_pure]
   ·cases hk
  ·cases hk
 ·split at hk
  ·split at hk
   ·rename_i b hv
    rw[hv] at hs
    have e:=qZ hs
    refine cz (v:=.string ⟨List.toArray b⟩) (fun w' _=>?_) (aV h hk ⟨[_],rfl,rfl⟩ (fun _ _ _ _ e=>by cases e))
    unfold execOp
    have:(convert s t (.string ⟨List.toArray b⟩)).run P w'=.ok (.string ⟨List.toArray b⟩) w':=by
     unfold convert
     simp only[Sem.run_bind,run_underlying (gf ry),run_underlying (gf rI),Result.andThen_ok]
     rfl
    simp only[ho,e,Sem.run_bind,this,Result.andThen_ok,Sem.run_pure]
   ·cases hk
  ·obtain ⟨v,cs,hk,h1,Y⟩:=EY h hs hk
   obtain ⟨el,hu,_,hle⟩:=mC ry
   obtain ⟨xa,cap,q1,q2,q3,q4⟩:=Y
   subst q1
   rw[bz _ _ rfl] at h1
   have v8:List UInt8:=v
   have dn:∀ w',l5 o w w'->(convert s t (a.eval y)).run P w'=.ok (.string ⟨List.toArray v⟩) w':=fun w' kf=>by
    have kf:=kf (by rw[ho];rfl)
    rw[h1]
    cases xa with
    | none=>
     have:v=[]:=List.eq_nil_of_length_eq_zero (q3 rfl)
     subst this
     exact run_convert_bytes_nil w' s el hu (jI hle) _ _ t (gf rI)
    | some ad=>
     obtain ⟨g1,g2⟩:=q4 _ rfl
     refine run_convert_bytes_back w' s t el _ cap v hu (jI hle) (gf rI) fun j hj=>?_
     obtain ⟨L,l1,l2,l3⟩:=g2 j _ (List.getElem?_eq_getElem hj)
     simp only[Ro] at l3
     subst l3
     have:=(l2 0 _ rfl).1
     obtain ⟨b,off,sp⟩:=ad
     have jq:=g1 (by omega)
     simp only at jq
     subst jq
     rw[jO]
     simp only[Ty.sz,Nat.mul_one,Nat.add_zero] at this
     exact nq (kf.cell _ _ (oY this) rfl _ this) rfl
   refine cz (v:=.string ⟨List.toArray v⟩) (fun w' kf=>?_) (aV h hk ⟨[_],rfl,rfl⟩ (fun _ _ _ _ e=>by cases e))
   unfold execOp
   simp only[ho,Sem.run_bind,dn w' kf,Result.andThen_ok,Sem.run_pure]
  ·cases hk
 ·have:=E6 _ hT
  simp[Ty.flat] at this
 ·cases hk
theorem ye (h:bC P C A σ a w F) (eD:∀ i T,E.TI i=some T->aD P T (.inl i)=true) {s t:Nat} {y:Operand} (ho:o.op=.convert s t y) (az:bu P y=true) (E6:∀ T,E.TI t=some T->T.flat=true) (vz:(match bA σ y with | .val (.int _) _=>true | .val .str _=>true | .val (.U (.int .u8)) _=>true | _=>false)=true) {K:St->Option R}
  (hk:tw E σ s t (bA σ y) o.dst K=some x) :
  ∃ v,(∀ w',(∀ b i,A b i->∀ u,ce w b i=some u->ce w' b i=some u)->(execOp a.eval o).run P w'=.ok (.value v) w')/\Nx P C K x (a.put o.dst v) w:=by
 unfold tw at hk
 obtain ⟨S,hS,hk⟩:=cw hk
 obtain ⟨T,hT,hk⟩:=cw hk
 have ry:=eD _ _ hS
 have rI:=eD _ _ hT
 rcases cd h az with hs | ⟨xs,e⟩
 rotate_left
 ·rw[e] at hk;split at hk <;> first | (cases hk;done) | (split at hk <;> first | (cases hk;done) | (simp[kK] at hk;done))
 split at hk
 ·rename_i k
  split at hk
  ·rename_i k' n hv
   rw[hv] at hs
   have e:=q9 hs
   split at hk
   ·rename_i Lx
    obtain ⟨dS,hd,_⟩:=qG ry
    refine ⟨.int k (k.wrap (jp k' n)),(fun w' _=>?_),aV h hk ⟨[_],rfl,by simp only[Ro,kT]⟩ (fun _ _ _ _ e=>by cases e)⟩
    unfold execOp
    simp only[ho,e,Sem.run_bind]
    have:(convert s t (.int k' (jp k' n))).run P w'=.ok (.int k (k.wrap (jp k' n))) w':=by
     unfold convert
     simp only[Sem.run_bind,run_underlying hd,run_underlying (jI rI),Result.andThen_ok]
     cases dS <;> rfl
    simp only[this,Result.andThen_ok,Sem.run_pure]
   ·cases hk
  ·cases hk
 ·split at hk
  ·split at hk
   ·rename_i b hv
    rw[hv] at hs
    have e:=qZ hs
    refine ⟨.string ⟨List.toArray b⟩,(fun w' _=>?_),aV h hk ⟨[_],rfl,rfl⟩ (fun _ _ _ _ e=>by cases e)⟩
    unfold execOp
    have:(convert s t (.string ⟨List.toArray b⟩)).run P w'=.ok (.string ⟨List.toArray b⟩) w':=by
     unfold convert
     simp only[Sem.run_bind,run_underlying (gf ry),run_underlying (gf rI),Result.andThen_ok]
     rfl
    simp only[ho,e,Sem.run_bind,this,Result.andThen_ok,Sem.run_pure]
   ·cases hk
  ·have Ig:∃ v',bA σ y=.val (.U (.int .u8)) v':=by
    split at vz
    ·rename_i e;rw[e] at hk;simp[kK,d_] at hk
    ·rename_i e;rw[e] at hk;simp[kK,d_] at hk
    ·rename_i v' e;exact ⟨v',e⟩
    ·cases vz
   obtain ⟨v,hv⟩:=Ig
   rw[hv] at hs hk
   simp only[kK] at hk
   obtain ⟨_,hk⟩:=bb hk
   obtain ⟨cs,h1,Y⟩:=hs
   obtain ⟨el,hu,_,hle⟩:=mC ry
   obtain ⟨xa,cap,q1,q2,q3,q4⟩:=Y
   subst q1
   rw[bz _ _ rfl] at h1
   have v8:List UInt8:=v
   have dn:∀ w',(∀ b i,A b i->∀ u,ce w b i=some u->ce w' b i=some u)->(convert s t (a.eval y)).run P w'=.ok (.string ⟨List.toArray v⟩) w':=fun w' kf=>by
    rw[h1]
    cases xa with
    | none=>
     have:v=[]:=List.eq_nil_of_length_eq_zero (q3 rfl)
     subst this
     exact run_convert_bytes_nil w' s el hu (jI hle) _ _ t (gf rI)
    | some ad=>
     obtain ⟨g1,g2⟩:=q4 _ rfl
     refine run_convert_bytes_back w' s t el _ cap v hu (jI hle) (gf rI) fun j hj=>?_
     obtain ⟨L,l1,l2,l3⟩:=g2 j _ (List.getElem?_eq_getElem hj)
     simp only[Ro] at l3
     subst l3
     have oA:=l2 0 _ rfl
     obtain ⟨b,off,sp⟩:=ad
     have jq:=g1 (by omega)
     simp only at jq
     subst jq
     rw[jO]
     simp only[Ty.sz,Nat.mul_one,Nat.add_zero] at oA
     exact nq (kf _ _ oA.2 _ oA.1) rfl
   refine ⟨.string ⟨List.toArray v⟩,(fun w' kf=>?_),aV h hk ⟨[_],rfl,rfl⟩ (fun _ _ _ _ e=>by cases e)⟩
   unfold execOp
   simp only[ho,Sem.run_bind,dn w' kf,Result.andThen_ok,Sem.run_pure]
  ·cases hk
 ·have:=E6 _ hT
  simp[Ty.flat] at this
 ·cases hk
theorem D1 (h:bC P C A σ a w F) (eD:∀ i T,E.TI i=some T->aD P T (.inl i)=true) {s t:Nat} {y:Operand} (ho:o.op=.convert s t y) (az:bu P y=true) {K:St->Option R}
  (hk:tw E σ s t (bA σ y) o.dst K=some x):o.wp P a w (fun a' w'=>Nx P C K x a' w'/\Ext w w' (fun _ _=>0)) Q:=by
 unfold tw at hk
 obtain ⟨S,hS,hk⟩:=cw hk
 obtain ⟨T,hT,hk⟩:=cw hk
 have ry:=eD _ _ hS
 have rI:=eD _ _ hT
 rcases cd h az with hs | ⟨xs,e⟩
 rotate_left
 ·rw[e] at hk;split at hk <;> first | (cases hk;done) | (split at hk <;> first | (cases hk;done) | (simp[kK] at hk;done))
 split at hk
 ·rename_i k
  split at hk
  ·rename_i k' n hv
   rw[hv] at hs
   have e:=q9 hs
   split at hk
   ·rename_i Lx
    obtain ⟨dS,hd,_⟩:=qG ry
    refine ij (v:=.int k (k.wrap (jp k' n))) (w':=w) ?_ ⟨aV h hk ⟨[_],rfl,by simp only[Ro,kT]⟩ (fun _ _ _ _ e=>by cases e),Ext.refl _ _⟩
    unfold execOp
    simp only[ho,e,Sem.run_bind]
    have:(convert s t (.int k' (jp k' n))).run P w=.ok (.int k (k.wrap (jp k' n))) w:=by
     unfold convert
     simp only[Sem.run_bind,run_underlying hd,run_underlying (jI rI),Result.andThen_ok]
     cases dS <;> rfl
    simp only[this,Result.andThen_ok,Sem.run_pure]
   ·cases hk
  ·cases hk
 ·split at hk
  ·split at hk
   ·rename_i b hv
    rw[hv] at hs
    have e:=qZ hs
    refine ij (v:=.string ⟨List.toArray b⟩) (w':=w) ?_ ⟨aV h hk ⟨[_],rfl,rfl⟩ (fun _ _ _ _ e=>by cases e),Ext.refl _ _⟩
    unfold execOp
    have:(convert s t (.string ⟨List.toArray b⟩)).run P w=.ok (.string ⟨List.toArray b⟩) w:=by
     unfold convert
     simp only[Sem.run_bind,run_underlying (gf ry),run_underlying (gf rI),Result.andThen_ok]
     rfl
    simp only[ho,e,Sem.run_bind,this,Result.andThen_ok,Sem.run_pure]
   ·cases hk
  ·obtain ⟨v,cs,hk,h1,Y⟩:=EY h hs hk
   obtain ⟨el,hu,_,hle⟩:=mC ry
   obtain ⟨xa,cap,q1,q2,q3,q4⟩:=Y
   subst q1
   rw[bz _ _ rfl] at h1
   have v8:List UInt8:=v
   have dn:(convert s t (a.eval y)).run P w=.ok (.string ⟨List.toArray v⟩) w:=by
    rw[h1]
    cases xa with
    | none=>
     have:v=[]:=List.eq_nil_of_length_eq_zero (q3 rfl)
     subst this
     exact run_convert_bytes_nil w s el hu (jI hle) _ _ t (gf rI)
    | some ad=>
     obtain ⟨g1,g2⟩:=q4 _ rfl
     refine run_convert_bytes_back w s t el _ cap v hu (jI hle) (gf rI) fun j hj=>?_
     obtain ⟨L,l1,l2,l3⟩:=g2 j _ (List.getElem?_eq_getElem hj)
     simp only[Ro] at l3
     subst l3
     have:=(l2 0 _ rfl).1
     obtain ⟨b,off,sp⟩:=ad
     have jq:=g1 (by omega)
     simp only at jq
     subst jq
     rw[jO]
     simp only[Ty.sz,Nat.mul_one,Nat.add_zero] at this
     exact nq (this) rfl
   refine ij (v:=.string ⟨List.toArray v⟩) (w':=w) ?_ ⟨aV h hk ⟨[_],rfl,rfl⟩ (fun _ _ _ _ e=>by cases e),Ext.refl _ _⟩
   unfold execOp
   simp only[ho,Sem.run_bind,dn,Result.andThen_ok,Sem.run_pure]
  ·cases hk
 ·split at hk
  ·rename_i b hv
   rw[hv] at hs
   have e:=qZ hs
   split at hk
   ·rename_i Lx
    rw[Lx] at ry
    split at hk
    rotate_left
    ·cases hk
    rename_i kC
    obtain ⟨el,hu,_,hle⟩:=mC rI
    have dn:=run_bytes_of_string (P:=P) w s t el ⟨List.toArray b⟩ (gf ry) hu (jI hle)
    have hlen:(⟨List.toArray b⟩:ByteArray).size=List.length b:=rfl
    have Ih:=grownCap_ge w (List.length b) 0 el
    have BV:=grownCap_le_maxLen w (List.length b) 0 el (by simp only[bf] at kC;simp only[maxLen];omega)
    rw[hlen] at dn
    have eH:(bytesRow ⟨List.toArray b⟩ (grownCap w (List.length b) 0 el)).size=grownCap w (List.length b) 0 el:=by
     simp[bytesRow,ByteArray.size];omega
    refine ij ?_ ⟨wu (h.drew) (K:=K) (d:=o.dst) (e:=.int .u8) (v:=b) (m:=.leaf) (Fi:=fun _ _ _=>0) (cap:=grownCap w (List.length b) 0 el) (el:=el) (fr:=((bytesRow ⟨List.toArray b⟩ (grownCap w (List.length b) 0 el)).size,(bytesRow ⟨List.toArray b⟩ (grownCap w (List.length b) 0 el)).size+1)) (c:=bytesRow ⟨List.toArray b⟩ (grownCap w (List.length b) 0 el)) (.inl ⟨rfl,Nat.le_refl _⟩) hk
     (by rw[eH];simp[Ty.sz]) BV Ih (fun b i=>by rw[gK];exact Nat.le_refl _) (fun i y hy=>?_),(Cj w).trans (iQ w.drew _) (fun _ _ _ _=>rfl)⟩
    ·unfold execOp
     simp only[ho,e,Sem.run_bind,dn,Result.andThen_ok,Sem.run_pure]
     rfl
    ·have hi:=(List.getElem?_eq_some_iff.1 hy).1
     have hb:=bytesRow_at ⟨List.toArray b⟩ (grownCap w (List.length b) 0 el) i (by simpa using hi)
     refine ⟨[.int .u8 (UInt8.toNat y)],rfl,fun j u hu=>?_,rfl⟩
     have hj:j=0:=by have:=(List.getElem?_eq_some_iff.1 hu).1;simpa using this
     subst hj
     simp only[Ty.sz,Nat.mul_one,Nat.add_zero,hb]
     have:=(List.getElem?_eq_some_iff.1 hy).2
     simp at hu ⊢
     rw[this,hu]
   ·cases hk
  ·cases hk
 ·cases hk
end
end OT
set_option linter.unusedVariables false
set_option linter.unusedSimpArgs false
namespace OT
open Go
section
variable {P:Program} {C:Ctx} {A:Cells} {X:FP} {σ:St} {a:Act} {w:World} {F:Nat->FP} {R:Type} {x:R} {Q:Exit->Act->World->Prop} {o:Oper} {E:Env}
theorem Cl (h:bC P C A σ a w F) {i j:Nat} (ho:o.op=.extract (.tmp i) j) {K:St->Option R}
  (hk:(match σ.get i with
   | .kO xs=>match xs[j]? with
    | some x=>if x.t=.unit then none else K ((σ.put i (.kO (xs.set j ⟨.unit,.leaf,()⟩))).aQ o.dst (laid x.t x.m x.v))
    | none=>none
   | _=>none)=some x):Tk P o a w (Nx P C K x):=by
 split at hk
 ·rename_i xs hg
  split at hk
  ·rename_i y hy
   split at hk
   ·cases hk
   ·rename_i Su
    have hi:i < σ.n:=by
     rcases Nat.lt_or_ge i σ.n with hi | hi
     ·exact hi
     ·rw[fk (Nat.not_lt.2 hi)] at hg;cases hg
    have hs:=h.dx i hi
    rw[hg] at hs
    obtain ⟨vs,Fi,h1,Y,h3⟩:=hs
    obtain ⟨v,h4,h5⟩:=h3 j y hy
    rcases h5 with h5 | ⟨cs,h6,h7⟩
    ·exact absurd h5 Su
    have hj:=(List.getElem?_eq_some_iff.1 hy).1
    have of:=h.put hi (s:=.kO (xs.set j ⟨.unit,.leaf,()⟩)) (v:=tmp a i) (Fd:=ay xs.length (ca Fi j fun _ _=>0)) (X':=Fi j)
     ⟨vs,ca Fi j fun _ _=>0,h1,fun b k=>by rw[List.length_set];exact Nat.le_refl _,fun k y' ve=>by
      rw[List.getElem?_set] at ve
      split at ve
      ·rename_i e;subst e
       injection ve with ve;subst ve;exact ⟨v,h4,.inl rfl⟩
      ·rename_i eG
       obtain ⟨v',g1,g2⟩:=h3 k y' ve
       refine ⟨v',g1,?_⟩
       have:ca Fi j (fun _ _=>0) k=Fi k:=by simp only[ca];rw[if_neg (fun e=>eG e.symm)]
       rw[this];exact g2⟩
     (fun b k=>by have:=lZ Fi hj (fun _ _=>0) b k;have:=Y b k;omega) (fun t m H v e=>by cases e)
    rw[ky] at of
    refine cz (v:=v) ?_ ?_
    ·unfold execOp
     have e:a.eval (.tmp i)=.tuple vs:=h1
     simp[ho,e,Instr.extract,h4]
    ·rw[h6]
     exact rD of hk h7 (fun b i=>Nat.le_refl _)
  ·cases hk
 ·cases hk
theorem Rel.Re (h:Rel P C A X σ a w F) {d n:Nat} (hd:∀ R,bp w (tmp a d) (σ.get d)=some R->bm R.t R.cs=C.args.getD n undef):Rel P C A X { σ with av:=(d,n,true)::σ.av } a w F:=by
 have gL:pA σ a w { σ with av:=(d,n,true)::σ.av } a w:=fun r p snap hb=>⟨hb,fun az=>⟨az,fun hl pl dZ=>⟨pl.H,pl.cs,dZ,fun _=>rfl⟩⟩⟩
 refine ⟨h.size,h.defers,fun i hi=>ba.gd gL (fun _ _ h=>h) (fun _ _ _ _ h=>h) (fun _ _ h=>h) (fun _ _ _=>⟨fun _ h=>h,rfl⟩) (h.dx i hi),fun d r p snap hm=>kx.gd gL (h.gh d r p snap hm),h.iP,h.jx,h.ez,h.fD,h.ext,h.own,h.a0,h.a1,fun j k hm=>?_,fun r t m H v hg hl=>h.whole r t m H v hg fun k hm=>hl k (List.mem_cons_of_mem _ hm),fun j k hm R hR=>?_⟩
 ·rcases List.mem_cons.1 hm with e | hm
  ·injection e with e1 e2;injection e2 with e2 e3;cases e3
  ·exact h.it j k hm
 ·rcases List.mem_cons.1 hm with e | hm
  ·injection e with e1 e2;injection e2 with e2 e3
   subst e1;subst e2
   exact hd R hR
  ·exact h.gE j k hm R hR
theorem Gh {l:List (Nat×Nat×Bool)} {i n:Nat} (h:xI l i=some n):(i,n,true) ∈ l:=by
 induction l with
 | nil=>cases h
 | cons y l ih=>
  obtain ⟨k,m,b⟩:=y
  simp only[xI] at h
  split at h
  ·rename_i hc
   simp only[Bool.and_eq_true,Nat.beq_eq] at hc
   injection h with h
   rw[<-hc.1,<- h,hc.2];exact List.mem_cons_self
  ·exact List.mem_cons_of_mem _ (ih h)
theorem Mp (h:bC P C A σ a w F) {t:Nat} {y:Operand} (ho:o.op=.box t y) (az:bu P y=true) {mv:Bool} {K:St->Option R}
  (hk:(jw E t fun t=>gI σ (bA σ y) mv t fun m v σ'=>K (BL σ y o.dst (σ'.aQ o.dst (.box t m [] v))))=some x):o.wp P a w (fun a' w'=>Nx P C K x a' w'/\Ext w w' (fun _ _=>0)) Q:=by
 obtain ⟨T,hT,hk⟩:=cw hk
 rcases cd h az with hs | ⟨xs,e⟩
 rotate_left
 ·rw[e] at hk;simp[gI] at hk
 have yf:=hk
 obtain ⟨A',σ',F',m,v,cs,Fv,k1,k2,k3,k4,kr,k5,k6⟩:=mY h hs hk
 have hl:=aj.length _ k6
 have hJ:=aj.one _ k6
 have Lo:(bm T cs).cells=cs.toArray:=by apply Array.ext';simpa using fE hl hJ
 obtain ⟨A2,F2,hF⟩:=E5 k3 (K:=fun s=>some s) (x:=σ'.aQ o.dst (.box T m [] v)) (d:=o.dst) t rfl k6 (fun b i=>by omega)
 refine ij (v:=.pointer (some ⟨w.heap.size,0,none⟩)) (w':=w.alloc (.cells cs.toArray t)) ?_ ?_
 ·unfold execOp
  simp[ho,Instr.box,newVar,newRow,k5,Lo]
 ·refine ⟨⟨_,k1,A2,F2,?_⟩,iQ w _⟩
  clear hk
  unfold BL
  split
  ·rename_i i d hd
   split
   ·rename_i t0 m0 H0 v0 hg
    split
    ·rename_i n hn
     rw[hd] at hF ⊢
     refine Rel.Re hF fun R hR=>?_
     have f8:=h.gE i n (Gh hn) ⟨t0,H0,(tmp a i).cells.toList,none⟩ (by rw[hg];rfl)
     have eD:tmp a i=bm T cs:=k5
     have Sv:t0=T:=by
      simp only[bA,hg] at yf
      unfold gI at yf
      simp only at yf
      split at yf
      ·simp only[jG,oP,hg,gZ] at yf
       split at yf
       ·exact (bb yf).1
       ·cases yf
      ·cases yf
     subst Sv
     simp only[eD,fE hl hJ] at f8
     simp only[St.aQ,pB] at hR
     split at hR
     ·rename_i hc
      have Sw:tmp (a.put (some d) (.pointer (some ⟨w.heap.size,0,none⟩))) d=.pointer (some ⟨w.heap.size,0,none⟩):=by
       rw[ii,if_pos ⟨rfl,by rw[h.size,<- k4];exact hc.2⟩]
      rw[Sw] at hR
      simp only[bp,Option.some.injEq] at hR
      subst hR
      have hh:=si w cs.toArray t (0,0) (k:=0) (L:=cs) (fun j u hu=>by simpa using hu) hJ
      show bm _ (rd _ _ _ _)=_
      rw[bB hh hl];exact f8
     ·rename_i hc
      have Ih:σ'.n<=d:=by
       rcases Nat.lt_or_ge d σ'.n with h1 | h1
       ·exact absurd (by simpa using h1) hc
       ·exact h1
      rw[fk (Nat.not_lt.2 Ih)] at hR;cases hR
    ·exact hF
   ·exact hF
  ·exact hF
end
end OT
set_option linter.unusedVariables false
set_option linter.unusedSimpArgs false
namespace OT
open Go
section
variable {P:Program} {C:Ctx} {A:Cells} {X:FP} {σ:St} {a:Act} {w:World} {F:Nat->FP} {R:Type} {x:R} {Q:Exit->Act->World->Prop} {o:Oper} {E:Env}
theorem Rel.giveUp (h:Rel P C A X σ a w F) {A1:Cells} {X1:FP} (hA:∀ b i,A b i->A1 b i) (vp:∀ b i,A1 b i->A b i\/(1<=X b i/\X1 b i=0)) (hX:∀ b i,X1 b i<=X b i):Rel P C A1 X1 σ a w F:=by
 have gL:pA σ a w σ a w:=fun r p snap hb=>⟨hb,fun az=>⟨az,fun hl pl dZ=>⟨pl.H,pl.cs,dZ,fun _=>rfl⟩⟩⟩
 refine ⟨h.size,h.defers,fun i hi=>ba.gd gL hA (fun _ _ _ _ h=>h) (fun _ _ h=>h) (fun _ _ _=>⟨fun _ h=>h,rfl⟩) (h.dx i hi),h.gh,fun b i=>by have:=h.iP b i;have:=hX b i;omega,
  fun b i hp ha=>?_,fun b i hp=>?_,h.fD,h.ext,fun b i hp=>h.own b i (by have:=hX b i;omega),fun b i ha=>hA b i (h.a0 b i ha),fun b i ha=>?_,h.it,h.whole,h.gE⟩
 ·rcases vp b i ha with ha | ha
  ·exact h.jx b i (by have:=hX b i;omega) ha
  ·have:=h.iP b i;omega
 ·rcases hp with hp | ha
  ·exact h.ez b i (.inl (by have:=hX b i;omega))
  ·rcases vp b i ha with ha | ha
   ·exact h.ez b i (.inr ha)
   ·exact h.ez b i (.inl (by omega))
 ·rcases vp b i ha with ha | ha
  ·exact h.a1 b i ha
  ·exact .inr (h.own b i (by omega))
theorem Ii {off:Nat} {l cs:List Value} (h:off+l.length<=cs.length) :
  ((l.toArray.zipIdx).foldl (fun cs (x:Value×Nat)=>cs.setIfInBounds (off+x.2) x.1) cs.toArray)=(cs.take off++l++cs.drop (off+l.length)).toArray:=by
 obtain ⟨h1,Y⟩:=Great.foldl_set off l 0 cs.toArray
 have e:(l.toArray.zipIdx).foldl (fun cs (x:Value×Nat)=>cs.setIfInBounds (off+x.2) x.1) cs.toArray=(l.zipIdx 0).foldl (fun cs (x:Value×Nat)=>cs.setIfInBounds (off+x.2) x.1) cs.toArray:=by simp
 rw[e]
 apply Array.ext_getElem?
 intro k
 rw[Y k]
 simp only[Nat.add_zero,List.size_toArray,List.getElem?_toArray]
 by_cases hk:k < off
 ·rw[if_neg (by omega),List.append_assoc,List.getElem?_append_left (by simp;omega),List.getElem?_take_of_lt hk]
 ·by_cases gD:k < off+l.length
  ·rw[if_pos (by omega),List.append_assoc,List.getElem?_append_right (by simp;omega)]
   have:(cs.take off).length=off:=by simp;omega
   rw[this,List.getElem?_append_left (by omega)]
  ·rw[if_neg (by omega),List.getElem?_append_right (by simp;omega)]
   have:(cs.take off++l).length=off+l.length:=by simp;omega
   rw[this,List.getElem?_drop]
   congr 1;omega
theorem vA {pl:Nat->Option (Nat×Nat)} {j off sz:Nat} (hp:pl j=some (off,sz)) {t:Ty} {l cs:List Value} (hl:l.length=sz) (h1:(bm t l).cells.toList=l) (h:off+sz<=cs.length) (rest:List (Nat×Value)) :
  Instr.fill pl cs.toArray ((j,bm t l)::rest)=Instr.fill pl (cs.take off++l++cs.drop (off+sz)).toArray rest:=by
 have hc:(bm t l).cells=l.toArray:=Array.ext' (by simpa using h1)
 rw[Instr.fill,hp]
 simp only[hc,List.size_toArray,hl,ne_eq,not_true_eq_false,decide_false,Bool.false_or]
 rw[if_neg (by simp;omega)]
 have:=Ii (off:=off) (l:=l) (cs:=cs) (by omega)
 rw[hl] at this
 rw[<-this]
theorem Ij:∀ (n:Nat) (t:Ty) {t':Ty} {m m':Md} {v:t.den} {y:t'.den} {cs ys:List Value} {G H:FP} {K:Md->t.den->Option R},aj P w A t m [] v cs G->aj P w A t' m' [] y ys H ->
  uV n t m v t' m' y K=some x->∃ m2 v2,K m2 v2=some x/\aj P w A t m2 [] v2 (cs.take (dy n t)++ys++cs.drop (dy n t+t'.sz)) (fun b i=>G b i+H b i)/\dy n t+t'.sz<=cs.length:=by
 intro n
 induction n with
 | zero=>
  intro t t' m m' v y cs ys G H K hr hy hk
  cases t with
  | pair a b=>
   simp only[uV] at hk
   obtain ⟨e,hk⟩:=bb hk;subst e
   have hl:=aj.length _ hr
   have E7:=aj.length _ hy
   obtain ⟨h0,F1,F2,hs,h1,Y⟩:=hr
   refine ⟨_,_,hk,⟨rfl,H,F2,fun b i=>by have:=hs b i;show H b i+F2 b i<=G b i+H b i;omega,?_,?_⟩,?_⟩
   ·simp only[dy,List.take_zero,List.nil_append,Nat.zero_add,List.filterMap_nil,Md.l]
    rw[List.take_left' E7];exact hy
   ·simp only[dy,List.take_zero,List.nil_append,Nat.zero_add,List.filterMap_nil,Md.r]
    rw[List.drop_left' E7];exact Y
   ·simp only[dy,Ty.sz] at hl ⊢;omega
  | _=>cases hk
 | succ n ih=>
  intro t t' m m' v y cs ys G H K hr hy hk
  cases t with
  | pair a b=>
   simp only[uV] at hk
   have hl:=aj.length _ hr
   obtain ⟨h0,F1,F2,hs,h1,Y⟩:=hr
   obtain ⟨m2,v2,k1,k2,k3⟩:=ih b Y hy hk
   simp only[List.length_drop] at k3
   simp only[Ty.sz] at hl
   refine ⟨_,_,k1,⟨rfl,F1,fun b i=>F2 b i+H b i,fun b i=>by have:=hs b i;show F1 b i+(F2 b i+H b i)<=G b i+H b i;omega,?_,?_⟩,?_⟩
   ·simp only[dy,List.filterMap_nil,Md.l]
    have:(cs.take (a.sz+dy n b)++ys++cs.drop (a.sz+dy n b+t'.sz)).take a.sz=cs.take a.sz:=by
     rw[List.append_assoc,List.take_append_of_le_length (by simp;omega),List.take_take,Nat.min_eq_left (by omega)]
    rw[this];exact h1
   ·simp only[dy,List.filterMap_nil,Md.r]
    have:(cs.take (a.sz+dy n b)++ys++cs.drop (a.sz+dy n b+t'.sz)).drop a.sz=(cs.drop a.sz).take (dy n b)++ys++(cs.drop a.sz).drop (dy n b+t'.sz):=by
     rw[List.append_assoc,List.drop_append_of_le_length (by simp;omega),List.drop_take,List.drop_drop,List.append_assoc]
     rw[show a.sz+dy n b - a.sz=dy n b by omega,show a.sz+(dy n b+t'.sz)=a.sz+dy n b+t'.sz by omega]
    rw[this];exact k2
   ·simp only[dy];omega
  | _=>cases hk
theorem Cm {α β:Type} (g:α->Option β):∀ (l:List α) (ps:List β),l.mapM g=some ps->∀ (j:Nat) (f:α),l[j]?=some f->ps[j]?=g f
 | [],ps,h,j,f,hf=>by cases hf
 | y::l,ps,h,j,f,hf=>by
  simp only[List.mapM_cons,Option.bind_eq_bind,Option.pure_def] at h
  cases hy:g y with
  | none=>simp[hy] at h
  | some z=>
   cases hr:l.mapM g with
   | none=>simp[hy,hr] at h
   | some r=>
    simp only[hy,hr,Option.bind_some,Option.some.injEq] at h
    subst h
    cases j with
    | zero=>injection hf with hf;subst hf;exact hy.symm
    | succ j=>exact Cm g l r hr j f hf
theorem Gj:∀ (t:Ty) {fs:List Field} {off:Nat},aD P t (.inr (fs,off))=true->∃ ps,fs.mapM (fun f=>(P.info? f.type).map fun i=>(f.offset,i.size))=some ps:=by
 intro t
 induction t with
 | unit=>
  intro fs off h
  simp only[aD,List.isEmpty_iff] at h
  subst h
  exact ⟨[],rfl⟩
 | pair a b ey eg=>
  intro fs off h
  cases fs with
  | nil=>simp[aD] at h
  | cons f r=>
   simp only[aD,Bool.and_eq_true] at h
   obtain ⟨ps,m7⟩:=eg h.2
   obtain ⟨inf,hi,_⟩:=eV (gn h.1.2)
   exact ⟨(f.offset,inf.size)::ps,by simp[hi,m7]⟩
 | _=>intro fs off h;simp[aD] at h
theorem A7 {T:Ty} {i:TypeId} (hl:aD P T (.inl i)=true) {j:Nat} {t':Ty} (hj:mG j T=some t') :
  ∃ fs ps,P.underlying i=some (.struct fs)/\fs.toList.mapM (fun f=>(P.info? f.type).map fun i=>(f.offset,i.size))=some ps/\∀ j t',mG j T=some t'->ps.toArray[j]?=some (dy j T,t'.sz):=by
 cases T with
 | pair a b=>
  have Qe:=hl
  simp only[aD,Bool.and_eq_true] at hl
  have Y:=hl.2
  split at Y
  ·rename_i fs hu
   split at Y
   ·rename_i f r vw
    have h3:aD P (.pair a b) (.inr (f::r,0))=true:=by
     simp only[aD,Nat.zero_add];exact Y
    obtain ⟨ps,m7⟩:=Gj _ h3
    refine ⟨fs,ps,hu,by rw[vw];exact m7,fun j t' hj=>?_⟩
    obtain ⟨f',q1,q2,q3,q4⟩:=E2 j (.pair a b) h3 hj
    have:=Cm _ _ _ m7 j f' q1
    obtain ⟨inf,hi,hs,_⟩:=eV (gn q3)
    simp only[List.getElem?_toArray,this,hi,Option.map_some,hs,q2,Nat.zero_add]
   ·cases Y
  ·cases Y
 | _=>cases j <;> cases hj
theorem Ik {T:Ty} {fz:Nat->Bool} {pl:Nat->Option (Nat×Nat)} (dZ:∀ j t',mG j T=some t'->pl j=some (dy j T,t'.sz)) {K:Md->T.den->St->Option R} :
  ∀ (ps:List (Nat×Operand)) {n:Nat} {σ:St} {A:Cells} {X:FP} {F:Nat->FP} {m:Md} {v:T.den} {cs:List Value},ps.all (fun p=>bu P p.2)=true->Rel P C A X σ a w F->aj P w A T m [] v cs X ->
   uW E σ T fz ps n m v K=some x->∃ A' σ' F' m' v' aL X',K m' v' σ'=some x/\Rel P C A' X' σ' a w F'/\aj P w A' T m' [] v' aL X'/\Instr.fill pl cs.toArray (ps.map fun p=>(p.1,a.eval p.2))=some aL.toArray:=by
 intro ps
 induction ps with
 | nil=>intro n σ A X F m v cs az h hr hk;exact ⟨A,σ,F,m,v,cs,X,hk,h,hr,rfl⟩
 | cons p ps ih=>
  intro n σ A X F m v cs az h hr hk
  obtain ⟨j,y⟩:=p
  simp only[List.all_cons,Bool.and_eq_true] at az
  simp only[uW] at hk
  split at hk
  ·rename_i t' uM
   rcases cd h az.1 with hs | ⟨xs,e⟩
   rotate_left
   ·rw[e] at hk;simp[gI] at hk
   obtain ⟨A1,jr,F1,m1,v1,iv,Fv,k1,k2,k3,k4,kr,k5,k6⟩:=mY h hs hk
   have mT:=aj.mono (P:=P) (A':=A1) k2 (fun _ _ _ _ h=>h) (fun _ _ h=>h) T hr (fun _ _=>Nat.le_refl _) (fun _ _ _ _ h=>h)
   obtain ⟨m2,v2,q1,q2,q3⟩:=Ij j T mT k6 k1
   obtain ⟨A',σ',F',m',v',aL,X',g1,g2,g3,g4⟩:=ih az.2 k3 q2 q1
   refine ⟨A',σ',F',m',v',aL,X',g1,g2,g3,?_⟩
   rw[List.map_cons,k5,vA (dZ j t' uM) (aj.length _ k6) (fE (aj.length _ k6) (aj.one _ k6)) q3]
   exact g4
  ·cases hk
theorem Mq {n j:Nat} {e:Ty} {v:List e.den} {y:e.den} {cs ys:List Value} (h:Ro P w A (.arr n e) v cs) (hy:Ro P w A e y ys) (hj:j < v.length) :
  Ro P w A (.arr n e) (v.set j y) (cs.take (j*e.sz)++ys++cs.drop (j*e.sz+e.sz))/\j*e.sz+e.sz<=cs.length:=by
 obtain ⟨h1,Y,h3,h4⟩:=h
 have E7:=Ro.length _ hy
 have hle:j*e.sz+e.sz<=cs.length:=by
  rw[h3,<- Nat.succ_mul];exact Nat.mul_le_mul_right _ (by omega)
 refine ⟨⟨h1,by simpa using Y,by simp only[List.length_append,List.length_take,List.length_drop,E7];omega,fun i z hz=>?_⟩,hle⟩
 rw[List.getElem?_set] at hz
 split at hz
 ·rename_i e1
  subst e1
  first
   | rw[if_pos hj] at hz
   | skip
  injection hz with hz;subst hz
  rw[List.append_assoc,List.drop_left' (by simp;omega),List.take_left' E7];exact hy
 ·rename_i eG
  have h5:=h4 i z hz
  have:((cs.take (j*e.sz)++ys++cs.drop (j*e.sz+e.sz)).drop (i*e.sz)).take e.sz=(cs.drop (i*e.sz)).take e.sz:=by
   rcases Nat.lt_or_ge i j with jf | jf
   ·have h6:i*e.sz+e.sz<=j*e.sz:=by rw[<-Nat.succ_mul];exact Nat.mul_le_mul_right _ (by omega)
    rw[List.append_assoc,List.drop_append_of_le_length (by simp;omega),List.take_append_of_le_length (by simp;omega),List.drop_take,List.take_take,Nat.min_eq_left (by omega)]
   ·have h6:j*e.sz+e.sz<=i*e.sz:=by rw[<-Nat.succ_mul];exact Nat.mul_le_mul_right _ (by omega)
    have h7:(cs.take (j*e.sz)++ys).length=j*e.sz+e.sz:=by simp[E7];omega
    rw[List.drop_append,h7,List.drop_of_length_le (by omega),List.nil_append,List.drop_drop]
    congr 2;omega
  rw[this];exact h5
theorem Mr {n0:Nat} {e:Ty} {fz:Nat->Bool} (hf:e.flat=true) {K:List e.den->St->Option R} :
  ∀ (ps:List (Nat×Operand)) {n:Nat} {σ:St} {A:Cells} {F:Nat->FP} {v:List e.den} {cs:List Value},ps.all (fun p=>bu P p.2)=true->bC P C A σ a w F->Ro P w A (.arr n0 e) v cs ->
   BH σ e fz ps n v K=some x->∃ A' σ' F' v' aL,K v' σ'=some x/\bC P C A' σ' a w F'/\Ro P w A' (.arr n0 e) v' aL/\Instr.fill (fun i=>some (i*e.sz,e.sz)) cs.toArray (ps.map fun p=>(p.1,a.eval p.2))=some aL.toArray:=by
 intro ps
 induction ps with
 | nil=>intro n σ A F v cs az h hr hk;exact ⟨A,σ,F,v,cs,hk,h,hr,rfl⟩
 | cons p ps ih=>
  intro n σ A F v cs az h hr hk
  obtain ⟨j,y⟩:=p
  simp only[List.all_cons,Bool.and_eq_true] at az
  simp only[BH] at hk
  rcases cd h az.1 with hs | ⟨xs,e⟩
  rotate_left
  ·rw[e] at hk;simp[gI] at hk
  obtain ⟨A1,jr,F1,m1,v1,iv,Fv,k1,k2,k3,k4,kr,k5,k6⟩:=mY h hs hk
  split at k1
  ·rename_i hj
   have mT:Ro P w A1 (.arr n0 e) v cs:=Ro.mono (fun _ _ _ _ h=>h) k2 _ hr
   obtain ⟨q1,q2⟩:=Mq mT (aj.flat _ hf k6) hj
   obtain ⟨A',σ',F',v',aL,g1,g2,g3,g4⟩:=ih az.2 (k3.less (X':=fun _ _=>0) fun _ _=>Nat.zero_le _) q1 k1
   refine ⟨A',σ',F',v',aL,g1,g2,g3,?_⟩
   rw[List.map_cons,k5,vA (pl:=fun i=>some (i*e.sz,e.sz)) rfl (aj.length _ k6) (fE (aj.length _ k6) (aj.one _ k6)) q2]
   exact g4
  ·cases k1
theorem Gk (h:bC P C A σ a w F) (eD:∀ i T,E.TI i=some T->aD P T (.inl i)=true) {t:Nat} {ps:Array (Nat×Operand)} {fz:Nat->Bool} (ho:o.op=.build t ps) (az:ps.toList.all (fun p=>bu P p.2)=true) {K:St->Option R}
  (hk:(jw E t fun t=>match t with
  | .arr n e=>if e.ot then BH σ e fz ps.toList 0 (Ty.arr n e).zero fun v σ=>K (σ.aQ o.dst (laid (.arr n e) (ao (.arr n e)) v)) else none
  | .pair t1 t2=>if (Ty.pair t1 t2).ot then uW E σ (.pair t1 t2) fz ps.toList 0 (ao (.pair t1 t2)) (Ty.pair t1 t2).zero fun m v σ=>K (σ.aQ o.dst (laid (.pair t1 t2) m v)) else none
  | _=>none)=some x):Tk P o a w (Nx P C K x):=by
 obtain ⟨T,hT,hk⟩:=cw hk
 have cJ:=eD _ _ hT
 have run:∀ (cells:Array Value),P.built t (ps.map fun (i,x)=>(i,a.eval x)).toList=some cells->∀ w',l5 o w w'->(execOp a.eval o).run P w'=.ok (.value (.agg cells)) w':=fun cells hc w' _=>by
  simp[execOp,ho,run_build w' t _ cells hc]
 have m7:(ps.map fun (i,x)=>(i,a.eval x)).toList=ps.toList.map fun p=>(p.1,a.eval p.2):=by simp
 rw[m7] at run
 split at hk
 ·rename_i n e
  split at hk
  ·rename_i hz
   have Ly:e.flat=true:=by
    have hl:=cJ;simp only[aD,Bool.and_eq_true] at hl;exact hl.1.2
   obtain ⟨L,hL⟩:=og (.arr n e) (by simpa [Ty.ot] using hz)
   obtain ⟨r1,r2,r3⟩:=tJ (P:=P) (w:=w) (A:=A) _ hL cJ
   obtain ⟨inf,i1,i2,i3,i4⟩:=eV (gn cJ)
   obtain ⟨z,z1,z2⟩:=i4 L hL
   obtain ⟨A',σ',F',v',aL,g1,g2,g3,g4⟩:=Mr Ly ps.toList az h r2 hk
   have hu:∃ el ie,P.underlying t=some (.array n el)/\P.info? el=some ie/\ie.size=e.sz:=by
    have hl:=cJ
    simp only[aD,Bool.and_eq_true] at hl
    have Y:=hl.2
    split at Y
    ·rename_i n' el hu
     simp only[Bool.and_eq_true,Nat.beq_eq] at Y
     obtain ⟨ie,j1,j2,_⟩:=eV (gn Y.2)
     exact ⟨el,ie,by rw[hu,Y.1.1],j1,j2⟩
    ·cases Y
   obtain ⟨el,ie,u1,u2,u3⟩:=hu
   have Ci:z.cells=L.toArray:=Array.ext' (by simpa using z2)
   have e1:bm (.arr n e) aL=.agg aL.toArray:=rfl
   refine cz (v:=bm (.arr n e) aL) (run _ ?_) ?_
   ·unfold Program.built
    simp only[i1,u1,z1,u2,u3,Ci]
    exact g4
   ·exact rD g2 g1 (Ro.flat _ (fun _ _=>0) (by simpa [Ty.flat] using Ly) g3) (fun _ _=>Nat.le_refl _)
  ·cases hk
 ·rename_i t1 t2
  split at hk
  ·rename_i hz
   obtain ⟨L,hL⟩:=og (.pair t1 t2) hz
   obtain ⟨r1,r2,r3⟩:=tJ (P:=P) (w:=w) (A:=A) _ hL cJ
   obtain ⟨inf,i1,i2,i3,i4⟩:=eV (gn cJ)
   obtain ⟨z,z1,z2⟩:=i4 L hL
   have Ci:z.cells=L.toArray:=Array.ext' (by simpa using z2)
   obtain ⟨fs,Sx,u1,u2,u3⟩:=A7 cJ (j:=0) rfl
   obtain ⟨A',σ',F',m',v',aL,X',g1,g2,g3,g4⟩:=Ik (pl:=fun j=>Sx.toArray[j]?) u3 ps.toList az h r1 hk
   refine cz (v:=bm (.pair t1 t2) aL) (run _ ?_) (rD g2 g1 g3 (fun _ _=>Nat.le_refl _))
   unfold Program.built
   simp only[i1,u1,z1,u2,Ci]
   exact g4
  ·cases hk
 ·cases hk
theorem Ms {e:Ty} {fz:Nat->Bool} (eH:1<=e.sz) {K:Md->List e.den->St->Option R} :
  ∀ (ps:List (Nat×Operand)) {n:Nat} {σ:St} {A:Cells} {X:FP} {F:Nat->FP} {m:Md} {v:List e.den} {L Z:List Value} {Fi:Nat->FP},ps.all (fun p=>bu P p.2)=true->Rel P C A X σ a w F ->
   List.length v=n->L.length=n*e.sz->Z.length=ps.length*e.sz->(∀ b i,ay n Fi b i<=X b i)->(∀ (i:Nat) (y:e.den),v[i]?=some y->aj P w A e m [] y ((L.drop (i*e.sz)).take e.sz) (Fi i)) ->
   w5 σ e fz ps n m v K=some x->∃ (A':Cells) (σ':St) (F':Nat->FP) (m':Md) (v':List e.den) (L':List Value) (X':FP) (yg:Nat->FP),K m' v' σ'=some x/\Rel P C A' X' σ' a w F'/\List.length v'=n+ps.length/\L'.length=(n+ps.length)*e.sz/\(∀ b i,ay (n+ps.length) yg b i<=X' b i) /\
    (∀ (i:Nat) (y:e.den),v'[i]?=some y->aj P w A' e m' [] y ((L'.drop (i*e.sz)).take e.sz) (yg i))/\Instr.fill (fun i=>some (i*e.sz,e.sz)) (L++Z).toArray (ps.map fun p=>(p.1,a.eval p.2))=some L'.toArray:=by
 intro ps
 induction ps with
 | nil=>
  intro n σ A X F m v L Z Fi az h hv hL hZ hX hr hk
  have:Z=[]:=by simpa using hZ
  subst this
  exact ⟨A,σ,F,m,v,L,X,Fi,hk,h,hv,hL,hX,hr,by simp[Instr.fill]⟩
 | cons p ps ih=>
  intro n σ A X F m v L Z Fi az h hv hL hZ hX hr hk
  obtain ⟨j,y⟩:=p
  simp only[List.all_cons,Bool.and_eq_true] at az
  simp only[w5] at hk
  split at hk
  ·rename_i hj
   have hj:j=n:=by simpa using hj
   subst hj
   rcases cd h az.1 with hs | ⟨xs,e⟩
   rotate_left
   ·rw[e] at hk;simp[gI] at hk
   obtain ⟨A1,jr,F1,m1,v1,iv,Fv,k1,k2,k3,k4,kr,k5,k6⟩:=mY h hs hk
   have Cn:=aj.length _ k6
   have Qf:Z.length=e.sz+ps.length*e.sz:=by rw[hZ,List.length_cons,Nat.add_mul];omega
   have Qg:∀ {A2:Cells} {X2:FP} {m2:Md} {Co:Nat->FP},Rel P C A2 X2 jr a w F1->(∀ b i,ay (j+1) Co b i<=X2 b i)->(∀ (i:Nat) (y:e.den),v[i]?=some y->aj P w A2 e m2 [] y ((L.drop (i*e.sz)).take e.sz) (Co i)) ->
     aj P w A2 e m2 [] v1 iv (Co j)->w5 jr e fz ps (j+1) m2 (v++[v1]) K=some x ->
     ∃ (A':Cells) (σ':St) (F':Nat->FP) (m':Md) (v':List e.den) (L':List Value) (X':FP) (yg:Nat->FP),K m' v' σ'=some x/\Rel P C A' X' σ' a w F'/\List.length v'=j+(ps.length+1)/\L'.length=(j+(ps.length+1))*e.sz/\(∀ b i,ay (j+(ps.length+1)) yg b i<=X' b i) /\
      (∀ (i:Nat) (y:e.den),v'[i]?=some y->aj P w A' e m' [] y ((L'.drop (i*e.sz)).take e.sz) (yg i))/\Instr.fill (fun i=>some (i*e.sz,e.sz)) (L++Z).toArray ((j,a.eval y)::ps.map fun p=>(p.1,a.eval p.2))=some L'.toArray:=by
    intro A2 X2 m2 Co Y Sy nL Ag gD
    obtain ⟨A',σ',F',m',v',L',X',yg,g1,g2,g3,g4,g5,g6,g7⟩:=ih (L:=L++iv) (Z:=Z.drop e.sz) (Fi:=Co) az.2 Y (by simp[hv]) (by simp[hL,Cn,Nat.add_mul]) (by simp[Qf]) Sy (fun i z hz=>by
     by_cases hi:i=j
     ·subst hi
      rw[List.getElem?_append_right (by omega)] at hz
      simp only[hv,Nat.sub_self,List.getElem?_cons_zero,Option.some.injEq] at hz
      subst hz
      rw[List.drop_left' hL,List.take_of_length_le (by omega)];exact Ag
     ·have ai:i < j:=by
       have:=(List.getElem?_eq_some_iff.1 hz).1
       simp only[List.length_append,List.length_singleton,hv] at this;omega
      rw[List.getElem?_append_left (by omega)] at hz
      have h6:i*e.sz+e.sz<=j*e.sz:=by rw[<-Nat.succ_mul];exact Nat.mul_le_mul_right _ (by omega)
      rw[List.drop_append_of_le_length (by omega),List.take_append_of_le_length (by simp;omega)]
      exact nL i z hz) gD
    refine ⟨A',σ',F',m',v',L',X',yg,g1,g2,by omega,by rw[g4];congr 1;omega,fun b i=>by have:=g5 b i;rw[show j+(ps.length+1)=j+1+ps.length by omega];exact this,g6,?_⟩
    rw[k5,vA (pl:=fun i=>some (i*e.sz,e.sz)) rfl Cn (fE Cn (aj.one _ k6)) (by simp[hL,Qf])]
    rw[List.take_left' hL,show j*e.sz+e.sz=L.length+e.sz by omega,List.drop_append,List.drop_of_length_le (by omega),List.nil_append,Nat.add_sub_cancel_left]
    exact g7
   have mT:∀ (i:Nat) (y:e.den),v[i]?=some y->aj P w A1 e m [] y ((L.drop (i*e.sz)).take e.sz) (Fi i):=fun i y hy=>aj.mono (P:=P) (A':=A1) k2 (fun _ _ _ _ h=>h) (fun _ _ h=>h) e (hr i y hy) (fun _ _=>Nat.le_refl _) (fun _ _ _ _ h=>h)
   split at k1
   ·rename_i hm
    subst hm
    refine Qg (Co:=ca Fi j Fv) k3 (fun b i=>?_) (fun i y hy=>?_) (by simp only[ca,if_true];exact k6) k1
    ·have h1:=n_ j 1 (ca Fi j Fv) b i
     have Y:ay j (ca Fi j Fv) b i=ay j Fi b i:=by rw[BR Fi (Nat.le_refl j)]
     have h3:ay 1 (fun k=>ca Fi j Fv (j+k)) b i=Fv b i:=by simp[ay,ca]
     have:=hX b i
     omega
    ·have:i≠j:=by have:=(List.getElem?_eq_some_iff.1 hy).1;omega
     simp only[ca];rw[if_neg this];exact mT i y hy
   ·
    have lK:∃ A2:Cells,(∀ b i,A1 b i->A2 b i)/\Rel P C A2 (fun _ _=>0) jr a w F1/\Ro P w A2 e v1 iv/\∀ (i:Nat) (y:e.den),v[i]?=some y->Ro P w A2 e y ((L.drop (i*e.sz)).take e.sz):=by
     refine ⟨fun b i=>A1 b i\/1<=X b i+Fv b i,fun _ _ h=>.inl h,k3.giveUp (fun _ _ h=>.inl h) (fun b i ha=>ha.imp id fun hp=>⟨hp,rfl⟩) (fun _ _=>Nat.zero_le _),aj.oS (fun _ _ h=>.inl h) e k6 (fun b i hp=>.inr (by omega)),fun i y hy=>?_⟩
     have hi:=(List.getElem?_eq_some_iff.1 hy).1
     exact aj.oS (fun _ _ h=>.inl h) e (mT i y hy) (fun b k hp=>.inr (by have:=bk Fi (show i < j by omega) b k;have:=hX b k;omega))
    obtain ⟨A2,a1,a2,a3,a4⟩:=lK
    exact Qg (Co:=fun _ _ _=>0) a2 (fun b i=>by rw[gK];exact Nat.zero_le _) (fun i y hy=>Ro.rep _ _ (cZ _) (a4 i y hy)) (Ro.rep _ _ (cZ _) a3) k1
  ·cases hk
theorem zH (h:bC P C A σ a w F) (eD:∀ i T,E.TI i=some T->aD P T (.inl i)=true) {t n:Nat} {ps:Array (Nat×Operand)} {fz:Nat->Bool} (ho:o.op=.buildSlice t n ps) (az:ps.toList.all (fun p=>bu P p.2)=true) {K:St->Option R}
  (hk:(jw E t fun t=>match t with
  | .U e=>if Nat.beq n ps.size&&e.ot&&Nat.ble (n*e.sz) 16777216 then w5 σ e fz ps.toList 0 (ao e) [] fun m v σ=>K (σ.aQ o.dst (.own (.U e) (.U true m) [] v)) else none
  | _=>none)=some x):o.wp P a w (fun a' w'=>Nx P C K x a' w'/\Ext w w' (fun _ _=>0)) Q:=by
 obtain ⟨T,hT,hk⟩:=cw hk
 have cJ:=eD _ _ hT
 split at hk
 ·rename_i e
  split at hk
  ·rename_i hc
   simp only[Bool.and_eq_true,Nat.beq_eq,Nat.ble_eq] at hc
   obtain ⟨⟨hn,hz⟩,kC⟩:=hc
   have hl:=cJ
   simp only[aD,Bool.and_eq_true] at hl
   have Y:=hl.2
   split at Y
   ·rename_i el hu
    simp only[Bool.and_eq_true,Nat.ble_eq] at Y
    obtain ⟨eH,jy⟩:=Y
    obtain ⟨Lz,Qh⟩:=og e hz
    obtain ⟨r1,r2,r3⟩:=tJ (P:=P) (w:=w) (A:=A) _ Qh jy
    obtain ⟨inf,i1,i2,i3,i4⟩:=eV (gn jy)
    obtain ⟨z,z1,z2⟩:=i4 Lz Qh
    have Sz:z.cells.size=e.sz:=by rw[<-r3,<- z2];simp
    obtain ⟨A',σ',F',m',v',L',X',yg,g1,g2,g3,g4,g5,g6,g7⟩:=Ms (P:=P) eH ps.toList (n:=0) (L:=[]) (Z:=((Array.range (n*e.sz)).map (z.cells[· % z.cells.size]!)).toList) (Fi:=fun _ _ _=>0) (m:=ao e) az h rfl (by simp) (by simp[hn]) (fun b i=>by rw[gK];exact Nat.zero_le _) (fun i y hy=>by cases hy) hk
    simp only[List.nil_append,Array.toArray_toList] at g7
    simp only[Nat.zero_add] at g3 g4 g5
    have Cp:ps.toList.length=n:=by simpa using hn.symm
    rw[Cp] at g3 g4 g5
    have dn:(execOp a.eval o).run P w=.ok (.value (.slice (some ⟨w.heap.size,0,none⟩) n n)) (w.alloc (.cells L'.toArray el)):=by
     by_cases yj:n*e.sz=0
     ·have:n=0:=by rcases Nat.mul_eq_zero.1 yj with h | h <;> omega
      subst this
      have m7:ps=#[]:=by apply Array.eq_empty_of_size_eq_zero;omega
      subst m7
      have Le:L'=[]:=by simpa using g4
      subst Le
      simp[execOp,ho,Instr.buildSlice,run_underlying hu,Go.sizeOf,typeInfo,i1,Instr.fill,newRow,show Array.range 0=#[] from rfl]
     ·have:=run_buildSlice (P:=P) w t el n (ps.map fun (i,x)=>(i,a.eval x)) L'.toArray inf z hu i1 z1 (by rw[i2];simp;omega) (by rw[i2];exact yj) (by rw[i2];simpa using g7)
      simp only[execOp,ho,this,Sem.run_bind,Result.andThen_ok,Sem.run_pure]
    refine ij (w':=w.alloc (.cells L'.toArray el)) dn ?_
    have ik:=wu g2 (K:=K) (x:=x) (d:=o.dst) (e:=e) (m:=m') (v:=v') (c:=L'.toArray) (cap:=n) (el:=el) (fr:=(0,0)) (Fi:=yg) (.inr (Nat.le_refl _)) g1 (by simp[g4]) (by simp only[maxLen];have:=Nat.le_mul_of_pos_right n eH;omega) (by omega)
     (fun b i=>by rw[g3];exact g5 b i) (fun i y hy=>⟨(L'.drop (i*e.sz)).take e.sz,aj.length _ (g6 i y hy),(fun j u hu=>by
      rw[List.getElem?_take] at hu
      split at hu
      ·rw[List.getElem?_drop] at hu;simpa using hu
      ·cases hu),g6 i y hy⟩)
    rw[g3] at ik
    exact ⟨ik,iQ w _⟩
   ·cases Y
  ·cases hk
 ·cases hk
end
end OT
set_option linter.unusedVariables false
set_option linter.unusedSimpArgs false
namespace OT
open Go
section
variable {P:Program} {C:Ctx} {A:Cells} {X:FP} {σ:St} {a:Act} {w:World} {F:Nat->FP} {R:Type} {x:R} {Q:Exit->Act->World->Prop} {o:Oper} {E:Env}
theorem Rel.world (h:Rel P C A X σ a w F) {w1:World} {G:FP} (hw:Ext w w1 G) (hG:∀ b i,1<=G b i->1<=X b i):Rel P C A X σ a w1 F:=by
 have lL:∀ b i,A b i->∀ u,ce w b i=some u->ce w1 b i=some u:=fun b i ha u hu=>by
  refine hw.cell b i (h.ez b i (.inr ha)) ?_ u hu
  rcases Nat.eq_zero_or_pos (G b i) with h0 | h0
  ·exact h0
  ·exact absurd ha (h.jx b i (by have:=hG b i h0;omega))
 have vm:∀ j,j < σ.n->∀ b i,1<=F j b i->(∀ u,ce w b i=some u->ce w1 b i=some u)/\w1.frozen? ⟨b,i,none⟩=w.frozen? ⟨b,i,none⟩:=fun j hj b i hp=>by
  have hs:=bk F hj b i
  have hb:=h.ez b i (.inl (by omega))
  refine ⟨fun u hu=>hw.cell b i hb ?_ u hu,hw.ql b i hb⟩
  rcases Nat.eq_zero_or_pos (G b i) with h0 | h0
  ·exact h0
  ·have:=hG b i h0;have:=h.iP b i;omega
 have gL:pA σ a w σ a w1:=fun r p snap hb=>⟨hb,fun az=>⟨az,fun hl pl dZ=>⟨pl.H,pl.cs,by
  have ai:=mV dZ
  exact nM (h.dx r ai) rfl rfl lL (fun b i hp=>(vm r ai b i hp).1) dZ,fun _=>rfl⟩⟩⟩
 refine ⟨h.size,h.defers,fun i hi=>ba.gd gL (fun _ _ h=>h) lL hw.pt (vm i hi) (h.dx i hi),fun d r p snap hm=>kx.gd gL (h.gh d r p snap hm),h.iP,h.jx,fun b i hp=>Nat.lt_of_lt_of_le (h.ez b i hp) hw.size,
  h.fD,h.ext.trans hw (fun b i hb hz=>?_),h.own,h.a0,h.a1,h.it,fun r t m H v hg hl=>?_,fun j k hm R' dO=>?_⟩
 ·rcases Nat.eq_zero_or_pos (G b i) with h0 | h0
  ·exact h0
  ·rcases h.own b i (by have:=hG b i h0;omega) with h1 | h1 <;> omega
 ·obtain ⟨b,h1,Y⟩:=h.whole r t m H v hg hl
  exact ⟨b,h1,hw.pt _ _ Y⟩
 ·rcases Nat.lt_or_ge j σ.n with hj | hj
  ·have ig:=h.dx j hj
   cases nC:bp w (tmp a j) (σ.get j) with
   | none=>exfalso;cases hg:σ.get j <;> rw[hg] at nC dO <;> simp only[bp] at nC dO <;> first | (cases dO;done) | (cases nC;done) | (split at nC <;> simp_all)
   | some R0=>
    rw[oV ig (fun b i hp=>(vm j hj b i hp).1) nC] at dO
    injection dO with dO
    subst dO
    exact h.gE j k hm _ nC
  ·rw[fk (Nat.not_lt.2 hj)] at dO;cases dO
theorem yk {b o sz:Nat} {n:Nat} (h:∀ i,i < n->∃ L:List Value,L.length=sz/\Has w b (o+i*sz) L):Has w b o (rd w b o (n*sz))/\∀ i L,i < n->L.length=sz->Has w b (o+i*sz) L->((rd w b o (n*sz)).drop (i*sz)).take sz=L:=by
 have Pb:∀ j,j < n*sz->(ce w b (o+j)).isSome=true:=fun j hj=>by
  have eH:0 < sz:=by rcases Nat.eq_zero_or_pos sz with h0 | h0;(· subst h0;simp at hj);exact h0
  have hi:j / sz < n:=Nat.div_lt_of_lt_mul (by rw[Nat.mul_comm];exact hj)
  obtain ⟨L,h1,Y⟩:=h _ hi
  have hm:j % sz < L.length:=by rw[h1];exact Nat.mod_lt _ eH
  have:=Y (j % sz) _ (List.getElem?_eq_getElem hm)
  have e:o+j / sz*sz+j % sz=o+j:=by have:=Nat.div_add_mod j sz;rw[Nat.mul_comm] at this;omega
  rw[e] at this
  rw[this];rfl
 refine ⟨fun j u hu=>?_,fun i L hi hl hL=>?_⟩
 ·have hj:=(List.getElem?_eq_some_iff.1 hu).1
  rw[pY] at hj
  unfold rd at hu
  rw[List.getElem?_map,List.getElem?_range hj] at hu
  simp only[Option.map_some,Option.some.injEq] at hu
  obtain ⟨u',NC⟩:=Option.isSome_iff_exists.1 (Pb j hj)
  rw[NC] at hu ⊢
  exact congrArg some hu
 ·have h6:i*sz+sz<=n*sz:=by rw[<-Nat.succ_mul];exact Nat.mul_le_mul_right _ (by omega)
  apply List.ext_getElem?
  intro j
  rw[List.getElem?_take,List.getElem?_drop]
  by_cases hj:j < sz
  ·rw[if_pos hj]
   unfold rd
   rw[List.getElem?_map,List.getElem?_range (by omega)]
   have:=hL j L[j] (List.getElem?_eq_getElem (by omega))
   rw[show o+i*sz+j=o+(i*sz+j) by omega] at this
   rw[List.getElem?_eq_getElem (by omega)]
   simp[this]
  ·rw[if_neg hj,List.getElem?_eq_none (by omega)]
theorem vB {e:Ty} {m:Md} {v:List e.den} {cs:List Value} {Fv:FP} (hr:aj P w A (.U e) m [] v cs Fv) :
  ∃ xa cap news Fi,cs=[.slice xa (List.length v) cap]/\(List.length v<=cap/\(xa=none->List.length v=0))/\(∀ ad,xa=some ad->(0 < cap->ad.spot=none)/\Has w ad.block ad.off news)/\news.length=List.length v*e.sz/\(∀ u ∈ news,u.oneCell'=true) /\
   (∀ (i:Nat) (y:e.den),v[i]?=some y->aj P w A e m.e [] y ((news.drop (i*e.sz)).take e.sz) (Fi i))/\(∀ b i,ay (List.length v) Fi b i<=Fv b i) /\
   (m.own=true->List.length v<=cap/\cap<=maxLen/\(xa=none->cap=0)/\∀ ad,xa=some ad->ad.off=0/\ad.spot=none/\dq w ad.block (cap*e.sz,BQ e)/\∀ b i,bq ad.block 0 (cap*e.sz) b i+ay (List.length v) Fi b i<=Fv b i):=by
 have hJ:∀ (news:List Value) (Fi:Nat->FP),news.length=List.length v*e.sz->(∀ (i:Nat) (y:e.den),v[i]?=some y->aj P w A e m.e [] y ((news.drop (i*e.sz)).take e.sz) (Fi i))->∀ u ∈ news,u.oneCell'=true:=by
  intro news Fi hl jy u hu
  obtain ⟨j,hj,rfl⟩:=List.mem_iff_getElem.1 hu
  have eH:0 < e.sz:=by rcases Nat.eq_zero_or_pos e.sz with h0 | h0;(· rw[hl,h0] at hj;simp at hj);exact h0
  have hi:j / e.sz < List.length v:=Nat.div_lt_of_lt_mul (by rw[Nat.mul_comm,<- hl];exact hj)
  have h1:=aj.one _ (jy _ _ (List.getElem?_eq_getElem hi))
  refine h1 _ (List.mem_of_getElem? (i:=j % e.sz) ?_)
  rw[List.getElem?_take,if_pos (Nat.mod_lt _ eH),List.getElem?_drop]
  have:j / e.sz*e.sz+j % e.sz=j:=by rw[Nat.mul_comm];exact Nat.div_add_mod j e.sz
  rw[this,List.getElem?_eq_getElem hj]
 simp only[aj,hole,List.any_nil,Bool.false_eq_true,if_false] at hr
 split at hr
 ·rename_i dm
  obtain ⟨xa,cap,rfl,h1,Y,h3,h4⟩:=hr
  cases xa with
  | none=>
   have kC:=h3 rfl
   have E8:List.length v=0:=by omega
   have hv:v=[]:=List.eq_nil_of_length_eq_zero E8
   subst hv
   exact ⟨none,cap,[],fun _ _ _=>0,rfl,⟨Nat.zero_le _,fun _=>rfl⟩,(fun ad e=>by cases e),by simp,(fun u hu=>by cases hu),(fun i y hy=>by cases hy),fun b i=>by rw[gK];exact Nat.zero_le _,fun _=>⟨h1,Y,h3,fun ad e=>by cases e⟩⟩
  | some ad=>
   obtain ⟨g1,g2,g3,Fi,g4,g5⟩:=h4 ad rfl
   have hp:∀ i,i < List.length v->∃ L:List Value,L.length=e.sz/\Has w ad.block (0+i*e.sz) L:=fun i hi=>by
    obtain ⟨L,l1,l2,_⟩:=g5 i _ (List.getElem?_eq_getElem hi)
    exact ⟨L,l1,by rw[Nat.zero_add];exact l2⟩
   obtain ⟨p1,p2⟩:=yk hp
   have jy:∀ (i:Nat) (y:e.den),v[i]?=some y->aj P w A e m.e [] y (((rd w ad.block 0 (List.length v*e.sz)).drop (i*e.sz)).take e.sz) (Fi i):=fun i y hy=>by
    obtain ⟨L,l1,l2,l3⟩:=g5 i y hy
    rw[p2 i L (List.getElem?_eq_some_iff.1 hy).1 l1 (by rw[Nat.zero_add];exact l2)]
    simpa using l3
   refine ⟨some ad,cap,rd w ad.block 0 (List.length v*e.sz),Fi,rfl,⟨h1,(fun e=>by cases e)⟩,fun a_ e=>?_,pY _ _ _ _,hJ _ _ (pY _ _ _ _) jy,jy,fun b i=>by have:=g4 b i;omega,fun _=>⟨h1,Y,h3,fun a_ e=>?_⟩⟩
   ·injection e with e;subst e;exact ⟨fun _=>g2,by rw[g1];exact p1⟩
   ·injection e with e;subst e;exact ⟨g1,g2,g3,g4⟩
 ·rename_i dm
  obtain ⟨_,kP,xa,cap,rfl,h1,Y,h3⟩:=hr
  cases xa with
  | none=>
   have hv:v=[]:=List.eq_nil_of_length_eq_zero (Y rfl)
   subst hv
   exact ⟨none,cap,[],fun _ _ _=>0,rfl,⟨Nat.zero_le _,fun _=>rfl⟩,(fun ad e=>by cases e),by simp,(fun u hu=>by cases hu),(fun i y hy=>by cases hy),(fun b i=>by rw[gK];exact Nat.zero_le _),fun h=>absurd h dm⟩
  | some ad=>
   obtain ⟨g1,g2⟩:=h3 ad rfl
   have hp:∀ i,i < List.length v->∃ L:List Value,L.length=e.sz/\Has w ad.block (ad.off+i*e.sz) L:=fun i hi=>by
    obtain ⟨L,l1,l2,_⟩:=g2 i _ (List.getElem?_eq_getElem hi)
    exact ⟨L,l1,fun j u hu=>(l2 j u hu).1⟩
   obtain ⟨p1,p2⟩:=yk hp
   have jy:∀ (i:Nat) (y:e.den),v[i]?=some y->aj P w A e m.e [] y (((rd w ad.block ad.off (List.length v*e.sz)).drop (i*e.sz)).take e.sz) (fun _ _=>0):=fun i y hy=>by
    obtain ⟨L,l1,l2,l3⟩:=g2 i y hy
    rw[p2 i L (List.getElem?_eq_some_iff.1 hy).1 l1 (fun j u hu=>(l2 j u hu).1)]
    exact Ro.rep _ _ kP l3
   refine ⟨some ad,cap,rd w ad.block ad.off (List.length v*e.sz),fun _ _ _=>0,rfl,⟨h1,(fun e=>by cases e)⟩,fun a_ e=>?_,pY _ _ _ _,hJ _ _ (pY _ _ _ _) jy,jy,(fun b i=>by rw[gK];exact Nat.zero_le _),fun h=>absurd h dm⟩
   injection e with e;subst e;exact ⟨g1,p1⟩
theorem E9 (h:Rel P C A X σ a w F) {s:Slot} {tv:Value} {G:FP} (hs:ba P A σ a w tv s G) {mv:Bool} {e:Ty} {tx:TypeId} (tM:(∃ e',P.underlying tx=some (.slice e'))\/P.underlying tx=some .string)
  {K:Md->List e.den->St->Option R} (hk:wj σ s e mv K=some x) :
  ∃ (A':Cells) (σ':St) (F':Nat->FP) (me:Md) (y:List e.den) (news:List Value) (Fv:FP) (Fi:Nat->FP),K me y σ'=some x/\(∀ b i,A b i->A' b i)/\Rel P C A' (fun b i=>X b i+Fv b i) σ' a w F'/\jY σ σ' /\
   Src P e.sz tx tv (List.length y) news w/\(∀ k,k<=List.length y->(Builtin.firstCells e.sz k tv).run P w=.ok (news.take (k*e.sz)).toArray w)/\(∀ (i:Nat) (z:e.den),y[i]?=some z->aj P w A' e me [] z ((news.drop (i*e.sz)).take e.sz) (Fi i))/\∀ b i,ay (List.length y) Fi b i<=Fv b i:=by
 unfold wj at hk
 split at hk
 ·rename_i s'
  obtain ⟨e1,hk⟩:=bb hk
  injection e1 with e1
  subst e1
  obtain ⟨cs,h1,Y⟩:=hs
  simp only[Ro] at Y
  subst Y
  have rC:tv=.string ⟨List.toArray s'⟩:=h1
  subst rC
  have hlen:(byteCells ⟨List.toArray s'⟩)=List.map (fun (b:UInt8)=>Value.int .u8 b.toNat) s':=by simp[byteCells]
  have eH:(⟨List.toArray s'⟩:ByteArray).size=List.length s':=rfl
  refine ⟨A,σ,F,.leaf,s',byteCells ⟨List.toArray s'⟩,fun _ _=>0,fun _ _ _=>0,hk,fun _ _ h=>h,h,jY.refl σ,⟨tM,fun _=>rfl,firstCells_string _ w,firstCells_string _ w.drew,by rw[byteCells_length,eH];simp[Ty.sz],fun u hu=>?_⟩,fun k hk=>?_,fun i z hz=>?_,fun b i=>by rw[gK];exact Nat.zero_le _⟩
  ·obtain ⟨_,_,rfl⟩:=List.mem_map.1 hu;rfl
  ·rw[hlen]
   have Rf:((⟨List.toArray s'⟩:ByteArray).extract 0 k).data.toList=s'.take k:=by simp[ByteArray.data_extract]
   simp only[Builtin.firstCells,Sem.run_pure,Ty.sz,Nat.mul_one]
   congr 1
   apply Array.ext'
   simp only[Array.toList_map,Rf,List.map_take]
  ·have:((byteCells ⟨List.toArray s'⟩).drop (i*Ty.sz (.int .u8))).take (Ty.sz (.int .u8))=[Value.int .u8 z.toNat]:=by
    show ((byteCells ⟨List.toArray s'⟩).drop (i*1)).take 1=_
    rw[hlen,Nat.mul_one,List.take_one,List.head?_drop,List.getElem?_map,hz]
    rfl
   exact this
 ·rename_i s' Qc
  obtain ⟨A',σ',F',m,v,cs,Fv,k1,k2,k3,k4,kr,k5,k6⟩:=mY h hs hk
  obtain ⟨xa,cap,news,Fi,r1,r2,r3,r4,r5,r6,r7,r8⟩:=vB k6
  rw[r1,bz _ _ rfl] at k5
  subst k5
  have vv:∀ ad,xa=some ad->∀ j u,news[j]?=some u->w.cell? (ad.add j)=some u:=fun ad e1 j u hu=>by
   obtain ⟨g1,g2⟩:=r3 ad e1
   have hj:=(List.getElem?_eq_some_iff.1 hu).1
   have zF:0 < cap:=by
    rcases Nat.eq_zero_or_pos cap with h0 | h0
    ·have:List.length v=0:=by have:=r2.1;omega
     rw[r4,this,Nat.zero_mul] at hj;omega
    ·exact h0
   obtain ⟨b,off,sp⟩:=ad
   have:=g1 zF
   simp only at this
   subst this
   rw[jO]
   exact nq (g2 j u hu) (r5 u (List.mem_of_getElem? hu))
  refine ⟨A',σ',F',m.e,v,news,Fv,Fi,k1,k2,k3,kr,?_,?_,r6,r7⟩
  rotate_left
  ·intro k hk
   cases xa with
   | none=>
    have h0:=r2.2 rfl
    have hn:news=[]:=List.eq_nil_of_length_eq_zero (by rw[r4,h0,Nat.zero_mul])
    subst hn
    simp only[List.take_nil]
    exact run_firstCells_none w e.sz k (List.length v) cap
   | some ad=>
    have hc:=vv ad rfl
    have hle:k*e.sz<=List.length v*e.sz:=Nat.mul_le_mul_right _ hk
    have:=run_firstCells_some (P:=P) w e.sz k ad (List.length v) cap (news.take (k*e.sz)) (by simp;omega) (fun j u hu=>by
     rw[List.getElem?_take] at hu
     split at hu
     ·exact hc j u hu
     ·cases hu)
    simpa [Builtin.firstCells] using this
  cases xa with
  | none=>
   have h0:=r2.2 rfl
   have hn:news=[]:=List.eq_nil_of_length_eq_zero (by rw[r4,h0,Nat.zero_mul])
   subst hn
   rw[h0]
   exact ⟨tM,fun _=>rfl,run_firstCells_none w e.sz 0 0 cap,run_firstCells_none w.drew e.sz 0 0 cap,by simp,fun u hu=>by cases hu⟩
  | some ad=>
   have hc:=vv ad rfl
   exact ⟨tM,fun _=>rfl,run_firstCells_some w e.sz (List.length v) ad (List.length v) cap news r4 hc,run_firstCells_some w.drew e.sz (List.length v) ad (List.length v) cap news r4 (by simpa using hc),r4,r5⟩
theorem Cq {e:Ty} {me:Md} {v y:List e.den} {oh news:List Value} {Fi Gi:Nat->FP} (hl:oh.length=List.length v*e.sz)
  (h1:∀ (i:Nat) (z:e.den),v[i]?=some z->aj P w A e me [] z ((oh.drop (i*e.sz)).take e.sz) (Fi i)) (Y:∀ (i:Nat) (z:e.den),y[i]?=some z->aj P w A e me [] z ((news.drop (i*e.sz)).take e.sz) (Gi i)) :
  ∀ (i:Nat) (z:e.den),(v++y)[i]?=some z->aj P w A e me [] z (((oh++news).drop (i*e.sz)).take e.sz) (if i < List.length v then Fi i else Gi (i - List.length v)):=by
 intro i z hz
 by_cases hi:i < List.length v
 ·rw[if_pos hi]
  rw[List.getElem?_append_left hi] at hz
  have h6:i*e.sz+e.sz<=List.length v*e.sz:=by rw[<-Nat.succ_mul];exact Nat.mul_le_mul_right _ (by omega)
  rw[List.drop_append_of_le_length (by omega),List.take_append_of_le_length (by simp;omega)]
  exact h1 i z hz
 ·rw[if_neg hi]
  rw[List.getElem?_append_right (by omega)] at hz
  have h6:List.length v*e.sz<=i*e.sz:=Nat.mul_le_mul_right _ (by omega)
  rw[List.drop_append,List.drop_of_length_le (by omega),List.nil_append,hl,<- Nat.sub_mul]
  exact Y _ z hz
theorem Cr (n m:Nat) (Fi Gi:Nat->FP) (b i:Nat):ay (n+m) (fun i=>if i < n then Fi i else Gi (i - n)) b i=ay n Fi b i+ay m Gi b i:=by
 rw[n_]
 congr 1
 ·have:=jW (n:=n) (f:=fun i=>if i < n then Fi i else Gi (i - n)) (g:=Fi) (fun j hj=>by simp only[if_pos hj]);rw[this]
 ·have:=jW (n:=m) (f:=fun j=>(fun i=>if i < n then Fi i else Gi (i - n)) (n+j)) (g:=Gi) (fun j hj=>by
   simp only;rw[if_neg (by omega),Nat.add_sub_cancel_left]);rw[this]
theorem step_append (h:bC P C A σ a w F) (eD:∀ i T,E.TI i=some T->aD P T (.inl i)=true) {t tx:Nat} {y z:Operand} (ho:o.op=.call { callee:=.builtin .append,args:=#[y,z],argTypes:=#[t,tx] }) (az:bu P y=true/\bu P z=true)
  (tM:(∃ e',P.underlying tx=some (.slice e'))\/P.underlying tx=some .string) {mv:Bool} {K:St->Option R} (hk:zp E σ t (bA σ y) z mv o.dst K=some x):o.wp P a w (Nx P C K x) Q:=by
 unfold zp at hk
 obtain ⟨T,hT,hk⟩:=cw hk
 have cJ:=eD _ _ hT
 split at hk
 ·rename_i e
  have hl:=cJ
  simp only[aD,Bool.and_eq_true] at hl
  have Y:=hl.2
  split at Y
  rotate_left
  ·cases Y
  rename_i el hu
  simp only[Bool.and_eq_true,Nat.ble_eq] at Y
  obtain ⟨eH,jy⟩:=Y
  obtain ⟨inf,zv,i1,i2,i3,i4,i5,_⟩:=wJ (gn jy)
  rcases cd h az.1 with hs | ⟨xs,e'⟩
  rotate_left
  ·rw[e'] at hk;simp[gI] at hk
  obtain ⟨A1,jr,F1,m,v,cs,Fv,k1,k2,k3,k4,kr,k5,k6⟩:=mY h hs hk
  split at k1
  rotate_left
  ·cases k1
  rename_i dm
  rcases cd k3 az.2 with nE | ⟨xs,e'⟩
  rotate_left
  ·rw[e'] at k1;simp[wj,gI] at k1
  obtain ⟨A2,eU,F2,me,yv,news,Fw,Gi,q1,q2,q3,qr,q4,_,q5,q6⟩:=E9 k3 nE tM k1
  split at q1
  rotate_left
  ·cases q1
  rename_i kC
  obtain ⟨xa,cap,oh,Fi,r1,r2,r3,r4,r5,r6,r7,r8⟩:=vB k6
  obtain ⟨c1,c2,c3,c4⟩:=r8 dm
  rw[r1,bz _ _ rfl] at k5
  have Qi:∀ (i:Nat) (z:e.den),v[i]?=some z->aj P w A2 e m.e [] z ((oh.drop (i*e.sz)).take e.sz) (Fi i):=fun i z hz=>aj.mono (P:=P) (A':=A2) q2 (fun _ _ _ _ h=>h) (fun _ _ h=>h) e (r6 i z hz) (fun _ _=>Nat.le_refl _) (fun _ _ _ _ h=>h)
  have qo:∃ (A3:Cells) (X3:FP) (Hi:Nat->FP),Rel P C A3 X3 eU a w F2/\(∀ (i:Nat) (z:e.den),(v++yv)[i]?=some z->aj P w A3 e (if me=m.e then me else ax e) [] z (((oh++news).drop (i*e.sz)).take e.sz) (Hi i)) /\
    (∀ b i,ay (List.length v+List.length yv) Hi b i<=X3 b i)/\∀ ad,xa=some ad->∀ b i,bq ad.block 0 (cap*e.sz) b i+ay (List.length v+List.length yv) Hi b i<=X3 b i:=by
   by_cases uK:me=m.e
   ·subst uK
    refine ⟨A2,_,_,q3,by simp only[if_true];exact Cq r4 Qi q5,fun b i=>?_,fun ad c8 b i=>?_⟩
    ·rw[Cr];have:=r7 b i;have:=q6 b i;omega
    ·rw[Cr];have:=(c4 ad c8).2.2.2 b i;have:=q6 b i;omega
   ·simp only[if_neg uK]
    obtain ⟨B,NF,SA,Us⟩:∃ B:FP,(∀ b i,B b i+ay (List.length v) Fi b i<=Fv b i)/\(∀ ad,xa=some ad->∀ b i,bq ad.block 0 (cap*e.sz) b i=B b i)/\∀ b i,B b i<=1:=by
     cases xa with
     | none=>exact ⟨fun _ _=>0,fun b i=>by show 0+_<=_;have:=r7 b i;omega,(fun ad e=>by cases e),fun _ _=>Nat.zero_le _⟩
     | some ad=>exact ⟨bq ad.block 0 (cap*e.sz),(c4 ad rfl).2.2.2,(fun a_ e=>by injection e with e;subst e;exact fun _ _=>rfl),fun b i=>by simp only[bq];split <;> omega⟩
    obtain ⟨A3,kb⟩:∃ A3:Cells,∀ b i,A3 b i↔(A2 b i\/(1<=0+Fv b i+Fw b i/\B b i=0)):=⟨fun b i=>A2 b i\/(1<=0+Fv b i+Fw b i/\B b i=0),fun _ _=>Iff.rfl⟩
    refine ⟨A3,B,fun _ _ _=>0,q3.giveUp (fun b i h=>(kb b i).2 (.inl h)) (fun b i ha=>(kb b i).1 ha) (fun b i=>by have:=NF b i;omega),?_,fun b i=>by rw[gK];exact Nat.zero_le _,fun ad c8 b i=>by rw[gK,SA ad c8];exact Nat.le_refl _⟩
    have i_:∀ b i,(0+Fv b i+Fw b i)+ay eU.n F2 b i<=1:=fun b i=>q3.iP b i
    have SB:∀ (i:Nat) (z:e.den),v[i]?=some z->aj P w A3 e (ax e) [] z ((oh.drop (i*e.sz)).take e.sz) (fun _ _=>0):=fun i z hz=>Ro.rep _ _ (cZ _) (aj.oS (fun b i h=>(kb b i).2 (.inl h)) e (Qi i z hz) fun b k hp=>(kb b k).2 (.inr (by
     have h1:=bk Fi (List.getElem?_eq_some_iff.1 hz).1 b k
     have Y:=NF b k;have h3:=i_ b k
     constructor <;> omega)))
    have SC:∀ (i:Nat) (z:e.den),yv[i]?=some z->aj P w A3 e (ax e) [] z ((news.drop (i*e.sz)).take e.sz) (fun _ _=>0):=fun i z hz=>Ro.rep _ _ (cZ _) (aj.oS (fun b i h=>(kb b i).2 (.inl h)) e (q5 i z hz) fun b k hp=>(kb b k).2 (.inr (by
     have h1:=bk Gi (List.getElem?_eq_some_iff.1 hz).1 b k
     have Y:=NF b k;have h3:=i_ b k;have h4:=q6 b k
     constructor <;> omega)))
    exact fun i z hz=>by simpa using Cq (Fi:=fun _ _ _=>0) (Gi:=fun _ _ _=>0) r4 SB SC i z hz
  obtain ⟨A3,X3,Hi,n1,n2,n3,n4⟩:=qo
  have vl:List.length (v++yv)=List.length v+List.length yv:=by simp
  by_cases pO:List.length v+List.length yv<=cap
  ·cases xa with
   | none=>
    have Ut:=c3 rfl
    have E8:v=[]:=List.eq_nil_of_length_eq_zero (by omega)
    have SE:yv=[]:=List.eq_nil_of_length_eq_zero (by omega)
    subst E8;subst SE
    have Lr:(Builtin.firstCells e.sz 0 (a.eval z)).run P w=.ok news.toArray w:=by have:=q4.cells;simpa using this
    have dn:(execOp a.eval o).run P w=.ok (.value (.slice none 0 cap)) w:=by
     rcases q4.kind with ⟨e',rJ⟩ | rJ <;>
      simp[execOp,ho,resolve,invoke,builtin,Builtin.append_,k5,run_underlying hu,run_underlying rJ,Go.sizeOf,typeInfo,i1,q4.len,i2,Lr]
    refine ij dn (jj n1 q1 (Fd:=fun _ _=>0) ⟨[.slice none 0 cap],(bz _ _ rfl).symm,?_⟩ (fun _ _=>Nat.zero_le _) (fun _ _ _ _ e=>by cases e))
    simp only[aj,hole,List.any_nil,Bool.false_eq_true,if_false,Md.own,if_true]
    exact ⟨none,cap,rfl,Nat.zero_le _,c2,c3,fun ad e=>by cases e⟩
   | some ad=>
    obtain ⟨d1,d4,d2,d3⟩:=c4 ad rfl
    obtain ⟨_,d5⟩:=r3 ad rfl
    obtain ⟨b,off,sp⟩:=ad
    simp only at d1 d2 d3 d4 d5
    subst d1;subst d4
    have LA:∀ b' i,bq b 0 (cap*e.sz) b' i+ay (List.length v+List.length yv) Hi b' i<=X3 b' i:=n4 _ rfl
    have Cp:=q4.newsLen
    have vC:List.length v*e.sz+news.length<=cap*e.sz:=by rw[Cp,<- Nat.add_mul];exact Nat.mul_le_mul_right _ pO
    have lC:∀ j,j < cap*e.sz->(w.cell? ⟨b,j,none⟩).isSome=true:=fun j hj=>by
     obtain ⟨c,e',fr,w1,w2,w3⟩:=d2
     unfold World.cell?
     simp only[w1,Option.isSome_none,Bool.false_eq_true,if_false]
     rw[Array.getElem?_eq_getElem (by omega)];rfl
    have dn:=run_append_room_src (P:=P) w t tx o.type el inf hu i1 b 0 (List.length v) cap (a.eval z) (List.length yv) news (by rw[i2];exact q4) pO (fun j hj=>by rw[i2,Nat.zero_add];exact lC _ (by omega)) (fun j hj=>by rw[i2,Nat.zero_add];exact d2.frozen (by omega))
    rw[i2,Nat.zero_add] at dn
    have Gl:(execOp a.eval o).run P w=.ok (.value (.slice (some ⟨b,0,none⟩) (List.length v+List.length yv) cap)) (w.setCells b (List.length v*e.sz) news):=by
     simp[execOp,ho,resolve,invoke,builtin,k5,dn]
    have ci:=kA (b:=b) (o:=List.length v*e.sz) news w (List.length v*e.sz)
    have NG:∀ b' i,1<=bq b (List.length v*e.sz) news.length b' i->1<=bq b 0 (cap*e.sz) b' i:=fun b' i hp=>by
     simp only[bq] at hp ⊢
     split at hp
     ·rw[if_pos (by omega)];exact Nat.le_refl _
     ·omega
    have LB:=n1.world ci (fun b' i hp=>by have:=NG b' i hp;have:=LA b' i;omega)
    refine ij Gl (jj LB q1 (Fd:=X3) ⟨[.slice (some ⟨b,0,none⟩) (List.length v+List.length yv) cap],(bz _ _ rfl).symm,?_⟩ (fun _ _=>Nat.le_refl _) (fun _ _ _ _ e=>by cases e))
    simp only[aj,hole,List.any_nil,Bool.false_eq_true,if_false,Md.own,if_true,Md.e]
    refine ⟨some ⟨b,0,none⟩,cap,by rw[vl],by omega,c2,(fun e=>by cases e),fun a_ e'=>?_⟩
    injection e' with e';subst e'
    refine ⟨rfl,rfl,ci.pt _ _ d2,Hi,fun b' i=>by rw[vl];exact LA b' i,fun i zz hz=>?_⟩
    have cI:=n2 i zz hz
    have zI:i < List.length v+List.length yv:=by have:=(List.getElem?_eq_some_iff.1 hz).1;omega
    refine ⟨_,aj.length _ cI,?_,?_⟩
    ·
     have jk:Has (w.setCells b (List.length v*e.sz) news) b 0 (oh++news):=fun j u hu=>by
      rw[Nat.zero_add]
      by_cases hj:j < oh.length
      ·rw[List.getElem?_append_left hj] at hu
       have hold:=d5 j u hu
       rw[Nat.zero_add] at hold
       refine ci.cell b j (by obtain ⟨c,e',fr,w1,_⟩:=d2;exact (Array.getElem?_eq_some_iff.1 w1).1) ?_ u hold
       simp only[bq];rw[if_neg (by omega)]
      ·rw[List.getElem?_append_right (by omega)] at hu
       have:=rE (w:=w) (b:=b) (o:=List.length v*e.sz) (L:=news) (fun k hk=>lC _ (by omega)) q4.one _ u hu
       rw[<-this];congr 1;omega
     intro j u hu
     rw[List.getElem?_take] at hu
     split at hu
     ·rw[List.getElem?_drop] at hu
      have:=jk _ u hu
      rw[Nat.zero_add] at this
      exact this
     ·cases hu
    ·simp only[List.filterMap_nil]
     refine aj.mono (P:=P) (fun _ _ h=>h) (fun b' k ha u hu=>ci.cell b' k (n1.ez b' k (.inr ha)) ?_ u hu) ci.pt e cI (fun _ _=>Nat.le_refl _) (fun b' k hp u hu=>ci.cell b' k ?_ ?_ u hu)
     ·rcases Nat.eq_zero_or_pos (bq b (List.length v*e.sz) news.length b' k) with h0 | h0
      ·exact h0
      ·exact absurd ha (n1.jx b' k (by have:=NG b' k h0;have:=LA b' k;omega))
     ·exact n1.ez b' k (.inl (by have:=bk Hi zI b' k;have:=n3 b' k;omega))
     ·rcases Nat.eq_zero_or_pos (bq b (List.length v*e.sz) news.length b' k) with h0 | h0
      ·exact h0
      ·have h1:=NG b' k h0;have Y:=LA b' k;have h3:=bk Hi zI b' k;have h4:=n1.iP b' k;omega
  ·
   have Pc:(Builtin.firstCells inf.size (List.length v) (.slice xa (List.length v) cap)).run P w.drew=.ok oh.toArray w.drew:=by
    cases xa with
    | none=>
     have h0:=r2.2 rfl
     have:oh=[]:=List.eq_nil_of_length_eq_zero (by rw[r4,h0,Nat.zero_mul])
     subst this
     exact run_firstCells_none w.drew inf.size (List.length v) (List.length v) cap
    | some ad=>
     obtain ⟨_,d4,_,_⟩:=c4 ad rfl
     obtain ⟨_,d5⟩:=r3 ad rfl
     obtain ⟨b,off,sp⟩:=ad
     simp only at d4 d5
     subst d4
     exact run_firstCells_some w.drew inf.size (List.length v) ⟨b,off,none⟩ (List.length v) cap oh (by rw[i2];exact r4) (fun j u hu=>by rw[jO];exact nq (d5 j u hu) (r5 u (List.mem_of_getElem? hu)))
   simp only[bf] at kC
   have dn:=run_append_grow_src (P:=P) w t tx o.type el inf zv hu i1 i4 xa (List.length v) cap oh Pc (a.eval z) (List.length yv) news (by rw[i2];exact q4) (by omega) (by omega)
    (growslice_fits (by omega) (Nat.le_trans (Nat.mul_le_mul kC i3) (by decide)))
   have Gl:(execOp a.eval o).run P w=.ok (.value (.slice (some ⟨w.heap.size,0,none⟩) (List.length v+List.length yv) (grownCap w (List.length v+List.length yv) cap el)))
     (w.drew.alloc (.cells ((oh++news).toArray++Builtin.zeroCells zv.cells (grownCap w (List.length v+List.length yv) cap el - (List.length v+List.length yv))) el)):=by
    simp[execOp,ho,resolve,invoke,builtin,k5,dn]
   have Ih:=grownCap_ge w (List.length v+List.length yv) cap el
   have SF:=grownCap_le_maxLen w (List.length v+List.length yv) cap el (by simp only[maxLen];omega)
   have Cp:=q4.newsLen
   have ik:=wu n1.drew (K:=K) (x:=x) (d:=o.dst) (e:=e) (m:=if me=m.e then me else ax e) (v:=v++yv) (c:=(oh++news).toArray++Builtin.zeroCells zv.cells (grownCap w (List.length v+List.length yv) cap el - (List.length v+List.length yv)))
    (cap:=grownCap w (List.length v+List.length yv) cap el) (el:=el) (fr:=(0,0)) (Fi:=Hi) (.inr (Nat.le_refl _)) q1
    (by
     rw[Array.size_append,size_zeroCells,i5,List.size_toArray,List.length_append,r4,Cp,<- Nat.add_mul,<- Nat.add_mul]
     congr 1;omega) SF (by rw[vl];exact Ih)
    (fun b i=>by rw[vl];exact n3 b i) (fun i zz hz=>by
     have cI:=n2 i zz hz
     refine ⟨_,aj.length _ cI,fun j u hu=>?_,aj.mono (P:=P) (w:=w) (w':=w.drew) (A:=A3) (A':=A3) (fun _ _ h=>h) (fun _ _ _ _ h=>h) (fun b n hn=>hn) e cI (fun _ _=>Nat.le_refl _) (fun _ _ _ _ h=>h)⟩
     rw[List.getElem?_take] at hu
     split at hu
     ·rw[List.getElem?_drop] at hu
      have ai:=(List.getElem?_eq_some_iff.1 hu).1
      rw[Array.getElem?_append_left (by simpa using ai)]
      simpa using hu
     ·cases hu)
   rw[vl] at ik
   exact ij Gl ik
 ·cases hk
end
end OT
set_option linter.unusedVariables false
set_option linter.unusedSimpArgs false
namespace OT
open Go
section
variable {P:Program} {C:Ctx} {A:Cells} {X:FP} {σ:St} {a:Act} {w:World} {F:Nat->FP} {R:Type} {x:R} {Q:Exit->Act->World->Prop} {o:Oper} {E:Env}
theorem A8 (h:bC P C A σ a w F) {f:Nat} {first cs:Array Operand} (ho:o.op=.makeFunc (.func f) first cs) (bh:(P.funcs[f]?).any (fun fn=>fn.nfree == cs.size)=true) {K:St->Option R}
  (hk:(if first.size=0 then
   match cs.toList with
   | []=>K (σ.aQ o.dst (.val .fn (f,0)))
   | [.tmp i]=>match σ.get i with
    | .box (.int .i64) _ _ n=>K (((σ.put i .dead).put i (.cp (.int .i64) n)).aQ o.dst (.val .fn (f,n)))
    | _=>none
   | _=>none
  else none)=some x):Tk P o a w (Nx P C K x):=by
 simp only[Option.any_eq_true,beq_iff_eq] at bh
 obtain ⟨fn,hf,hn⟩:=bh
 split at hk
 ·rename_i h0
  have Cs:first=#[]:=Array.eq_empty_of_size_eq_zero h0
  subst Cs
  split at hk
  ·rename_i lS
   have lS:cs=#[]:=by apply Array.ext';simpa using lS
   subst lS
   refine cz (v:=.func (.func f) #[] #[]) (by simp[execOp,ho,Instr.makeFunc]) (aV h hk ⟨[.func (.func f) #[] #[]],rfl,#[],rfl,fn,hf,.inl ⟨by simpa using hn,rfl⟩⟩ (fun _ _ _ _ e=>by cases e))
  ·rename_i i lS
   have lS:cs=#[.tmp i]:=by apply Array.ext';simpa using lS
   subst lS
   split at hk
   ·rename_i m H n hg
    have hi:i < σ.n:=by
     rcases Nat.lt_or_ge i σ.n with hi | hi
     ·exact hi
     ·rw[fk (Nat.not_lt.2 hi)] at hg;cases hg
    have hs:=h.dx i hi
    rw[hg] at hs
    obtain ⟨b,off,L,F1,s1,s2,s3,s4,s5,s6⟩:=hs
    simp only[aj,Ro] at s6
    subst s6
    have h1:=h.put hi (s:=.dead) (v:=tmp a i) (Fd:=fun _ _=>0) (X':=F i) trivial (fun b k=>by omega) (fun _ _ _ _ e=>by cases e)
    rw[ky] at h1
    have hle:∀ b' i',bq b off 1 b' i'<=F i b' i':=fun b' i'=>by have:=s5 b' i';simp only[Ty.sz] at this;omega
    have Y:=h1.giveUp (A1:=fun b' i'=>A b' i'\/1<=bq b off 1 b' i') (X1:=fun _ _=>0) (fun _ _ h=>.inl h) (fun b' i' ha=>ha.imp id fun hp=>⟨by have:=hle b' i';omega,rfl⟩) (fun _ _=>Nat.zero_le _)
    have lC:ce w b off=some (.int .i64 n):=s3 0 _ rfl
    have hA:1<=bq b off 1 b off:=by simp[bq]
    have h3:=Y.put (d:=i) hi (s:=.cp (.int .i64) n) (v:=tmp a i) (Fd:=fun _ _=>0) (X':=fun _ _=>0)
     ⟨⟨b,off,none⟩,by rw[s1],rfl,[.int .i64 n],rfl,(fun j u hu=>by
      cases j with
      | zero=>injection hu with hu;subst hu;exact ⟨lC,.inr hA⟩
      | succ j=>cases hu),rfl⟩ (fun b k=>by omega) (fun _ _ _ _ e=>by cases e)
    rw[ky] at h3
    have ev:a.eval (.tmp i)=.pointer (some ⟨b,off,none⟩):=s1
    refine cz (v:=.func (.func f) #[] #[.pointer (some ⟨b,off,none⟩)]) (by simp[execOp,ho,Instr.makeFunc,ev])
     (aV h3 hk ⟨[.func (.func f) #[] #[.pointer (some ⟨b,off,none⟩)]],rfl,_,rfl,fn,hf,.inr ⟨by simpa using hn,_,rfl,rfl,lC,.inr hA⟩⟩ (fun _ _ _ _ e=>by cases e))
   ·cases hk
  ·cases hk
 ·cases hk
theorem D2 (h:bC P C A σ a w F) {y:Operand} (ho:o.op=.assign y) (az:bu P y=true) {T:Nat} {mv:Bool} {K:St->Option R} (hk:zq E σ T y mv o.dst K=some x):Tk P o a w (Nx P C K x):=by
 refine cz (v:=a.eval y) (by simp[execOp,ho]) ?_
 unfold zq at hk
 by_cases NH:∃ i xs,y=.tmp i/\σ.get i=.kO xs
 ·obtain ⟨i,xs,rfl,hg⟩:=NH
  have e:bA σ (.tmp i)=.kO xs:=by simp only[bA,hg]
  rw[e] at hk
  cases xs with
  | nil=>
   have hi:i < σ.n:=by
    rcases Nat.lt_or_ge i σ.n with hi | hi
    ·exact hi
    ·rw[fk (Nat.not_lt.2 hi)] at hg;cases hg
   have hs:=h.dx i hi
   rw[hg] at hs
   obtain ⟨vs,Fi,h1,Y,h3⟩:=hs
   exact aV h hk ⟨vs,fun _ _ _=>0,h1,fun b i=>by simp[ay],fun j y hy=>by cases hy⟩ (fun _ _ _ _ e=>by cases e)
  | cons _ _=>cases hk
 rcases cd h az with hs | ⟨xs,e⟩
 rotate_left
 ·exfalso
  cases y with
  | tmp i=>
   simp only[bA] at e
   cases hg:σ.get i <;> rw[hg] at e <;> first | (cases e;done) | exact NH ⟨i,_,rfl,hg⟩
  | const v=>simp only[bA] at e;unfold pX at e;split at e <;> first | (cases e;done) | (split at e <;> cases e)
  | func f=>cases e
  | global g=>cases e
 split at hk
 ·exact aV h hk trivial (fun _ _ _ _ e=>by cases e)
 ·rename_i hv
  rw[hv] at hs
  obtain ⟨t,hT,hk⟩:=cw hk
  split at hk
  ·have hs:a.eval y=.slice none 0 0:=hs
   rw[hs]
   refine aV h hk ⟨[.slice none 0 0],(bz _ _ rfl).symm,?_⟩ (fun _ _ _ _ e=>by cases e)
   simp only[aj,hole,List.any_nil,Bool.false_eq_true,if_false,ao,mN,Md.own,if_true]
   exact ⟨none,0,rfl,Nat.le_refl _,by simp[maxLen],fun _=>rfl,fun ad c8=>by cases c8⟩
  ·cases hk
 ·rename_i hv
  rw[hv] at hs
  obtain ⟨vs,Fi,h1,Y,h3⟩:=hs
  exact aV h hk ⟨vs,Fi,h1,Y,fun j y hy=>by cases hy⟩ (fun _ _ _ _ e=>by cases e)
 ·cases hk
 ·rename_i r p snap hv
  rw[hv] at hs
  split at hk
  ·split at hk
   ·obtain ⟨A',σ',F',m,v,cs,Fv,k1,k2,k3,k4,kr,k5,k6⟩:=mY h hs hk
    rw[k5]
    exact rD k3 k1 k6 (fun b i=>by omega)
   ·cases hk
  ·cases hk
 ·rename_i r p snap lo hi hv
  rw[hv] at hs
  split at hk
  ·split at hk
   ·obtain ⟨A',σ',F',m,v,cs,Fv,k1,k2,k3,k4,kr,k5,k6⟩:=mY h hs hk
    rw[k5]
    exact rD k3 k1 k6 (fun b i=>by omega)
   ·cases hk
  ·cases hk
 ·rename_i r p snap hv
  rw[hv] at hs
  split at hk
  ·rename_i t m H v hg
   split at hk
   ·rename_i hc
    simp only[Bool.and_eq_true,Bool.not_eq_true'] at hc
    split at hk
    ·rename_i i hd
     have hr:r < σ.n:=by
      rcases Nat.lt_or_ge r σ.n with hi | hi
      ·exact hi
      ·rw[fk (Nat.not_lt.2 hi)] at hg;cases hg
     have ig:=h.dx r hr
     rw[hg] at ig
     obtain ⟨b,off,L,F1,s1,s2,s3,s4,s5,s6⟩:=ig
     obtain ⟨pl,b',o',g1,g2,g3,g4⟩:=hs.2 hc.1.1
     have dZ:place σ a w r []=some ⟨t,H,rd w b off t.sz,some (b,off)⟩:=by
      unfold place;rw[hg,s1];rfl
     rw[dZ] at g1
     injection g1 with g1
     subst g1
     simp only[Option.some.injEq,Prod.mk.injEq] at g2
     obtain ⟨rfl,rfl⟩:=g2
     have h1:=h.put hr (s:=.dead) (v:=tmp a r) (Fd:=fun _ _=>0) (X':=F r) trivial (fun b k=>by omega) (fun _ _ _ _ e=>by cases e)
     rw[ky] at h1
     obtain ⟨bw,w1,w2⟩:=h.whole r t m H v hg (xX hc.2)
     rw[s1] at w1
     injection w1 with w1;injection w1 with w1;injection w1 with w1 w3
     subst w1
     have:=jj (K:=K) (x:=x) (d:=some i) h1 hk (v:=a.eval y) (s:=.box t m H v) (Fd:=F r) ⟨b,off,L,F1,g3,s2,s3,s4,s5,s6⟩ (fun b i=>Nat.le_refl _) (fun t' m' H' v' e=>by injection e with e1;subst e1;exact ⟨b,by rw[g3,w3],w2⟩)
     rw[hd];exact this
    ·cases hk
   ·exact aV h hk hs (fun _ _ _ _ e=>by cases e)
  ·exact aV h hk hs (fun _ _ _ _ e=>by cases e)
 ·exact aV h hk hs (fun t m H v e=>Af σ _ t m H v e)
theorem wK {α:Type} (v y:List α) {lo n:Nat} (h:lo+n<=v.length) (hy:n<=y.length):(lu v lo n y).length=v.length:=by
 simp only[lu,List.length_append,List.length_take,List.length_drop];omega
theorem JQ {α:Type} (v y:List α) {lo n:Nat} (h:lo+n<=v.length) (hy:n<=y.length) (i:Nat):(lu v lo n y)[i]?=if lo<=i/\i < lo+n then y[i - lo]? else v[i]?:=by
 unfold lu
 by_cases h1:i < lo
 ·rw[if_neg (by omega),List.append_assoc,List.getElem?_append_left (by simp;omega),List.getElem?_take_of_lt h1]
 ·by_cases Y:i < lo+n
  ·rw[if_pos (by omega),List.append_assoc,List.getElem?_append_right (by simp;omega),List.getElem?_append_left (by simp;omega)]
   have:(v.take lo).length=lo:=by simp;omega
   rw[this,List.getElem?_take_of_lt (by omega)]
  ·rw[if_neg (by omega),List.getElem?_append_right (by simp;omega),List.getElem?_drop]
   have:(v.take lo++y.take n).length=lo+n:=by simp;omega
   rw[this];congr 1;omega
theorem Aj (h:bC P C A σ a w F) {r:Nat} {p:Path} {e:Ty} {m:Md} {v y:List e.den} {news:List Value} {Gi:Nat->FP} {me:Md} {lo n:Nat} {K:St->Option R} (p8:At σ r p (.U e) m [] v) (dm:m.own=true) (hf:e.flat=true) (hn:lo+n<=List.length v) (hy:n<=List.length y)
  (hl:news.length=List.length y*e.sz) (hJ:∀ u ∈ news,u.oneCell'=true) (jy:∀ (i:Nat) (z:e.den),y[i]?=some z->aj P w A e me [] z ((news.drop (i*e.sz)).take e.sz) (Gi i))
  (hk:nF σ r p (.U e) m (lu v lo n y) (fun σ'=>K { σ' with vr:=(σ.fh r oO).vr,av:=σ.av })=some x) :
  ∃ (xa:Option Addr) (cap:Nat) (ad:Option (Nat×Nat)) (w2:World) (A3:Cells) (σ':St) (F3:Nat->FP),place σ a w r p=some ⟨.U e,[],[.slice xa (List.length v) cap],ad⟩/\K σ'=some x/\bC P C A3 σ' a w2 F3 /\
   (xa=none->w2=w/\List.length v=0)/\∀ ad,xa=some ad->ad.off=0/\ad.spot=none/\(n=0->w2=w)/\(storeCells ⟨ad.block,lo*e.sz,none⟩ (news.take (n*e.sz))).run P w=.ok () w2:=by
 obtain ⟨hr,m2,H2,v2,bn,p6,F2,q1,q2,q3,q4,q5,q6⟩:=s7 h hk
 obtain ⟨_,e2,e3,e4⟩:=p8.inj q1
 subst e2;subst e3
 have e4:=eq_of_heq e4
 subst e4
 have cI:=q3
 simp only[aj,hole,List.any_nil,Bool.false_eq_true,if_false,dm,if_true] at q3
 obtain ⟨xa,cap,rfl,c1,c2,c3,c4⟩:=q3
 have vl:=wK v y hn hy
 have qx:∀ b i,F r b i<=1:=fun b i=>by have:=h.iP b i;have:=bk F hr b i;omega
 have fin:∀ (w2:World),Ext w w2 (fun b i=>0+(F2 b i+dr p6 (Ty.U e).sz b i))->(∀ b o,p6=some (b,o)->Has w2 b o [.slice xa (List.length v) cap])->aj P w2 A (.U e) m [] (lu v lo n y) [.slice xa (List.length v) cap] F2 ->
   (∀ (i:Nat) (z:e.den),(lu v lo n y)[i]?=some z->∀ ad,xa=some ad->∃ L,L.length=e.sz/\Has w2 ad.block (ad.off+i*e.sz) L/\aj P w2 A e .leaf [] z L (fun _ _=>0)) ->
   ∃ (A3:Cells) (σ':St) (F3:Nat->FP),K σ'=some x/\bC P C A3 σ' a w2 F3:=by
  intro w2 g1 g2 g3 g4
  obtain ⟨A3,qz,Fr,n1,n2,n3,n4,n5⟩:=q6 w2 A _ F2 (fun _ _=>0) g1 (fun _ _ h=>h) (fun _ _ h=>.inl h) (fun b i=>by omega) g2 (fun _=>rfl) g3
  refine ⟨A3,_,_,n1,n5 oO (pL (h.fD r)) (vj (h.fD r)) rfl fun p' snap hb az hlen=>?_⟩
  have h5:=xd (h.fD r) hb az
  refine ⟨br p'+1,False,by omega,fun _=>.inl (by omega),fun _=>by omega,?_⟩
  intro q pl hq hp
  cases q with
  | nil=>
   simp only[aH,Option.some.injEq] at hp
   subst hp
   exact ⟨_,_,rfl,fun _=>rfl⟩
  | cons s q=>
   cases s with
   | idx i=>
    cases xa with
    | none=>simp[aH,hole] at hp
    | some ad=>
     simp only[aH,hole,List.any_nil,Bool.false_eq_true,if_false,List.filterMap_nil] at hp ⊢
     split at hp
     ·rename_i hi
      rw[if_pos hi]
      have fj:i < (lu v lo n y).length:=by rw[vl];exact hi
      obtain ⟨L,l1,l2,l3⟩:=g4 i _ (List.getElem?_eq_getElem fj) ad rfl
      rw[bB l2 l1]
      obtain ⟨H',aL,h1,Y⟩:=se (A:=A) (m:=.leaf) (v:=(lu v lo n y)[i]) (F:=fun _ _=>0) q e l3 (.inr hf) hp
      exact ⟨H',aL,h1,fun h=>by rcases h with ⟨_,hs⟩ | h;rw[Y hf] at hs;cases hs;exact h.elim⟩
     ·cases hp
   | _=>simp[aH] at hp
 cases xa with
 | none=>
  have h0:=c3 rfl
  have E8:List.length v=0:=by omega
  have NI:lu v lo n y=v:=by
   have:n=0:=by omega
   subst this
   have hv:v=[]:=List.eq_nil_of_length_eq_zero E8
   subst hv
   simp[lu]
  obtain ⟨A3,qz,F3,n1,n2⟩:=fin w (Ext.refl _ _) (fun b o e=>(q5 b o e).1) (by rw[NI];exact cI) (fun i z hz ad e=>by cases e)
  exact ⟨none,cap,p6,w,A3,qz,F3,q2,n1,n2,fun _=>⟨rfl,E8⟩,fun ad e=>by cases e⟩
 | some ad=>
  obtain ⟨d1,d2,d3,Fi,d4,d5⟩:=c4 ad rfl
  obtain ⟨b,off,sp⟩:=ad
  simp only at d1 d2 d3 d4 d5
  subst d1;subst d2
  have hle:lo*e.sz+n*e.sz<=cap*e.sz:=by rw[<-Nat.add_mul];exact Nat.mul_le_mul_right _ (by omega)
  have Cp:(news.take (n*e.sz)).length=n*e.sz:=by
   rw[List.length_take,hl,Nat.min_eq_left];exact Nat.mul_le_mul_right _ hy
  have lC:∀ j,j < cap*e.sz->(w.cell? ⟨b,j,none⟩).isSome=true:=fun j hj=>by
   obtain ⟨c,e',fr,w1,w2,w3⟩:=d3
   unfold World.cell?
   simp only[w1,Option.isSome_none,Bool.false_eq_true,if_false]
   rw[Array.getElem?_eq_getElem (by omega)];rfl
  have bh:=run_storeCells_cells (P:=P) b (lo*e.sz) (news.take (n*e.sz)) 0 w (fun j hj=>by rw[Nat.add_zero];exact lC _ (by omega)) (fun j hj=>by rw[Nat.add_zero];exact d3.frozen (by omega)) (fun u hu=>hJ u (List.mem_of_mem_take hu))
  rw[Nat.add_zero] at bh
  have ci:=kA (b:=b) (o:=lo*e.sz) (news.take (n*e.sz)) w (lo*e.sz)
  rw[Cp] at ci
  have vb:∀ b' i,bq b (lo*e.sz) (n*e.sz) b' i<=bq b 0 (cap*e.sz) b' i:=fun b' i=>by
   simp only[bq]
   split
   ·rw[if_pos (by omega)];exact Nat.le_refl _
   ·exact Nat.zero_le _
  have hA:∀ b' i,A b' i->∀ u,ce w b' i=some u->ce (w.setCells b (lo*e.sz) (news.take (n*e.sz))) b' i=some u:=fun b' i ha u hu=>by
   refine ci.cell b' i (h.ez b' i (.inr ha)) ?_ u hu
   rcases Nat.eq_zero_or_pos (bq b (lo*e.sz) (n*e.sz) b' i) with h0 | h0
   ·exact h0
   ·exact absurd ha (h.jx b' i (by have:=vb b' i;have:=d4 b' i;have:=q4 b' i;have:=bk F hr b' i;omega))
  have NJ:∀ (i:Nat) (z:e.den),(lu v lo n y)[i]?=some z->∃ L,L.length=e.sz/\Has (w.setCells b (lo*e.sz) (news.take (n*e.sz))) b (i*e.sz) L/\Ro P (w.setCells b (lo*e.sz) (news.take (n*e.sz))) A e z L:=by
   intro i z hz
   rw[JQ v y hn hy] at hz
   split at hz
   ·rename_i hi
    have mT:=aj.flat _ hf (jy _ z hz)
    refine ⟨_,Ro.length _ mT,fun j u hu=>?_,Ro.mono hA (fun _ _ h=>h) e mT⟩
    rw[List.getElem?_take] at hu
    split at hu
    ·rename_i hj
     rw[List.getElem?_drop] at hu
     have h6:(i - lo)*e.sz+e.sz<=n*e.sz:=by rw[<-Nat.succ_mul];exact Nat.mul_le_mul_right _ (by omega)
     have:=rE (w:=w) (b:=b) (o:=lo*e.sz) (L:=news.take (n*e.sz)) (fun k hk=>lC _ (by omega)) (fun u hu=>hJ u (List.mem_of_mem_take hu)) ((i - lo)*e.sz+j) u (by rw[List.getElem?_take_of_lt (by omega)];exact hu)
     rw[<-this]
     have h7:i*e.sz=lo*e.sz+(i - lo)*e.sz:=by rw[<-Nat.add_mul];congr 1;omega
     congr 1;omega
    ·cases hu
   ·rename_i hi
    obtain ⟨L,l1,l2,l3⟩:=d5 i z hz
    have mT:=aj.flat _ hf l3
    refine ⟨L,l1,fun j u hu=>?_,Ro.mono hA (fun _ _ h=>h) e mT⟩
    refine ci.cell b _ (by obtain ⟨c,e',fr,w1,_⟩:=d3;exact (Array.getElem?_eq_some_iff.1 w1).1) ?_ u (l2 j u hu)
    have hj:=(List.getElem?_eq_some_iff.1 hu).1
    simp only[bq]
    rw[if_neg]
    rintro ⟨_,h8,h9⟩
    rcases Nat.lt_or_ge i lo with LC | LC
    ·have h6:i*e.sz+e.sz<=lo*e.sz:=by rw[<-Nat.succ_mul];exact Nat.mul_le_mul_right _ (by omega)
     omega
    ·have h6:lo*e.sz+n*e.sz<=i*e.sz:=by rw[<-Nat.add_mul];exact Nat.mul_le_mul_right _ (by omega)
     omega
  have wr:aj P (w.setCells b (lo*e.sz) (news.take (n*e.sz))) A (.U e) m [] (lu v lo n y) [.slice (some ⟨b,0,none⟩) (List.length v) cap] F2:=by
   simp only[aj,hole,List.any_nil,Bool.false_eq_true,if_false,dm,if_true]
   refine ⟨some ⟨b,0,none⟩,cap,by rw[vl],by omega,c2,(fun e=>by cases e),fun a_ e'=>?_⟩
   injection e' with e';subst e'
   refine ⟨rfl,rfl,ci.pt _ _ d3,fun _ _ _=>0,fun b' i=>by rw[gK];have h9:=d4 b' i;show bq b 0 (cap*e.sz) b' i+0<=F2 b' i;omega,fun i z hz=>?_⟩
   obtain ⟨L,l1,l2,l3⟩:=NJ i z hz
   exact ⟨L,l1,l2,Ro.flat _ _ hf l3⟩
  have vn:∀ b' o',p6=some (b',o')->Has (w.setCells b (lo*e.sz) (news.take (n*e.sz))) b' o' [.slice (some ⟨b,0,none⟩) (List.length v) cap]:=fun b' o' ea j u hu=>by
   have h1:=(q5 b' o' ea).1 j u hu
   have hj:=(List.getElem?_eq_some_iff.1 hu).1
   have Y:=q4 b' (o'+j);have h3:=d4 b' (o'+j);have h4:=vb b' (o'+j);have h5:=qx b' (o'+j);have h7:=bk F hr b' (o'+j)
   have h6:dr p6 (Ty.U e).sz b' (o'+j)=1:=by
    subst ea
    have NK:j=0:=by simpa using hj
    subst NK
    simp[dr,bq,Ty.sz]
   exact ci.cell _ _ (h.ez b' (o'+j) (.inl (by show 1<=0+_;omega))) (by omega) u h1
  obtain ⟨A3,qz,F3,n1,n2⟩:=fin _ (ci.mono fun b' i hz=>by
    have hz:0+(F2 b' i+dr p6 (Ty.U e).sz b' i)=0:=hz
    have Y:=vb b' i;have h3:=d4 b' i;omega) vn wr (fun i z hz ad e=>by
    injection e with e;subst e
    obtain ⟨L,l1,l2,l3⟩:=NJ i z hz
    exact ⟨L,l1,by simpa using l2,Ro.flat _ _ hf l3⟩)
  refine ⟨_,cap,p6,_,A3,qz,F3,q2,n1,n2,(fun e=>by cases e),fun a_ e'=>?_⟩
  injection e' with e';subst e'
  refine ⟨rfl,rfl,fun yj=>?_,bh⟩
  subst yj
  simp[World.setCells]
theorem Il (h:bC P C A σ a w F) (eD:∀ i T,E.TI i=some T->aD P T (.inl i)=true) {t tx:Nat} {y z:Operand} (ho:o.op=.call { callee:=.builtin .copy,args:=#[y,z],argTypes:=#[t,tx] }) (az:bu P y=true/\bu P z=true)
  (tM:(∃ e',P.underlying tx=some (.slice e'))\/P.underlying tx=some .string) {K:St->Option R} (hk:FQ E σ t y (bA σ z) o.dst K=some x):o.wp P a w (Nx P C K x) Q:=by
 unfold FQ at hk
 obtain ⟨T,hT,hk⟩:=cw hk
 have cJ:=eD _ _ hT
 split at hk
 ·rename_i e
  have hl:=cJ
  simp only[aD,Bool.and_eq_true] at hl
  have Y:=hl.2
  split at Y
  rotate_left
  ·cases Y
  rename_i el hu
  simp only[Bool.and_eq_true,Nat.ble_eq] at Y
  obtain ⟨eH,jy⟩:=Y
  have NL:=run_sizeOf (P:=P) (w:=w) jy
  split at hk
  rotate_left
  ·cases hk
  rename_i hf
  rcases cd h az.2 with nE | ⟨xs,e'⟩
  rotate_left
  ·rw[e'] at hk;simp[wj,gI] at hk
  obtain ⟨A2,eU,F2,me,yv,news,Fw,Gi,q1,q2,q3,qr,q4,SG,q5,q6⟩:=E9 h nE tM hk
  have Y:bC P C A2 eU a w F2:=q3.less fun _ _=>Nat.zero_le _
  have run:∀ (xa:Option Addr) (n cap:Nat) (w2:World),a.eval y=.slice xa n cap->(match (generalizing:=false) xa with | none=>w2=w | some ad=>(storeCells ad (news.take (min (List.length yv) n*e.sz))).run P w=.ok () w2) ->
    (execOp a.eval o).run P w=.ok (.value (.int .i64 ((min (List.length yv) n:Nat):Int))) w2:=by
   intro xa n cap w2 hy bh
   have LD:=SG (min (List.length yv) n) (Nat.min_le_left _ _)
   cases xa with
   | none=>
    simp only at bh
    subst bh
    simp[execOp,ho,resolve,invoke,builtin,Builtin.copy_,hy,run_underlying hu,q4.len,NL,Nat.min_def] at LD ⊢
    simp[LD,goInt]
   | some ad=>
    simp only at bh
    simp[execOp,ho,resolve,invoke,builtin,Builtin.copy_,hy,run_underlying hu,q4.len,NL,Nat.min_def] at LD bh ⊢
    simp[LD,bh,goInt]
  rcases cd Y az.1 with hs | ⟨xs,e'⟩
  rotate_left
  ·rw[e'] at q1;cases q1
  split at q1
  ·rename_i r p snap lo hi hv
   rw[hv] at hs
   split at q1
   ·rename_i ik
    obtain ⟨hr,t',m',H',v',aL,a_,F',h1,p8,h3,h4,h5,h6⟩:=fw Y q1
    split at h1
    ·rename_i hc
     simp only[Bool.and_eq_true,List.isEmpty_iff] at hc
     obtain ⟨dm,hH⟩:=hc
     subst hH
     obtain ⟨e1,h1⟩:=bb h1
     subst e1
     obtain ⟨pl,e2,xa,n,cap,nD,cap',g1,g2,g3,g4,g5,g6,g7,g8,g9,g10,g11⟩:=hs.2 ik
     have Uu:n=List.length v':=by
      rw[g1] at h3
      injection h3 with h3
      subst h3
      simp only at g3
      subst g3
      simp only[aj,hole,List.any_nil,Bool.false_eq_true,if_false,dm,if_true] at h4
      obtain ⟨_,_,h4,_⟩:=h4
      injection h4 with h4;injection h4
     obtain ⟨xb,tK,p6,w2,A3,qz,F3,c1,c2,c3,c4,c5⟩:=Aj Y (K:=fun σ'=>K (σ'.aQ o.dst (.val (.int .i64) ((min (List.length yv) (hi - lo):Nat):Int)))) ⟨p8⟩ dm hf (lo:=lo) (n:=min (List.length yv) (hi - lo)) (by omega) (Nat.min_le_left _ _) q4.newsLen q4.one q5 h1
     rw[c1] at g1
     injection g1 with g1
     subst g1
     simp only[List.cons.injEq,Value.slice.injEq,and_true] at g3
     obtain ⟨rfl,g3,rfl⟩:=g3
     injection g2 with g2
     subst g2
     refine ij (run nD (hi - lo) cap' w2 g6 ?_) (aV c3 c2 ⟨[.int .i64 _],rfl,rfl⟩ (fun _ _ _ _ e=>by cases e))
     cases xb with
     | none=>rw[g9 rfl];exact (c4 rfl).1
     | some ad=>
      obtain ⟨NM,k1,k2,k3,k4⟩:=g10 ad rfl
      rw[k1]
      obtain ⟨j1,j2,j3,j4⟩:=c5 ad rfl
      simp only
      by_cases ai:lo < hi
      ·have:NM=⟨ad.block,lo*e.sz,none⟩:=by
        have h1:=k4 ai
        obtain ⟨x1,x2,x3⟩:=NM
        simp only at k2 k3 h1
        rw[k3,k2,j2,h1,j1,Nat.zero_add]
       rw[this];exact j4
      ·have yj:min (List.length yv) (hi - lo)=0:=by omega
       rw[yj,Nat.zero_mul,List.take_zero]
       rw[j3 yj];rfl
    ·cases h1
   ·cases q1
  ·rename_i r p snap hv
   rw[hv] at hs
   split at q1
   ·rename_i ik
    obtain ⟨hr,t',m',H',v',aL,a_,F',h1,p8,h3,h4,h5,h6⟩:=fw Y q1
    split at h1
    ·rename_i hc
     simp only[Bool.and_eq_true,List.isEmpty_iff] at hc
     obtain ⟨dm,hH⟩:=hc
     subst hH
     obtain ⟨e1,h1⟩:=bb h1
     subst e1
     obtain ⟨pl,g1,g2,g3⟩:=hs.2 ik
     obtain ⟨xb,tK,p6,w2,A3,qz,F3,c1,c2,c3,c4,c5⟩:=Aj Y (K:=fun σ'=>K (σ'.aQ o.dst (.val (.int .i64) ((min (List.length yv) (List.length v'):Nat):Int)))) ⟨p8⟩ dm hf (lo:=0) (n:=min (List.length yv) (List.length v')) (by omega) (Nat.min_le_left _ _) q4.newsLen q4.one q5 h1
     rw[c1] at g1
     injection g1 with g1
     subst g1
     simp only[bz (.U e) _ rfl] at g2
     refine ij (run xb (List.length v') tK w2 g2 ?_) (aV c3 c2 ⟨[.int .i64 _],rfl,rfl⟩ (fun _ _ _ _ e=>by cases e))
     cases xb with
     | none=>exact (c4 rfl).1
     | some ad=>
      obtain ⟨j1,j2,j3,j4⟩:=c5 ad rfl
      obtain ⟨b,off,sp⟩:=ad
      simp only at j1 j2 j4 ⊢
      subst j1;subst j2
      simpa using j4
    ·cases h1
   ·cases q1
  ·cases q1
 ·cases hk
end
end OT
set_option linter.unusedVariables false
set_option linter.unusedSimpArgs false
namespace OT
open Go
def eF (w:World):(t:Ty)->Md->List Path->List Value->FP
 | .pair a b,m,H,cs=>fun x i=>eF w a m.l (H.filterMap nJ) (cs.take a.sz) x i+eF w b m.r (H.filterMap nK) (cs.drop a.sz) x i
 | .U e,m,H,cs=>
  if hole H then fun _ _=>0 else if m.own then
   match cs with
   | [.slice (some ad) n cap]=>fun x i=>bq ad.block 0 (cap*e.sz) x i+ay n (fun j=>eF w e m.e (H.filterMap (gm j)) (rd w ad.block (j*e.sz) e.sz)) x i
   | _=>fun _ _=>0
  else fun _ _=>0
 | .ptr e,m,H,cs=>
  if hole H then fun _ _=>0 else if m.own then
   match cs with
   | [.pointer (some ad)]=>fun x i=>bq ad.block 0 e.sz x i+eF w e m.e [] (rd w ad.block 0 e.sz) x i
   | _=>fun _ _=>0
  else fun _ _=>0
 | .map _ _,m,H,cs=>
  if hole H then fun _ _=>0 else if m.own then
   match cs with
   | [.map (some r)]=>bq r 0 1
   | _=>fun _ _=>0
  else fun _ _=>0
 | _,_,_,_=>fun _ _=>0
section
variable {P:Program} {w w1:World} {A:Cells}
theorem aj.fp:∀ (t:Ty) {m:Md} {H:List Path} {v:t.den} {cs:List Value} {F:FP},aj P w A t m H v cs F->aj P w A t m H v cs (eF w t m H cs)/\∀ b i,eF w t m H cs b i<=F b i:=by
 intro t
 induction t with
 | pair a b ey eg=>
  intro m H v cs F h
  obtain ⟨h0,F1,F2,hs,h1,Y⟩:=h
  obtain ⟨a1,a2⟩:=ey h1
  obtain ⟨b1,b2⟩:=eg Y
  exact ⟨⟨h0,_,_,fun _ _=>Nat.le_refl _,a1,b1⟩,fun b i=>by have:=a2 b i;have:=b2 b i;have:=hs b i;simp only[eF];omega⟩
 | U e ih=>
  intro m H v cs F h
  have h':=h
  simp only[aj] at h
  split at h
  ·rename_i hh
   exact ⟨by simp only[aj,hh,if_true];exact h,fun b i=>by simp only[eF,hh,if_true];exact Nat.zero_le _⟩
  ·rename_i hh
   split at h
   ·rename_i hm
    obtain ⟨xa,cap,rfl,h1,Y,h3,h4⟩:=h
    cases xa with
    | none=>
     refine ⟨?_,fun b i=>by simp only[eF,hh,hm,if_true,Bool.false_eq_true,if_false];exact Nat.zero_le _⟩
     simp only[aj,hh,hm,if_true,Bool.false_eq_true,if_false]
     exact ⟨none,cap,rfl,h1,Y,h3,fun ad e=>by cases e⟩
    | some ad=>
     obtain ⟨g1,g2,g3,Fi,g4,g5⟩:=h4 ad rfl
     have each:∀ (i:Nat) (x:e.den),v[i]?=some x->∃ L:List Value,L.length=e.sz/\Has w ad.block (i*e.sz) L/\aj P w A e m.e (H.filterMap (gm i)) x L (eF w e m.e (H.filterMap (gm i)) (rd w ad.block (i*e.sz) e.sz)) /\
       ∀ b k,eF w e m.e (H.filterMap (gm i)) (rd w ad.block (i*e.sz) e.sz) b k<=Fi i b k:=fun i x hx=>by
      obtain ⟨L,l1,l2,l3⟩:=g5 i x hx
      obtain ⟨q1,q2⟩:=ih l3
      rw[bB l2 l1]
      exact ⟨L,l1,l2,q1,q2⟩
     have hle:∀ b i,ay (List.length v) (fun j=>eF w e m.e (H.filterMap (gm j)) (rd w ad.block (j*e.sz) e.sz)) b i<=ay (List.length v) Fi b i:=fun b i=>zx b i fun j hj=>by
      obtain ⟨_,_,_,_,q⟩:=each j _ (List.getElem?_eq_getElem hj)
      exact q b i
     refine ⟨?_,fun b i=>by simp only[eF,hh,hm,if_true,Bool.false_eq_true,if_false];have:=hle b i;have:=g4 b i;omega⟩
     simp only[aj,hh,hm,if_true,Bool.false_eq_true,if_false]
     refine ⟨some ad,cap,rfl,h1,Y,h3,fun a_ e'=>?_⟩
     injection e' with e';subst e'
     refine ⟨g1,g2,g3,fun j=>eF w e m.e (H.filterMap (gm j)) (rd w ad.block (j*e.sz) e.sz),fun b i=>by simp only[eF,hh,hm,if_true,Bool.false_eq_true,if_false];exact Nat.le_refl _,fun i x hx=>?_⟩
     obtain ⟨L,l1,l2,l3,_⟩:=each i x hx
     exact ⟨L,l1,l2,l3⟩
   ·rename_i hm
    exact ⟨by simp only[aj,hh,hm,Bool.false_eq_true,if_false];exact h,fun b i=>by simp only[eF,hh,hm,Bool.false_eq_true,if_false];exact Nat.zero_le _⟩
 | ptr e ih=>
  intro m H v cs F h
  simp only[aj] at h
  split at h
  ·rename_i hh
   exact ⟨by simp only[aj,hh,if_true];exact h,fun b i=>by simp only[eF,hh,if_true];exact Nat.zero_le _⟩
  ·rename_i hh
   split at h
   ·rename_i hm
    obtain ⟨b0,rfl,h1,L,F1,Y,h3,h4,h5⟩:=h
    obtain ⟨q1,q2⟩:=ih h5
    refine ⟨?_,fun b i=>by simp only[eF,hh,hm,if_true,Bool.false_eq_true,if_false,bB h3 Y];have:=q2 b i;have:=h4 b i;omega⟩
    simp only[aj,hh,hm,if_true,Bool.false_eq_true,if_false]
    exact ⟨b0,rfl,h1,L,_,Y,h3,fun b i=>by simp only[eF,hh,hm,if_true,Bool.false_eq_true,if_false,bB h3 Y];exact Nat.le_refl _,q1⟩
   ·rename_i hm
    exact ⟨by simp only[aj,hh,hm,Bool.false_eq_true,if_false];exact h,fun b i=>by simp only[eF,hh,hm,Bool.false_eq_true,if_false];exact Nat.zero_le _⟩
 | arr n e ih=>intro m H v cs F h;exact ⟨h,fun _ _=>Nat.zero_le _⟩
 | map k v=>
  intro m H x cs F h
  simp only[aj] at h
  split at h
  ·rename_i hh
   exact ⟨by simp only[aj,hh,if_true];exact h,fun b i=>by simp only[eF,hh,if_true];exact Nat.zero_le _⟩
  ·rename_i hh
   split at h
   ·rename_i hm
    obtain ⟨h1,Y,r,ka,rfl,h4,h5,h6,h7⟩:=h
    refine ⟨?_,fun b i=>?_⟩
    ·simp only[aj,hh,hm,if_true,Bool.false_eq_true,if_false]
     exact ⟨h1,Y,r,ka,rfl,h4,by simp[eF,hh,hm,bq],h6,h7⟩
    ·simp only[eF,hh,hm,if_true,Bool.false_eq_true,if_false,bq]
     split
     ·rename_i hc
      obtain ⟨rfl,SH,vD⟩:=hc
      have:i=0:=by omega
      subst this;exact h5
     ·exact Nat.zero_le _
   ·rename_i hm
    exact ⟨by simp only[aj,hh,hm,Bool.false_eq_true,if_false];exact h,fun b i=>by simp only[eF,hh,hm,Bool.false_eq_true,if_false];exact Nat.zero_le _⟩
 | _=>intro m H v cs F h;exact ⟨h,fun _ _=>Nat.zero_le _⟩
theorem Gm:∀ (t:Ty) {m:Md} {H:List Path} {v:t.den} {cs:List Value} {F:FP},aj P w A t m H v cs F->(∀ b i,1<=F b i->∀ u,ce w b i=some u->ce w1 b i=some u)->eF w1 t m H cs=eF w t m H cs:=by
 intro t
 induction t with
 | pair a b ey eg=>
  intro m H v cs F h hF
  obtain ⟨h0,F1,F2,hs,h1,Y⟩:=h
  have e1:=ey h1 (fun b i hp=>hF b i (by have:=hs b i;omega))
  have e2:=eg Y (fun b i hp=>hF b i (by have:=hs b i;omega))
  simp only[eF,e1,e2]
 | U e ih=>
  intro m H v cs F h hF
  simp only[aj] at h
  split at h
  ·rename_i hh;simp only[eF,hh,if_true]
  ·rename_i hh
   split at h
   ·rename_i hm
    obtain ⟨xa,cap,rfl,h1,Y,h3,h4⟩:=h
    cases xa with
    | none=>simp only[eF]
    | some ad=>
     obtain ⟨g1,g2,g3,Fi,g4,g5⟩:=h4 ad rfl
     simp only[eF,hh,hm,if_true,Bool.false_eq_true,if_false]
     funext b i
     congr 1
     refine congrFun (congrFun (jW fun j hj=>?_) b) i
     obtain ⟨L,l1,l2,l3⟩:=g5 j _ (List.getElem?_eq_getElem hj)
     have hle:j*e.sz+e.sz<=cap*e.sz:=by rw[<-Nat.succ_mul];exact Nat.mul_le_mul_right _ (by omega)
     have SI:Has w1 ad.block (j*e.sz) L:=fun k u hu=>hF _ _ (by
      have hk:=(List.getElem?_eq_some_iff.1 hu).1
      have:=g4 ad.block (j*e.sz+k)
      have h9:bq ad.block 0 (cap*e.sz) ad.block (j*e.sz+k)=1:=by simp only[bq];rw[if_pos ⟨trivial,by omega,by omega⟩]
      omega) u (l2 k u hu)
     rw[bB SI l1,bB l2 l1]
     exact ih l3 (fun b i hp=>hF b i (by have:=g4 b i;have:=bk Fi hj b i;omega))
   ·rename_i hm;simp only[eF,hh,hm,Bool.false_eq_true,if_false]
 | ptr e ih=>
  intro m H v cs F h hF
  simp only[aj] at h
  split at h
  ·rename_i hh;simp only[eF,hh,if_true]
  ·rename_i hh
   split at h
   ·rename_i hm
    obtain ⟨b0,rfl,h1,L,F1,Y,h3,h4,h5⟩:=h
    have Ct:Has w1 b0 0 L:=fun k u hu=>hF _ _ (by
     have hk:=(List.getElem?_eq_some_iff.1 hu).1
     have:=h4 b0 (0+k)
     have h9:bq b0 0 e.sz b0 (0+k)=1:=by simp only[bq];rw[if_pos ⟨trivial,by omega,by omega⟩]
     omega) u (h3 k u hu)
    simp only[eF,hh,hm,if_true,Bool.false_eq_true,if_false,bB h3 Y,bB Ct Y]
    rw[ih h5 (fun b i hp=>hF b i (by have:=h4 b i;omega))]
   ·rename_i hm;simp only[eF,hh,hm,Bool.false_eq_true,if_false]
 | _=>intro m H v cs F h hF;rfl
theorem Ro.indep {A':Cells}:∀ (t:Ty) {v:t.den} {cs:List Value},t.flat=true->t.lr=true->Ro P w A t v cs->Ro P w A' t v cs:=by
 intro t
 induction t with
 | pair a b ey eg=>
  intro v cs hf hn h
  simp only[Ty.flat,Ty.lr,Bool.and_eq_true] at hf hn
  exact ⟨ey hf.1 hn.1 h.1,eg hf.2 hn.2 h.2⟩
 | arr n e ih=>
  intro v cs hf hn h
  exact ⟨h.1,h.2.1,h.2.2.1,fun i x hx=>ih hf hn (h.2.2.2 i x hx)⟩
 | U e ih=>intro v cs hf;simp[Ty.flat] at hf
 | ptr e ih=>intro v cs hf;simp[Ty.flat] at hf
 | fn=>intro v cs hf hn;simp[Ty.lr] at hn
 | map k v=>intro v cs hf;simp[Ty.flat] at hf
 | _=>intro v cs hf hn h;exact h
theorem aj.indep {A':Cells}:∀ (t:Ty) {v:t.den} {cs:List Value} {F:FP},t.lr=true->aj P w A t (ao t) [] v cs F->aj P w A' t (ao t) [] v cs F:=by
 intro t
 induction t with
 | pair a b ey eg=>
  intro v cs F hn h
  simp only[Ty.lr,Bool.and_eq_true] at hn
  obtain ⟨h0,F1,F2,hs,h1,Y⟩:=h
  exact ⟨h0,F1,F2,hs,ey hn.1 h1,eg hn.2 Y⟩
 | U e ih=>
  intro v cs F hn h
  simp only[aj,hole,List.any_nil,Bool.false_eq_true,if_false,ao,mN,Md.own,if_true] at h ⊢
  obtain ⟨xa,cap,h1,Y,h3,h4,h5⟩:=h
  refine ⟨xa,cap,h1,Y,h3,h4,fun ad e'=>?_⟩
  obtain ⟨g1,g2,g3,Fi,g4,g5⟩:=h5 ad e'
  refine ⟨g1,g2,g3,Fi,g4,fun i x hx=>?_⟩
  obtain ⟨L,l1,l2,l3⟩:=g5 i x hx
  exact ⟨L,l1,l2,ih hn l3⟩
 | ptr e ih=>
  intro v cs F hn h
  simp only[aj,hole,List.any_nil,Bool.false_eq_true,if_false,ao,mN,Md.own,if_true] at h ⊢
  obtain ⟨b,h1,Y,L,F1,h3,h4,h5,h6⟩:=h
  exact ⟨b,h1,Y,L,F1,h3,h4,h5,ih hn h6⟩
 | arr n e ih=>
  intro v cs F hn h
  exact ⟨h.1,Ro.indep _ (by have:=h.2.1;simpa [Ty.flat] using this) hn h.2⟩
 | fn=>intro v cs F hn;simp[Ty.lr] at hn
 | map k v=>
  intro x cs F hn h
  simp only[Ty.lr,Bool.and_eq_true] at hn
  simp only[aj,hole,List.any_nil,Bool.false_eq_true,if_false,ao,mN,Md.own,if_true] at h ⊢
  obtain ⟨h1,Y,r,ka,h3,h4,h5,h6,h7⟩:=h
  refine ⟨h1,Y,r,ka,h3,h4,h5,h6,fun i y hy=>?_⟩
  obtain ⟨kc,vc,g1,g2,g3⟩:=h7 i y hy
  exact ⟨kc,vc,g1,Ro.indep k h1 hn.1 g2,Ro.indep v Y hn.2 g3⟩
 | _=>intro v cs F hn h;exact h
theorem aj.free {A':Cells} {t:Ty} {m:Md} {v:t.den} {cs:List Value} {F:FP} (ho:(t.flat||decide (m=ao t))=true) (hn:t.lr=true) (h:aj P w A t m [] v cs F):aj P w A' t m [] v cs F:=by
 simp only[Bool.or_eq_true,decide_eq_true_eq] at ho
 rcases ho with ho | ho
 ·exact Ro.flat t F ho (Ro.indep t ho hn (aj.flat t ho h))
 ·subst ho;exact aj.indep t hn h
def World.news (w w2:World):World:={ w2 with heap:=(w.heap.toList++w2.heap.toList.drop w.heap.size).toArray }
theorem Ak {w2:World} (h:w.heap.size<=w2.heap.size) (k:Nat):(World.news w w2).heap[k]?=if k < w.heap.size then w.heap[k]? else w2.heap[k]?:=by
 simp only[World.news,List.getElem?_toArray]
 by_cases hk:k < w.heap.size
 ·rw[if_pos hk,List.getElem?_append_left (by simpa using hk),Array.getElem?_toList]
 ·rw[if_neg hk,List.getElem?_append_right (by simp;omega),List.getElem?_drop,Array.getElem?_toList]
  congr 1;simp;omega
theorem p_ {w2:World} (h:w.heap.size<=w2.heap.size):(World.news w w2).heap.size=w2.heap.size:=by simp[World.news];omega
theorem m8 {w2:World} (h:w.heap.size<=w2.heap.size) {b:Nat} (hb:b < w.heap.size):(World.news w w2).heap[b]?=w.heap[b]?:=by rw[Ak h,if_pos hb]
theorem tN {w2:World} (h:w.heap.size<=w2.heap.size) {b:Nat} (hb:w.heap.size<=b):(World.news w w2).heap[b]?=w2.heap[b]?:=by rw[Ak h,if_neg (by omega)]
theorem sI {w2:World} {b:Nat} (h:w2.heap[b]?=w.heap[b]?) (i:Nat):ce w2 b i=ce w b i:=pz h i
theorem pP {w2:World} {b:Nat} (h:w2.heap[b]?=w.heap[b]?) (i:Nat):w2.frozen? ⟨b,i,none⟩=w.frozen? ⟨b,i,none⟩:=by simp[World.frozen?,h]
theorem oZ {w2:World} {b:Nat} (h:w2.heap[b]?=w.heap[b]?) (n:Nat×Bool):dq w b n↔dq w2 b n:=by unfold dq;rw[h]
theorem dq.lt {b:Nat} {n:Nat×Bool} (h:dq w b n):b < w.heap.size:=by
 obtain ⟨c,e,fr,h1,_⟩:=h;exact (Array.getElem?_eq_some_iff.1 h1).1
theorem xi {w2:World} {F:FP} (h:Ext w w2 F):Ext w (World.news w w2) (fun _ _=>0)/\Ext (World.news w w2) w2 F:=by
 have hs:=h.size
 refine ⟨⟨by rw[p_ hs];exact hs,fun b i hb _ u hu=>by rw[sI (m8 hs hb)];exact hu,fun b n hn=>(oZ (m8 hs hn.lt) n).1 hn,fun b i hb=>pP (m8 hs hb) i,h.os,h.tape,h.output,fun b hb _=>m8 hs hb,h.drawn⟩,
  ⟨by rw[p_ hs];exact Nat.le_refl _,fun b i hb hz u hu=>?_,fun b n hn=>?_,fun b i hb=>?_,rfl,rfl,rfl,fun b hb hz=>?_,Nat.le_refl _⟩⟩
 ·by_cases lP:b < w.heap.size
  ·rw[sI (m8 hs lP)] at hu
   exact h.cell b i lP hz u hu
  ·rw[sI (w:=w2) (tN hs (Nat.le_of_not_lt lP))] at hu;exact hu
 ·by_cases lP:b < w.heap.size
  ·exact h.pt b n ((oZ (m8 hs lP) n).2 hn)
  ·exact (oZ (w:=w2) (tN hs (Nat.le_of_not_lt lP)) n).2 hn
 ·by_cases lP:b < w.heap.size
  ·rw[pP (m8 hs lP)];exact h.ql b i lP
  ·exact (pP (w:=w2) (tN hs (Nat.le_of_not_lt lP)) i).symm
 ·by_cases lP:b < w.heap.size
  ·rw[m8 hs lP];exact h.obj b lP hz
  ·exact (tN hs (Nat.le_of_not_lt lP)).symm
end
def ArgRel (P:Program) (w:World) (A:Cells) (pm:PM) (t:Ty) (v:t.den) (x:Value) (F:FP):Prop:=
 match pm with
 | .ro=>∃ cs,x=bm t cs/\Ro P w A t v cs
 | .fix f=>(∃ cs,x=bm t cs/\Ro P w A t v cs)/\∀ e:t=.fn,(e ▸ v:Ty.fn.den).1=f
 | .ji m=>∃ b o L F1,x=.pointer (some ⟨b,o,none⟩)/\L.length=t.sz/\Has w b o L/\(∀ j,j < t.sz->w.frozen? ⟨b,o+j,none⟩=false)/\(∀ b' i,bq b o t.sz b' i+F1 b' i<=F b' i)/\aj P w A t m [] v L F1
 | .fi m | .jV m=>∃ cs,x=bm t cs/\aj P w A t m [] v cs F
 | .lR m=>∃ b o L F1,x=.pointer (some ⟨b,o,none⟩)/\L.length=t.sz/\Has w b o L/\(∀ j,j < t.sz->w.frozen? ⟨b,o+j,none⟩=false)/\(∀ b' i,bq b o t.sz b' i+F1 b' i<=F b' i)/\aj P w A t m [] v L F1
def kU (P:Program) (w:World) (A:Cells):(ps:List (PM×Ty))->(bE (ps.map (·.2))).den->List Value->FP->Prop
 | [],_,xs,_=>xs=[]
 | (pm,t)::ps,v,xs,F=>∃ (x:Value) (NN:List Value) (F1 F2:FP),xs=x::NN/\(∀ b i,F1 b i+F2 b i<=F b i)/\ArgRel P w A pm t v.1 x F1/\kU P w A ps v.2 NN F2
def iN (P:Program) (w:World) (A:Cells):(ps:List (PM×Ty))->(bE (e8 ps)).den->List Value->FP->Prop
 | [],_,_,_=>True
 | (.ro,_)::ps,v,xs,F=>iN P w A ps v xs.tail F
 | (.fix _,_)::ps,v,xs,F=>iN P w A ps v xs.tail F
 | (.lR _,_)::ps,v,xs,F=>iN P w A ps v xs.tail F
 | (.jV _,_)::ps,v,xs,F=>iN P w A ps v xs.tail F
 | (.ji m,t)::ps,v,xs,F=>∃ (F1 F2:FP),(∀ b i,F1 b i+F2 b i<=F b i)/\(∃ b o L F3,xs.head?=some (.pointer (some ⟨b,o,none⟩))/\L.length=t.sz/\Has w b o L/\(∀ b' i,bq b o t.sz b' i+F3 b' i<=F1 b' i)/\aj P w A t m [] v.1 L F3)/\iN P w A ps v.2 xs.tail F2
 | (.fi m,t)::ps,v,xs,F=>∃ (F1 F2:FP),(∀ b i,F1 b i+F2 b i<=F b i)/\(∃ cs,xs.head?=some (bm t cs)/\aj P w A t m [] v.1 cs F1)/\iN P w A ps v.2 xs.tail F2
def il (P:Program) (w:World) (A:Cells) (rs:List xH) (rv:Value) (F:FP):Prop:=
 match rs with
 | []=>True
 | [x]=>∃ cs,rv=bm x.t cs/\aj P w A x.t x.m [] x.v cs F
 | xs=>∃ (vs:Array Value) (Fi:Nat->FP),rv=.tuple vs/\(∀ b i,ay xs.length Fi b i<=F b i)/\∀ j x,xs[j]?=some x->∃ v cs,vs[j]?=some v/\v=bm x.t cs/\aj P w A x.t x.m [] x.v cs (Fi j)
def Sound (P:Program) (f:FuncId) (g:mO):Prop:=
 ∀ (w:World) (A:Cells) (F0:FP) (v:(bE (g.ps.map (·.2))).den) (xs:List Value),kU P w A g.ps v xs F0->(∀ b i,F0 b i<=1)->(∀ b i,1<=F0 b i->¬ A b i)->(∀ b i,1<=F0 b i\/A b i->b < w.heap.size) ->
  ∀ out,g.F v=some out->Calls P f xs.toArray w fun e w'=>∃ rv,e=.returned rv/\Ext w w' F0/\∃ (A':Cells) (G GR GM:FP),(∀ b i,A b i->A' b i)/\(∀ b i,A' b i->A b i\/1<=F0 b i\/w.heap.size<=b) /\
   (∀ b i,1<=G b i->1<=F0 b i\/w.heap.size<=b)/\(∀ b i,G b i<=1)/\(∀ b i,1<=G b i->¬ A' b i)/\(∀ b i,1<=G b i\/A' b i->b < w'.heap.size)/\(∀ b i,GR b i+GM b i<=G b i) /\
   il P w' A' (f7 g.rs out).1 rv GR/\iN P w' A' g.ps (f7 g.rs out).2 xs GM
def oD (P:Program) (f:FuncId) (cap:Bool):Prop:=∃ fn,P.funcs[f]?=some fn/\(fn.name == "runtime.NumGoroutine")=false/\fn.body.isNone=false/\fn.nfree=(match cap with | true=>1 | false=>0)
end OT
