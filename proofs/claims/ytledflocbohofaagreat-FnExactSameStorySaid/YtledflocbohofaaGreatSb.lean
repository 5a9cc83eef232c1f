/- The proof's parts, merged: Operands used  slots laid.. No conditions but those that each states. -/
import Derived.Test.YtledflocbohofaaGreatSa
import Derived.Laws.Entries
import Derived.Laws.NewFold
import Derived.Laws.Sem
import Derived.Laws.Slices
import Derived.Laws.Concat
import Derived.Laws.StructEq
import Derived.Laws.Cover3
import Derived.ChangeKeysEq
import Derived.Laws.MakeOwn
import Derived.Laws.IdiomStrings
import Derived.Laws.BytesArg
import Derived.Laws.Tables
import Derived.Great.BuildSlice
import Derived.Deep.AppendSrc
set_option linter.unusedVariables false
set_option linter.unusedSimpArgs false
namespace OT
open Go
section
variable {P:Program} {C:Ctx} {A:Cells} {X:FP} {σ:St} {a:Act} {w:World} {F:Nat->FP} {R:Type} {x:R}
theorem xJ {l:List (Nat×Nat×Bool)} {r:Nat} (h:sS l r=false) (k:Nat):(r,k,false) ∉ l:=by
 induction l with
 | nil=>intro hm;cases hm
 | cons y l ih=>
  obtain ⟨k',n,b⟩:=y
  simp only[sS,Bool.or_eq_false_iff] at h
  intro hm
  rcases List.mem_cons.1 hm with e | hm
  ·injection e with e1 e2
   injection e2 with e2 e3
   subst e1;subst e3
   simp at h
  ·exact ih h.2 hm
theorem kf (a:Act) (i:Nat):a.put (some i) (tmp a i)=a:=by
 have:a.tmps.setIfInBounds i (tmp a i)=a.tmps:=by
  apply Array.ext
  ·simp
  ·intro j h1 Y
   rw[Array.getElem_setIfInBounds (by simpa using h1)]
   split
   ·rename_i e;subst e;simp[tmp,Y]
   ·rfl
 simp[Act.put,this]
theorem mK (h:Rel P C A X σ a w F) {s:Slot} {tv:Value} {G:FP} (hs:a7 P A σ a w tv s G) {mv:Bool} {t:Ty} {K:Md->t.den->St->Option R} (hk:gy σ s mv t K=some x) :
  ∃ (A':Cells) (σ':St) (F':Nat->FP) (m:Md) (v:t.den) (cs:List Value) (Fv:FP),K m v σ'=some x/\(∀ b i,A b i->A' b i)/\Rel P C A' (fun b i=>X b i+Fv b i) σ' a w F'/\σ'.n=σ.n/\jO σ σ' /\
   tv=bf t cs/\ai P w A' t m [] v cs Fv:=by
 have hz:Rel P C A (fun b i=>X b i+0) σ a w F:=h
 cases s with
 | val t' v=>
  simp only[gy] at hk
  obtain ⟨e,hk⟩:=a8 hk;subst e
  obtain ⟨cs,h1,Y⟩:=hs
  exact ⟨A,σ,F,_,v,cs,fun _ _=>0,hk,fun _ _ h=>h,hz,rfl,jO.refl σ,h1,Ro.rep _ _ (cM _) Y⟩
 | cp t' v=>
  simp only[gy] at hk
  obtain ⟨e,hk⟩:=a8 hk;subst e
  exact ⟨A,σ,F,_,v,[tv],fun _ _=>0,hk,fun _ _ h=>h,hz,rfl,jO.refl σ,(bq _ _ rfl).symm,Ro.rep _ _ (cM _) hs⟩
 | oo=>
  simp only[gy] at hk
  split at hk
  ·rename_i t e
   have hs:tv=.slice none 0 0:=hs
   subst hs
   refine ⟨A,σ,F,_,_,[.slice none 0 0],fun _ _=>0,hk,fun _ _ h=>h,hz,rfl,jO.refl σ,(bq _ _ rfl).symm,?_⟩
   simp only[ai,hole,List.any_nil,Bool.false_eq_true,if_false,aq,mz,Md.own,if_true]
   exact ⟨none,0,rfl,Nat.le_refl _,by simp[maxLen],fun _=>rfl,fun ad cO=>by cases cO⟩
  ·cases hk
 | ref r p snap=>
  simp only[gy] at hk
  split at hk
  ·rename_i aA
   obtain ⟨hr,t',m',H',v',aJ,aZ,F',h1,Y,h3,h4,h5,h6⟩:=fi h hk
   obtain ⟨pl,g1,g2,g3⟩:=hs.2 aA
   rw[h3] at g1
   injection g1 with g1
   subst g1
   split at h1
   ·rename_i hH
    have hH:=List.isEmpty_iff.1 hH;subst hH
    obtain ⟨e,h1⟩:=a8 h1;subst e
    split at h1
    ·rename_i hm;subst hm
     exact ⟨A,σ,F,_,v',aJ,fun _ _=>0,h1,fun _ _ h=>h,hz,rfl,jO.refl σ,g2,Ro.rep _ _ (cM _) (ai.ro _ (cM _) h4)⟩
    ·split at h1
     ·obtain ⟨A',σ',F2,cs,ad,Fv,k1,k2,k3,k4,kr,k5,k6⟩:=zj h h1 ⟨Y⟩
      rw[h3] at k5
      injection k5 with k5
      simp only[Pl.mk.injEq,true_and] at k5
      obtain ⟨rfl,rfl⟩:=k5
      exact ⟨A',σ',F2,_,v',aJ,Fv,k1,k2,k3,k4,kr,g2,ai.mono k2 (fun _ _ _ _ h=>h) (fun _ _ h=>h) _ k6 (fun _ _=>Nat.le_refl _) (fun _ _ _ _ h=>h)⟩
     ·obtain ⟨A',σ',F2,t2,m2,v2,cs,ad,k1,k2,k3,k4,kr,k5,k6,k7⟩:=uY h h1
      obtain ⟨e1,e2,e3,e4⟩:=At.inj ⟨Y⟩ k5
      subst e1
      have e4:=eq_of_heq e4
      subst e4
      rw[h3] at k6
      injection k6 with k6
      simp only[Pl.mk.injEq,true_and] at k6
      obtain ⟨rfl,rfl⟩:=k6
      exact ⟨A',σ',F2,_,v',aJ,fun _ _=>0,k1,k2,k3,k4,kr,g2,Ro.rep _ _ (cM _) k7⟩
   ·cases h1
  ·cases hk
 | sub r p snap lo hi=>
  simp only[gy] at hk
  split at hk
  ·rename_i aA
   obtain ⟨hr,t',m',H',v',aJ,aZ,F',h1,Y,h3,h4,h5,h6⟩:=fi h hk
   obtain ⟨pl,e,xa,n,cap,nm,cap',g1,g2,g3,g4,g5,g6,g7,BG,g8,g9,g10⟩:=hs.2 aA
   rw[h3] at g1
   injection g1 with g1
   subst g1
   simp only at g2 g3
   subst g2;subst g3
   split at h1
   ·rename_i hH
    have hH:=List.isEmpty_iff.1 hH;subst hH
    obtain ⟨e',h1⟩:=a8 h1;subst e'
    simp only at h1
    have qS:tv=bf (.U e) [.slice nm (hi - lo) cap']:=by rw[bq _ _ rfl];exact g6
    split at h1
    ·rename_i hm;subst hm
     exact ⟨A,σ,F,_,_,_,fun _ _=>0,h1,fun _ _ h=>h,hz,rfl,jO.refl σ,qS,Ro.rep _ _ (cM _) (Ro.piece (ai.ro _ (cM _) h4) g4 g5 g7 g8 g9)⟩
    ·split at h1
     ·split at h1
      ·rename_i sB
       subst sB
       obtain ⟨A',σ',F2,cs,ad,Fv,k1,k2,k3,k4,kr,k5,k6⟩:=zj h h1 ⟨Y⟩
       rw[h3] at k5
       injection k5 with k5
       simp only[Pl.mk.injEq,true_and] at k5
       obtain ⟨rfl,rfl⟩:=k5
       have k6:=ai.mono k2 (fun _ _ _ _ h=>h) (fun _ _ h=>h) _ k6 (fun _ _=>Nat.le_refl _) (fun _ _ _ _ h=>h)
       refine ⟨A',σ',F2,_,_,_,Fv,k1,k2,k3,k4,kr,qS,?_⟩
       have qR:=BG rfl
       subst qR
       simp only[Nat.add_zero] at g7
       subst g7
       simp only[ai,hole,List.any_nil,Bool.false_eq_true,if_false] at k6 ⊢
       split at k6
       ·rename_i c_
        rw[if_pos c_]
        obtain ⟨a0,Qe,q1,q2,q3,q4,q5⟩:=k6
        simp only[List.cons.injEq,Value.slice.injEq,and_true] at q1
        obtain ⟨rfl,rfl,rfl⟩:=q1
        have hlen:List.length ((v'.take hi).drop 0)=hi:=by simp;omega
        refine ⟨nm,cap',by rw[hlen];rfl,by rw[hlen];omega,q3,q4,fun ad cO=>?_⟩
        obtain ⟨r1,r2,r3,Fi,r4,r5⟩:=q5 ad cO
        refine ⟨r1,r2,r3,Fi,fun b i=>?_,fun i y hy=>?_⟩
        ·rw[hlen]
         have:=r4 b i;have:=Hl (List.length v') Fi 0 hi (by omega) b i
         simp only[Nat.zero_add] at this
         have this:az hi Fi b i<=az (List.length v') Fi b i:=this
         omega
        ·rw[List.drop_zero,List.getElem?_take] at hy
         split at hy
         ·exact r5 i y hy
         ·cases hy
       ·rename_i c_
        rw[if_neg c_]
        exact ⟨trivial,k6.2.1,Ro.piece (cap':=cap') k6.2.2 g4 g5 rfl g8 g9⟩
      ·cases h1
     ·obtain ⟨A',σ',F2,t2,m2,v2,cs,ad,k1,k2,k3,k4,kr,k5,k6,k7⟩:=uY h h1
      obtain ⟨e1,e2,e3,e4⟩:=At.inj ⟨Y⟩ k5
      subst e1
      have e4:=eq_of_heq e4
      subst e4
      rw[h3] at k6
      injection k6 with k6
      simp only[Pl.mk.injEq,true_and] at k6
      obtain ⟨rfl,rfl⟩:=k6
      exact ⟨A',σ',F2,_,_,_,fun _ _=>0,k1,k2,k3,k4,kr,qS,Ro.rep _ _ (cM _) (Ro.piece k7 g4 g5 g7 g8 g9)⟩
   ·cases h1
  ·cases hk
 | ptr r p snap=>
  cases p with
  | cons s p=>simp[gy] at hk
  | nil=>
   simp only[gy] at hk
   split at hk
   ·rename_i aA
    split at hk
    ·rename_i t' m' H' v' hg
     split at hk
     ·rename_i hc
      simp only[Bool.and_eq_true,List.isEmpty_iff,Bool.not_eq_true'] at hc
      obtain ⟨rfl,hl⟩:=hc
      obtain ⟨e,hk⟩:=a8 hk;subst e
      have hr:r < σ.n:=by
       rcases Nat.lt_or_ge r σ.n with hr | hr
       ·exact hr
       ·rw[e8 (Nat.not_lt.2 hr)] at hg;cases hg
      obtain ⟨pl,b,o,g1,g2,g3,g4⟩:=hs.2 aA
      have hK:=h.dj r hr
      rw[hg] at hK
      obtain ⟨b0,o0,L,F1,q1,q2,q3,q4,q5,q6⟩:=hK
      unfold place at g1
      rw[hg,q1] at g1
      simp only[bi,Option.bind_some,aG,Option.some.injEq] at g1
      subst g1
      simp only[Option.some.injEq,Prod.mk.injEq] at g2
      obtain ⟨rfl,rfl⟩:=g2
      obtain ⟨b1,w1,w2⟩:=h.whole r t' m' [] v' hg (xJ hl)
      rw[q1] at w1
      simp only[Value.pointer.injEq,Option.some.injEq,Addr.mk.injEq,and_true] at w1
      obtain ⟨rfl,rfl⟩:=w1
      have nM:=h.put hr (s:=.dead) (v:=tmp a r) (Fd:=fun _ _=>0) (X':=fun b i=>X b i+F r b i) trivial (fun b i=>by omega) (fun t m H v e=>by cases e)
      rw[kf] at nM
      refine ⟨A,_,_,_,v',[tv],F r,hk,fun _ _ h=>h,nM,rfl,(fun w tv i R hR=>⟨R.H,by
       rw[o_] at hR
       split at hR
       ·cases hR
       ·exact hR⟩),(bq _ _ rfl).symm,?_⟩
      simp only[ai,hole,List.any_nil,Bool.false_eq_true,if_false,Md.own,if_true,Md.e]
      exact ⟨b0,by rw[g3],w2,L,F1,q2,q3,q5,q6⟩
     ·cases hk
    ·cases hk
   ·cases hk
 | _=>simp[gy] at hk
theorem v7 {t:Ty} {m:Md} {v:t.den} {cs:List Value} {Fv:FP} (h:ai P w A t m [] v cs Fv) :
  a7 P A σ a w (bf t cs) (laid t m v) Fv/\∀ t' m' H' v',laid t m v=.box t' m' H' v'->∃ b,bf t cs=.pointer (some ⟨b,0,none⟩)/\de w b (t'.sz,false):=by
 unfold laid
 split
 ·rename_i hm;subst hm
  exact ⟨⟨cs,rfl,ai.ro _ (cM _) h⟩,fun t' m' H' v' e=>by cases e⟩
 ·split
  ·rename_i e m' v' _
   simp only[ai,hole,List.any_nil,Bool.false_eq_true,if_false,Md.own,if_true,Md.e] at h
   obtain ⟨b,rfl,Y,L,F1,h3,h4,h5,h6⟩:=h
   rw[bq _ _ rfl]
   refine ⟨⟨b,0,L,F1,rfl,h3,h4,fun j hj=>by rw[Nat.zero_add];exact Y.frozen hj,h5,h6⟩,fun t' m' H' v' e=>?_⟩
   injection e with e1
   subst e1
   exact ⟨b,rfl,Y⟩
  ·exact ⟨⟨cs,rfl,h⟩,fun t' m' H' v' e=>by cases e⟩
theorem Rel.LK (h:Rel P C A X σ a w F) {d:Nat} (hd:σ.n<=d) (s:Slot) (v:Value) {X':FP} (ht:∀ b i,X' b i<=X b i):Rel P C A X' (σ.put d s) (a.put (some d) v) w F:=by
 have ez:=h.size
 have ha:a.put (some d) v=a:=by simp[Act.put,Array.setIfInBounds,ez,Nat.not_lt.2 hd]
 rw[ha]
 have mI:∀ i,(σ.put d s).get i=σ.get i:=fun i=>by
  rw[o_];split
  ·omega
  ·rfl
 have gD:o9 σ a w (σ.put d s) a w:=by
  intro r p snap hb
  rw[qy,St.ok,qy]
  by_cases hr:d=r
  ·subst hr
   simp only[if_true]
   refine ⟨hb.trans (ly _),fun aA=>?_⟩
   have h0:=wo (h.ft d) hb aA
   exact ⟨(vY hb (ly _) aA).1,fun hl=>by omega⟩
  ·simp only[if_neg hr]
   refine ⟨hb,fun aA=>⟨aA,fun hl pl dO=>⟨pl.H,pl.cs,?_,fun _=>rfl⟩⟩⟩
   unfold place at dO ⊢
   rw[mI];exact dO
 refine ⟨h.size,h.defers,fun i hi=>?_,?_,fun b i=>by have:=h.iD b i;have:=ht b i;show X' b i+az σ.n F b i<=1;omega,fun b i hp=>h.jn b i (by have:=ht b i;have hp:1<=X' b i+az σ.n F b i:=hp;omega),
  fun b i hp=>h.eh b i (hp.imp (fun hp=>by have:=ht b i;have hp:1<=X' b i+az σ.n F b i:=hp;omega) id),fun i=>?_,h.ext,fun b i hp=>h.own b i (by have:=ht b i;have hp:1<=X' b i+az σ.n F b i:=hp;omega),h.a0,h.a1,?_,?_,?_⟩
 ·rw[mI]
  exact a7.fY gD (fun _ _ h=>h) (fun _ _ _ _ h=>h) (fun _ _ h=>h) (fun _ _ _=>⟨fun _ h=>h,rfl⟩) (h.dj i hi)
 ·intro d' r p snap hm
  exact ke.fY gD (h.gh d' r p snap (By hm).1)
 ·rw[qy]
  split
  ·rw[uS];exact h.ft d
  ·exact h.ft i
 ·intro j k hm;exact h.ii j k (qe hm).1
 ·intro r t m H v' hg hl
  rw[mI] at hg
  refine h.whole r t m H v' hg fun k hm=>hl k (xC hm fun e=>?_)
  have e:r=d:=e
  subst e
  rw[e8 (Nat.not_lt.2 hd)] at hg;cases hg
 ·intro j k hm R hR
  rw[mI] at hR
  exact h.gt j k (qe hm).1 R hR
theorem Rel.aQ (h:Rel P C A X σ a w F) (d:Option Tmp) {s:Slot} {v:Value} {Fd X':FP} (hs:a7 P A σ a w v s Fd) (ht:∀ b i,X' b i+Fd b i<=X b i)
  (Hu:∀ t m H v',s=.box t m H v'->∃ b,v=.pointer (some ⟨b,0,none⟩)/\de w b (t.sz,false)):∃ F',Rel P C A X' (σ.aQ d s) (a.put d v) w F':=by
 cases d with
 | none=>exact ⟨F,h.less fun b i=>by have:=ht b i;omega⟩
 | some d=>
  rcases Nat.lt_or_ge d σ.n with hd | hd
  ·exact ⟨_,h.put hd hs (fun b i=>by have:=ht b i;omega) Hu⟩
  ·exact ⟨_,h.LK hd s v fun b i=>by have:=ht b i;omega⟩
def u7 (P:Program) (C:Ctx) (σ:St) (a:Act) (w:World):Prop:=∃ A F,Rel P C A (fun _ _=>0) σ a w F
end
end OT
set_option linter.unusedVariables false
set_option linter.unusedSimpArgs false
namespace OT
open Go
def zc:Ty->Option (List Value)
 | .int k=>some [.int k 0]
 | .bool=>some [.bool false]
 | .str=>some [.string ⟨#[]⟩]
 | .unit=>some []
 | .pair a b=>match zc a,zc b with
  | some x,some y=>some (x++y)
  | _,_=>none
 | .arr n e=>match zc e with
  | some x=>some (List.replicate n x).flatten
  | none=>none
 | .U _=>some [.slice none 0 0]
 | _=>none
def MO:Value->Value->Bool
 | .int k n,.int k' n'=>decide (k=k')&&decide (n=n')
 | .bool a,.bool b=>a == b
 | .string s,.string t=>decide (s.data.toList=t.data.toList)
 | .slice none 0 0,.slice none 0 0=>true
 | _,_=>false
def zk:List Value->List Value->Bool
 | [],[]=>true
 | a::x,b::y=>MO a b&&zk x y
 | _,_=>false
theorem MP {a b:Value} (h:MO a b=true):a=b:=by
 unfold MO at h
 split at h
 ·simp only[Bool.and_eq_true,decide_eq_true_eq] at h;rw[h.1,h.2]
 ·simp at h;rw[h]
 ·rename_i s t
  simp only[decide_eq_true_eq] at h
  congr 1
  cases s;cases t
  simp only at h
  congr 1
  exact Array.ext' h
 ·rfl
 ·cases h
theorem Ey:∀ {x y:List Value},zk x y=true->x=y
 | [],[],_=>rfl
 | a::x,b::y,h=>by
  simp only[zk,Bool.and_eq_true] at h
  rw[MP h.1,Ey h.2]
 | [],_::_,h=>by simp[zk] at h
 | _::_,[],h=>by simp[zk] at h
def kJ (P:Program) (t:Ty) (i:TypeId):Bool:=
 match P.info? i with
 | some inf=>Nat.beq inf.size t.sz&&Nat.ble inf.bytes 512&&(match inf.zero with
  | some z=>Nat.beq z.cells.size t.sz&&(match zc t with
   | some L=>zk z.cells.toList L
   | none=>true)
  | none=>false)
 | none=>false
def jZ (P:Program):Ty->Sum TypeId (List Field)->Bool
 | .int _,.inl _=>true
 | .bool,.inl _=>true
 | .str,.inl _=>true
 | .unit,.inl i=>!P.stoodInHeld i
 | .unit,.inr _=>true
 | .pair a b,.inl i=>!P.stoodInHeld i&&(match P.underlying i with
  | some (.struct fs)=>(match fs.toList with
   | f::r=>f.name != "_" && jZ P a (.inl f.type)&&jZ P b (.inr r)
   | []=>false)
  | _=>false)
 | .pair a b,.inr (f::r)=>f.name != "_" && jZ P a (.inl f.type)&&jZ P b (.inr r)
 | .arr _ e,.inl i=>(match P.underlying i with
  | some (.array _ el)=>jZ P e (.inl el)
  | _=>false)
 | _,_=>false
def dep:Ty->Nat
 | .arr _ e=>dep e+1
 | .pair a b=>max (dep a+1) (dep b)
 | _=>1
def MQ (P:Program) (k:Ty) (i:TypeId):Bool:=isAgg k&&k.gV&&k.flat&&jZ P k (.inl i)&&Nat.ble (dep k) 9000
def KI (P:Program) (v:Ty) (i:TypeId):Bool:=match P.info? i with
 | some inf=>(match inf.zero with
  | some (.agg _)=>isAgg v
  | some _=>!isAgg v
  | none=>false)
 | none=>false
def aD (P:Program):Ty->Sum TypeId (List Field×Nat)->Bool
 | .int k,.inl i=>kJ P (.int k) i&&(match P.underlying i with | some (.int k')=>decide (k=k') | _=>false)
 | .bool,.inl i=>kJ P .bool i&&(match P.underlying i with | some .bool=>true | _=>false)
 | .str,.inl i=>kJ P .str i&&(match P.underlying i with | some .string=>true | _=>false)
 | .unit,.inl i=>kJ P .unit i&&(match P.underlying i with | some (.struct fs)=>fs.toList.isEmpty | _=>false)
 | .unit,.inr (fs,_)=>fs.isEmpty
 | .pair a b,.inl i=>kJ P (.pair a b) i&&(match P.underlying i with
  | some (.struct fs)=>(match fs.toList with
   | f::r=>Nat.beq f.offset 0&&Nat.ble 1 a.sz&&aD P a (.inl f.type)&&aD P b (.inr (r,a.sz))
   | []=>false)
  | _=>false)
 | .pair a b,.inr (f::r,off)=>Nat.beq f.offset off&&Nat.ble 1 a.sz&&aD P a (.inl f.type)&&aD P b (.inr (r,off+a.sz))
 | .arr n e,.inl i=>kJ P (.arr n e) i&&e.flat&&(match P.underlying i with | some (.array n' el)=>Nat.beq n n'&&Nat.ble 1 e.sz&&aD P e (.inl el) | _=>false)
 | .U e,.inl i=>kJ P (.U e) i&&(match P.underlying i with | some (.slice el)=>Nat.ble 1 e.sz&&aD P e (.inl el) | _=>false)
 | .ptr e,.inl i=>kJ P (.ptr e) i&&(match P.underlying i with | some (.pointer el)=>aD P e (.inl el) | _=>false)
 | .fn,.inl i=>kJ P .fn i&&(match P.underlying i with | some (.func ..)=>true | _=>false)
 | .map k v,.inl i=>kJ P (.map k v) i&&(match P.underlying i with | some (.map ki vi)=>aD P k (.inl ki)&&aD P v (.inl vi)&&MQ P k ki&&KI P v vi | _=>false)
 | _,_=>false
section
variable {P:Program} {w:World} {A:Cells}
theorem wr {t:Ty} {i:TypeId} (h:kJ P t i=true):∃ inf z,P.info? i=some inf/\inf.size=t.sz/\inf.bytes<=512/\inf.zero=some z/\z.cells.size=t.sz/\∀ L,zc t=some L->z.cells.toList=L:=by
 unfold kJ at h
 split at h
 ·rename_i inf hi
  simp only[Bool.and_eq_true,Nat.beq_eq,Nat.ble_eq] at h
  have Y:=h.2
  split at Y
  ·rename_i z hz
   simp only[Bool.and_eq_true,Nat.beq_eq] at Y
   refine ⟨inf,z,hi,h.1.1,h.1.2,hz,Y.1,fun L hL=>?_⟩
   have h3:=Y.2
   rw[hL] at h3
   exact Ey h3
  ·cases Y
 ·cases h
theorem eJ {t:Ty} {i:TypeId} (h:kJ P t i=true):∃ inf,P.info? i=some inf/\inf.size=t.sz/\inf.bytes<=512/\∀ L,zc t=some L->∃ z,inf.zero=some z/\z.cells.toList=L:=by
 obtain ⟨inf,z,h1,Y,h3,h4,h5,h6⟩:=wr h
 exact ⟨inf,h1,Y,h3,fun L hL=>⟨z,h4,h6 L hL⟩⟩
theorem gc {t:Ty} {i:TypeId} (h:aD P t (.inl i)=true):kJ P t i=true:=by
 cases t <;> simp only[aD,Bool.and_eq_true] at h <;> first | exact h.1 | exact h.1.1 | cases h
theorem qg {t:Ty} {i:TypeId} (h:aD P t (.inl i)=true):∃ d,P.underlying i=some d/\(isAgg t=true->(∃ fs,d=.struct fs)\/∃ n e,d=.array n e)/\(isAgg t=false->(∀ fs,d≠.struct fs)/\∀ n e,d≠.array n e):=by
 cases hd:P.underlying i with
 | none=>cases t <;> simp[aD,hd] at h
 | some d=>
  refine ⟨d,rfl,?_,?_⟩
  ·intro ha
   cases t <;> simp only[isAgg] at ha <;> first | cases ha | skip
   all_goals
    simp only[aD,hd,Bool.and_eq_true] at h
    cases d <;> simp_all
  ·intro ha
   cases t <;> simp only[isAgg] at ha <;> first | cases ha | skip
   all_goals
    simp only[aD,hd,Bool.and_eq_true] at h
    cases d <;> simp_all
theorem u9 {t:Ty} {i:TypeId} (h:aD P t (.inl i)=true):(Go.isAgg i).run P w=.ok (isAgg t) w:=by
 obtain ⟨d,h1,Y,h3⟩:=qg h
 unfold Go.isAgg
 simp only[Sem.run_bind,run_underlying h1,Result.andThen_ok]
 cases ht:isAgg t with
 | true=>
  rcases Y ht with ⟨fs,rfl⟩ | ⟨n,e,rfl⟩ <;> rfl
 | false=>
  obtain ⟨h4,h5⟩:=h3 ht
  cases d <;> first | rfl | (exact absurd rfl (h4 _)) | (exact absurd rfl (h5 _ _))
theorem run_sizeOf {t:Ty} {i:TypeId} (h:aD P t (.inl i)=true):(Go.sizeOf i).run P w=.ok t.sz w:=by
 obtain ⟨inf,h1,Y,_⟩:=eJ (gc h)
 simp[Go.sizeOf,typeInfo,h1,Y]
theorem wS {t:Ty} (h:isAgg t=false):t.sz=1:=by cases t <;> simp_all [isAgg,Ty.sz]
theorem jH (b o n:Nat):(⟨b,o,none⟩:Addr).add n=⟨b,o+n,none⟩:=by unfold Addr.add;split <;> simp_all
theorem pp {t:Ty} {i:TypeId} (h:aD P t (.inl i)=true) {b o:Nat} {L:List Value} (hL:Has w b o L) (hl:L.length=t.sz) (gY:∀ u ∈ L,u.oneCell'=true):(loadVar i ⟨b,o,none⟩).run P w=.ok (bf t L) w:=by
 unfold loadVar
 simp only[Sem.run_bind,u9 h,Result.andThen_ok]
 cases ht:isAgg t with
 | true=>
  have:=run_loadCells_list (P:=P) w ⟨b,o,none⟩ L (fun j v hj=>by rw[jH];exact mZ (hL j v hj) (gY v (List.mem_of_getElem? hj)))
  rw[hl] at this
  simp only[if_true,Sem.run_bind,run_sizeOf h,Result.andThen_ok,this,Sem.run_pure,bf,ht]
 | false=>
  have hs:=wS ht
  match L,hl with
  | [y],_=>
   have:=mZ (hL 0 y rfl) (gY y (by simp))
   simp only[Nat.add_zero] at this
   simp only[Bool.false_eq_true,if_false,run_load,this,bf,ht,List.headD_cons]
  | [],hl=>simp[hs] at hl
  | _::_::_,hl=>simp[hs] at hl
theorem td:∀ (t:Ty) {L:List Value} {i:Sum TypeId (List Field×Nat)},zc t=some L->aD P t i=true->ai P w A t (aq t) [] t.zero L (fun _ _=>0)/\Ro P w A t t.zero L/\L.length=t.sz:=by
 intro t
 induction t with
 | int k=>intro L i h _;injection h with h;subst h;cases k <;> exact ⟨rfl,rfl,rfl⟩
 | bool=>intro L i h _;injection h with h;subst h;exact ⟨rfl,rfl,rfl⟩
 | str=>intro L i h _;injection h with h;subst h;exact ⟨rfl,rfl,rfl⟩
 | unit=>intro L i h _;injection h with h;subst h;exact ⟨rfl,rfl,rfl⟩
 | pair a b eg dZ=>
  intro L i h hl
  simp only[zc] at h
  split at h
  ·rename_i x y hx hy
   injection h with h;subst h
   have:∃ ia ib,aD P a ia=true/\aD P b ib=true:=by
    cases i with
    | inl i=>
     simp only[aD,Bool.and_eq_true] at hl
     have Y:=hl.2
     split at Y
     ·split at Y
      ·simp only[Bool.and_eq_true] at Y;exact ⟨_,_,Y.1.2,Y.2⟩
      ·cases Y
     ·cases Y
    | inr fo=>
     obtain ⟨fs,off⟩:=fo
     cases fs with
     | nil=>simp[aD] at hl
     | cons f r=>simp only[aD,Bool.and_eq_true] at hl;exact ⟨_,_,hl.1.2,hl.2⟩
   obtain ⟨ia,ib,h1,Y⟩:=this
   obtain ⟨ra,oa,la⟩:=eg hx h1
   obtain ⟨rb,ob,lb⟩:=dZ hy Y
   have e1:(x++y).take a.sz=x:=List.take_left' la
   have e2:(x++y).drop a.sz=y:=List.drop_left' la
   refine ⟨⟨rfl,fun _ _=>0,fun _ _=>0,fun _ _=>Nat.le_refl _,by rw[e1];exact ra,by rw[e2];exact rb⟩,⟨by rw[e1];exact oa,by rw[e2];exact ob⟩,by simp[la,lb,Ty.sz]⟩
  ·cases h
 | arr n e ih=>
  intro L i h hl
  simp only[zc] at h
  split at h
  ·rename_i z hz
   injection h with h;subst h
   have:e.flat=true/\∃ ie,aD P e ie=true:=by
    cases i with
    | inl i=>
     simp only[aD,Bool.and_eq_true] at hl
     have Y:=hl.2
     split at Y
     ·simp only[Bool.and_eq_true] at Y;exact ⟨hl.1.2,_,Y.2⟩
     ·cases Y
    | inr fo=>simp[aD] at hl
   obtain ⟨hf,ie,he⟩:=this
   obtain ⟨re,oe,le⟩:=ih hz he
   have hlen:∀ n,((List.replicate n z).flatten).length=n*e.sz:=fun n=>by
    induction n with
    | zero=>simp
    | succ n ih=>rw[List.replicate_succ,List.flatten_cons,List.length_append,ih,le,Nat.add_mul];omega
   have ls:Ro P w A (.arr n e) (Ty.arr n e).zero ((List.replicate n z).flatten):=by
    refine ⟨hf,by simp[Ty.zero],hlen n,fun i x hx=>?_⟩
    have hi:i < n:=by have:=(List.getElem?_eq_some_iff.1 hx).1;simpa [Ty.zero] using this
    have hx:x=e.zero:=by
     simp only[Ty.zero,List.getElem?_replicate,hi,if_true,Option.some.injEq] at hx;exact hx.symm
    subst hx
    have:(((List.replicate n z).flatten).drop (i*e.sz)).take e.sz=z:=by
     have e1:n=i+(1+(n - i - 1)):=by omega
     rw[e1,<- List.replicate_append_replicate,<- List.replicate_append_replicate,List.flatten_append,List.flatten_append]
     have e2:=hlen i
     rw[List.drop_left' e2]
     simp only[List.replicate_one,List.flatten_cons,List.flatten_nil,List.append_nil]
     exact List.take_left' le
    rw[this];exact oe
   exact ⟨⟨rfl,ls⟩,ls,hlen n⟩
  ·cases h
 | U e ih=>
  intro L i h _
  injection h with h;subst h
  refine ⟨?_,⟨none,0,rfl,Nat.le_refl _,fun _=>rfl,fun ad cO=>by cases cO⟩,rfl⟩
  simp only[ai,hole,List.any_nil,Bool.false_eq_true,if_false,aq,mz,Md.own,if_true]
  exact ⟨none,0,rfl,Nat.le_refl _,by simp[maxLen],fun _=>rfl,fun ad cO=>by cases cO⟩
 | ptr e ih=>intro L i h _;simp[zc] at h
 | fn=>intro L i h _;simp[zc] at h
 | map k v=>intro L i h _;simp[zc] at h
theorem pQ {t:Ty} {i:TypeId} (h:aD P t (.inl i)=true) {L:List Value} (hz:zc t=some L):∃ z,(zeroValue i).run P w=.ok z w/\z.cells.toList=L:=by
 obtain ⟨inf,h1,Y,_,h3⟩:=eJ (gc h)
 obtain ⟨z,h4,h5⟩:=h3 L hz
 exact ⟨z,by simp[zeroValue,typeInfo,h1,h4],h5⟩
end
end OT
set_option linter.unusedVariables false
set_option linter.unusedSimpArgs false
namespace OT
open Go
section
variable {P:Program} {C:Ctx} {A:Cells} {X:FP} {σ:St} {a:Act} {w:World} {F:Nat->FP} {R:Type} {x:R} {Q:Exit->Act->World->Prop} {o:Oper} {E:Env}
def Nx (P:Program) (C:Ctx) {R:Type} (K:St->Option R) (x:R) (a:Act) (w:World):Prop:=∃ σ',K σ'=some x/\u7 P C σ' a w
abbrev bu (P:Program) (C:Ctx) (A:Cells) (σ:St) (a:Act) (w:World) (F:Nat->FP):Prop:=Rel P C A (fun _ _=>0) σ a w F
theorem hY {v:Value} {w':World} {next:Act->World->Prop} (da:(execOp a.eval o).run P w=.ok (.value v) w') (hn:next (a.put o.dst v) w'):o.wp P a w next Q:=by
 unfold Oper.wp;rw[da];exact hn
theorem BH {w':World} {next:Act->World->Prop} (da:(execOp a.eval o).run P w=.ok .skip w') (hd:o.dst=none) (hn:next a w'):o.wp P a w next Q:=by
 unfold Oper.wp;rw[da,Oper.upon,hd];exact hn
def reads:Op->Bool
 | .load .. | .convert ..=>true
 | _=>false
def lO (o:Oper) (w w':World):Prop:=reads o.op=true->Ext w w' (fun _ _=>0)
theorem lO.ext {o:Oper} {w w':World} (h:lO o w w') (hr:reads o.op=true):Ext w w' (fun _ _=>0):=h hr
def Tk (P:Program) (o:Oper) (a:Act) (w:World) (next:Act->World->Prop):Prop:=
 ∃ v,(∀ w',lO o w w'->(execOp a.eval o).run P w'=.ok (.value v) w')/\next (a.put o.dst v) w
theorem cn {v:Value} {next:Act->World->Prop} (da:∀ w',lO o w w'->(execOp a.eval o).run P w'=.ok (.value v) w') (hn:next (a.put o.dst v) w):Tk P o a w next:=⟨v,da,hn⟩
theorem Tk.wp {next:Act->World->Prop} (h:Tk P o a w next):o.wp P a w next Q:=by
 obtain ⟨v,h1,Y⟩:=h
 exact hY (h1 w fun _=>Ext.refl _ _) Y
theorem oD {b i:Nat} {u:Value} (h:ce w b i=some u):b < w.heap.size:=by
 rcases Nat.lt_or_ge b w.heap.size with hb | hb
 ·exact hb
 ·have hn:w.heap[b]?=none:=Array.getElem?_eq_none hb
  simp[ce,World.cell?,hn] at h
theorem Has.ext {b o:Nat} {L:List Value} {w':World} (h:Has w b o L) (hw:Ext w w' (fun _ _=>0)):Has w' b o L:=fun j u hu=>hw.cell b (o+j) (oD (h j u hu)) rfl u (h j u hu)
theorem i9 (h:Rel P C A X σ a w F) {K:St->Option R} {d:Option Tmp} {s:Slot} {v:Value} {Fd:FP} (hk:K (σ.aQ d s)=some x) (hs:a7 P A σ a w v s Fd) (ht:∀ b i,Fd b i<=X b i)
  (Hu:∀ t m H v',s=.box t m H v'->∃ b,v=.pointer (some ⟨b,0,none⟩)/\de w b (t.sz,false)):Nx P C K x (a.put d v) w:=by
 obtain ⟨F',hF⟩:=h.aQ d (X':=fun _ _=>0) hs (fun b i=>by have:=ht b i;omega) Hu
 exact ⟨_,hk,A,F',hF⟩
theorem aW (h:Rel P C A X σ a w F) {K:St->Option R} {d:Option Tmp} {s:Slot} {v:Value} (hk:K (σ.aQ d s)=some x) (hs:a7 P A σ a w v s (fun _ _=>0))
  (hb:∀ t m H v',s≠.box t m H v'):Nx P C K x (a.put d v) w:=
 i9 h hk hs (fun _ _=>Nat.zero_le _) (fun t m H v' e=>absurd e (hb t m H v'))
theorem qT (h:Rel P C A X σ a w F) {K:St->Option R} {d:Option Tmp} {t:Ty} {m:Md} {v:t.den} {cs:List Value} {Fd:FP} (hk:K (σ.aQ d (laid t m v))=some x) (hr:ai P w A t m [] v cs Fd) (ht:∀ b i,Fd b i<=X b i) :
  Nx P C K x (a.put d (bf t cs)) w:=
 i9 h hk (v7 (σ:=σ) (a:=a) hr).1 ht (v7 (σ:=σ) (a:=a) hr).2
theorem cm {t:Nat} {K:Ty->Option R} (h:jm E t K=some x):∃ T,E.TI t=some T/\K T=some x:=by
 unfold jm at h
 split at h
 ·rename_i T hT;exact ⟨T,hT,h⟩
 ·cases h
theorem xK {s:Slot} {K:Bool->Option R} {tv:Value} {G:FP} (hs:a7 P A σ a w tv s G) (h:xv s K=some x):∃ b,tv=.bool b/\K b=some x:=by
 unfold xv at h
 split at h
 ·rename_i b;obtain ⟨cs,h1,Y⟩:=hs;simp only[Ro] at Y;subst Y;exact ⟨b,by rw[h1];rfl,h⟩
 ·cases h
theorem lF {s:Slot} {K:Int->Option R} {tv:Value} {G:FP} (hs:a7 P A σ a w tv s G) (h:nJ s K=some x):∃ k n,tv=.int k n/\K n=some x:=by
 unfold nJ at h
 split at h
 ·rename_i k n;obtain ⟨cs,h1,Y⟩:=hs;simp only[Ro] at Y;subst Y;exact ⟨k,_,by rw[h1];rfl,h⟩
 ·cases h
theorem xL (h:Rel P C A X σ a w F) {r:Nat} {p:Path} {pl:Pl} (hp:place σ a w r p=some pl):ke σ a w (bf pl.t pl.cs) r p (nW σ r p pl.t):=by
 have h5:=h.ft r
 refine ⟨?_,fun _=>⟨_,hp,rfl,?_⟩⟩
 ·unfold nW
  split
  ·intro j y hj;rw[List.getElem?_take] at hj;split at hj;exact ⟨y,hj,Nat.le_refl _⟩;cases hj
  ·intro j y hj;rw[List.getElem?_take] at hj;split at hj;exact ⟨y,hj,Nat.le_refl _⟩;cases hj
  ·exact Below.refl _
 ·unfold nW
  split
  ·rename_i e he;left;exact ⟨by rw[he];rfl,by rw[List.length_take,h5];omega⟩
  ·rename_i k v he;left;exact ⟨by rw[he];rfl,by rw[List.length_take,h5];omega⟩
  ·right;exact h5
theorem zP (σ:St) (y:Operand) (t:Ty) (m:Md) (H:List Path) (v:t.den):bs σ y≠.box t m H v:=by
 intro e
 cases y with
 | tmp i=>simp only[bs] at e;cases hg:σ.get i <;> rw[hg] at e <;> cases e
 | const v=>simp only[bs] at e;unfold pA at e;split at e <;> first | (cases e;done) | (split at e <;> cases e)
 | func f=>cases e
 | global g=>cases e
theorem HA (h:bu P C A σ a w F) {y:Operand} (ho:o.op=.move y) (aA:bn P y=true) {K:St->Option R} (hk:Fg σ y o.dst K=some x):Tk P o a w (Nx P C K x):=by
 refine cn (v:=a.eval y) (by simp[execOp,ho]) ?_
 unfold Fg at hk
 have hs:=b9 h aA
 split at hk
 ·rename_i xs i hx
  have hi:i < σ.n:=by
   rcases Nat.lt_or_ge i σ.n with hi | hi
   ·exact hi
   ·simp only[bs,e8 (Nat.not_lt.2 hi)] at hx;cases hx
  have hg:σ.get i=.kC xs:=by
   simp only[bs] at hx;cases hg:σ.get i <;> rw[hg] at hx <;> first | (cases hx;done) | exact hx
  have hK:=h.dj i hi
  rw[hg] at hK
  have Y:=h.put hi (s:=.dead) (v:=tmp a i) (Fd:=fun _ _=>0) (X':=fun b k=>F i b k) trivial (fun b k=>by omega) (fun t m H v e=>by cases e)
  rw[kf] at Y
  refine i9 Y hk (Fd:=F i) ?_ (fun b i=>Nat.le_refl _) (fun t m H v e=>by cases e)
  obtain ⟨vs,Fi,h3,h4,h5⟩:=hK
  exact ⟨vs,Fi,h3,h4,h5⟩
 ·cases hk
 ·rename_i s' y' Ez zQ
  rcases hs with hs | ⟨xs,e⟩
  ·exact aW h hk hs fun t m H v e=>zP σ _ t m H v e
  ·exact (Ez xs e).elim
theorem HB (h:bu P C A σ a w F) {c y z:Operand} (ho:o.op=.pick c y z) (aA:bn P c=true/\bn P y=true/\bn P z=true) {K:St->Option R}
  (hk:(xv (bs σ c) fun c=>match bs σ (bif c then y else z) with
   | .val .bool b=>K (σ.aQ o.dst (.val .bool b))
   | _=>none)=some x):Tk P o a w (Nx P C K x):=by
 have hc:=b9 h aA.1
 rcases hc with hc | ⟨xs,e⟩
 ·obtain ⟨b,hb,hk⟩:=xK hc hk
  have KJ:∀ y':Operand,bn P y'=true->(match bs σ y' with
   | .val .bool b=>K (σ.aQ o.dst (.val .bool b))
   | _=>none)=some x->Nx P C K x (a.put o.dst (a.eval y')) w:=fun y' hy hk=>by
   split at hk
   ·rename_i b' lA
    rcases b9 h hy with hs | ⟨xs,e⟩
    ·rw[lA] at hs;exact aW h hk hs (fun _ _ _ _ e=>by cases e)
    ·rw[lA] at e;cases e
   ·cases hk
  cases b with
  | true=>exact cn (v:=a.eval y) (by simp[execOp,ho,hb,asBool]) (KJ y aA.2.1 hk)
  | false=>exact cn (v:=a.eval z) (by simp[execOp,ho,hb,asBool]) (KJ z aA.2.2 hk)
 ·rw[e] at hk;cases hk
theorem HC (h:bu P C A σ a w F) (eo:∀ i T,E.TI i=some T->aD P T (.inl i)=true) {t:Nat} {y:Operand} (ho:o.op=.load t y) (aA:bn P y=true) {K:St->Option R}
  {mv:Bool} (hk:xw E σ t (bs σ y) mv o.dst K=some x):Tk P o a w (Nx P C K x):=by
 unfold xw at hk
 obtain ⟨T,hT,hk⟩:=cm hk
 have cy:=eo _ _ hT
 have run:∀ b off L,a.eval y=.pointer (some ⟨b,off,none⟩)->Has w b off L->L.length=T.sz->(∀ u ∈ L,u.oneCell'=true)->∀ w',lO o w w'->(execOp a.eval o).run P w'=.ok (.value (bf T L)) w':=fun b off L hy hL hl gY w' j0=>by
  have j0:=j0 (by rw[ho];rfl)
  simp[execOp,ho,hy,Instr.loadAt,Instr.sureAddr,pp cy (hL.ext j0) hl gY]
 rcases b9 h aA with hs | ⟨xs,e⟩
 rotate_left
 ·rw[e] at hk;cases hk
 split at hk
 ·rename_i t' v hv
  rw[hv] at hs
  split at hk
  ·rename_i e;subst e
   obtain ⟨⟨b,off,sp⟩,h1,Y,L,h3,h4,h5⟩:=hs
   simp only[List.cons.injEq,and_true] at h1
   simp only at Y;subst Y
   exact cn (run b off L h1 (fun j u hu=>(h4 j u hu).1) h3 (Ro.one _ h5)) (aW h hk ⟨L,rfl,h5⟩ (fun _ _ _ _ e=>by cases e))
  ·cases hk
 ·rename_i r p snap hv
  rw[hv] at hs
  split at hk
  ·rename_i h_
   obtain ⟨hr,t',m',H',v',aJ,aZ,F',h1,Y,h3,h4,h5,h6⟩:=fi h hk
   obtain ⟨pl,b,off,g1,g2,g3,g4⟩:=hs.2 h_
   rw[h3] at g1
   injection g1 with g1
   subst g1
   simp only at g2
   subst g2
   split at h1
   ·rename_i e;subst e
    refine cn (run b off aJ g3 (h6 b off rfl) (ai.length _ h4) (ai.one _ h4)) ?_
    split at h1
    ·rename_i hf
     split at h1
     ·exact aW h h1 ⟨aJ,rfl,ai.flat _ hf h4⟩ (fun _ _ _ _ e=>by cases e)
     ·cases h1
    ·split at h1
     ·rename_i hm
      split at h1
      ·rename_i hH
       have hH:=List.isEmpty_iff.1 hH;subst hH;subst hm
       exact aW h h1 ⟨aJ,rfl,ai.ro _ (cM _) h4⟩ (fun _ _ _ _ e=>by cases e)
      ·cases h1
     ·cases mv with
      | false=>exact aW h h1 (xL h h3) (fun _ _ _ _ e=>by cases e)
      | true=>
       simp only at h1
       split at h1
       ·rename_i hH
        have hH:=List.isEmpty_iff.1 hH;subst hH
        obtain ⟨A2,eI,F2,bh,pD,Fv,k1,k2,k3,k4,k5,k6,k7⟩:=zj h h1 ⟨Y⟩
        rw[h3] at k6
        simp only[Option.some.injEq,Pl.mk.injEq,true_and] at k6
        obtain ⟨rfl,rfl⟩:=k6
        have hl:=v7 (σ:=eI) (a:=a) (ai.mono k2 (fun _ _ _ _ h=>h) (fun _ _ h=>h) _ k7 (fun _ _=>Nat.le_refl _) (fun _ _ _ _ h=>h))
        exact i9 k3 k1 hl.1 (fun b i=>by omega) hl.2
       ·cases h1
   ·cases h1
  ·cases hk
 ·cases hk
theorem FC {b o b' i:Nat} {v u:Value} (ey:¬ (b=b'/\o=i)) (h:ce w b' i=some u):ce (w.setCell ⟨b,o,none⟩ v) b' i=some u:=by
 by_cases hb:b=b'
 ·subst hb
  cases hh:w.heap[b]? with
  | none=>simp[ce,World.cell?,hh] at h
  | some ob=>
   cases ob with
   | map es clock=>
    have:(w.setCell ⟨b,o,none⟩ v).heap[b]?=w.heap[b]?:=by simp[World.setCell,Array.getElem?_modify,hh]
    rw[o8 this];exact h
   | cells c e fr=>
    have Y:(w.setCell ⟨b,o,none⟩ v).heap[b]?=some (.cells (c.setIfInBounds o v) e fr):=by simp[World.setCell,Array.getElem?_modify,hh]
    simp only[ce,World.cell?,hh,Y] at h ⊢
    rw[Array.getElem?_setIfInBounds_ne (fun e=>ey ⟨rfl,e⟩)]
    exact h
   | _=>simp[ce,World.cell?,hh] at h
 ·have:(w.setCell ⟨b,o,none⟩ v).heap[b']?=w.heap[b']?:=by simp[World.setCell,Array.getElem?_modify,hb]
  rw[o8 this];exact h
theorem kg {b o:Nat}:∀ (L:List Value) (w:World) (o:Nat),Ext w (w.setCells b o L) (bj b o L.length)
 | [],w,o=>Ext.refl _ _
 | v::L,w,o=>by
  have ih:=kg (b:=b) (o:=o+1) L (w.setCell ⟨b,o,none⟩ v) (o+1)
  have h1:Ext w (w.setCell ⟨b,o,none⟩ v) (bj b o (L.length+1)):=by
   refine ⟨by simp,fun b' i hb hz u hu=>?_,fun b' n hn=>?_,fun b' i hb=>by simp,rfl,rfl,rfl,fun b' hb hz=>?_,Nat.le_refl _⟩
   ·refine FC (fun e=>?_) hu
    obtain ⟨e1,e2⟩:=e
    subst e1;subst e2
    simp[bj] at hz
   ·obtain ⟨c,e,fr,h1,Y,h3⟩:=hn
    by_cases p6:b=b'
    ·subst p6
     exact ⟨c.setIfInBounds o v,e,fr,by simp[World.setCell,Array.getElem?_modify,h1],by simp[Y],h3⟩
    ·exact ⟨c,e,fr,by simp[World.setCell,Array.getElem?_modify,p6,h1],Y,h3⟩
   ·have ey:b≠b':=fun e=>by
     subst e
     have:=hz o
     simp[bj] at this
    simp[World.setCell,Array.getElem?_modify,ey]
  exact h1.trans ih fun b' i hb hz=>by
   simp only[bj] at hz ⊢
   split at hz
   ·cases hz
   ·rename_i hn;rw[if_neg];omega
theorem qU {w:World} {b o:Nat} {L:List Value} (h:∀ j,j < L.length->(w.cell? ⟨b,o+j,none⟩).isSome=true) (gY:∀ u ∈ L,u.oneCell'=true):Has (w.setCells b o L) b o L:=by
 intro j u hu
 have hj:=(List.getElem?_eq_some_iff.1 hu)
 obtain ⟨hj,e⟩:=hj
 refine vX ?_ (gY u (List.mem_of_getElem? hu))
 rw[World.cell?_setCells_in b L o w h j hj,e]
theorem FE (h:bu P C A σ a w F) (eo:∀ i T,E.TI i=some T->aD P T (.inl i)=true) {t:Nat} {y z:Operand} (ho:o.op=.store t y z) (hd:o.dst=none) (aA:bn P y=true/\bn P z=true) {mv:Bool} {K:St->Option R}
  (hk:Bd E σ t (bs σ y) (bs σ z) mv K=some x):o.wp P a w (Nx P C K x) Q:=by
 unfold Bd at hk
 obtain ⟨T,hT,hk⟩:=cm hk
 have cy:=eo _ _ hT
 rcases b9 h aA.1 with hs | ⟨xs,e⟩
 rotate_left
 ·rw[e] at hk;cases hk
 split at hk
 ·rename_i r p snap hv
  rw[hv] at hs
  split at hk
  ·rename_i h_
   split at hk
   ·obtain ⟨pl,b,off,g1,g2,g3,g4⟩:=hs.2 h_
    rcases b9 h aA.2 with hz | ⟨xs,e⟩
    rotate_left
    ·rw[e] at hk;simp[gy] at hk
    obtain ⟨A',σ',F',m,v,cs,Fv,k1,k2,k3,k4,kr,k5,k6⟩:=mK h hz hk
    obtain ⟨hr,m2,H2,v2,bh,pD,F2,q1,q2,q3,q4,q5,q6⟩:=sA k3 k1
    have dO:pD=some (b,off):=by
     unfold place at g1 q2
     cases hR:bi w (tmp a r) (σ'.get r) with
     | none=>rw[hR] at q2;cases q2
     | some R1=>
      rw[hR] at q2
      obtain ⟨H0,nk⟩:=kr w (tmp a r) r R1 hR
      rw[nk] at g1
      have:=(Of p R1.t g1 q2).2.2
      simp only at this
      rw[this,g2]
    subst dO
    obtain ⟨uX,gU⟩:=q5 b off rfl
    have hl:=ai.length _ k6
    have n7:=ai.length _ q3
    have gY:=ai.one _ k6
    have Om:=ai.one _ q3
    have u_:∀ j,j < cs.length->(w.cell? ⟨b,off+j,none⟩).isSome=true:=fun j hj=>by
     rw[mZ (uX j _ (List.getElem?_eq_getElem (by omega))) (Om _ (List.getElem_mem _))];rfl
    have bb:=run_storeCells_cells (P:=P) b off cs 0 w (by simpa using u_) (fun j hj=>by simpa using gU j (by omega)) gY
    have KK:(bf T cs).cells.toList=cs:=fu hl gY
    have ez:(bf T cs).cells.size=T.sz:=by rw[<-hl,<- Array.length_toList,KK]
    have da:(execOp a.eval o).run P w=.ok .skip (w.setCells b off cs):=by
     simp[execOp,ho,g3,k5,Instr.storeAt,Instr.sureAddr,storeVar,run_sizeOf cy,ez,KK,bb]
    refine BH da hd ?_
    have cx:ai P (w.setCells b off cs) A' T m [] v cs Fv:=by
     refine ai.mono (fun _ _ h=>h) (fun b' i ha u hu=>?_) (kg (b:=b) (o:=off) cs w off).o3 _ k6 (fun _ _=>Nat.le_refl _) (fun b' i hp u hu=>?_)
     ·refine (kg (b:=b) (o:=off) cs w off).cell b' i (k3.eh b' i (.inr ha)) ?_ u hu
      have h1:=q4 b' i;have Y:=be F' hr b' i
      rcases Nat.eq_zero_or_pos (df (some (b,off)) T.sz b' i) with h0 | h0
      ·rw[hl];exact h0
      ·exact absurd ha (k3.jn b' i (by omega))
     ·have h1:=q4 b' i;have Y:=be F' hr b' i;have h3:=k3.iD b' i
      refine (kg (b:=b) (o:=off) cs w off).cell b' i (k3.eh b' i (.inl (by omega))) ?_ u hu
      rw[hl]
      show df (some (b,off)) T.sz b' i=0
      omega
    have ca:Ext w (w.setCells b off cs) (fun b' i=>(0+Fv b' i)+(F2 b' i+df (some (b,off)) T.sz b' i)):=(kg (b:=b) (o:=off) cs w off).mono fun b' i hz=>by
     have:df (some (b,off)) T.sz b' i=0:=by have hz:(0+Fv b' i)+(F2 b' i+df (some (b,off)) T.sz b' i)=0:=hz;omega
     rw[hl];exact this
    obtain ⟨A3,p8,Fr,n1,n2,n3,_⟩:=q6 (w.setCells b off cs) A' cs Fv (fun _ _=>0) ca (fun _ _ h=>h) (fun _ _ h=>.inl h) (fun b i=>by omega) (fun b' o' e=>by
      simp only[Option.some.injEq,Prod.mk.injEq] at e;obtain ⟨rfl,rfl⟩:=e;exact qU u_ gY) (fun e=>by cases e) cx
    exact ⟨p8,n1,A3,_,n3⟩
   ·cases hk
  ·cases hk
 ·cases hk
end
end OT
set_option linter.unusedVariables false
set_option linter.unusedSimpArgs false
namespace OT
open Go
section
variable {P:Program} {w:World} {A:Cells}
theorem FF:∀ (p q:Path) (t:Ty) {H:List Path} {cs:List Value} {ad:Option (Nat×Nat)},aG w (p++q) t H cs ad=(aG w p t H cs ad).bind fun pl=>aG w q pl.t pl.H pl.cs pl.ad:=by
 intro p
 induction p with
 | nil=>intro q t H cs ad;rfl
 | cons s p ih=>
  intro q t H cs ad
  cases t with
  | pair a b=>
   cases s with
   | fst=>simp only[List.cons_append,aG];split;rfl;exact ih q a
   | snd=>simp only[List.cons_append,aG];split;rfl;exact ih q b
   | _=>simp[aG]
  | U e=>
   cases s with
   | idx i=>
    simp only[List.cons_append,aG]
    split
    ·rfl
    ·split
     ·split
      ·exact ih q e
      ·rfl
     ·rfl
   | _=>simp[aG]
  | arr n e=>
   cases s with
   | iW i=>
    simp only[List.cons_append,aG]
    split
    ·split
     ·exact ih q e
     ·rfl
    ·rfl
   | _=>simp[aG]
  | _=>cases s <;> simp[aG]
theorem wT:∀ (p:Path) (t:Ty) {H:List Path} {cs:List Value} {ad:Option (Nat×Nat)} {pl:Pl},aG w p t H cs ad=some pl->sd p t=some pl.t:=by
 intro p
 induction p with
 | nil=>intro t H cs ad pl h;simp only[aG,Option.some.injEq] at h;subst h;rfl
 | cons s p ih=>
  intro t H cs ad pl h
  cases t with
  | pair a b=>
   cases s with
   | fst=>simp only[aG] at h;split at h;cases h;exact ih a h
   | snd=>simp only[aG] at h;split at h;cases h;exact ih b h
   | _=>simp[aG] at h
  | U e=>
   cases s with
   | idx i=>
    simp only[aG] at h
    split at h
    ·cases h
    ·split at h
     ·split at h
      ·exact ih e h
      ·cases h
     ·cases h
   | _=>simp[aG] at h
  | arr n e=>
   cases s with
   | iW i=>
    simp only[aG] at h
    split at h
    ·split at h
     ·exact ih e h
     ·cases h
    ·cases h
   | _=>simp[aG] at h
  | _=>cases s <;> simp[aG] at h
theorem LL:∀ (q:Path) (t:Ty) {m:Md} {H:List Path} {v:t.den} {cs:List Value} {F:FP} {ad:Option (Nat×Nat)} {pl:Pl},ai P w A t m H v cs F->aG w q t H cs ad=some pl ->
  ∃ (m':Md) (v':pl.t.den) (F':FP),ai P w A pl.t m' pl.H v' pl.cs F':=by
 intro q
 induction q with
 | nil=>intro t m H v cs F ad pl hr h;simp only[aG,Option.some.injEq] at h;subst h;exact ⟨m,v,F,hr⟩
 | cons s q ih=>
  intro t m H v cs F ad pl hr h
  cases t with
  | pair a b=>
   obtain ⟨h0,F1,F2,hs,h1,Y⟩:=hr
   cases s with
   | fst=>simp only[aG,h0,if_false] at h;exact ih a h1 h
   | snd=>simp only[aG,h0,if_false] at h;exact ih b Y h
   | _=>simp[aG] at h
  | U e=>
   cases s with
   | idx i=>
    simp only[ai] at hr
    simp only[aG] at h
    split at h
    ·cases h
    ·rename_i hh
     rw[if_neg hh] at hr
     split at hr
     ·obtain ⟨a,cap,rfl,Y,h3,h4,h5⟩:=hr
      cases a with
      | none=>cases h
      | some bZ=>
       obtain ⟨g1,g2,g3,Fi,g4,g5⟩:=h5 bZ rfl
       simp only at h
       split at h
       ·rename_i hi
        obtain ⟨L,hl,hL,cx⟩:=g5 i _ (List.getElem?_eq_getElem hi)
        rw[g1,Nat.zero_add,bt hL hl] at h
        exact ih e cx h
       ·cases h
     ·obtain ⟨rfl,kD,a,cap,rfl,Y,h3,h4⟩:=hr
      cases a with
      | none=>cases h
      | some bZ=>
       simp only at h
       split at h
       ·rename_i hi
        obtain ⟨L,hl,hL,cx⟩:=(h4 bZ rfl).2 i _ (List.getElem?_eq_getElem hi)
        rw[bt (fun j u hu=>(hL j u hu).1) hl] at h
        exact ih e (Ro.rep e (fun _ _=>0) kD cx) h
       ·cases h
   | _=>simp[aG] at h
  | arr n e=>
   cases s with
   | iW i=>
    obtain ⟨rfl,hf,hl,hlen,hr⟩:=hr
    simp only[aG,List.isEmpty_nil,if_true] at h
    split at h
    ·rename_i hi
     exact ih e (Ro.flat e (m:=.leaf) (fun _ _=>0) hf (hr i _ (List.getElem?_eq_getElem (by rw[hl];exact hi)))) h
    ·cases h
   | _=>simp[aG] at h
  | _=>cases s <;> simp[aG] at h
def dm:Nat->Ty->Nat
 | j+1,.pair a b=>a.sz+dm j b
 | _,_=>0
theorem Dy (ad:Option (Nat×Nat)):cv ad 0=ad:=by cases ad <;> simp[cv]
theorem FG (ad:Option (Nat×Nat)) (j k:Nat):cv (cv ad j) k=cv ad (j+k):=by cases ad <;> simp[cv,Nat.add_assoc]
theorem EA:∀ (j:Nat) (S:Ty) {t':Ty} {m:Md} {H:List Path} {v:S.den} {cs:List Value} {F:FP} {ad:Option (Nat×Nat)},ai P w A S m H v cs F->mq j S=some t' ->
  ∃ H',aG w (gX j) S H cs ad=some ⟨t',H',(cs.drop (dm j S)).take t'.sz,cv ad (dm j S)⟩:=by
 intro j
 induction j with
 | zero=>
  intro S t' m H v cs F ad hr h
  cases S with
  | pair a b=>
   injection h with h;subst h
   obtain ⟨h0,F1,F2,hs,h1,Y⟩:=hr
   exact ⟨_,by simp only[gX,aG,h0,Bool.false_eq_true,if_false,dm,List.drop_zero,Dy];rfl⟩
  | _=>cases h
 | succ j ih=>
  intro S t' m H v cs F ad hr h
  cases S with
  | pair a b=>
   obtain ⟨h0,F1,F2,hs,h1,Y⟩:=hr
   obtain ⟨H',e⟩:=ih b (ad:=cv ad a.sz) Y h
   exact ⟨H',by simp only[gX,aG,h0,Bool.false_eq_true,if_false,dm];rw[e,List.drop_drop,FG]⟩
  | _=>cases h
theorem Js:∀ (j:Nat) (T:Ty) {t:Ty},sd (gX j) T=some t->∃ t2,mq j T=some t2:=by
 intro j
 induction j with
 | zero=>intro T t h;cases T <;> first | exact ⟨_,rfl⟩ | (simp[gX,sd] at h;done)
 | succ j ih=>intro T t h;cases T <;> first | (simp[gX,sd] at h;done) | exact ih _ (by simpa [gX,sd] using h)
theorem EB:∀ (j:Nat) (S:Ty) {t':Ty} {fs:List Field} {off:Nat},aD P S (.inr (fs,off))=true->mq j S=some t' ->
  ∃ f,fs[j]?=some f/\f.offset=off+dm j S/\aD P t' (.inl f.type)=true/\1<=t'.sz:=by
 intro j
 induction j with
 | zero=>
  intro S t' fs off hl h
  cases S with
  | pair a b=>
   injection h with h;subst h
   cases fs with
   | nil=>simp[aD] at hl
   | cons f r=>
    simp only[aD,Bool.and_eq_true,Nat.beq_eq,Nat.ble_eq] at hl
    exact ⟨f,rfl,by simp[dm,hl.1.1.1],hl.1.2,hl.1.1.2⟩
  | _=>cases h
 | succ j ih=>
  intro S t' fs off hl h
  cases S with
  | pair a b=>
   cases fs with
   | nil=>simp[aD] at hl
   | cons f r=>
    simp only[aD,Bool.and_eq_true,Nat.beq_eq,Nat.ble_eq] at hl
    obtain ⟨f',h1,Y,h3⟩:=ih b hl.2 h
    exact ⟨f',by simpa using h1,by rw[Y,dm];omega,h3⟩
  | _=>cases h
theorem xM {j:Nat} {S t':Ty} {i:TypeId} (hl:aD P S (.inl i)=true) (h:mq j S=some t') :
  ∃ fs f,P.underlying i=some (.struct fs)/\fs[j]?=some f/\f.offset=dm j S/\aD P t' (.inl f.type)=true/\1<=t'.sz:=by
 cases S with
 | pair a b=>
  simp only[aD,Bool.and_eq_true] at hl
  have Y:=hl.2
  split at Y
  ·rename_i fs hu
   split at Y
   ·rename_i f r va
    have h3:aD P (.pair a b) (.inr (f::r,0))=true:=by
     simp only[aD,Nat.zero_add];exact Y
    obtain ⟨f',q1,q2,q3,q4⟩:=EB j (.pair a b) h3 h
    refine ⟨fs,f',hu,?_,by omega,q3,q4⟩
    rw[<-va] at q1
    simpa using q1
   ·cases Y
  ·cases Y
 | _=>cases j <;> cases h
theorem mL {t:Ty} {i:TypeId} (h:aD P t (.inl i)=true) {cs:Array Value} {off:Nat} (hl:((cs.toList.drop off).take t.sz).length=t.sz):(part i cs off).run P w=.ok (bf t ((cs.toList.drop off).take t.sz)) w:=by
 unfold part
 simp only[Sem.run_bind,u9 h,Result.andThen_ok]
 cases ht:isAgg t with
 | true=>
  simp only[if_true,Sem.run_bind,run_sizeOf h,Result.andThen_ok,Sem.run_pure,bf,ht]
  congr 2
  apply Array.ext'
  simp[Array.toList_extract,List.extract_eq_take_drop]
 | false=>
  have hs:=wS ht
  rw[hs] at hl ⊢
  have ho:off < cs.size:=by simp at hl;omega
  have e:(cs.toList.drop off).take 1=[cs[off]]:=by
   rw[List.take_one];simp[ho]
  simp only[Bool.false_eq_true,if_false,bf,ht,e,List.headD_cons]
  simp[ho]
end
section
variable {P:Program} {C:Ctx} {A:Cells} {X:FP} {σ:St} {a:Act} {w:World} {F:Nat->FP} {R:Type} {x:R} {Q:Exit->Act->World->Prop} {o:Oper} {E:Env}
theorem zR (h:Rel P C A X σ a w F) {r:Nat} {p:Path} {pl:Pl} (hp:place σ a w r p=some pl):∃ (m':Md) (v':pl.t.den) (F':FP),ai P w A pl.t m' pl.H v' pl.cs F':=by
 have aj:=mH hp
 unfold place at hp
 cases hR:bi w (tmp a r) (σ.get r) with
 | none=>rw[hR] at hp;cases hp
 | some R0=>
  rw[hR] at hp
  obtain ⟨m0,v0,F1,q1,q2,q3,_⟩:=qf (h.dj r aj) hR
  exact LL p R0.t q1 hp
theorem lB (r:Nat) (p q:Path):place σ a w r (p++q)=(place σ a w r p).bind fun pl=>aG w q pl.t pl.H pl.cs pl.ad:=by
 unfold place
 cases bi w (tmp a r) (σ.get r) with
 | none=>rfl
 | some R0=>exact FF p q R0.t
theorem xN {r:Nat} {p:Path} {pl:Pl} (hp:place σ a w r p=some pl):wL σ r p=some pl.t:=by
 unfold place at hp
 unfold wL Bc
 cases hg:σ.get r with
 | own t m H v=>rw[hg] at hp;simp only[bi,Option.bind_some] at hp;exact wT p t hp
 | box t m H v=>
  rw[hg] at hp
  simp only[bi] at hp
  split at hp
  ·exact wT p t hp
  ·cases hp
 | _=>rw[hg] at hp;simp[bi] at hp
theorem Jt (p:Path) (j:Nat):bk (p++gX j)=bk p:=by
 induction p with
 | nil=>induction j with
  | zero=>rfl
  | succ j ih=>simpa [gX,bk] using ih
 | cons s p ih=>cases s <;> simp only[List.cons_append,bk,ih]
theorem zS {A':Cells}:∀ (j:Nat) (S:Ty) {v:S.den} {K:(t':Ty)->t'.den->Option R} {cs:List Value},Fe j S v K=some x->Ro P w A' S v cs ->
  ∃ t' v',mq j S=some t'/\K t' v'=some x/\Ro P w A' t' v' ((cs.drop (dm j S)).take t'.sz):=by
 intro j
 induction j with
 | zero=>
  intro S v K cs h hr
  cases S with
  | pair a b=>exact ⟨a,v.1,rfl,h,by simp only[dm,List.drop_zero];exact hr.1⟩
  | _=>cases h
 | succ j ih=>
  intro S v K cs h hr
  cases S with
  | pair a b=>
   obtain ⟨t',v',h1,Y,h3⟩:=ih b (v:=v.2) h hr.2
   exact ⟨t',v',h1,Y,by rw[dm,<- List.drop_drop];exact h3⟩
  | _=>cases h
theorem AB (h:bu P C A σ a w F) {y:Operand} (ho:o.op=.nilCheck y) (aA:bn P y=true) {K:St->Option R}
  (hk:(match bs σ y with
  | .ptr r p snap=>if σ.ok r snap then K (σ.aQ o.dst (.ptr r p snap)) else none
  | .cp t v=>K (σ.aQ o.dst (.cp t v))
  | .val .fn f=>K (σ.aQ o.dst (.val .fn f))
  | _=>none)=some x):Tk P o a w (Nx P C K x):=by
 rcases b9 h aA with hs | ⟨xs,e⟩
 rotate_left
 ·rw[e] at hk;cases hk
 split at hk
 ·rename_i r p snap hv
  rw[hv] at hs
  split at hk
  ·rename_i h_
   obtain ⟨pl,b,off,g1,g2,g3,g4⟩:=hs.2 h_
   exact cn (v:=a.eval y) (by simp[execOp,ho,g3]) (aW h hk hs (fun _ _ _ _ e=>by cases e))
  ·cases hk
 ·rename_i t v hv
  rw[hv] at hs
  obtain ⟨ad,h1,_⟩:=id hs
  simp only[List.cons.injEq,and_true] at h1
  exact cn (v:=a.eval y) (by simp[execOp,ho,h1]) (aW h hk hs (fun _ _ _ _ e=>by cases e))
 ·rename_i f hv
  rw[hv] at hs
  obtain ⟨cs,h1,pN,Y,_⟩:=id hs
  subst Y
  exact cn (v:=a.eval y) (by simp[execOp,ho,h1,bf,isAgg]) (aW h hk hs (fun _ _ _ _ e=>by cases e))
 ·cases hk
theorem zl (h:bu P C A σ a w F) (eo:∀ i T,E.TI i=some T->aD P T (.inl i)=true) {S:Nat} {y:Operand} {j:Nat} (ho:o.op=.fieldAddr S y j) (aA:bn P y=true) {K:St->Option R}
  (hk:sT E σ S (bs σ y) j o.dst K=some x):Tk P o a w (Nx P C K x):=by
 unfold sT at hk
 obtain ⟨T,hT,hk⟩:=cm hk
 have cy:=eo _ _ hT
 have run:∀ t' b off,mq j T=some t'->a.eval y=.pointer (some ⟨b,off,none⟩)->∀ w',lO o w w'->(execOp a.eval o).run P w'=.ok (.value (.pointer (some ⟨b,off+dm j T,none⟩))) w':=fun t' b off ht hy w' _=>by
  obtain ⟨fs,f,h1,Y,h3,h4,h5⟩:=xM cy ht
  have ez:=run_sizeOf (P:=P) (w:=w') h4
  have ey:¬ t'.sz=0:=by omega
  simp[execOp,ho,hy,Instr.fieldAt,Instr.sureAddr,run_underlying h1,Y,fieldPlace,ez,ey,jH,h3]
 rcases b9 h aA with hs | ⟨xs,e⟩
 rotate_left
 ·rw[e] at hk;cases hk
 split at hk
 ·rename_i t' v hv
  rw[hv] at hs
  split at hk
  ·rename_i e;subst e
   obtain ⟨⟨b,off,sp⟩,h1,Y,L,h3,h4,h5⟩:=hs
   simp only[List.cons.injEq,and_true] at h1
   simp only at Y;subst Y
   obtain ⟨t2,v2,q1,q2,q3⟩:=zS j t' hk h5
   refine cn (run t2 b off q1 h1) (aW h q2 ⟨_,rfl,rfl,_,Ro.length _ q3,fun k u hu=>?_,q3⟩ (fun _ _ _ _ e=>by cases e))
   rw[List.getElem?_take] at hu
   split at hu
   ·rw[List.getElem?_drop] at hu
    have:=h4 _ u hu
    simpa [Nat.add_assoc] using this
   ·cases hu
  ·cases hk
 ·rename_i r p snap hv
  rw[hv] at hs
  split at hk
  ·rename_i h_
   split at hk
   ·rename_i qV
    split at hk
    ·rename_i hf
     obtain ⟨pl,b,off,g1,g2,g3,g4⟩:=hs.2 h_
     rw[xN g1] at qV
     injection qV with qV
     obtain ⟨t',uo⟩:=Option.isSome_iff_exists.1 hf
     refine cn (run t' b off uo g3) (aW h hk ⟨hs.1,fun _=>?_⟩ (fun _ _ _ _ e=>by cases e))
     obtain ⟨m',v',F',cx⟩:=zR h g1
     obtain ⟨tp,Hp,KL,HD⟩:=pl
     simp only at qV g2 cx
     subst qV
     obtain ⟨H',e⟩:=EA (ad:=HD) j tp cx uo
     refine ⟨⟨t',H',(KL.drop (dm j tp)).take t'.sz,cv HD (dm j tp)⟩,b,off+dm j tp,?_,?_,rfl,by rw[Jt];exact g4⟩
     ·rw[lB,g1];exact e
     ·simp[cv,g2]
    ·cases hk
   ·cases hk
  ·cases hk
 ·cases hk
theorem FH (h:bu P C A σ a w F) (eo:∀ i T,E.TI i=some T->aD P T (.inl i)=true) {S:Nat} {y:Operand} {j:Nat} (ho:o.op=.field S y j) (aA:bn P y=true) {K:St->Option R}
  (hk:y8 E σ S (bs σ y) j o.dst K=some x):Tk P o a w (Nx P C K x):=by
 unfold y8 at hk
 obtain ⟨T,hT,hk⟩:=cm hk
 have cy:=eo _ _ hT
 have run:∀ t' cs,mq j T=some t'->a.eval y=bf T cs->((cs.drop (dm j T)).take t'.sz).length=t'.sz->∀ w',lO o w w'->(execOp a.eval o).run P w'=.ok (.value (bf t' ((cs.drop (dm j T)).take t'.sz))) w':=fun t' cs ht hy hl w' _=>by
  obtain ⟨fs,f,h1,Y,h3,h4,h5⟩:=xM cy ht
  have Qf:bf T cs=.agg cs.toArray:=by cases T <;> first | rfl | (cases j <;> cases ht)
  have:=mL (P:=P) (w:=w') h4 (cs:=cs.toArray) (off:=dm j T) (by simpa using hl)
  simp only[List.toList_toArray] at this
  simp[execOp,ho,hy,Qf,Instr.field,run_underlying h1,Y,asAgg,h3,this]
 rcases b9 h aA with hs | ⟨xs,e⟩
 rotate_left
 ·rw[e] at hk;cases hk
 split at hk
 ·rename_i t' v hv
  rw[hv] at hs
  split at hk
  ·rename_i e;subst e
   obtain ⟨cs,h1,Y⟩:=hs
   obtain ⟨t2,v2,q1,q2,q3⟩:=zS j t' hk Y
   exact cn (run t2 cs q1 h1 (Ro.length _ q3)) (aW h q2 ⟨_,rfl,q3⟩ (fun _ _ _ _ e=>by cases e))
  ·cases hk
 ·rename_i r p snap hv
  rw[hv] at hs
  split at hk
  ·rename_i h_
   split at hk
   ·rename_i qV
    obtain ⟨hr,t',m',H',v',aJ,aZ,F',h1,Y,h3,h4,h5,h6⟩:=fi h hk
    obtain ⟨pl,g1,g2,g3⟩:=hs.2 h_
    rw[xN g1] at qV
    injection qV with qV
    obtain ⟨m0,v0,F0,cx⟩:=zR h g1
    obtain ⟨tp,Hp,KL,HD⟩:=pl
    simp only at qV g2 cx
    subst qV
    have hf:∃ t2,mq j tp=some t2:=by
     have h7:=h3
     rw[lB,g1] at h7
     exact Js j tp (wT _ _ h7)
    obtain ⟨t2,Pd⟩:=hf
    obtain ⟨H2,e⟩:=EA (ad:=HD) j tp cx Pd
    have dO:place σ a w r (p++gX j)=some ⟨t2,H2,(KL.drop (dm j tp)).take t2.sz,cv HD (dm j tp)⟩:=by rw[lB,g1];exact e
    rw[dO] at h3
    injection h3 with h3
    simp only[Pl.mk.injEq] at h3
    obtain ⟨rfl,rfl,rfl,rfl⟩:=h3
    refine cn (run t2 KL Pd g2 (ai.length _ h4)) ?_
    split at h1
    ·rename_i hc
     split at h1
     ·rename_i hH
      have hH:=List.isEmpty_iff.1 hH;subst hH
      refine aW h h1 ⟨_,rfl,?_⟩ (fun _ _ _ _ e=>by cases e)
      simp only[Bool.or_eq_true,decide_eq_true_eq] at hc
      rcases hc with hc | hc
      ·exact ai.flat _ hc h4
      ·subst hc;exact ai.ro _ (cM _) h4
     ·cases h1
    ·exact aW h h1 (xL h dO) (fun _ _ _ _ e=>by cases e)
   ·cases hk
  ·cases hk
 ·cases hk
end
end OT
set_option linter.unusedVariables false
set_option linter.unusedSimpArgs false
namespace OT
open Go
section
variable {P:Program} {C:Ctx} {A:Cells} {X:FP} {σ:St} {a:Act} {w:World} {F:Nat->FP} {R:Type} {x:R} {Q:Exit->Act->World->Prop} {o:Oper} {E:Env}
theorem wU {n:Int} {len:Nat} {K:Nat->Option R} (h:He n len K=some x):0<=n/\n < (len:Int)/\K n.toNat=some x:=by
 unfold He at h
 split at h
 ·rename_i hc;exact ⟨hc.1,hc.2,h⟩
 ·cases h
theorem bind_some {α:Type} {o:Option α} {K:α->Option R} (h:o.bind K=some x):∃ y,o=some y/\K y=some x:=by
 cases o with
 | none=>cases h
 | some y=>exact ⟨y,rfl,h⟩
theorem mm {e:Ty} {i:TypeId} (h:aD P (.U e) (.inl i)=true):∃ el,P.underlying i=some (.slice el)/\1<=e.sz/\aD P e (.inl el)=true:=by
 simp only[aD,Bool.and_eq_true] at h
 have Y:=h.2
 split at Y
 ·rename_i el hu;simp only[Bool.and_eq_true,Nat.ble_eq] at Y;exact ⟨el,hu,Y.1,Y.2⟩
 ·cases Y
theorem EC {n:Nat} {e:Ty} {i:TypeId} (h:aD P (.arr n e) (.inl i)=true):∃ el,P.underlying i=some (.array n el)/\1<=e.sz/\aD P e (.inl el)=true:=by
 simp only[aD,Bool.and_eq_true] at h
 have Y:=h.2
 split at Y
 ·rename_i n' el hu;simp only[Bool.and_eq_true,Nat.ble_eq,Nat.beq_eq] at Y;rw[Y.1.1];exact ⟨el,hu,Y.1.2,Y.2⟩
 ·cases Y
theorem f0 {i:TypeId} (h:aD P .str (.inl i)=true):P.underlying i=some .string:=by
 simp only[aD,Bool.and_eq_true] at h
 have Y:=h.2
 split at Y
 ·assumption
 ·cases Y
theorem jB {k:IntKind} {i:TypeId} (h:aD P (.int k) (.inl i)=true):P.underlying i=some (.int k):=by
 simp only[aD,Bool.and_eq_true] at h
 have Y:=h.2
 split at Y
 ·rename_i k' hu;simp only[decide_eq_true_eq] at Y;rw[Y];exact hu
 ·cases Y
theorem Dz (p q:Path):bk (p++q)=bk p+bk q:=by
 induction p with
 | nil=>simp[bk]
 | cons s p ih=>cases s <;> simp only[List.cons_append,bk,ih] <;> omega
theorem xO (h:Rel P C A X σ a w F) {r:Nat} {p:Path} {pl:Pl} {b off:Nat} (hp:place σ a w r p=some pl) (cO:pl.ad=some (b,off)):sy σ a w (.pointer (some ⟨b,off,none⟩)) r p (nV σ r p):=by
 have h5:=h.ft r
 refine ⟨?_,fun _=>⟨pl,b,off,hp,cO,rfl,by unfold nV;rw[List.length_take,h5];omega⟩⟩
 unfold nV
 intro j y hj;rw[List.getElem?_take] at hj;split at hj;exact ⟨y,hj,Nat.le_refl _⟩;cases hj
theorem zm (h:bu P C A σ a w F) (eo:∀ i T,E.TI i=some T->aD P T (.inl i)=true) {t:Nat} {y z:Operand} (ho:o.op=.indexAddr t y z) (aA:bn P y=true/\bn P z=true) {K:St->Option R}
  (hk:sU E σ t (bs σ y) (bs σ z) o.dst K=some x):Tk P o a w (Nx P C K x):=by
 unfold sU at hk
 obtain ⟨T,hT,hk⟩:=cm hk
 have cy:=eo _ _ hT
 rcases b9 h aA.2 with hz | ⟨xs,e⟩
 rotate_left
 ·rw[e] at hk;cases hk
 obtain ⟨kz,n,BI,hk⟩:=lF hz hk
 have vb:∀ e ad len cap,T=.U e->a.eval y=.slice (some ad) len cap->ad.spot=none->0<=n->n < (len:Int)->∀ w',lO o w w'->(execOp a.eval o).run P w'=.ok (.value (.pointer (some ⟨ad.block,ad.off+n.toNat*e.sz,none⟩))) w':=fun e ad len cap kj hy jh h0 h1 w' _=>by
  subst kj
  obtain ⟨el,hu,_,hle⟩:=mm cy
  obtain ⟨b,off,sp⟩:=ad
  simp only at jh;subst jh
  have ez:=run_sizeOf (P:=P) (w:=w') hle
  simp[execOp,ho,hy,BI,Instr.indexAt,asIntOf,run_underlying hu,h0,h1,ez,jH]
 have MR:∀ m e b off,T=.arr m e->a.eval y=.pointer (some ⟨b,off,none⟩)->0<=n->n < (m:Int)->∀ w',lO o w w'->(execOp a.eval o).run P w'=.ok (.value (.pointer (some ⟨b,off+n.toNat*e.sz,none⟩))) w':=fun m e b off kj hy h0 h1 w' _=>by
  subst kj
  obtain ⟨el,hu,_,hle⟩:=EC cy
  have ez:=run_sizeOf (P:=P) (w:=w') hle
  simp[execOp,ho,hy,BI,Instr.indexAt,asIntOf,run_underlying hu,h0,h1,ez,jH,Instr.sureAddr]
 have Pe:∀ (e:Ty) (v:List e.den) (tv:Value) (yv:e.den),T=.U e->a.eval y=tv->Ro P w A (.U e) v [tv]->0<=n->v[n.toNat]?=some yv->K (σ.aQ o.dst (.cp e yv))=some x->Tk P o a w (Nx P C K x):=fun e v tv yv kj hy ls h0 uq hk=>by
  obtain ⟨xa,cap,h1,Y,h3,h4⟩:=ls
  simp only[List.cons.injEq,and_true] at h1
  subst h1
  have aj:=(List.getElem?_eq_some_iff.1 uq).1
  cases xa with
  | none=>have:=h3 rfl;omega
  | some ad=>
   obtain ⟨g1,g2⟩:=h4 ad rfl
   obtain ⟨L,l1,l2,l3⟩:=g2 _ _ uq
   exact cn (vb e ad _ cap kj hy (g1 (by omega)) h0 (by omega)) (aW h hk ⟨_,rfl,rfl,L,l1,l2,l3⟩ (fun _ _ _ _ e=>by cases e))
 rcases b9 h aA.1 with hs | ⟨xs,e⟩
 rotate_left
 ·rw[e] at hk;cases hk
 split at hk
 ·rename_i e v hv
  rw[hv] at hs
  split at hk
  ·rename_i kj
   split at hk
   ·rename_i h0
    obtain ⟨yv,uq,hk⟩:=bind_some hk
    obtain ⟨cs,h1,Y⟩:=hs
    have hl:=Ro.length _ Y
    match cs,hl with
    | [tv],_=>exact Pe e v tv yv kj (by rw[h1,bq _ _ rfl]) Y h0 uq hk
   ·cases hk
  ·cases hk
 ·rename_i m e v hv
  rw[hv] at hs
  split at hk
  ·rename_i kj
   split at hk
   ·rename_i h0
    obtain ⟨yv,uq,hk⟩:=bind_some hk
    obtain ⟨⟨b,off,sp⟩,h1,Y,L,h3,h4,h5⟩:=hs
    simp only[List.cons.injEq,and_true] at h1
    simp only at Y;subst Y
    obtain ⟨q1,q2,q3,q4⟩:=h5
    have aj:n.toNat < m:=q2 ▸ (List.getElem?_eq_some_iff.1 uq).1
    have ls:=q4 _ _ uq
    refine cn (MR m e b off kj h1 h0 (by omega)) (aW h hk ⟨_,rfl,rfl,_,Ro.length _ ls,fun k u hu=>?_,ls⟩ (fun _ _ _ _ e=>by cases e))
    rw[List.getElem?_take] at hu
    split at hu
    ·rw[List.getElem?_drop] at hu
     have:=h4 _ u hu
     simp only[<-Nat.add_assoc] at this
     exact this
    ·cases hu
   ·cases hk
  ·cases hk
 ·rename_i r p snap hv
  rw[hv] at hs
  split at hk
  ·rename_i h_
   obtain ⟨hr,t',m',H',v',aJ,aZ,F',h1,Y,h3,h4,h5,h6⟩:=fi h hk
   obtain ⟨pl,g1,g2,g3⟩:=hs.2 h_
   rw[h3] at g1
   injection g1 with g1
   subst g1
   simp only at g2
   split at h1
   ·cases h1
   ·rename_i hH
    have hH:hole H'=false:=Bool.eq_false_iff.2 hH
    split at h1
    ·rename_i kj
     split at h1
     ·rename_i e BJ
      have hl:=ai.length _ h4
      split at h1
      ·rename_i c_
       obtain ⟨i0,i1,h1⟩:=wU h1
       have cx:=h4
       simp only[ai,hH,Bool.false_eq_true,if_false,c_,if_true] at cx
       obtain ⟨xa,cap,rfl,q2,q3,q4,q5⟩:=cx
       cases xa with
       | none=>have:=q4 rfl;omega
       | some bZ=>
        obtain ⟨r1,r2,r3,Fi,r4,r5⟩:=q5 bZ rfl
        rw[bq _ _ rfl] at g2
        have aj:n.toNat < List.length BJ:=by omega
        refine cn (vb e bZ _ cap kj.symm g2 r2 i0 i1) (aW h h1 (xO (pl:=⟨e,H'.filterMap (gb n.toNat),rd w bZ.block (bZ.off+n.toNat*e.sz) e.sz,some (bZ.block,bZ.off+n.toNat*e.sz)⟩) h ?_ rfl) (fun _ _ _ _ e=>by cases e))
        rw[lB,h3]
        simp only[Option.bind_some,aG,hH,Bool.false_eq_true,if_false,aj,if_true]
      ·rename_i c_
       split at h1
       ·rename_i h0
        obtain ⟨yv,uq,h1⟩:=bind_some h1
        have cx:=h4
        simp only[ai,hH,Bool.false_eq_true,if_false,c_] at cx
        match aJ,hl with
        | [tv],_=>
         rw[bq _ _ rfl] at g2
         exact Pe e BJ tv yv kj.symm g2 cx.2.2 h0 uq h1
       ·cases h1
     ·cases h1
    ·cases h1
  ·cases hk
 ·rename_i r p snap lo hi hv
  rw[hv] at hs
  split at hk
  ·rename_i h_
   obtain ⟨hr,t',m',H',v',aJ,aZ,F',h1,Y,h3,h4,h5,h6⟩:=fi h hk
   obtain ⟨pl,e,xa,len,cap,nm,cap',g1,g2,g3,g4,g5,g6,g7,BG,g8,g9,g10⟩:=hs.2 h_
   rw[h3] at g1
   injection g1 with g1
   subst g1
   simp only at g2 g3
   subst g2;subst g3
   split at h1
   ·cases h1
   ·rename_i hH
    have hH:hole H'=false:=Bool.eq_false_iff.2 hH
    split at h1
    ·rename_i kj
     obtain ⟨i0,i1,h1⟩:=wU h1
     have nq:∃ bZ,xa=some bZ/\bZ.spot=none:=by
      simp only[ai,hH,Bool.false_eq_true,if_false] at h4
      cases xa with
      | none=>
       split at h4
       ·obtain ⟨ED,tf,q1,q2,q3,q4,_⟩:=h4
        simp only[List.cons.injEq,Value.slice.injEq,and_true] at q1
        have:=q4 q1.1.symm;omega
       ·obtain ⟨_,_,ED,tf,q1,q2,q3,_⟩:=h4
        simp only[List.cons.injEq,Value.slice.injEq,and_true] at q1
        have:=q3 q1.1.symm;omega
      | some bZ=>
       refine ⟨bZ,rfl,?_⟩
       split at h4
       ·obtain ⟨ED,tf,q1,q2,q3,q4,q5⟩:=h4
        simp only[List.cons.injEq,Value.slice.injEq,and_true] at q1
        exact (q5 bZ q1.1.symm).2.1
       ·obtain ⟨_,_,ED,tf,q1,q2,q3,q4⟩:=h4
        simp only[List.cons.injEq,Value.slice.injEq,and_true] at q1
        exact (q4 bZ q1.1.symm).1 (by have:=q1.2.1;have:=q1.2.2;omega)
     obtain ⟨bZ,rfl,jh⟩:=nq
     obtain ⟨rF,e1,e2,e3,e4⟩:=g9 bZ rfl
     subst e1
     have e4:=e4 (by omega)
     refine cn (vb e rF _ cap' kj.symm g6 (e2.trans jh) i0 i1) ?_
     have BK:(⟨rF.block,rF.off+n.toNat*e.sz,none⟩:Addr)=⟨bZ.block,bZ.off+(lo+n.toNat)*e.sz,none⟩:=by
      rw[e3,e4,Nat.add_mul,Nat.add_assoc]
     rw[BK]
     have aj:lo+n.toNat < len:=by omega
     refine aW h h1 (xO (pl:=⟨e,H'.filterMap (gb (lo+n.toNat)),rd w bZ.block (bZ.off+(lo+n.toNat)*e.sz) e.sz,some (bZ.block,bZ.off+(lo+n.toNat)*e.sz)⟩) h ?_ rfl) (fun _ _ _ _ e=>by cases e)
     rw[lB,h3]
     simp only[Option.bind_some,aG,hH,Bool.false_eq_true,if_false,aj,if_true]
    ·cases h1
  ·cases hk
 ·rename_i r p snap hv
  rw[hv] at hs
  split at hk
  ·rename_i h_
   obtain ⟨hr,t',m',H',v',aJ,aZ,F',h1,Y,h3,h4,h5,h6⟩:=fi h hk
   obtain ⟨pl,b,off,g1,g2,g3,g4⟩:=hs.2 h_
   rw[h3] at g1
   injection g1 with g1
   subst g1
   simp only at g2
   subst g2
   split at h1
   ·rename_i kj
    split at h1
    ·rename_i m e BJ
     obtain ⟨i0,i1,h1⟩:=wU h1
     obtain ⟨hH,hf,hl,hlen,ls⟩:=h4
     subst hH
     have aj:n.toNat < m:=by omega
     refine cn (MR m e b off kj.symm g3 i0 (by omega)) (aW h h1 ⟨hs.1,fun _=>⟨⟨e,[],(aJ.drop (n.toNat*e.sz)).take e.sz,some (b,off+n.toNat*e.sz)⟩,b,off+n.toNat*e.sz,?_,rfl,rfl,?_⟩⟩ (fun _ _ _ _ e=>by cases e))
     ·rw[lB,h3]
      simp only[Option.bind_some,aG,List.isEmpty_nil,if_true,aj,cv,Option.map_some]
     ·rw[Dz];exact g4
    ·cases h1
   ·cases h1
  ·cases hk
 ·cases hk
end
end OT
set_option linter.unusedVariables false
set_option linter.unusedSimpArgs false
namespace OT
open Go
section
variable {P:Program} {C:Ctx} {A:Cells} {X:FP} {σ:St} {a:Act} {w:World} {F:Nat->FP} {R:Type} {x:R} {Q:Exit->Act->World->Prop} {o:Oper} {E:Env}
theorem HE (s:List UInt8) (n:Nat):(⟨s.toArray⟩:ByteArray)[n]?=s[n]?:=by
 by_cases h:n < s.length
 ·have h1:n < (⟨s.toArray⟩:ByteArray).size:=by simpa [ByteArray.size] using h
  rw[getElem?_pos _ n h1,List.getElem?_eq_getElem h]
  rfl
 ·have h1:¬ n < (⟨s.toArray⟩:ByteArray).size:=by simpa [ByteArray.size] using h
  rw[getElem?_neg _ n h1,List.getElem?_eq_none (Nat.le_of_not_lt h)]
theorem FI (h:bu P C A σ a w F) (eo:∀ i T,E.TI i=some T->aD P T (.inl i)=true) {t:Nat} {y z:Operand} (ho:o.op=.index t y z) (aA:bn P y=true/\bn P z=true) {K:St->Option R}
  (hk:Be E σ t (bs σ y) (bs σ z) o.dst K=some x):Tk P o a w (Nx P C K x):=by
 unfold Be at hk
 have BL:=cm hk
 clear hk
 obtain ⟨T,hT,gr⟩:=BL
 have cy:=eo _ _ hT
 rcases b9 h aA.2 with hz | ⟨xs,e⟩
 rotate_left
 ·rw[e] at gr;cases gr
 have Rq:=lF hz gr
 clear gr
 obtain ⟨kz,n,BI,hk⟩:=Rq
 rcases b9 h aA.1 with hs | ⟨xs,e⟩
 rotate_left
 ·rw[e] at hk;cases hk
 split at hk
 ·rename_i s hv
  rw[hv] at hs
  split at hk
  ·rename_i kj;subst kj
   split at hk
   ·rename_i h0
    obtain ⟨c,hc,hk⟩:=bind_some hk
    obtain ⟨cs,h1,Y⟩:=hs
    simp only[Ro] at Y;subst Y
    have hb:=HE s n.toNat
    rw[hc] at hb
    refine cn (v:=.int .u8 c.toNat) ?_ (aW h hk ⟨[_],rfl,rfl⟩ (fun _ _ _ _ e=>by cases e))
    simp[execOp,ho,h1,bf,isAgg,BI,Instr.index,asIntOf,run_underlying (f0 cy),h0,hb]
   ·cases hk
  ·cases hk
 ·rename_i m e v hv
  rw[hv] at hs
  split at hk
  ·rename_i kj;subst kj
   split at hk
   ·rename_i h0
    obtain ⟨yv,uq,hk⟩:=bind_some hk
    obtain ⟨cs,h1,Y⟩:=hs
    obtain ⟨q1,q2,q3,q4⟩:=id Y
    obtain ⟨el,hu,_,hle⟩:=EC cy
    have aj:n.toNat < m:=q2 ▸ (List.getElem?_eq_some_iff.1 uq).1
    have nL:n < (m:Int):=by omega
    have ls:=q4 _ _ uq
    refine cn (v:=bf e ((cs.drop (n.toNat*e.sz)).take e.sz)) (fun w' _=>?_) (aW h hk ⟨_,rfl,ls⟩ (fun _ _ _ _ e=>by cases e))
    have hp:=mL (P:=P) (w:=w') hle (cs:=cs.toArray) (off:=n.toNat*e.sz) (by simpa using Ro.length _ ls)
    simp only[List.toList_toArray] at hp
    have ez:=run_sizeOf (P:=P) (w:=w') hle
    simp[execOp,ho,h1,bf,isAgg,BI,Instr.index,asIntOf,run_underlying hu,h0,nL,ez,hp]
   ·cases hk
  ·cases hk
 ·cases hk
theorem qW {t:Ty} {m:Md} {H:List Path} {e:Ty} {v:List e.den} {cs:List Value} {G:FP} (h:ai P w A (.U e) m H v cs G) (hH:hole H=false) :
  ∃ xa cap,cs=[.slice xa (List.length v) cap]/\List.length v<=cap/\(xa=none->List.length v=0):=by
 simp only[ai,hH,Bool.false_eq_true,if_false] at h
 split at h
 ·obtain ⟨xa,cap,q1,q2,q3,q4,q5⟩:=h
  exact ⟨xa,cap,q1,q2,fun e=>by have:=q4 e;omega⟩
 ·obtain ⟨_,_,xa,cap,q1,q2,q3,q4⟩:=h
  exact ⟨xa,cap,q1,q2,q3⟩
theorem qX {t:Nat} {y:Operand} (ho:o.op=.call { callee:=.builtin .len,args:=#[y],argTypes:=#[t] }) :
  (execOp a.eval o).run P w=((Builtin.len_ #[t] o.type #[a.eval y]).run P w).andThen fun v w'=>.ok (.value v) w':=by
 unfold execOp
 simp only[ho,resolve,invoke,builtin,Sem.run_bind,Sem.run_pure,Result.andThen_ok,List.map_toArray,List.map_cons,List.map_nil]
theorem Ju (h:bu P C A σ a w F) (eo:∀ i T,E.TI i=some T->aD P T (.inl i)=true) {t:Nat} {y:Operand} (ho:o.op=.call { callee:=.builtin .len,args:=#[y],argTypes:=#[t] }) (aA:bn P y=true) {K:St->Option R}
  (hk:Jl E σ t (bs σ y) (fun n=>K (σ.aQ o.dst (.val (.int .i64) (n:Int))))=some x):Tk P o a w (Nx P C K x):=by
 unfold Jl at hk
 obtain ⟨T,hT,hk⟩:=cm hk
 have cy:=eo _ _ hT
 rcases b9 h aA with hs | ⟨xs,e⟩
 rotate_left
 ·rw[e] at hk;split at hk <;> cases hk
 have fin:∀ n:Nat,K (σ.aQ o.dst (.val (.int .i64) (n:Int)))=some x->Nx P C K x (a.put o.dst (.int .i64 (n:Int))) w:=fun n hk=>aW h hk ⟨[_],rfl,rfl⟩ (fun _ _ _ _ e=>by cases e)
 split at hk
 ·split at hk
  ·rename_i s hv
   rw[hv] at hs
   obtain ⟨cs,h1,Y⟩:=hs
   simp only[Ro] at Y;subst Y
   refine cn (v:=.int .i64 (s.length:Int)) (fun w' _=>?_) (fin _ hk)
   have e:a.eval y=.string ⟨List.toArray s⟩:=h1
   have e2:(⟨List.toArray s⟩:ByteArray).size=s.length:=rfl
   rw[qX ho,e]
   unfold Builtin.len_
   simp only[List.getElem?_toArray,List.getElem?_cons_zero,Sem.run_bind,run_underlying (f0 cy),Result.andThen_ok,Sem.run_pure,goInt,e2]
  ·cases hk
 ·rename_i e
  obtain ⟨el,hu,_,hle⟩:=mm cy
  have run:∀ xa n cap,a.eval y=.slice xa n cap->∀ w',lO o w w'->(execOp a.eval o).run P w'=.ok (.value (.int .i64 (n:Int))) w':=fun xa n cap hy w' _=>by
   rw[qX ho]
   simp[Builtin.len_,hy,run_underlying hu,goInt]
  split at hk
  ·rename_i e' v hv
   rw[hv] at hs
   obtain ⟨cs,h1,xa,cap,Y,_⟩:=hs
   subst Y
   exact cn (run xa _ cap h1) (fin _ hk)
  ·rename_i hv
   rw[hv] at hs
   exact cn (run none 0 0 hs) (fin _ hk)
  ·rename_i r p snap hv
   rw[hv] at hs
   split at hk
   ·rename_i h_
    obtain ⟨hr,t',m',H',v',aJ,aZ,F',h1,Y,h3,h4,h5,h6⟩:=fi h hk
    obtain ⟨pl,g1,g2,g3⟩:=hs.2 h_
    rw[h3] at g1
    injection g1 with g1
    subst g1
    simp only at g2
    split at h1
    ·cases h1
    ·rename_i hH
     have hH:hole H'=false:=Bool.eq_false_iff.2 hH
     split at h1
     ·rename_i e' BJ
      obtain ⟨xa,cap,q1,q2,q3⟩:=qW (t:=.unit) h4 hH
      subst q1
      exact cn (run xa _ cap g2) (fin _ h1)
     ·cases h1
   ·cases hk
  ·rename_i r p snap lo hi hv
   rw[hv] at hs
   split at hk
   ·rename_i h_
    obtain ⟨pl,e',xa,len,cap,nm,cap',g1,g2,g3,g4,g5,g6,g7,BG,g8,g9,g10⟩:=hs.2 h_
    exact cn (run nm _ cap' g6) (fin _ hk)
   ·cases hk
  ·cases hk
 ·cases hk
theorem HF {len cap:Nat} {lo hi:Option Operand} {K:Nat->Nat->Option R} (km:len<=cap) (sB:∀ y,lo=some y->a7 P A σ a w (a.eval y) (bs σ y) (fun _ _=>0)) (MS:∀ y,hi=some y->a7 P A σ a w (a.eval y) (bs σ y) (fun _ _=>0))
  (hk:ml len (lo.map (bs σ)) (hi.map (bs σ)) K=some x):∃ l h,l<=h/\h<=len/\K l h=some x/\(∀ w',(Instr.sliceBounds true len cap (lo.map a.eval) (hi.map a.eval) none).run P w'=.ok (l,h,cap) w') /\
   (len=cap->∀ w',(Instr.sliceBounds false len cap (lo.map a.eval) (hi.map a.eval) none).run P w'=.ok (l,h,cap) w'):=by
 have eh:∀ (k:IntKind) (i:Int) (y:Nat) code,0<=i->i<=(y:Int)->∀ w',(Instr.sliceBound (.int k i) y code).run P w'=.ok i.toNat w':=fun k i y code h0 h1 w'=>run_sliceBound w' k i y code h0 h1
 have two:∀ (HG eZ:Option Value) (l h:Nat),(HG=none/\l=0\/∃ k n,HG=some (.int k n)/\0<=n/\n<=(h:Int)/\l=n.toNat)->(eZ=none/\h=len\/∃ k n,eZ=some (.int k n)/\0<=n/\n<=(len:Int)/\h=n.toNat) ->
   (∀ w',(Instr.sliceBounds true len cap HG eZ none).run P w'=.ok (l,h,cap) w')/\(len=cap->∀ w',(Instr.sliceBounds false len cap HG eZ none).run P w'=.ok (l,h,cap) w'):=fun HG eZ l h h1 Y=>by
  rcases Y with ⟨rfl,rfl⟩ | ⟨k2,n2,rfl,b1,b2,rfl⟩
  ·rcases h1 with ⟨rfl,rfl⟩ | ⟨k1,n1,rfl,a1,a2,rfl⟩
   ·exact ⟨by simp[Instr.sliceBounds],fun _=>by simp[Instr.sliceBounds]⟩
   ·exact ⟨by simp[Instr.sliceBounds,eh k1 n1 _ .sliceB a1 a2],fun _=>by simp[Instr.sliceBounds,eh k1 n1 _ .sliceB a1 a2]⟩
  ·have c1:=eh k2 n2 cap .sliceAcap b1 (by omega)
   have c2:=eh k2 n2 cap .sliceAlen b1 (by omega)
   rcases h1 with ⟨rfl,rfl⟩ | ⟨k1,n1,rfl,a1,a2,rfl⟩
   ·exact ⟨by simp[Instr.sliceBounds,c1],fun e=>by subst e;simp[Instr.sliceBounds,c2]⟩
   ·have c3:=eh k1 n1 _ .sliceB a1 a2
    exact ⟨by simp[Instr.sliceBounds,c1,c3],fun e=>by subst e;simp[Instr.sliceBounds,c2,c3]⟩
 unfold ml at hk
 cases lo with
 | none=>
  cases hi with
  | none=>
   have:=two none none 0 len (.inl ⟨rfl,rfl⟩) (.inl ⟨rfl,rfl⟩)
   exact ⟨0,len,Nat.zero_le _,Nat.le_refl _,hk,this.1,this.2⟩
  | some yh=>
   obtain ⟨kh,nh,hv,hk⟩:=lF (MS yh rfl) hk
   split at hk
   ·rename_i hc
    have:=two none (some (a.eval yh)) 0 nh.toNat (.inl ⟨rfl,rfl⟩) (.inr ⟨kh,nh,by rw[hv],hc.1,hc.2,rfl⟩)
    exact ⟨0,nh.toNat,Nat.zero_le _,by omega,hk,this.1,this.2⟩
   ·cases hk
 | some yl=>
  cases hi with
  | none=>
   obtain ⟨kl,nl,hv,hk⟩:=lF (sB yl rfl) hk
   split at hk
   ·rename_i hc
    have:=two (some (a.eval yl)) none nl.toNat len (.inr ⟨kl,nl,by rw[hv],hc.1,hc.2,rfl⟩) (.inl ⟨rfl,rfl⟩)
    exact ⟨nl.toNat,len,by omega,Nat.le_refl _,hk,this.1,this.2⟩
   ·cases hk
  | some yh=>
   obtain ⟨kl,nl,hv,hk⟩:=lF (sB yl rfl) hk
   obtain ⟨kh,nh,xP,hk⟩:=lF (MS yh rfl) hk
   split at hk
   ·rename_i hc
    have:=two (some (a.eval yl)) (some (a.eval yh)) nl.toNat nh.toNat (.inr ⟨kl,nl,by rw[hv],hc.1,by omega,rfl⟩) (.inr ⟨kh,nh,by rw[xP],by omega,hc.2.2,rfl⟩)
    exact ⟨nl.toNat,nh.toNat,by omega,by omega,hk,this.1,this.2⟩
   ·cases hk
theorem AC (s:List UInt8) (l h:Nat) (hl:l<=h) (hh:h<=s.length):(⟨s.toArray⟩:ByteArray).extract l h=⟨((s.take h).drop l).toArray⟩:=by
 apply ByteArray.ext
 rw[ByteArray.data_extract]
 apply Array.ext'
 simp[List.extract_eq_take_drop]
 rw[List.drop_take]
theorem FJ (h:bu P C A σ a w F) (eo:∀ i T,E.TI i=some T->aD P T (.inl i)=true) {t:Nat} {y:Operand} {lo hi:Option Operand} (ho:o.op=.slice t y lo hi none)
  (aA:bn P y=true/\(∀ z,lo=some z->bn P z=true)/\(∀ z,hi=some z->bn P z=true)) {K:St->Option R}
  (hk:Bf E σ t (bs σ y) (lo.map (bs σ)) (hi.map (bs σ)) o.dst K=some x):Tk P o a w (Nx P C K x):=by
 unfold Bf at hk
 have BL:=cm hk
 clear hk
 obtain ⟨T,hT,hk⟩:=BL
 have cy:=eo _ _ hT
 have KM:∀ z,bn P z=true->(∀ xs,bs σ z≠.kC xs)->a7 P A σ a w (a.eval z) (bs σ z) (fun _ _=>0):=fun z hz hn=>by
  rcases b9 h hz with hs | ⟨xs,e⟩
  ·exact hs
  ·exact absurd e (hn xs)
 have bound:∀ (len cap:Nat) (K':Nat->Nat->Option R),len<=cap->ml len (lo.map (bs σ)) (hi.map (bs σ)) K'=some x->∃ l h,l<=h/\h<=len/\K' l h=some x/\(∀ w',(Instr.sliceBounds true len cap (lo.map a.eval) (hi.map a.eval) none).run P w'=.ok (l,h,cap) w') /\
   (len=cap->∀ w',(Instr.sliceBounds false len cap (lo.map a.eval) (hi.map a.eval) none).run P w'=.ok (l,h,cap) w'):=fun len cap K' hc hb=>by
  refine HF hc (fun z hz=>KM z (aA.2.1 z hz) fun xs e=>?_) (fun z hz=>KM z (aA.2.2 z hz) fun xs e=>?_) hb
  ·subst hz
   unfold ml at hb
   cases hi <;> simp only[Option.map_some,Option.map_none,e,nJ] at hb <;> cases hb
  ·subst hz
   unfold ml at hb
   cases lo with
   | none=>simp only[Option.map_some,Option.map_none,e,nJ] at hb;cases hb
   | some yl=>
    simp only[Option.map_some,e] at hb
    unfold nJ at hb
    split at hb <;> cases hb
 have vb:∀ e xa len cap l h,T=.U e->a.eval y=.slice xa len cap->l<=cap->(∀ ad,xa=some ad->0 < cap->ad.spot=none)->(∀ w',(Instr.sliceBounds true len cap (lo.map a.eval) (hi.map a.eval) none).run P w'=.ok (l,h,cap) w') ->
   ∀ w',lO o w w'->(execOp a.eval o).run P w'=.ok (.value (.slice (if cap=l then xa else xa.map fun ad=>⟨ad.block,ad.off+l*e.sz,none⟩) (h - l) (cap - l))) w':=fun e xa len cap l h kj hy Pf jh hb w' _=>by
  have hb:=hb w'
  subst kj
  obtain ⟨el,hu,_,hle⟩:=mm cy
  have ez:=run_sizeOf (P:=P) (w:=w') hle
  unfold execOp
  simp only[ho,Option.map_none,Instr.sliceAt,Instr.slice,Sem.run_bind,run_underlying hu,Result.andThen_ok,hy,hb,ez,Sem.run_pure]
  by_cases KN:cap=l
  ·simp[KN]
  ·congr 4
   cases xa with
   | none=>rfl
   | some ad=>
    obtain ⟨b,off,sp⟩:=ad
    have:=jh _ rfl (by omega)
    simp only at this
    subst this
    simp[jH]
 have addr:∀ (xa:Option Addr) (cap l h n:Nat) (e:Ty),l<=h->h<=n->n<=cap->(∀ ad,xa=some ad->0 < cap->ad.spot=none) ->
   (xa=none->(if cap=l then xa else xa.map fun ad=>⟨ad.block,ad.off+l*e.sz,none⟩)=none) /\
   (∀ ad,xa=some ad->∃ aZ,(if cap=l then xa else xa.map fun ad=>⟨ad.block,ad.off+l*e.sz,none⟩)=some aZ/\aZ.spot=ad.spot/\aZ.block=ad.block/\(l < h->aZ.off=ad.off+l*e.sz)) /\
   (l=0->(if cap=l then xa else xa.map fun ad=>(⟨ad.block,ad.off+l*e.sz,none⟩:Addr))=xa):=fun xa cap l h n e h1 Y h3 jh=>by
  refine ⟨fun e=>by subst e;split <;> rfl,fun ad e=>?_,fun e0=>?_⟩
  ·subst e
   split
   ·exact ⟨ad,rfl,rfl,rfl,fun _=>by omega⟩
   ·exact ⟨_,rfl,(jh ad rfl (by omega)).symm,rfl,fun _=>rfl⟩
  ·subst e0
   split
   ·rfl
   ·cases xa with
    | none=>rfl
    | some ad=>
     obtain ⟨b,off,sp⟩:=ad
     have:=jh _ rfl (by omega)
     simp only at this
     subst this
     simp
 have KO:∀ {e:Ty} {v:List e.den} {m:Md} {H:List Path} {xa n cap} {G:FP},ai P w A (.U e) m H v [.slice xa n cap] G->hole H=false->∀ ad,xa=some ad->0 < cap->ad.spot=none:=fun {e v m H xa n cap G} cx hH ad qR zn=>by
  simp only[ai,hH,Bool.false_eq_true,if_false] at cx
  split at cx
  ·obtain ⟨ED,tf,q1,q2,q3,q4,q5⟩:=cx
   simp only[List.cons.injEq,Value.slice.injEq,and_true] at q1
   exact (q5 ad (q1.1.symm.trans qR)).2.1
  ·obtain ⟨_,_,ED,tf,q1,q2,q3,q4⟩:=cx
   simp only[List.cons.injEq,Value.slice.injEq,and_true] at q1
   exact (q4 ad (q1.1.symm.trans qR)).1 (by omega)
 rcases b9 h aA.1 with hs | ⟨xs,e⟩
 rotate_left
 ·rw[e] at hk;cases hk
 split at hk
 ·rename_i s hv
  rw[hv] at hs
  split at hk
  ·rename_i kj
   have KP:=cy
   rw[kj] at KP
   obtain ⟨l,h',b1,b2,hk,b3,b4⟩:=bound s.length s.length _ (Nat.le_refl _) hk
   obtain ⟨cs,h1,Y⟩:=hs
   simp only[Ro] at Y;subst Y
   have e1:a.eval y=.string ⟨List.toArray s⟩:=h1
   have e2:(⟨List.toArray s⟩:ByteArray).size=s.length:=rfl
   refine cn (v:=.string ⟨((s.take h').drop l).toArray⟩) (fun w' _=>?_) (aW h hk ⟨[_],rfl,rfl⟩ (fun _ _ _ _ e=>by cases e))
   unfold execOp
   simp only[ho,Option.map_none,Instr.sliceAt,Instr.slice,Sem.run_bind,run_underlying (f0 KP),Result.andThen_ok,e1,Option.isSome_none,Bool.false_eq_true,if_false,e2,b4 rfl w',Sem.run_pure,AC s l h' b1 b2]
  ·cases hk
 ·rename_i e v hv
  rw[hv] at hs
  split at hk
  ·rename_i kj
   obtain ⟨cs,h1,Y⟩:=hs
   obtain ⟨xa,cap,q1,q2,q3,q4⟩:=id Y
   subst q1
   rw[bq _ _ rfl] at h1
   obtain ⟨l,h',b1,b2,hk,b3,_⟩:=bound (List.length v) cap _ q2 hk
   obtain ⟨r1,r2,r3⟩:=addr xa cap l h' _ e b1 b2 q2 (fun ad e=>(q4 ad e).1)
   exact cn (vb e xa _ cap l h' kj h1 (by omega) (fun ad e=>(q4 ad e).1) b3) (aW h hk ⟨_,(bq (.U e) _ rfl).symm,Ro.piece Y b1 b2 (by omega) r1 r2⟩ (fun _ _ _ _ e=>by cases e))
  ·cases hk
 ·rename_i r p snap hv
  rw[hv] at hs
  split at hk
  ·rename_i h_
   obtain ⟨hr,t',m',H',v',aJ,aZ,F',h1,Y,h3,h4,h5,h6⟩:=fi h hk
   obtain ⟨pl,g1,g2,g3⟩:=hs.2 h_
   rw[h3] at g1
   injection g1 with g1
   subst g1
   simp only at g2 g3
   split at h1
   ·cases h1
   ·rename_i hH
    have hH:hole H'=false:=Bool.eq_false_iff.2 hH
    split at h1
    ·rename_i kj
     split at h1
     ·rename_i e BJ
      obtain ⟨xa,cap,q1,q2,q3⟩:=qW (t:=.unit) h4 hH
      subst q1
      rw[bq _ _ rfl] at g2
      have jh:=KO h4 hH
      split at h1
      ·obtain ⟨l,h',b1,b2,h1,b3,_⟩:=bound (List.length BJ) cap _ q2 h1
       obtain ⟨r1,r2,r3⟩:=addr xa cap l h' _ e b1 b2 q2 jh
       refine cn (vb e xa _ cap l h' kj.symm g2 (by omega) jh b3) (aW h h1 ⟨hs.1,fun _=>⟨_,e,xa,_,cap,_,cap - l,h3,rfl,rfl,b1,b2,rfl,by omega,r3,r1,r2,?_⟩⟩ (fun _ _ _ _ e=>by cases e))
       exact g3.imp (·.2) id
      ·rename_i c_
       obtain ⟨l,h',b1,b2,h1,b3,_⟩:=bound (List.length BJ) cap _ q2 h1
       obtain ⟨r1,r2,r3⟩:=addr xa cap l h' _ e b1 b2 q2 jh
       simp only[ai,hH,Bool.false_eq_true,if_false,c_] at h4
       exact cn (vb e xa _ cap l h' kj.symm g2 (by omega) jh b3) (aW h h1 ⟨_,(bq (.U e) _ rfl).symm,Ro.piece h4.2.2 b1 b2 (by omega) r1 r2⟩ (fun _ _ _ _ e=>by cases e))
     ·cases h1
    ·cases h1
  ·cases hk
 ·rename_i r p snap l0 h0 hv
  rw[hv] at hs
  split at hk
  ·rename_i h_
   obtain ⟨hr,t',m',H',v',aJ,aZ,F',h1,Y,h3,h4,h5,h6⟩:=fi h hk
   obtain ⟨pl,e,xa,n,cap,nm,cap',g1,g2,g3,g4,g5,g6,g7,BG,g8,g9,g10⟩:=hs.2 h_
   have Tu:=g1
   rw[h3] at g1
   injection g1 with g1
   subst g1
   simp only at g2 g3
   subst g2;subst g3
   split at h1
   ·cases h1
   ·rename_i hH
    have hH:hole H'=false:=Bool.eq_false_iff.2 hH
    split at h1
    ·rename_i kj
     obtain ⟨ED,tf,q1,q2,q3⟩:=qW (t:=.unit) h4 hH
     simp only[List.cons.injEq,Value.slice.injEq,and_true] at q1
     obtain ⟨rfl,rfl,rfl⟩:=q1
     have jh:=KO h4 hH
     have MT:∀ ad,nm=some ad->0 < cap'->ad.spot=none:=fun ad e' zn=>by
      cases qR:xa with
      | none=>rw[g8 qR] at e';cases e'
      | some bZ=>
       obtain ⟨rF,e1,e2,_⟩:=g9 bZ qR
       rw[e'] at e1;injection e1 with e1;subst e1
       exact e2.trans (jh bZ qR (by omega))
     obtain ⟨l,h',b1,b2,h1,b3,_⟩:=bound (h0 - l0) cap' _ (by omega) h1
     obtain ⟨r1,r2,r3⟩:=addr nm cap' l h' _ e b1 b2 (by omega) MT
     refine cn (vb e nm _ cap' l h' kj.symm g6 (by omega) MT b3) (aW h h1 ⟨hs.1,fun _=>⟨⟨.U e,H',[.slice xa (List.length v') cap],aZ⟩,e,xa,List.length v',cap,(if cap'=l then nm else nm.map fun ad=>⟨ad.block,ad.off+l*e.sz,none⟩),cap' - l,h3,rfl,rfl,by omega,by omega,?_,by omega,fun e0=>?_,fun e'=>?_,fun ad e'=>?_,g10⟩⟩ (fun _ _ _ _ e=>by cases e))
     ·rw[show l0+h' - (l0+l)=h' - l by omega]
     ·rw[r3 (by omega),BG (by omega)]
     ·exact r1 (g8 e')
     ·obtain ⟨rF,e1,e2,e3,e4⟩:=g9 ad e'
      obtain ⟨pD,f1,f2,f3,f4⟩:=r2 rF e1
      exact ⟨pD,f1,f2.trans e2,f3.trans e3,fun aj=>by rw[f4 (by omega),e4 (by omega),Nat.add_mul,Nat.add_assoc]⟩
    ·cases h1
  ·cases hk
 ·cases hk
end
end OT
set_option linter.unusedVariables false
set_option linter.unusedSimpArgs false
namespace OT
open Go
theorem kG (k:IntKind) (n:Int):jg k (uj k n)=k.wrap n:=by
 cases k <;> first | rfl | skip
 show ((UInt8.ofNat (n % 2 ^ 8).toNat).toNat:Int)=_
 rw[UInt8.toNat_ofNat']
 simp[IntKind.wrap,IntKind.bits,IntKind.signed]
 omega
theorem zo (k:IntKind) (n:Int) (h:k=.u8->0<=n/\n < 256):jg k (Kx k n)=n:=by
 cases k <;> first | rfl | skip
 obtain ⟨h1,Y⟩:=h rfl
 show ((UInt8.ofNat (n % 2 ^ 8).toNat).toNat:Int)=_
 rw[UInt8.toNat_ofNat']
 omega
theorem HH (v:st .u8):0<=jg .u8 v/\jg .u8 v < 256:=by
 have:UInt8.toNat v < 256:=UInt8.toNat_lt v
 show 0<=((UInt8.toNat v:Nat):Int)/\((UInt8.toNat v:Nat):Int) < 256
 omega
section
variable {P:Program} {C:Ctx} {A:Cells} {X:FP} {σ:St} {a:Act} {w:World} {F:Nat->FP} {R:Type} {x:R} {Q:Exit->Act->World->Prop} {o:Oper} {E:Env}
theorem LM {op:BinOp} {k k':IntKind} {na nb:Int} {K:(t:Ty)->t.den->Option R} (hk:Bh op k na nb K=some x) (zM:k=k'\/op=.shl\/op=.shr) (hu:k=.u8->0<=na/\na < 256) (MU:k'=.u8->0<=nb/\nb < 256) (T:TypeId) :
  ∃ t v tv,K t v=some x/\Ro P w A t v [tv]/\isAgg t=false/\∀ w:World,(binOp op T (.int k na) (.int k' nb)).run P w=.ok tv w:=by
 have same:op≠.shl->op≠.shr->k=k':=fun h1 Y=>by rcases zM with h | h | h;exact h;exact absurd h h1;exact absurd h Y
 unfold Bh at hk
 split at hk
 ·have:=same (by simp) (by simp);subst this
  exact ⟨_,_,.int k (k.wrap (na+nb)),hk,by simp only[Ro,kG],rfl,fun w=>by simp[Go.binOp,Op.intArith]⟩
 ·have:=same (by simp) (by simp);subst this
  exact ⟨_,_,.int k (k.wrap (na - nb)),hk,by simp only[Ro,kG],rfl,fun w=>by simp[Go.binOp,Op.intArith]⟩
 ·have:=same (by simp) (by simp);subst this
  exact ⟨_,_,.int k (k.wrap (na*nb)),hk,by simp only[Ro,kG],rfl,fun w=>by simp[Go.binOp,Op.intArith]⟩
 ·have:=same (by simp) (by simp);subst this
  split at hk
  ·cases hk
  ·rename_i MV
   exact ⟨_,_,.int k (k.wrap (na.tdiv nb)),hk,by simp only[Ro,kG],rfl,fun w=>by simp[Go.binOp,Op.intDiv,MV]⟩
 ·have:=same (by simp) (by simp);subst this
  split at hk
  ·cases hk
  ·rename_i MV
   refine ⟨_,_,.int k (na.tmod nb),hk,?_,rfl,fun w=>by simp[Go.binOp,Op.intDiv,MV]⟩
   simp only[Ro]
   rw[zo k _ (fun e=>?_)]
   have h1:=hu e;have Y:=MU e
   have:=Int.tmod_nonneg nb h1.1
   have h3:na.tmod nb < nb:=Int.tmod_lt_of_pos na (by omega)
   omega
 ·have:=same (by simp) (by simp);subst this
  exact ⟨_,_,.int k (k.wrap ((BitVec.ofInt k.bits na &&& BitVec.ofInt k.bits nb).toNat:Int)),hk,by simp only[Ro,kG],rfl,fun w=>by unfold Go.binOp;simp only[ne_eq,not_true_eq_false,if_false,Op.intBits,Sem.run_pure]⟩
 ·have:=same (by simp) (by simp);subst this
  exact ⟨_,_,.int k (k.wrap ((BitVec.ofInt k.bits na ||| BitVec.ofInt k.bits nb).toNat:Int)),hk,by simp only[Ro,kG],rfl,fun w=>by unfold Go.binOp;simp only[ne_eq,not_true_eq_false,if_false,Op.intBits,Sem.run_pure]⟩
 ·have:=same (by simp) (by simp);subst this
  exact ⟨_,_,.int k (k.wrap ((BitVec.ofInt k.bits na ^^^ BitVec.ofInt k.bits nb).toNat:Int)),hk,by simp only[Ro,kG],rfl,fun w=>by unfold Go.binOp;simp only[ne_eq,not_true_eq_false,if_false,Op.intBits,Sem.run_pure]⟩
 ·split at hk
  ·cases hk
  ·rename_i hn
   exact ⟨_,_,.int k (k.wrap (na*2 ^ (min nb.toNat k.bits))),hk,by simp only[Ro,kG],rfl,fun w=>by simp[Go.binOp,Op.shift,hn]⟩
 ·split at hk
  ·cases hk
  ·rename_i hn
   refine ⟨_,_,.int k (na.fdiv (2 ^ (min nb.toNat k.bits))),hk,?_,rfl,fun w=>by simp[Go.binOp,Op.shift,hn]⟩
   simp only[Ro]
   rw[zo k _ (fun e=>?_)]
   have h1:=hu e
   have hp:(0:Int) < 2 ^ (min nb.toNat k.bits):=Int.pow_pos (by omega)
   rw[Int.fdiv_eq_ediv_of_nonneg _ (by omega)]
   have Y:=Int.ediv_nonneg h1.1 (Int.le_of_lt hp)
   have h3:=Int.ediv_le_self (2 ^ (min nb.toNat k.bits)) h1.1
   omega
 ·have:=same (by simp) (by simp);subst this
  exact ⟨.bool,decide (na=nb),_,hk,rfl,rfl,fun w=>by simp[Go.binOp,Op.intCmp];rfl⟩
 ·have:=same (by simp) (by simp);subst this
  exact ⟨.bool,!decide (na=nb),_,hk,rfl,rfl,fun w=>by simp[Go.binOp,Op.intCmp,bne];rfl⟩
 ·have:=same (by simp) (by simp);subst this
  exact ⟨.bool,decide (na < nb),_,hk,rfl,rfl,fun w=>by simp[Go.binOp,Op.intCmp]⟩
 ·have:=same (by simp) (by simp);subst this
  exact ⟨.bool,decide (na<=nb),_,hk,rfl,rfl,fun w=>by simp[Go.binOp,Op.intCmp]⟩
 ·have:=same (by simp) (by simp);subst this
  exact ⟨.bool,decide (nb < na),_,hk,rfl,rfl,fun w=>by simp[Go.binOp,Op.intCmp]⟩
 ·have:=same (by simp) (by simp);subst this
  exact ⟨.bool,decide (nb<=na),_,hk,rfl,rfl,fun w=>by simp[Go.binOp,Op.intCmp]⟩
 ·cases hk
theorem LN {op:BinOp} {s t:List UInt8} {K:(t:Ty)->t.den->Option R} (hk:Jm op s t K=some x) (T:TypeId) :
  ∃ ty v tv,K ty v=some x/\Ro P w A ty v [tv]/\isAgg ty=false/\∀ w:World,(binOp op T (.string ⟨s.toArray⟩) (.string ⟨t.toArray⟩)).run P w=.ok tv w:=by
 have h0:∀ w:World,(binOp op T (.string ⟨s.toArray⟩) (.string ⟨t.toArray⟩)).run P w=(Op.stringOp op ⟨s.toArray⟩ ⟨t.toArray⟩).run P w:=fun w=>by cases op <;> rfl
 simp only[h0]
 unfold Jm at hk
 split at hk
 ·split at hk
  ·rename_i hc
   refine ⟨.str,s++t,.string ⟨(s++t).toArray⟩,hk,rfl,rfl,fun w=>?_⟩
   rw[run_string_add_sum w _ _ (by simp only[ByteArray.size,List.size_toArray];simp only[bm] at hc;omega),ByteArray.mk_append_mk]
  ·cases hk
 ·exact ⟨.bool,decide (s=t),_,hk,rfl,rfl,fun w=>by simp[Op.stringOp];exact Bool.eq_iff_iff.2 (by simp)⟩
 ·exact ⟨.bool,!decide (s=t),_,hk,rfl,rfl,fun w=>by simp[Op.stringOp];exact Bool.eq_iff_iff.2 (by simp)⟩
 ·cases hk
theorem qz {tv:Value} {s:List UInt8} {G:FP} (h:a7 P A σ a w tv (.val .str s) G):tv=.string ⟨s.toArray⟩:=by
 obtain ⟨cs,h1,Y⟩:=h
 simp only[Ro] at Y
 subst Y
 exact h1
theorem qA {tv:Value} {k:IntKind} {n:st k} {G:FP} (h:a7 P A σ a w tv (.val (.int k) n) G):tv=.int k (jg k n):=by
 obtain ⟨cs,h1,Y⟩:=h
 simp only[Ro] at Y
 subst Y
 exact h1
theorem BM {tv:Value} {b:Bool} {G:FP} (h:a7 P A σ a w tv (.val .bool b) G):tv=.bool b:=by
 obtain ⟨cs,h1,Y⟩:=h
 simp only[Ro] at Y
 subst Y
 exact h1
theorem HI (h:bu P C A σ a w F) {op:UnOp} {t:Nat} {y:Operand} (ho:o.op=.unOp op t y) (aA:bn P y=true) {K:St->Option R}
  (hk:(match op,bs σ y with
  | .not,.val .bool b=>K (σ.aQ o.dst (.val .bool (!b)))
  | .neg,.val (.int k) n=>K (σ.aQ o.dst (.val (.int k) (uj k (0 - jg k n))))
  | _,_=>none)=some x):Tk P o a w (Nx P C K x):=by
 rcases b9 h aA with hs | ⟨xs,e⟩
 rotate_left
 ·rw[e] at hk;split at hk <;> simp_all
 split at hk
 ·rename_i b ho hv
  rw[hv] at hs
  have e:=BM hs
  exact cn (v:=.bool (!b)) (by simp[execOp,ho,e,Op.unary]) (aW h hk ⟨[_],rfl,rfl⟩ (fun _ _ _ _ e=>by cases e))
 ·rename_i k n ho hv
  rw[hv] at hs
  have e:=qA hs
  exact cn (v:=.int k (k.wrap (0 - jg k n))) (by simp[execOp,ho,e,Op.unary,Op.intArith]) (aW h hk ⟨[_],rfl,by simp only[Ro,kG]⟩ (fun _ _ _ _ e=>by cases e))
 ·cases hk
end
end OT
set_option linter.unusedVariables false
set_option linter.unusedSimpArgs false
namespace OT
open Go
section
variable {P:Program} {w:World} {A:Cells}
theorem KQ:∀ (t:Ty),(∀ (i:TypeId) (d:Nat) (v1 v2:t.den) (ij bh:List Value),aD P t (.inl i)=true->jZ P t (.inl i)=true->dep t<=d->Ro P w A t v1 ij->Ro P w A t v2 bh->(Op.equalIn d i (bf t ij) (bf t bh)).run P w=.ok (t.eq v1 v2) w) /\
  (∀ (fs:List Field) (off d:Nat) (v1 v2:t.den) (xs ys:Array Value),aD P t (.inr (fs,off))=true->jZ P t (.inr fs)=true->dep t<=d+1->Ro P w A t v1 (xs.toList.drop off)->Ro P w A t v2 (ys.toList.drop off)->(Op.eqFields d xs ys fs).run P w=.ok (t.eq v1 v2) w):=by
 intro t
 induction t with
 | int k=>
  refine ⟨fun i d v1 v2 ij bh hl he hd h1 Y=>?_,fun fs off d v1 v2 xs ys hl=>by simp[aD] at hl⟩
  simp only[Ro] at h1 Y
  subst h1;subst Y
  cases d with
  | zero=>simp[dep] at hd
  | succ d=>
   rw[bq _ _ rfl,bq _ _ rfl,run_equalIn_int w d i k k _ _ (jB hl)]
   congr 1
   cases k with
   | u8=>exact Bool.eq_iff_iff.2 (by simp only[jg,Ty.eq,beq_iff_eq];constructor;(intro h;exact UInt8.toNat_inj.1 (by omega));(intro h;rw[h]))
   | _=>exact Bool.eq_iff_iff.2 (by simp[jg,Ty.eq])
 | bool=>
  refine ⟨fun i d v1 v2 ij bh hl he hd h1 Y=>?_,fun fs off d v1 v2 xs ys hl=>by simp[aD] at hl⟩
  simp only[Ro] at h1 Y
  subst h1;subst Y
  have hu:P.underlying i=some .bool:=by
   simp only[aD,Bool.and_eq_true] at hl
   have Y:=hl.2
   split at Y
   ·assumption
   ·cases Y
  cases d with
  | zero=>simp[dep] at hd
  | succ d=>rw[bq _ _ rfl,bq _ _ rfl,run_equalIn_bool' w d i _ _ hu];rfl
 | str=>
  refine ⟨fun i d v1 v2 ij bh hl he hd h1 Y=>?_,fun fs off d v1 v2 xs ys hl=>by simp[aD] at hl⟩
  simp only[Ro] at h1 Y
  subst h1;subst Y
  cases d with
  | zero=>simp[dep] at hd
  | succ d=>
   rw[bq _ _ rfl,bq _ _ rfl,run_equalIn_string w d i _ _ (f0 hl),ByteArray.toList_mk,ByteArray.toList_mk]
   congr 1
   exact Bool.eq_iff_iff.2 (by simp[Ty.eq])
 | unit=>
  refine ⟨fun i d v1 v2 ij bh hl he hd h1 Y=>?_,fun fs off d v1 v2 xs ys hl he hd h1 Y=>?_⟩
  ·simp only[Ro] at h1 Y
   subst h1;subst Y
   simp only[aD,Bool.and_eq_true] at hl
   have h3:=hl.2
   split at h3
   ·rename_i fs hu
    have hf:P.fieldsOf i=fs:=by simp[Program.fieldsOf,hu]
    cases d with
    | zero=>simp[dep] at hd
    | succ d=>
     have wV:fs.toList=[]:=List.isEmpty_iff.1 h3
     simp only[jZ,Bool.not_eq_true'] at he
     show (Op.equalIn (d+1) i (.agg #[]) (.agg #[])).run P w=_
     rw[run_equalIn_struct w d i _ _ (by rw[hf];exact hu) he,hf,wV]
     rfl
   ·cases h3
  ·simp only[aD,List.isEmpty_iff] at hl
   subst hl
   rfl
 | pair a b eg dZ=>
  have second:∀ (fs:List Field) (off d:Nat) (v1 v2:(Ty.pair a b).den) (xs ys:Array Value),aD P (.pair a b) (.inr (fs,off))=true->jZ P (.pair a b) (.inr fs)=true->dep (.pair a b)<=d+1->Ro P w A (.pair a b) v1 (xs.toList.drop off)->Ro P w A (.pair a b) v2 (ys.toList.drop off)->(Op.eqFields d xs ys fs).run P w=.ok ((Ty.pair a b).eq v1 v2) w:=by
   intro fs off d v1 v2 xs ys hl he hd h1 Y
   cases fs with
   | nil=>simp[aD] at hl
   | cons f r=>
    simp only[aD,Bool.and_eq_true,Nat.beq_eq,Nat.ble_eq] at hl
    simp only[jZ,Bool.and_eq_true,bne_iff_ne,ne_eq] at he
    simp only[dep] at hd
    obtain ⟨HJ,HK⟩:=h1
    obtain ⟨Pg,Ph⟩:=Y
    have p1:=mL (P:=P) (w:=w) hl.1.2 (cs:=xs) (off:=off) (Ro.length _ HJ)
    have p2:=mL (P:=P) (w:=w) hl.1.2 (cs:=ys) (off:=off) (Ro.length _ Pg)
    have e1:=eg.1 f.type d v1.1 v2.1 _ _ hl.1.2 he.1.2 (by omega) HJ Pg
    rw[List.drop_drop] at HK Ph
    have e2:=dZ.2 r (off+a.sz) d v1.2 v2.2 xs ys hl.2 he.2 (by omega) HK Ph
    simp only[Op.eqFields,ne_eq,he.1.1,not_false_eq_true,if_true,Sem.run_bind,hl.1.1.1,p1,p2,e1,Result.andThen_ok]
    cases hq:a.eq v1.1 v2.1 with
    | true=>simp[e2,Ty.eq,hq]
    | false=>simp[Ty.eq,hq]
  refine ⟨fun i d v1 v2 ij bh hl he hd h1 Y=>?_,second⟩
  simp only[aD,Bool.and_eq_true] at hl
  simp only[jZ,Bool.and_eq_true,Bool.not_eq_true'] at he
  have h3:=hl.2
  have h4:=he.2
  split at h3
  ·rename_i fs hu
   rw[hu] at h4
   simp only at h4
   have hf:P.fieldsOf i=fs:=by simp[Program.fieldsOf,hu]
   split at h3
   ·rename_i f r va
    rw[va] at h4
    simp only at h4
    cases d with
    | zero =>have:1<=dep (.pair a b):=by simp only[dep];omega
             omega
    | succ d=>
     show (Op.equalIn (d+1) i (.agg ij.toArray) (.agg bh.toArray)).run P w=_
     rw[run_equalIn_struct w d i _ _ (by rw[hf];exact hu) he.1,hf,va]
     refine second (f::r) 0 d v1 v2 _ _ ?_ ?_ hd (by simpa using h1) (by simpa using Y)
     ·simp only[aD,Nat.zero_add];exact h3
     ·simp only[jZ];exact h4
   ·cases h3
  ·cases h3
 | arr n e ih=>
  refine ⟨fun i d v1 v2 ij bh hl he hd h1 Y=>?_,fun fs off d v1 v2 xs ys hl=>by simp[aD] at hl⟩
  simp only[aD,Bool.and_eq_true] at hl
  have h3:=hl.2
  simp only[jZ] at he
  split at h3
  ·rename_i n' el hu
   simp only[Bool.and_eq_true,Nat.beq_eq,Nat.ble_eq] at h3
   obtain ⟨⟨rfl,_⟩,hle⟩:=h3
   rw[hu] at he
   simp only at he
   obtain ⟨inf,i1,i2,_⟩:=eJ (gc hle)
   have ez:P.cellsOf el=e.sz:=by simp[Program.cellsOf,i1,i2]
   obtain ⟨_,l1,_,r1⟩:=h1
   obtain ⟨_,l2,_,r2⟩:=Y
   cases d with
   | zero=>simp[dep] at hd
   | succ d=>
    simp only[dep] at hd
    have key:∀ (m j:Nat),j+m=n->(Op.eqItems d el e.sz ij.toArray bh.toArray (List.range' j m)).run P w=.ok (((List.drop j v1).zip (List.drop j v2)).all fun p=>e.eq p.1 p.2) w:=by
     intro m
     induction m with
     | zero=>
      intro j hj
      rw[List.drop_of_length_le (by omega)]
      rfl
     | succ m HL=>
      intro j hj
      have g1:=List.getElem?_eq_getElem (l:=v1) (i:=j) (by omega)
      have g2:=List.getElem?_eq_getElem (l:=v2) (i:=j) (by omega)
      have a1:=r1 j _ g1
      have a2:=r2 j _ g2
      have p1:=mL (P:=P) (w:=w) hle (cs:=ij.toArray) (off:=j*e.sz) (Ro.length _ a1)
      have p2:=mL (P:=P) (w:=w) hle (cs:=bh.toArray) (off:=j*e.sz) (Ro.length _ a2)
      have e1:=ih.1 el d _ _ _ _ hle he (by omega) a1 a2
      rw[List.range'_succ,List.drop_eq_getElem_cons (l:=v1) (i:=j) (by omega),List.drop_eq_getElem_cons (l:=v2) (i:=j) (by omega)]
      simp only[Op.eqItems,Sem.run_bind,p1,p2,e1,Result.andThen_ok,List.zip_cons_cons,List.all_cons]
      cases hq:e.eq v1[j] v2[j] with
      | true=>simpa using HL (j+1) (by omega)
      | false=>simp
    show (Op.equalIn (d+1) i (.agg ij.toArray) (.agg bh.toArray)).run P w=_
    rw[run_equalIn_array w d _ _ hu i1,ez,List.range_eq_range']
    exact key n 0 (by omega)
  ·cases h3
 | _=>exact ⟨fun i d v1 v2 ij bh hl he=>by simp[jZ] at he,fun fs off d v1 v2 xs ys hl he=>by simp[jZ] at he⟩
end
section
variable {P:Program} {C:Ctx} {A:Cells} {X:FP} {σ:St} {a:Act} {w:World} {F:Nat->FP} {R:Type} {x:R} {Q:Exit->Act->World->Prop} {o:Oper} {E:Env}
def KR (P:Program) (E:Env):Prop:=∀ i T,E.TI i=some T->T.gV=true->isAgg T=true->jZ P T (.inl i)=true/\P.eqGuardType P.depth i=false/\dep T<=10000
theorem tg {op:BinOp} {t:TypeId} {y z:Operand} {u v:Value} (h:¬ (∃ p q,u=.agg p/\v=.agg q)) (Y:u≠.nilIface):(eqGuard op t y z u v).run P w=.ok () w:=by
 cases op <;> first | rfl | skip
 all_goals
  unfold eqGuard
  cases u <;> cases v <;> first | rfl | (exact absurd rfl Y) | (exact absurd ⟨_,_,rfl,rfl⟩ h)
theorem Ro.gV {w':World} {A':Cells}:∀ (t:Ty) {v:t.den} {cs:List Value},t.gV=true->Ro P w A t v cs->Ro P w' A' t v cs:=by
 intro t
 induction t with
 | pair a b eg dZ=>
  intro v cs hq h
  simp only[Ty.gV,Bool.and_eq_true] at hq
  exact ⟨eg hq.1 h.1,dZ hq.2 h.2⟩
 | arr n e ih=>intro v cs hq h;exact ⟨h.1,h.2.1,h.2.2.1,fun i x hx=>ih hq (h.2.2.2 i x hx)⟩
 | U e ih=>intro v cs hq;simp[Ty.gV] at hq
 | ptr e ih=>intro v cs hq;simp[Ty.gV] at hq
 | fn=>intro v cs hq;simp[Ty.gV] at hq
 | map k v=>intro v cs hq;simp[Ty.gV] at hq
 | _=>intro v cs hq h;exact h
theorem FK (h:bu P C A σ a w F) (eo:∀ i T,E.TI i=some T->aD P T (.inl i)=true) (heq:KR P E) {op:BinOp} {t t2:Nat} {y z:Operand} (ho:o.op=.binOp op t y z t2) (aA:bn P y=true/\bn P z=true) {K:St->Option R}
  (hk:Bi E t op (bs σ y) (bs σ z) (fun t v=>K (σ.aQ o.dst (.val t v)))=some x):Tk P o a w (Nx P C K x):=by
 rcases b9 h aA.1 with hy | ⟨xs,e⟩
 rotate_left
 ·rw[e] at hk;simp[Bi] at hk
 rcases b9 h aA.2 with hz | ⟨xs,e⟩
 rotate_left
 ·rw[e] at hk;unfold Bi at hk;split at hk <;> simp_all
 have fin:∀ (ty:Ty) (v:ty.den) (tv:Value),K (σ.aQ o.dst (.val ty v))=some x->Ro P w A ty v [tv]->isAgg ty=false->(∀ w',lO o w w'->(eqGuard op t y z (a.eval y) (a.eval z)).run P w'=.ok () w')->(∀ w',lO o w w'->(binOp op t (a.eval y) (a.eval z)).run P w'=.ok tv w')->Tk P o a w (Nx P C K x):=fun ty v tv hk hr ha hg hb=>by
  refine cn (v:=tv) (fun w' j0=>?_) (aW h hk ⟨[tv],(bq ty tv ha).symm,hr⟩ (fun _ _ _ _ e=>by cases e))
  unfold execOp
  simp only[ho,Sem.run_bind,hg w' j0,hb w' j0,Result.andThen_ok,Sem.run_pure]
 unfold Bi at hk
 split at hk
 ·rename_i k n1 k' n2 xQ xP
  rw[xQ] at hy
  rw[xP] at hz
  have e1:=qA hy
  have e2:=qA hz
  have hg:∀ w',lO o w w'->(eqGuard op t y z (a.eval y) (a.eval z)).run P w'=.ok () w':=fun w' _=>by rw[e1,e2];exact tg (by rintro ⟨p,q,h,_⟩;cases h) (by intro h;cases h)
  have zM:(k=k'\/op=.shl\/op=.shr)/\Bh op k (jg k n1) (jg k' n2) (fun t v=>K (σ.aQ o.dst (.val t v)))=some x:=by
   split at hk
   ·exact ⟨.inr (.inl rfl),hk⟩
   ·exact ⟨.inr (.inr rfl),hk⟩
   ·split at hk
    ·rename_i e;exact ⟨.inl e,hk⟩
    ·cases hk
  obtain ⟨ty,v,tv,q1,q2,q3,q4⟩:=LM (P:=P) (A:=A) (w:=w) zM.2 zM.1 (fun e=>by subst e;exact HH n1) (fun e=>by subst e;exact HH n2) t
  exact fin ty v tv q1 q2 q3 hg (fun w' _=>by rw[e1,e2];exact q4 w')
 ·rename_i s1 s2 xQ xP
  rw[xQ] at hy
  rw[xP] at hz
  have e1:=qz hy
  have e2:=qz hz
  have hg:∀ w',lO o w w'->(eqGuard op t y z (a.eval y) (a.eval z)).run P w'=.ok () w':=fun w' _=>by rw[e1,e2];exact tg (by rintro ⟨p,q,h,_⟩;cases h) (by intro h;cases h)
  obtain ⟨ty,v,tv,q1,q2,q3,q4⟩:=LN (P:=P) (A:=A) (w:=w) hk t
  exact fin ty v tv q1 q2 q3 hg (fun w' _=>by rw[e1,e2];exact q4 w')
 ·rename_i ty v1 Rr v2 Rs Pi xQ xP
  rw[xQ] at hy
  rw[xP] at hz
  have main:∀ (e:ty=Rr) (hq:ty.gV=true) (hT:E.TI t=some ty) (w':World),lO o w w'->(eqGuard op t y z (a.eval y) (a.eval z)).run P w'=.ok () w'/\(∀ b,b=ty.eq v1 (e ▸ v2)->(op=.eql->(binOp op t (a.eval y) (a.eval z)).run P w'=.ok (.bool b) w')/\(op=.neq->(binOp op t (a.eval y) (a.eval z)).run P w'=.ok (.bool (!b)) w')):=fun e hq hT w' j0=>by
   subst e
   obtain ⟨ij,e1,r1⟩:=hy
   obtain ⟨bh,e2,r2⟩:=hz
   have r1:=Ro.gV (w':=w') (A':=A) _ hq r1
   have r2:=Ro.gV (w':=w') (A':=A) _ hq r2
   have cy:=eo _ _ hT
   cases KS:isAgg ty with
   | true=>
    obtain ⟨q1,q2,q3⟩:=heq _ _ hT hq KS
    have Jv:=(KQ (P:=P) (w:=w') (A:=A) ty).1 t 10000 v1 v2 ij bh cy q1 q3 r1 r2
    have m1:bf ty ij=.agg ij.toArray:=by simp[bf,KS]
    have m2:bf ty bh=.agg bh.toArray:=by simp[bf,KS]
    rw[m1,m2] at Jv
    rw[e1,e2,m1,m2]
    refine ⟨run_eqGuard_agg w' op t y z _ _ q2,fun b hb=>⟨fun h=>?_,fun h=>?_⟩⟩
    ·subst h;subst hb;rw[run_eql_struct,Jv];rfl
    ·subst h;subst hb;rw[run_neq_struct,Jv];rfl
   | false=>
    cases ty with
    | int k=>exact (Rs k v1 k v2 rfl HEq.rfl rfl HEq.rfl).elim
    | str=>exact (Pi v1 v2 rfl HEq.rfl rfl HEq.rfl).elim
    | bool=>
     simp only[Ro] at r1 r2
     subst r1;subst r2
     rw[bq _ _ rfl] at e1 e2
     have hu:P.underlying t=some .bool:=by
      simp only[aD,Bool.and_eq_true] at cy
      have Y:=cy.2
      split at Y
      ·assumption
      ·cases Y
     rw[e1,e2]
     refine ⟨tg (by rintro ⟨p,q,h,_⟩;cases h) (by intro h;cases h),fun b hb=>⟨fun h=>?_,fun h=>?_⟩⟩
     ·subst h;subst hb
      have:=run_equalIn_bool' (P:=P) w' 9999 t v1 v2 hu
      simp only[Go.binOp,Op.equal,Op.maxDepth,Sem.run_bind,this,Result.andThen_ok,Sem.run_pure];rfl
     ·subst h;subst hb
      have:=run_equalIn_bool' (P:=P) w' 9999 t v1 v2 hu
      simp only[Go.binOp,Op.equal,Op.maxDepth,Sem.run_bind,this,Result.andThen_ok,Sem.run_pure];rfl
    | _=>first | (simp[Ty.gV] at hq;done) | (simp[isAgg] at KS;done)
  split at hk
  ·split at hk
   ·rename_i hq
    obtain ⟨T,hT,hk⟩:=cm hk
    split at hk
    ·rename_i e;subst e
     obtain ⟨e,hk⟩:=a8 hk
     have m:=main e.symm hq hT
     subst e
     exact fin .bool _ _ hk rfl rfl (fun w' j0=>(m w' j0).1) (fun w' j0=>((m w' j0).2 _ rfl).1 rfl)
    ·cases hk
   ·cases hk
  ·split at hk
   ·rename_i hq
    obtain ⟨T,hT,hk⟩:=cm hk
    split at hk
    ·rename_i e;subst e
     obtain ⟨e,hk⟩:=a8 hk
     have m:=main e.symm hq hT
     subst e
     exact fin .bool _ _ hk rfl rfl (fun w' j0=>(m w' j0).1) (fun w' j0=>((m w' j0).2 _ rfl).2 rfl)
    ·cases hk
   ·cases hk
  ·cases hk
 ·rename_i e v xQ xP
  rw[xQ] at hy
  rw[xP] at hz
  obtain ⟨T,hT,hk⟩:=cm hk
  split at hk
  ·rename_i eT
   subst eT
   obtain ⟨te,hu⟩:∃ te,P.underlying t=some (.slice te):=by
    have cy:=eo _ _ hT
    simp only[aD,Bool.and_eq_true] at cy
    have Y:=cy.2
    split at Y
    ·rename_i el iY;exact ⟨el,iY⟩
    ·cases Y
   obtain ⟨cs,h1,a0,cap,Y,h3,h4,h5⟩:=hy
   subst Y
   rw[bq _ _ rfl] at h1
   have BN:a.eval z=.slice none 0 0:=hz
   have hg:∀ w',lO o w w'->(eqGuard op t y z (a.eval y) (a.eval z)).run P w'=.ok () w':=fun w' _=>by rw[h1,BN];exact tg (by rintro ⟨p,q,h,_⟩;cases h) (by intro h;cases h)
   have key:∀ (b:Bool),uF v (K (σ.aQ o.dst (.val .bool b))) (K (σ.aQ o.dst (.val .bool !b)))=some x->K (σ.aQ o.dst (.val .bool (if a0.isNone then b else !b)))=some x:=fun b hb=>by
    cases v with
    | nil=>
     simp only[uF,both] at hb
     split at hb
     ·rename_i e
      split
      ·exact hb
      ·rw[<-e];exact hb
     ·cases hb
    | cons y v=>
     have:a0.isNone=false:=by
      cases a0 with
      | none=>have:=h4 rfl;simp at this
      | some _=>rfl
     rw[this]
     exact hb
   unfold Mq at hk
   split at hk
   ·refine fin .bool _ (.bool a0.isNone) (key true hk) ?_ rfl hg fun w' _=>?_
    ·cases a0 <;> rfl
    ·rw[h1,BN]
     have:=run_equal_slice_nil (P:=P) w' t te a0 (List.length v) cap hu
     simp only[Go.binOp,Sem.run_bind,this,Result.andThen_ok,Sem.run_pure]
   ·refine fin .bool _ (.bool !a0.isNone) (key false hk) ?_ rfl hg fun w' _=>?_
    ·cases a0 <;> rfl
    ·rw[h1,BN]
     exact run_neq_slice_nil (P:=P) w' t te a0 (List.length v) cap hu
   ·cases hk
  ·cases hk
 ·cases hk
end
end OT
set_option linter.unusedVariables false
set_option linter.unusedSimpArgs false
namespace OT
open Go
section
variable {P:Program} {C:Ctx} {A:Cells} {X:FP} {σ:St} {a:Act} {w:World} {F:Nat->FP} {R:Type} {x:R} {Q:Exit->Act->World->Prop} {o:Oper} {E:Env}
theorem iE (w:World) (ob:Obj):Ext w (w.alloc ob) (fun _ _=>0):=by
 refine ⟨by simp,fun b i hb _ u hu=>?_,fun b n hn=>?_,fun b i hb=>World.frozen?_alloc_old w ob _ (by simp;omega),rfl,rfl,rfl,fun b hb _=>?_,Nat.le_refl _⟩
 ·rw[o8 (w:=w) (by simp only[World.alloc,Array.getElem?_push];rw[if_neg (by omega)])];exact hu
 ·obtain ⟨c,e,fr,h1,Y,h3⟩:=hn
  refine ⟨c,e,fr,?_,Y,h3⟩
  have hb:=(Array.getElem?_eq_some_iff.1 h1).1
  simp only[World.alloc,Array.getElem?_push]
  rw[if_neg (by omega)];exact h1
 ·simp only[World.alloc,Array.getElem?_push]
  rw[if_neg (by omega)]
theorem BO (w:World):Ext w w.drew (fun _ _=>0):=⟨Nat.le_refl _,fun _ _ _ _ _ h=>h,fun _ _ h=>h,fun _ _ _=>rfl,rfl,rfl,rfl,fun _ _ _=>rfl,Nat.le_succ _⟩
theorem rH (w:World) (c:Array Value) (e:TypeId) (fr:Nat×Nat) (u:Bool) (gU:(u=true/\c.size<=fr.1)\/fr.2<=fr.1):de (w.alloc (.cells c e fr)) w.heap.size (c.size,u):=
 ⟨c,e,fr,heap_alloc_new w _,rfl,fun i hi=>by simp only at hi;omega,fun hu=>by simp only at hu ⊢;subst hu;rcases gU with ⟨h,_⟩ | h;cases h;omega⟩
theorem rI (w:World) (c:Array Value) (e:TypeId) (fr:Nat×Nat) {k:Nat} {L:List Value} (hL:∀ j u,L[j]?=some u->c[k+j]?=some u) (gY:∀ u ∈ L,u.oneCell'=true):Has (w.alloc (.cells c e fr)) w.heap.size k L:=by
 intro j u hu
 have:=hL j u hu
 refine vX ?_ (gY u (List.mem_of_getElem? hu))
 unfold World.cell?
 simp only[heap_alloc_new,Option.isSome_none,Bool.false_eq_true,if_false,this]
theorem Rel.alloc (h:Rel P C A X σ a w F) (c:Array Value) (e:TypeId) (fr:Nat×Nat):Rel P C A (fun b i=>X b i+bj w.heap.size 0 c.size b i) σ a (w.alloc (.cells c e fr)) F:=by
 refine h.grow (iE w _) (fun _ _ h=>h) (fun _ _ h=>.inl h) (fun b i=>?_)
 by_cases hb:b=w.heap.size
 ·subst hb
  right
  have hx:X w.heap.size i=0:=by
   rcases Nat.eq_zero_or_pos (X w.heap.size i) with h0 | h0
   ·exact h0
   ·have:=h.eh w.heap.size i (.inl (by omega));omega
  exact ⟨Nat.le_refl _,by simp,by rw[hx];simp only[bj];split <;> omega⟩
 ·left
  simp[bj,hb]
theorem Rel.drew (h:Rel P C A X σ a w F):Rel P C A X σ a w.drew F:=h.grow (BO w) (fun _ _ h=>h) (fun _ _ h=>.inl h) (fun _ _=>.inl (Nat.le_refl _))
theorem ai.alloc (h:Rel P C A X σ a w F) {t:Ty} {m:Md} {H:List Path} {v:t.den} {cs:List Value} {G:FP} (hr:ai P w A t m H v cs G) (hG:∀ b i,1<=G b i->b < w.heap.size) {w':World} (hw:Ext w w' (fun _ _=>0)):ai P w' A t m H v cs G:=
 ai.mono (fun _ _ h=>h) (fun b i ha u hu=>hw.cell b i (h.eh b i (.inr ha)) rfl u hu) hw.o3 t hr (fun _ _=>Nat.le_refl _) (fun b i hp u hu=>hw.cell b i (hG b i hp) rfl u hu)
theorem EE (h:Rel P C A X σ a w F) {K:St->Option R} {d:Option Tmp} {t:Ty} {m:Md} {v:t.den} {cs:List Value} {Fv:FP} (e:TypeId) (hk:K (σ.aQ d (.box t m [] v))=some x)
  (hr:ai P w A t m [] v cs Fv) (hX:∀ b i,Fv b i<=X b i):∃ A' F',Rel P C A' (fun _ _=>0) (σ.aQ d (.box t m [] v)) (a.put d (.pointer (some ⟨w.heap.size,0,none⟩))) (w.alloc (.cells cs.toArray e)) F':=by
 have hl:=ai.length t hr
 have h1:=h.alloc cs.toArray e (0,0)
 have c_:=rH w cs.toArray e (0,0) false (.inr (Nat.le_refl _))
 simp only[List.size_toArray,hl] at c_ h1
 have mF:=ai.alloc h hr (fun b i hp=>h.eh b i (.inl (by have:=hX b i;omega))) (iE w (.cells cs.toArray e))
 obtain ⟨F',hF⟩:=h1.aQ d (s:=.box t m [] v) (v:=.pointer (some ⟨w.heap.size,0,none⟩)) (Fd:=fun b i=>bj w.heap.size 0 t.sz b i+Fv b i) (X':=fun _ _=>0)
  ⟨w.heap.size,0,cs,Fv,rfl,hl,rI w cs.toArray e (0,0) (fun j u hu=>by simpa using hu) (ai.one _ hr),fun j hj=>by rw[Nat.zero_add];exact c_.frozen hj,fun _ _=>Nat.le_refl _,mF⟩
  (fun b i=>by have:=hX b i;omega) (fun t' m' H' v' e'=>by injection e' with e1;subst e1;exact ⟨_,rfl,c_⟩)
 exact ⟨A,F',hF⟩
theorem nN:∀ (t:Ty),t.nT=true->∃ L,zc t=some L:=by
 intro t
 induction t with
 | pair a b eg dZ=>
  intro h
  simp only[Ty.nT,Bool.and_eq_true] at h
  obtain ⟨x,hx⟩:=eg h.1
  obtain ⟨y,hy⟩:=dZ h.2
  exact ⟨x++y,by simp[zc,hx,hy]⟩
 | arr n e ih=>
  intro h
  obtain ⟨x,hx⟩:=ih h
  exact ⟨(List.replicate n x).flatten,by simp only[zc,hx]⟩
 | ptr e ih=>intro h;cases h
 | fn=>intro h;cases h
 | map k v=>intro h;cases h
 | _=>intro h;exact ⟨_,rfl⟩
theorem HM (h:bu P C A σ a w F) (eo:∀ i T,E.TI i=some T->aD P T (.inl i)=true) {t:Nat} (ho:o.op=.alloc t) {K:St->Option R}
  (hk:(jm E t fun T=>if T.nT then K (σ.aQ o.dst (.box T (aq T) [] T.zero)) else none)=some x):o.wp P a w (fun a' w'=>Nx P C K x a' w'/\Ext w w' (fun _ _=>0)) Q:=by
 obtain ⟨T,hT,hk⟩:=cm hk
 split at hk
 ·rename_i HN
  have cy:=eo _ _ hT
  obtain ⟨L,hL⟩:=nN T HN
  obtain ⟨z,ur,vd⟩:=pQ (P:=P) (w:=w) cy hL
  obtain ⟨r1,r2,r3⟩:=td (P:=P) (w:=w) (A:=A) T hL cy
  refine hY (v:=.pointer (some ⟨w.heap.size,0,none⟩)) (w':=w.alloc (.cells L.toArray t)) ?_ ?_
  ·have:z.cells=L.toArray:=by apply Array.ext';simpa using vd
   unfold execOp
   simp[ho,Instr.alloc,ur,newVar,newRow,this]
  ·obtain ⟨A',F',hF⟩:=EE h t hk r1 (fun _ _=>Nat.le_refl _)
   exact ⟨⟨_,hk,A',F',hF⟩,iE w _⟩
 ·cases hk
end
end OT
set_option linter.unusedVariables false
set_option linter.unusedSimpArgs false
namespace OT
open Go
section
variable {P:Program} {C:Ctx} {A:Cells} {X:FP} {σ:St} {a:Act} {w:World} {F:Nat->FP} {R:Type} {x:R} {Q:Exit->Act->World->Prop} {o:Oper} {E:Env}
theorem v_ (h:Rel P C A X σ a w F) {K:St->Option R} {d:Option Tmp} {e:Ty} {m:Md} {v:List e.den} {c:Array Value} {cap:Nat} {el:TypeId} {fr:Nat×Nat} {Fi:Nat->FP} (gU:(Bp e=true/\c.size<=fr.1)\/fr.2<=fr.1)
  (hk:K (σ.aQ d (.own (.U e) (.U true m) [] v))=some x) (hc:c.size=cap*e.sz) (km:cap<=maxLen) (hv:List.length v<=cap) (hX:∀ b i,az (List.length v) Fi b i<=X b i)
  (iY:∀ (i:Nat) (y:e.den),v[i]?=some y->∃ L:List Value,L.length=e.sz/\(∀ j u,L[j]?=some u->c[i*e.sz+j]?=some u)/\ai P w A e m [] y L (Fi i)) :
  Nx P C K x (a.put d (.slice (some ⟨w.heap.size,0,none⟩) (List.length v) cap)) (w.alloc (.cells c el fr)):=by
 have h1:=h.alloc c el fr
 have c_:=rH w c el fr (Bp e) gU
 rw[hc] at c_ h1
 refine i9 h1 hk (Fd:=fun b i=>bj w.heap.size 0 (cap*e.sz) b i+az (List.length v) Fi b i) ⟨_,(bq (.U e) _ rfl).symm,?_⟩ (fun b i=>by have:=hX b i;omega) (fun _ _ _ _ e=>by cases e)
 simp only[ai,hole,List.any_nil,Bool.false_eq_true,if_false,Md.own,if_true,Md.e]
 refine ⟨_,cap,rfl,hv,km,(fun e=>by cases e),fun ad cO=>?_⟩
 injection cO with cO;subst cO
 refine ⟨rfl,rfl,c_,Fi,fun _ _=>Nat.le_refl _,fun i y hy=>?_⟩
 obtain ⟨L,l1,l2,l3⟩:=iY i y hy
 have hi:=(List.getElem?_eq_some_iff.1 hy).1
 refine ⟨L,l1,rI w c el fr l2 (ai.one _ l3),?_⟩
 simp only[List.filterMap_nil]
 exact ai.alloc h l3 (fun b k hp=>h.eh b k (.inl (by have:=hX b k;have:=be Fi hi b k;omega))) (iE w _)
theorem AD (h:bu P C A σ a w F) (eo:∀ i T,E.TI i=some T->aD P T (.inl i)=true) {t:Nat} {y z:Operand} (ho:o.op=.makeSlice t y z) (aA:bn P y=true/\bn P z=true) {K:St->Option R}
  (hk:(jm E t fun t=>match t with
  | .U e=>nJ (bs σ y) fun n=>nJ (bs σ z) fun c=>
   if e.nT then (if 0<=n/\n<=c/\c<=(bm:Int) then K (σ.aQ o.dst (.own (.U e) (aq (.U e)) [] (List.replicate n.toNat e.zero))) else none) else none
  | _=>none)=some x):o.wp P a w (fun a' w'=>Nx P C K x a' w'/\Ext w w' (fun _ _=>0)) Q:=by
 obtain ⟨T,hT,hk⟩:=cm hk
 have cy:=eo _ _ hT
 split at hk
 ·rename_i e
  rcases b9 h aA.1 with hy | ⟨xs,e'⟩
  rotate_left
  ·rw[e'] at hk;cases hk
  obtain ⟨k1,n,hn,hk⟩:=lF hy hk
  rcases b9 h aA.2 with hz | ⟨xs,e'⟩
  rotate_left
  ·rw[e'] at hk;cases hk
  obtain ⟨k2,c,hc,hk⟩:=lF hz hk
  split at hk
  ·rename_i HN
   split at hk
   ·rename_i hb
    obtain ⟨el,hu,ez,hle⟩:=mm cy
    obtain ⟨inf,i1,i2,i3,i4⟩:=eJ (gc hle)
    obtain ⟨L,hL⟩:=nN e HN
    obtain ⟨zv,z1,z2⟩:=i4 L hL
    obtain ⟨r1,r2,r3⟩:=td (P:=P) (w:=w) (A:=A) e hL hle
    have MW:(inf.bytes:Int)*c<=281474976710656:=by
     have h1:(inf.bytes:Int)<=512:=by omega
     have Y:(inf.bytes:Int)*c<=512*c:=Int.mul_le_mul_of_nonneg_right h1 (by omega)
     simp only[bm] at hb
     omega
    have da:=run_make (P:=P) w t el inf zv hu i1 z1 k1 k2 n c hb.1 hb.2.1 MW (by simp only[bm] at hb;omega)
    have Rt:zv.cells.size=e.sz:=by rw[<-Array.length_toList,z2,r3]
    have hlen:List.length (List.replicate n.toNat e.zero)=n.toNat:=by simp
    refine hY (v:=.slice (some ⟨w.heap.size,0,none⟩) n.toNat c.toNat) (w':=w.alloc (.cells (madeCells zv.cells (c.toNat*inf.size)) el)) ?_ ?_
    ·unfold execOp
     simp only[ho,hn,hc,Sem.run_bind,da,Result.andThen_ok,Sem.run_pure]
    ·refine ⟨?_,iE w _⟩
     have Pj:=v_ h (K:=K) (d:=o.dst) (v:=List.replicate n.toNat e.zero) (c:=madeCells zv.cells (c.toNat*inf.size)) (cap:=c.toNat) (el:=el) (fr:=(0,0)) (m:=aq e) (Fi:=fun _ _ _=>0) (.inr (Nat.le_refl _)) hk
      (by rw[size_madeCells,i2]) (by simp only[bm] at hb;simp only[maxLen];omega) (by rw[hlen];omega) (fun b i=>by rw[gC];exact Nat.le_refl _)
      (fun i y hy=>by
       have hi:i < n.toNat:=by have:=(List.getElem?_eq_some_iff.1 hy).1;simpa using this
       have hy:y=e.zero:=by simp only[List.getElem?_replicate,hi,if_true,Option.some.injEq] at hy;exact hy.symm
       subst hy
       refine ⟨L,r3,fun j u hu=>?_,r1⟩
       have hj:j < e.sz:=r3 ▸ (List.getElem?_eq_some_iff.1 hu).1
       have aj:i*e.sz+j < c.toNat*e.sz:=by
        have:(i+1)*e.sz<=c.toNat*e.sz:=Nat.mul_le_mul_right _ (by omega)
        rw[Nat.add_mul] at this;omega
       have Jw:(i*e.sz+j) % e.sz=j:=by rw[Nat.mul_comm,Nat.mul_add_mod];exact Nat.mod_eq_of_lt hj
       have Ru:zv.cells[j]?=some u:=by rw[<-Array.getElem?_toList,z2];exact hu
       obtain ⟨Rv,Qg⟩:=Array.getElem?_eq_some_iff.1 Ru
       unfold madeCells
       rw[i2,Array.getElem?_map,Array.getElem?_range]
       simp only[aj,if_true,Option.map_some,Rt,Jw]
       rw[getElem!_pos _ j Rv,Qg])
     rw[hlen] at Pj
     exact Pj
   ·cases hk
  ·cases hk
 ·cases hk
theorem BP (h:bu P C A σ a w F) (eo:∀ i T,E.TI i=some T->aD P T (.inl i)=true) {s t:Nat} {y:Operand} (ho:o.op=.convert s t y) (aA:bn P y=true) (EF:∀ T,E.TI t=some T->T.flat=true) {K:St->Option R}
  (hk:sV E σ s t (bs σ y) o.dst K=some x):Tk P o a w (Nx P C K x):=by
 unfold sV at hk
 obtain ⟨S,hS,hk⟩:=cm hk
 obtain ⟨T,hT,hk⟩:=cm hk
 have qO:=eo _ _ hS
 have qY:=eo _ _ hT
 rcases b9 h aA with hs | ⟨xs,e⟩
 rotate_left
 ·rw[e] at hk;split at hk <;> first | (cases hk;done) | (split at hk <;> first | (cases hk;done) | (simp[kx] at hk;done))
 split at hk
 ·rename_i k
  split at hk
  ·rename_i k' n hv
   rw[hv] at hs
   have e:=qA hs
   split at hk
   ·rename_i KU
    obtain ⟨dS,hd,_⟩:=qg qO
    refine cn (v:=.int k (k.wrap (jg k' n))) (fun w' _=>?_) (aW h hk ⟨[_],rfl,by simp only[Ro,kG]⟩ (fun _ _ _ _ e=>by cases e))
    unfold execOp
    simp only[ho,e,Sem.run_bind]
    have:(convert s t (.int k' (jg k' n))).run P w'=.ok (.int k (k.wrap (jg k' n))) w':=by
     unfold convert
     simp only[Sem.run_bind,run_underlying hd,run_underlying (jB qY),Result.andThen_ok]
     cases dS <;> rfl
    simp only[this,Result.andThen_ok,Sem.run_pure]
   ·cases hk
  ·cases hk
 ·split at hk
  ·split at hk
   ·rename_i b hv
    rw[hv] at hs
    have e:=qz hs
    refine cn (v:=.string ⟨List.toArray b⟩) (fun w' _=>?_) (aW h hk ⟨[_],rfl,rfl⟩ (fun _ _ _ _ e=>by cases e))
    unfold execOp
    have:(convert s t (.string ⟨List.toArray b⟩)).run P w'=.ok (.string ⟨List.toArray b⟩) w':=by
     unfold convert
     simp only[Sem.run_bind,run_underlying (f0 qO),run_underlying (f0 qY),Result.andThen_ok]
     rfl
    simp only[ho,e,Sem.run_bind,this,Result.andThen_ok,Sem.run_pure]
   ·cases hk
  ·obtain ⟨v,cs,hk,h1,Y⟩:=Ew h hs hk
   obtain ⟨el,hu,_,hle⟩:=mm qO
   obtain ⟨xa,cap,q1,q2,q3,q4⟩:=Y
   subst q1
   rw[bq _ _ rfl] at h1
   have v8:List UInt8:=v
   have da:∀ w',lO o w w'->(convert s t (a.eval y)).run P w'=.ok (.string ⟨List.toArray v⟩) w':=fun w' j0=>by
    have j0:=j0 (by rw[ho];rfl)
    rw[h1]
    cases xa with
    | none=>
     have:v=[]:=List.eq_nil_of_length_eq_zero (q3 rfl)
     subst this
     exact run_convert_bytes_nil w' s el hu (jB hle) _ _ t (f0 qY)
    | some ad=>
     obtain ⟨g1,g2⟩:=q4 _ rfl
     refine run_convert_bytes_back w' s t el _ cap v hu (jB hle) (f0 qY) fun j hj=>?_
     obtain ⟨L,l1,l2,l3⟩:=g2 j _ (List.getElem?_eq_getElem hj)
     simp only[Ro] at l3
     subst l3
     have:=(l2 0 _ rfl).1
     obtain ⟨b,off,sp⟩:=ad
     have jh:=g1 (by omega)
     simp only at jh
     subst jh
     rw[jH]
     simp only[Ty.sz,Nat.mul_one,Nat.add_zero] at this
     exact mZ (j0.cell _ _ (oD this) rfl _ this) rfl
   refine cn (v:=.string ⟨List.toArray v⟩) (fun w' j0=>?_) (aW h hk ⟨[_],rfl,rfl⟩ (fun _ _ _ _ e=>by cases e))
   unfold execOp
   simp only[ho,Sem.run_bind,da w' j0,Result.andThen_ok,Sem.run_pure]
  ·cases hk
 ·have:=EF _ hT
  simp[Ty.flat] at this
 ·cases hk
theorem xR (h:bu P C A σ a w F) (eo:∀ i T,E.TI i=some T->aD P T (.inl i)=true) {s t:Nat} {y:Operand} (ho:o.op=.convert s t y) (aA:bn P y=true) (EF:∀ T,E.TI t=some T->T.flat=true) (ve:(match bs σ y with | .val (.int _) _=>true | .val .str _=>true | .val (.U (.int .u8)) _=>true | _=>false)=true) {K:St->Option R}
  (hk:sV E σ s t (bs σ y) o.dst K=some x) :
  ∃ v,(∀ w',(∀ b i,A b i->∀ u,ce w b i=some u->ce w' b i=some u)->(execOp a.eval o).run P w'=.ok (.value v) w')/\Nx P C K x (a.put o.dst v) w:=by
 unfold sV at hk
 obtain ⟨S,hS,hk⟩:=cm hk
 obtain ⟨T,hT,hk⟩:=cm hk
 have qO:=eo _ _ hS
 have qY:=eo _ _ hT
 rcases b9 h aA with hs | ⟨xs,e⟩
 rotate_left
 ·rw[e] at hk;split at hk <;> first | (cases hk;done) | (split at hk <;> first | (cases hk;done) | (simp[kx] at hk;done))
 split at hk
 ·rename_i k
  split at hk
  ·rename_i k' n hv
   rw[hv] at hs
   have e:=qA hs
   split at hk
   ·rename_i KU
    obtain ⟨dS,hd,_⟩:=qg qO
    refine ⟨.int k (k.wrap (jg k' n)),(fun w' _=>?_),aW h hk ⟨[_],rfl,by simp only[Ro,kG]⟩ (fun _ _ _ _ e=>by cases e)⟩
    unfold execOp
    simp only[ho,e,Sem.run_bind]
    have:(convert s t (.int k' (jg k' n))).run P w'=.ok (.int k (k.wrap (jg k' n))) w':=by
     unfold convert
     simp only[Sem.run_bind,run_underlying hd,run_underlying (jB qY),Result.andThen_ok]
     cases dS <;> rfl
    simp only[this,Result.andThen_ok,Sem.run_pure]
   ·cases hk
  ·cases hk
 ·split at hk
  ·split at hk
   ·rename_i b hv
    rw[hv] at hs
    have e:=qz hs
    refine ⟨.string ⟨List.toArray b⟩,(fun w' _=>?_),aW h hk ⟨[_],rfl,rfl⟩ (fun _ _ _ _ e=>by cases e)⟩
    unfold execOp
    have:(convert s t (.string ⟨List.toArray b⟩)).run P w'=.ok (.string ⟨List.toArray b⟩) w':=by
     unfold convert
     simp only[Sem.run_bind,run_underlying (f0 qO),run_underlying (f0 qY),Result.andThen_ok]
     rfl
    simp only[ho,e,Sem.run_bind,this,Result.andThen_ok,Sem.run_pure]
   ·cases hk
  ·have HO:∃ v',bs σ y=.val (.U (.int .u8)) v':=by
    split at ve
    ·rename_i e;rw[e] at hk;simp[kx,dT] at hk
    ·rename_i e;rw[e] at hk;simp[kx,dT] at hk
    ·rename_i v' e;exact ⟨v',e⟩
    ·cases ve
   obtain ⟨v,hv⟩:=HO
   rw[hv] at hs hk
   simp only[kx] at hk
   obtain ⟨_,hk⟩:=a8 hk
   obtain ⟨cs,h1,Y⟩:=hs
   obtain ⟨el,hu,_,hle⟩:=mm qO
   obtain ⟨xa,cap,q1,q2,q3,q4⟩:=Y
   subst q1
   rw[bq _ _ rfl] at h1
   have v8:List UInt8:=v
   have da:∀ w',(∀ b i,A b i->∀ u,ce w b i=some u->ce w' b i=some u)->(convert s t (a.eval y)).run P w'=.ok (.string ⟨List.toArray v⟩) w':=fun w' j0=>by
    rw[h1]
    cases xa with
    | none=>
     have:v=[]:=List.eq_nil_of_length_eq_zero (q3 rfl)
     subst this
     exact run_convert_bytes_nil w' s el hu (jB hle) _ _ t (f0 qY)
    | some ad=>
     obtain ⟨g1,g2⟩:=q4 _ rfl
     refine run_convert_bytes_back w' s t el _ cap v hu (jB hle) (f0 qY) fun j hj=>?_
     obtain ⟨L,l1,l2,l3⟩:=g2 j _ (List.getElem?_eq_getElem hj)
     simp only[Ro] at l3
     subst l3
     have n7:=l2 0 _ rfl
     obtain ⟨b,off,sp⟩:=ad
     have jh:=g1 (by omega)
     simp only at jh
     subst jh
     rw[jH]
     simp only[Ty.sz,Nat.mul_one,Nat.add_zero] at n7
     exact mZ (j0 _ _ n7.2 _ n7.1) rfl
   refine ⟨.string ⟨List.toArray v⟩,(fun w' j0=>?_),aW h hk ⟨[_],rfl,rfl⟩ (fun _ _ _ _ e=>by cases e)⟩
   unfold execOp
   simp only[ho,Sem.run_bind,da w' j0,Result.andThen_ok,Sem.run_pure]
  ·cases hk
 ·have:=EF _ hT
  simp[Ty.flat] at this
 ·cases hk
theorem DA (h:bu P C A σ a w F) (eo:∀ i T,E.TI i=some T->aD P T (.inl i)=true) {s t:Nat} {y:Operand} (ho:o.op=.convert s t y) (aA:bn P y=true) {K:St->Option R}
  (hk:sV E σ s t (bs σ y) o.dst K=some x):o.wp P a w (fun a' w'=>Nx P C K x a' w'/\Ext w w' (fun _ _=>0)) Q:=by
 unfold sV at hk
 obtain ⟨S,hS,hk⟩:=cm hk
 obtain ⟨T,hT,hk⟩:=cm hk
 have qO:=eo _ _ hS
 have qY:=eo _ _ hT
 rcases b9 h aA with hs | ⟨xs,e⟩
 rotate_left
 ·rw[e] at hk;split at hk <;> first | (cases hk;done) | (split at hk <;> first | (cases hk;done) | (simp[kx] at hk;done))
 split at hk
 ·rename_i k
  split at hk
  ·rename_i k' n hv
   rw[hv] at hs
   have e:=qA hs
   split at hk
   ·rename_i KU
    obtain ⟨dS,hd,_⟩:=qg qO
    refine hY (v:=.int k (k.wrap (jg k' n))) (w':=w) ?_ ⟨aW h hk ⟨[_],rfl,by simp only[Ro,kG]⟩ (fun _ _ _ _ e=>by cases e),Ext.refl _ _⟩
    unfold execOp
    simp only[ho,e,Sem.run_bind]
    have:(convert s t (.int k' (jg k' n))).run P w=.ok (.int k (k.wrap (jg k' n))) w:=by
     unfold convert
     simp only[Sem.run_bind,run_underlying hd,run_underlying (jB qY),Result.andThen_ok]
     cases dS <;> rfl
    simp only[this,Result.andThen_ok,Sem.run_pure]
   ·cases hk
  ·cases hk
 ·split at hk
  ·split at hk
   ·rename_i b hv
    rw[hv] at hs
    have e:=qz hs
    refine hY (v:=.string ⟨List.toArray b⟩) (w':=w) ?_ ⟨aW h hk ⟨[_],rfl,rfl⟩ (fun _ _ _ _ e=>by cases e),Ext.refl _ _⟩
    unfold execOp
    have:(convert s t (.string ⟨List.toArray b⟩)).run P w=.ok (.string ⟨List.toArray b⟩) w:=by
     unfold convert
     simp only[Sem.run_bind,run_underlying (f0 qO),run_underlying (f0 qY),Result.andThen_ok]
     rfl
    simp only[ho,e,Sem.run_bind,this,Result.andThen_ok,Sem.run_pure]
   ·cases hk
  ·obtain ⟨v,cs,hk,h1,Y⟩:=Ew h hs hk
   obtain ⟨el,hu,_,hle⟩:=mm qO
   obtain ⟨xa,cap,q1,q2,q3,q4⟩:=Y
   subst q1
   rw[bq _ _ rfl] at h1
   have v8:List UInt8:=v
   have da:(convert s t (a.eval y)).run P w=.ok (.string ⟨List.toArray v⟩) w:=by
    rw[h1]
    cases xa with
    | none=>
     have:v=[]:=List.eq_nil_of_length_eq_zero (q3 rfl)
     subst this
     exact run_convert_bytes_nil w s el hu (jB hle) _ _ t (f0 qY)
    | some ad=>
     obtain ⟨g1,g2⟩:=q4 _ rfl
     refine run_convert_bytes_back w s t el _ cap v hu (jB hle) (f0 qY) fun j hj=>?_
     obtain ⟨L,l1,l2,l3⟩:=g2 j _ (List.getElem?_eq_getElem hj)
     simp only[Ro] at l3
     subst l3
     have:=(l2 0 _ rfl).1
     obtain ⟨b,off,sp⟩:=ad
     have jh:=g1 (by omega)
     simp only at jh
     subst jh
     rw[jH]
     simp only[Ty.sz,Nat.mul_one,Nat.add_zero] at this
     exact mZ (this) rfl
   refine hY (v:=.string ⟨List.toArray v⟩) (w':=w) ?_ ⟨aW h hk ⟨[_],rfl,rfl⟩ (fun _ _ _ _ e=>by cases e),Ext.refl _ _⟩
   unfold execOp
   simp only[ho,Sem.run_bind,da,Result.andThen_ok,Sem.run_pure]
  ·cases hk
 ·split at hk
  ·rename_i b hv
   rw[hv] at hs
   have e:=qz hs
   split at hk
   ·rename_i KU
    rw[KU] at qO
    split at hk
    rotate_left
    ·cases hk
    rename_i km
    obtain ⟨el,hu,_,hle⟩:=mm qY
    have da:=run_bytes_of_string (P:=P) w s t el ⟨List.toArray b⟩ (f0 qO) hu (jB hle)
    have hlen:(⟨List.toArray b⟩:ByteArray).size=List.length b:=rfl
    have HP:=grownCap_ge w (List.length b) 0 el
    have Bu:=grownCap_le_maxLen w (List.length b) 0 el (by simp only[bm] at km;simp only[maxLen];omega)
    rw[hlen] at da
    have ez:(bytesRow ⟨List.toArray b⟩ (grownCap w (List.length b) 0 el)).size=grownCap w (List.length b) 0 el:=by
     simp[bytesRow,ByteArray.size];omega
    refine hY ?_ ⟨v_ (h.drew) (K:=K) (d:=o.dst) (e:=.int .u8) (v:=b) (m:=.leaf) (Fi:=fun _ _ _=>0) (cap:=grownCap w (List.length b) 0 el) (el:=el) (fr:=((bytesRow ⟨List.toArray b⟩ (grownCap w (List.length b) 0 el)).size,(bytesRow ⟨List.toArray b⟩ (grownCap w (List.length b) 0 el)).size+1)) (c:=bytesRow ⟨List.toArray b⟩ (grownCap w (List.length b) 0 el)) (.inl ⟨rfl,Nat.le_refl _⟩) hk
     (by rw[ez];simp[Ty.sz]) Bu HP (fun b i=>by rw[gC];exact Nat.le_refl _) (fun i y hy=>?_),(BO w).trans (iE w.drew _) (fun _ _ _ _=>rfl)⟩
    ·unfold execOp
     simp only[ho,e,Sem.run_bind,da,Result.andThen_ok,Sem.run_pure]
     rfl
    ·have hi:=(List.getElem?_eq_some_iff.1 hy).1
     have hb:=bytesRow_at ⟨List.toArray b⟩ (grownCap w (List.length b) 0 el) i (by simpa using hi)
     refine ⟨[.int .u8 (UInt8.toNat y)],rfl,fun j u hu=>?_,rfl⟩
     have hj:j=0:=by have:=(List.getElem?_eq_some_iff.1 hu).1;simpa using this
     subst hj
     simp only[Ty.sz,Nat.mul_one,Nat.add_zero,hb]
     have:=(List.getElem?_eq_some_iff.1 hy).2
     simp at hu ⊢
     rw[this,hu]
   ·cases hk
  ·cases hk
 ·cases hk
end
end OT
set_option linter.unusedVariables false
set_option linter.unusedSimpArgs false
namespace OT
open Go
section
variable {P:Program} {C:Ctx} {A:Cells} {X:FP} {σ:St} {a:Act} {w:World} {F:Nat->FP} {R:Type} {x:R} {Q:Exit->Act->World->Prop} {o:Oper} {E:Env}
theorem BQ (h:bu P C A σ a w F) {i j:Nat} (ho:o.op=.extract (.tmp i) j) {K:St->Option R}
  (hk:(match σ.get i with
   | .kC xs=>match xs[j]? with
    | some x=>if x.t=.unit then none else K ((σ.put i (.kC (xs.set j ⟨.unit,.leaf,()⟩))).aQ o.dst (laid x.t x.m x.v))
    | none=>none
   | _=>none)=some x):Tk P o a w (Nx P C K x):=by
 split at hk
 ·rename_i xs hg
  split at hk
  ·rename_i y hy
   split at hk
   ·cases hk
   ·rename_i Rw
    have hi:i < σ.n:=by
     rcases Nat.lt_or_ge i σ.n with hi | hi
     ·exact hi
     ·rw[e8 (Nat.not_lt.2 hi)] at hg;cases hg
    have hs:=h.dj i hi
    rw[hg] at hs
    obtain ⟨vs,Fi,h1,Y,h3⟩:=hs
    obtain ⟨v,h4,h5⟩:=h3 j y hy
    rcases h5 with h5 | ⟨cs,h6,h7⟩
    ·exact absurd h5 Rw
    have hj:=(List.getElem?_eq_some_iff.1 hy).1
    have nM:=h.put hi (s:=.kC (xs.set j ⟨.unit,.leaf,()⟩)) (v:=tmp a i) (Fd:=az xs.length (bW Fi j fun _ _=>0)) (X':=Fi j)
     ⟨vs,bW Fi j fun _ _=>0,h1,fun b k=>by rw[List.length_set];exact Nat.le_refl _,fun k y' uP=>by
      rw[List.getElem?_set] at uP
      split at uP
      ·rename_i e;subst e
       injection uP with uP;subst uP;exact ⟨v,h4,.inl rfl⟩
      ·rename_i ey
       obtain ⟨v',g1,g2⟩:=h3 k y' uP
       refine ⟨v',g1,?_⟩
       have:bW Fi j (fun _ _=>0) k=Fi k:=by simp only[bW];rw[if_neg (fun e=>ey e.symm)]
       rw[this];exact g2⟩
     (fun b k=>by have:=lN Fi hj (fun _ _=>0) b k;have:=Y b k;omega) (fun t m H v e=>by cases e)
    rw[kf] at nM
    refine cn (v:=v) ?_ ?_
    ·unfold execOp
     have e:a.eval (.tmp i)=.tuple vs:=h1
     simp[ho,e,Instr.extract,h4]
    ·rw[h6]
     exact qT nM hk h7 (fun b i=>Nat.le_refl _)
  ·cases hk
 ·cases hk
theorem Rel.Qh (h:Rel P C A X σ a w F) {d n:Nat} (hd:∀ R,bi w (tmp a d) (σ.get d)=some R->bf R.t R.cs=C.args.getD n undef):Rel P C A X { σ with av:=(d,n,true)::σ.av } a w F:=by
 have gD:o9 σ a w { σ with av:=(d,n,true)::σ.av } a w:=fun r p snap hb=>⟨hb,fun aA=>⟨aA,fun hl pl dO=>⟨pl.H,pl.cs,dO,fun _=>rfl⟩⟩⟩
 refine ⟨h.size,h.defers,fun i hi=>a7.fY gD (fun _ _ h=>h) (fun _ _ _ _ h=>h) (fun _ _ h=>h) (fun _ _ _=>⟨fun _ h=>h,rfl⟩) (h.dj i hi),fun d r p snap hm=>ke.fY gD (h.gh d r p snap hm),h.iD,h.jn,h.eh,h.ft,h.ext,h.own,h.a0,h.a1,fun j k hm=>?_,fun r t m H v hg hl=>h.whole r t m H v hg fun k hm=>hl k (List.mem_cons_of_mem _ hm),fun j k hm R hR=>?_⟩
 ·rcases List.mem_cons.1 hm with e | hm
  ·injection e with e1 e2;injection e2 with e2 e3;cases e3
  ·exact h.ii j k hm
 ·rcases List.mem_cons.1 hm with e | hm
  ·injection e with e1 e2;injection e2 with e2 e3
   subst e1;subst e2
   exact hd R hR
  ·exact h.gt j k hm R hR
theorem FL {l:List (Nat×Nat×Bool)} {i n:Nat} (h:xu l i=some n):(i,n,true) ∈ l:=by
 induction l with
 | nil=>cases h
 | cons y l ih=>
  obtain ⟨k,m,b⟩:=y
  simp only[xu] at h
  split at h
  ·rename_i hc
   simp only[Bool.and_eq_true,Nat.beq_eq] at hc
   injection h with h
   rw[<-hc.1,<- h,hc.2];exact List.mem_cons_self
  ·exact List.mem_cons_of_mem _ (ih h)
theorem LO (h:bu P C A σ a w F) {t:Nat} {y:Operand} (ho:o.op=.box t y) (aA:bn P y=true) {mv:Bool} {K:St->Option R}
  (hk:(jm E t fun t=>gy σ (bs σ y) mv t fun m v σ'=>K (Bk σ y o.dst (σ'.aQ o.dst (.box t m [] v))))=some x):o.wp P a w (fun a' w'=>Nx P C K x a' w'/\Ext w w' (fun _ _=>0)) Q:=by
 obtain ⟨T,hT,hk⟩:=cm hk
 rcases b9 h aA with hs | ⟨xs,e⟩
 rotate_left
 ·rw[e] at hk;simp[gy] at hk
 have xS:=hk
 obtain ⟨A',σ',F',m,v,cs,Fv,k1,k2,k3,k4,kr,k5,k6⟩:=mK h hs hk
 have hl:=ai.length _ k6
 have gY:=ai.one _ k6
 have KK:(bf T cs).cells=cs.toArray:=by apply Array.ext';simpa using fu hl gY
 obtain ⟨A2,F2,hF⟩:=EE k3 (K:=fun s=>some s) (x:=σ'.aQ o.dst (.box T m [] v)) (d:=o.dst) t rfl k6 (fun b i=>by omega)
 refine hY (v:=.pointer (some ⟨w.heap.size,0,none⟩)) (w':=w.alloc (.cells cs.toArray t)) ?_ ?_
 ·unfold execOp
  simp[ho,Instr.box,newVar,newRow,k5,KK]
 ·refine ⟨⟨_,k1,A2,F2,?_⟩,iE w _⟩
  clear hk
  unfold Bk
  split
  ·rename_i i d hd
   split
   ·rename_i t0 m0 H0 v0 hg
    split
    ·rename_i n hn
     rw[hd] at hF ⊢
     refine Rel.Qh hF fun R hR=>?_
     have fV:=h.gt i n (FL hn) ⟨t0,H0,(tmp a i).cells.toList,none⟩ (by rw[hg];rfl)
     have eo:tmp a i=bf T cs:=k5
     have Rx:t0=T:=by
      simp only[bs,hg] at xS
      unfold gy at xS
      simp only at xS
      split at xS
      ·simp only[jz,ot,hg,gW] at xS
       split at xS
       ·exact (a8 xS).1
       ·cases xS
      ·cases xS
     subst Rx
     simp only[eo,fu hl gY] at fV
     simp only[St.aQ,o_] at hR
     split at hR
     ·rename_i hc
      have Ry:tmp (a.put (some d) (.pointer (some ⟨w.heap.size,0,none⟩))) d=.pointer (some ⟨w.heap.size,0,none⟩):=by
       rw[hU,if_pos ⟨rfl,by rw[h.size,<- k4];exact hc.2⟩]
      rw[Ry] at hR
      simp only[bi,Option.some.injEq] at hR
      subst hR
      have hh:=rI w cs.toArray t (0,0) (k:=0) (L:=cs) (fun j u hu=>by simpa using hu) gY
      show bf _ (rd _ _ _ _)=_
      rw[bt hh hl];exact fV
     ·rename_i hc
      have HP:σ'.n<=d:=by
       rcases Nat.lt_or_ge d σ'.n with h1 | h1
       ·exact absurd (by simpa using h1) hc
       ·exact h1
      rw[e8 (Nat.not_lt.2 HP)] at hR;cases hR
    ·exact hF
   ·exact hF
  ·exact hF
end
end OT
set_option linter.unusedVariables false
set_option linter.unusedSimpArgs false
namespace OT
open Go
section
variable {P:Program} {C:Ctx} {A:Cells} {X:FP} {σ:St} {a:Act} {w:World} {F:Nat->FP} {R:Type} {x:R} {Q:Exit->Act->World->Prop} {o:Oper} {E:Env}
theorem Rel.giveUp (h:Rel P C A X σ a w F) {A1:Cells} {X1:FP} (hA:∀ b i,A b i->A1 b i) (uZ:∀ b i,A1 b i->A b i\/(1<=X b i/\X1 b i=0)) (hX:∀ b i,X1 b i<=X b i):Rel P C A1 X1 σ a w F:=by
 have gD:o9 σ a w σ a w:=fun r p snap hb=>⟨hb,fun aA=>⟨aA,fun hl pl dO=>⟨pl.H,pl.cs,dO,fun _=>rfl⟩⟩⟩
 refine ⟨h.size,h.defers,fun i hi=>a7.fY gD hA (fun _ _ _ _ h=>h) (fun _ _ h=>h) (fun _ _ _=>⟨fun _ h=>h,rfl⟩) (h.dj i hi),h.gh,fun b i=>by have:=h.iD b i;have:=hX b i;omega,
  fun b i hp ha=>?_,fun b i hp=>?_,h.ft,h.ext,fun b i hp=>h.own b i (by have:=hX b i;omega),fun b i ha=>hA b i (h.a0 b i ha),fun b i ha=>?_,h.ii,h.whole,h.gt⟩
 ·rcases uZ b i ha with ha | ha
  ·exact h.jn b i (by have:=hX b i;omega) ha
  ·have:=h.iD b i;omega
 ·rcases hp with hp | ha
  ·exact h.eh b i (.inl (by have:=hX b i;omega))
  ·rcases uZ b i ha with ha | ha
   ·exact h.eh b i (.inr ha)
   ·exact h.eh b i (.inl (by omega))
 ·rcases uZ b i ha with ha | ha
  ·exact h.a1 b i ha
  ·exact .inr (h.own b i (by omega))
theorem HQ {off:Nat} {l cs:List Value} (h:off+l.length<=cs.length) :
  ((l.toArray.zipIdx).foldl (fun cs (x:Value×Nat)=>cs.setIfInBounds (off+x.2) x.1) cs.toArray)=(cs.take off++l++cs.drop (off+l.length)).toArray:=by
 obtain ⟨h1,Y⟩:=Great.foldl_set off l 0 cs.toArray
 have e:(l.toArray.zipIdx).foldl (fun cs (x:Value×Nat)=>cs.setIfInBounds (off+x.2) x.1) cs.toArray=(l.zipIdx 0).foldl (fun cs (x:Value×Nat)=>cs.setIfInBounds (off+x.2) x.1) cs.toArray:=by simp
 rw[e]
 apply Array.ext_getElem?
 intro k
 rw[Y k]
 simp only[Nat.add_zero,List.size_toArray,List.getElem?_toArray]
 by_cases hk:k < off
 ·rw[if_neg (by omega),List.append_assoc,List.getElem?_append_left (by simp;omega),List.getElem?_take_of_lt hk]
 ·by_cases gr:k < off+l.length
  ·rw[if_pos (by omega),List.append_assoc,List.getElem?_append_right (by simp;omega)]
   have:(cs.take off).length=off:=by simp;omega
   rw[this,List.getElem?_append_left (by omega)]
  ·rw[if_neg (by omega),List.getElem?_append_right (by simp;omega)]
   have:(cs.take off++l).length=off+l.length:=by simp;omega
   rw[this,List.getElem?_drop]
   congr 1;omega
theorem vf {pl:Nat->Option (Nat×Nat)} {j off sz:Nat} (hp:pl j=some (off,sz)) {t:Ty} {l cs:List Value} (hl:l.length=sz) (h1:(bf t l).cells.toList=l) (h:off+sz<=cs.length) (rest:List (Nat×Value)) :
  Instr.fill pl cs.toArray ((j,bf t l)::rest)=Instr.fill pl (cs.take off++l++cs.drop (off+sz)).toArray rest:=by
 have hc:(bf t l).cells=l.toArray:=Array.ext' (by simpa using h1)
 rw[Instr.fill,hp]
 simp only[hc,List.size_toArray,hl,ne_eq,not_true_eq_false,decide_false,Bool.false_or]
 rw[if_neg (by simp;omega)]
 have:=HQ (off:=off) (l:=l) (cs:=cs) (by omega)
 rw[hl] at this
 rw[<-this]
theorem HR:∀ (n:Nat) (t:Ty) {t':Ty} {m m':Md} {v:t.den} {y:t'.den} {cs ys:List Value} {G H:FP} {K:Md->t.den->Option R},ai P w A t m [] v cs G->ai P w A t' m' [] y ys H ->
  uD n t m v t' m' y K=some x->∃ m2 v2,K m2 v2=some x/\ai P w A t m2 [] v2 (cs.take (dm n t)++ys++cs.drop (dm n t+t'.sz)) (fun b i=>G b i+H b i)/\dm n t+t'.sz<=cs.length:=by
 intro n
 induction n with
 | zero=>
  intro t t' m m' v y cs ys G H K hr hy hk
  cases t with
  | pair a b=>
   simp only[uD] at hk
   obtain ⟨e,hk⟩:=a8 hk;subst e
   have hl:=ai.length _ hr
   have EG:=ai.length _ hy
   obtain ⟨h0,F1,F2,hs,h1,Y⟩:=hr
   refine ⟨_,_,hk,⟨rfl,H,F2,fun b i=>by have:=hs b i;show H b i+F2 b i<=G b i+H b i;omega,?_,?_⟩,?_⟩
   ·simp only[dm,List.take_zero,List.nil_append,Nat.zero_add,List.filterMap_nil,Md.l]
    rw[List.take_left' EG];exact hy
   ·simp only[dm,List.take_zero,List.nil_append,Nat.zero_add,List.filterMap_nil,Md.r]
    rw[List.drop_left' EG];exact Y
   ·simp only[dm,Ty.sz] at hl ⊢;omega
  | _=>cases hk
 | succ n ih=>
  intro t t' m m' v y cs ys G H K hr hy hk
  cases t with
  | pair a b=>
   simp only[uD] at hk
   have hl:=ai.length _ hr
   obtain ⟨h0,F1,F2,hs,h1,Y⟩:=hr
   obtain ⟨m2,v2,k1,k2,k3⟩:=ih b Y hy hk
   simp only[List.length_drop] at k3
   simp only[Ty.sz] at hl
   refine ⟨_,_,k1,⟨rfl,F1,fun b i=>F2 b i+H b i,fun b i=>by have:=hs b i;show F1 b i+(F2 b i+H b i)<=G b i+H b i;omega,?_,?_⟩,?_⟩
   ·simp only[dm,List.filterMap_nil,Md.l]
    have:(cs.take (a.sz+dm n b)++ys++cs.drop (a.sz+dm n b+t'.sz)).take a.sz=cs.take a.sz:=by
     rw[List.append_assoc,List.take_append_of_le_length (by simp;omega),List.take_take,Nat.min_eq_left (by omega)]
    rw[this];exact h1
   ·simp only[dm,List.filterMap_nil,Md.r]
    have:(cs.take (a.sz+dm n b)++ys++cs.drop (a.sz+dm n b+t'.sz)).drop a.sz=(cs.drop a.sz).take (dm n b)++ys++(cs.drop a.sz).drop (dm n b+t'.sz):=by
     rw[List.append_assoc,List.drop_append_of_le_length (by simp;omega),List.drop_take,List.drop_drop,List.append_assoc]
     rw[show a.sz+dm n b - a.sz=dm n b by omega,show a.sz+(dm n b+t'.sz)=a.sz+dm n b+t'.sz by omega]
    rw[this];exact k2
   ·simp only[dm];omega
  | _=>cases hk
theorem BR {α β:Type} (g:α->Option β):∀ (l:List α) (ps:List β),l.mapM g=some ps->∀ (j:Nat) (f:α),l[j]?=some f->ps[j]?=g f
 | [],ps,h,j,f,hf=>by cases hf
 | y::l,ps,h,j,f,hf=>by
  simp only[List.mapM_cons,Option.bind_eq_bind,Option.pure_def] at h
  cases hy:g y with
  | none=>simp[hy] at h
  | some z=>
   cases hr:l.mapM g with
   | none=>simp[hy,hr] at h
   | some r=>
    simp only[hy,hr,Option.bind_some,Option.some.injEq] at h
    subst h
    cases j with
    | zero=>injection hf with hf;subst hf;exact hy.symm
    | succ j=>exact BR g l r hr j f hf
theorem FM:∀ (t:Ty) {fs:List Field} {off:Nat},aD P t (.inr (fs,off))=true->∃ ps,fs.mapM (fun f=>(P.info? f.type).map fun i=>(f.offset,i.size))=some ps:=by
 intro t
 induction t with
 | unit=>
  intro fs off h
  simp only[aD,List.isEmpty_iff] at h
  subst h
  exact ⟨[],rfl⟩
 | pair a b eg dZ=>
  intro fs off h
  cases fs with
  | nil=>simp[aD] at h
  | cons f r=>
   simp only[aD,Bool.and_eq_true] at h
   obtain ⟨ps,mM⟩:=dZ h.2
   obtain ⟨inf,hi,_⟩:=eJ (gc h.1.2)
   exact ⟨(f.offset,inf.size)::ps,by simp[hi,mM]⟩
 | _=>intro fs off h;simp[aD] at h
theorem AE {T:Ty} {i:TypeId} (hl:aD P T (.inl i)=true) {j:Nat} {t':Ty} (hj:mq j T=some t') :
  ∃ fs ps,P.underlying i=some (.struct fs)/\fs.toList.mapM (fun f=>(P.info? f.type).map fun i=>(f.offset,i.size))=some ps/\∀ j t',mq j T=some t'->ps.toArray[j]?=some (dm j T,t'.sz):=by
 cases T with
 | pair a b=>
  have Pk:=hl
  simp only[aD,Bool.and_eq_true] at hl
  have Y:=hl.2
  split at Y
  ·rename_i fs hu
   split at Y
   ·rename_i f r va
    have h3:aD P (.pair a b) (.inr (f::r,0))=true:=by
     simp only[aD,Nat.zero_add];exact Y
    obtain ⟨ps,mM⟩:=FM _ h3
    refine ⟨fs,ps,hu,by rw[va];exact mM,fun j t' hj=>?_⟩
    obtain ⟨f',q1,q2,q3,q4⟩:=EB j (.pair a b) h3 hj
    have:=BR _ _ _ mM j f' q1
    obtain ⟨inf,hi,hs,_⟩:=eJ (gc q3)
    simp only[List.getElem?_toArray,this,hi,Option.map_some,hs,q2,Nat.zero_add]
   ·cases Y
  ·cases Y
 | _=>cases j <;> cases hj
theorem HS {T:Ty} {fz:Nat->Bool} {pl:Nat->Option (Nat×Nat)} (dO:∀ j t',mq j T=some t'->pl j=some (dm j T,t'.sz)) {K:Md->T.den->St->Option R} :
  ∀ (ps:List (Nat×Operand)) {n:Nat} {σ:St} {A:Cells} {X:FP} {F:Nat->FP} {m:Md} {v:T.den} {cs:List Value},ps.all (fun p=>bn P p.2)=true->Rel P C A X σ a w F->ai P w A T m [] v cs X ->
   uE E σ T fz ps n m v K=some x->∃ A' σ' F' m' v' aJ X',K m' v' σ'=some x/\Rel P C A' X' σ' a w F'/\ai P w A' T m' [] v' aJ X'/\Instr.fill pl cs.toArray (ps.map fun p=>(p.1,a.eval p.2))=some aJ.toArray:=by
 intro ps
 induction ps with
 | nil=>intro n σ A X F m v cs aA h hr hk;exact ⟨A,σ,F,m,v,cs,X,hk,h,hr,rfl⟩
 | cons p ps ih=>
  intro n σ A X F m v cs aA h hr hk
  obtain ⟨j,y⟩:=p
  simp only[List.all_cons,Bool.and_eq_true] at aA
  simp only[uE] at hk
  split at hk
  ·rename_i t' uo
   rcases b9 h aA.1 with hs | ⟨xs,e⟩
   rotate_left
   ·rw[e] at hk;simp[gy] at hk
   obtain ⟨A1,ji,F1,m1,v1,ij,Fv,k1,k2,k3,k4,kr,k5,k6⟩:=mK h hs hk
   have mF:=ai.mono (P:=P) (A':=A1) k2 (fun _ _ _ _ h=>h) (fun _ _ h=>h) T hr (fun _ _=>Nat.le_refl _) (fun _ _ _ _ h=>h)
   obtain ⟨m2,v2,q1,q2,q3⟩:=HR j T mF k6 k1
   obtain ⟨A',σ',F',m',v',aJ,X',g1,g2,g3,g4⟩:=ih aA.2 k3 q2 q1
   refine ⟨A',σ',F',m',v',aJ,X',g1,g2,g3,?_⟩
   rw[List.map_cons,k5,vf (dO j t' uo) (ai.length _ k6) (fu (ai.length _ k6) (ai.one _ k6)) q3]
   exact g4
  ·cases hk
theorem LP {n j:Nat} {e:Ty} {v:List e.den} {y:e.den} {cs ys:List Value} (h:Ro P w A (.arr n e) v cs) (hy:Ro P w A e y ys) (hj:j < v.length) :
  Ro P w A (.arr n e) (v.set j y) (cs.take (j*e.sz)++ys++cs.drop (j*e.sz+e.sz))/\j*e.sz+e.sz<=cs.length:=by
 obtain ⟨h1,Y,h3,h4⟩:=h
 have EG:=Ro.length _ hy
 have hle:j*e.sz+e.sz<=cs.length:=by
  rw[h3,<- Nat.succ_mul];exact Nat.mul_le_mul_right _ (by omega)
 refine ⟨⟨h1,by simpa using Y,by simp only[List.length_append,List.length_take,List.length_drop,EG];omega,fun i z hz=>?_⟩,hle⟩
 rw[List.getElem?_set] at hz
 split at hz
 ·rename_i e1
  subst e1
  first
   | rw[if_pos hj] at hz
   | skip
  injection hz with hz;subst hz
  rw[List.append_assoc,List.drop_left' (by simp;omega),List.take_left' EG];exact hy
 ·rename_i ey
  have h5:=h4 i z hz
  have:((cs.take (j*e.sz)++ys++cs.drop (j*e.sz+e.sz)).drop (i*e.sz)).take e.sz=(cs.drop (i*e.sz)).take e.sz:=by
   rcases Nat.lt_or_ge i j with iX | iX
   ·have h6:i*e.sz+e.sz<=j*e.sz:=by rw[<-Nat.succ_mul];exact Nat.mul_le_mul_right _ (by omega)
    rw[List.append_assoc,List.drop_append_of_le_length (by simp;omega),List.take_append_of_le_length (by simp;omega),List.drop_take,List.take_take,Nat.min_eq_left (by omega)]
   ·have h6:j*e.sz+e.sz<=i*e.sz:=by rw[<-Nat.succ_mul];exact Nat.mul_le_mul_right _ (by omega)
    have h7:(cs.take (j*e.sz)++ys).length=j*e.sz+e.sz:=by simp[EG];omega
    rw[List.drop_append,h7,List.drop_of_length_le (by omega),List.nil_append,List.drop_drop]
    congr 2;omega
  rw[this];exact h5
theorem LQ {n0:Nat} {e:Ty} {fz:Nat->Bool} (hf:e.flat=true) {K:List e.den->St->Option R} :
  ∀ (ps:List (Nat×Operand)) {n:Nat} {σ:St} {A:Cells} {F:Nat->FP} {v:List e.den} {cs:List Value},ps.all (fun p=>bn P p.2)=true->bu P C A σ a w F->Ro P w A (.arr n0 e) v cs ->
   Bg σ e fz ps n v K=some x->∃ A' σ' F' v' aJ,K v' σ'=some x/\bu P C A' σ' a w F'/\Ro P w A' (.arr n0 e) v' aJ/\Instr.fill (fun i=>some (i*e.sz,e.sz)) cs.toArray (ps.map fun p=>(p.1,a.eval p.2))=some aJ.toArray:=by
 intro ps
 induction ps with
 | nil=>intro n σ A F v cs aA h hr hk;exact ⟨A,σ,F,v,cs,hk,h,hr,rfl⟩
 | cons p ps ih=>
  intro n σ A F v cs aA h hr hk
  obtain ⟨j,y⟩:=p
  simp only[List.all_cons,Bool.and_eq_true] at aA
  simp only[Bg] at hk
  rcases b9 h aA.1 with hs | ⟨xs,e⟩
  rotate_left
  ·rw[e] at hk;simp[gy] at hk
  obtain ⟨A1,ji,F1,m1,v1,ij,Fv,k1,k2,k3,k4,kr,k5,k6⟩:=mK h hs hk
  split at k1
  ·rename_i hj
   have mF:Ro P w A1 (.arr n0 e) v cs:=Ro.mono (fun _ _ _ _ h=>h) k2 _ hr
   obtain ⟨q1,q2⟩:=LP mF (ai.flat _ hf k6) hj
   obtain ⟨A',σ',F',v',aJ,g1,g2,g3,g4⟩:=ih aA.2 (k3.less (X':=fun _ _=>0) fun _ _=>Nat.zero_le _) q1 k1
   refine ⟨A',σ',F',v',aJ,g1,g2,g3,?_⟩
   rw[List.map_cons,k5,vf (pl:=fun i=>some (i*e.sz,e.sz)) rfl (ai.length _ k6) (fu (ai.length _ k6) (ai.one _ k6)) q2]
   exact g4
  ·cases k1
theorem FN (h:bu P C A σ a w F) (eo:∀ i T,E.TI i=some T->aD P T (.inl i)=true) {t:Nat} {ps:Array (Nat×Operand)} {fz:Nat->Bool} (ho:o.op=.build t ps) (aA:ps.toList.all (fun p=>bn P p.2)=true) {K:St->Option R}
  (hk:(jm E t fun t=>match t with
  | .arr n e=>if e.nT then Bg σ e fz ps.toList 0 (Ty.arr n e).zero fun v σ=>K (σ.aQ o.dst (laid (.arr n e) (aq (.arr n e)) v)) else none
  | .pair t1 t2=>if (Ty.pair t1 t2).nT then uE E σ (.pair t1 t2) fz ps.toList 0 (aq (.pair t1 t2)) (Ty.pair t1 t2).zero fun m v σ=>K (σ.aQ o.dst (laid (.pair t1 t2) m v)) else none
  | _=>none)=some x):Tk P o a w (Nx P C K x):=by
 obtain ⟨T,hT,hk⟩:=cm hk
 have cy:=eo _ _ hT
 have run:∀ (cells:Array Value),P.built t (ps.map fun (i,x)=>(i,a.eval x)).toList=some cells->∀ w',lO o w w'->(execOp a.eval o).run P w'=.ok (.value (.agg cells)) w':=fun cells hc w' _=>by
  simp[execOp,ho,run_build w' t _ cells hc]
 have mM:(ps.map fun (i,x)=>(i,a.eval x)).toList=ps.toList.map fun p=>(p.1,a.eval p.2):=by simp
 rw[mM] at run
 split at hk
 ·rename_i n e
  split at hk
  ·rename_i hz
   have KV:e.flat=true:=by
    have hl:=cy;simp only[aD,Bool.and_eq_true] at hl;exact hl.1.2
   obtain ⟨L,hL⟩:=nN (.arr n e) (by simpa [Ty.nT] using hz)
   obtain ⟨r1,r2,r3⟩:=td (P:=P) (w:=w) (A:=A) _ hL cy
   obtain ⟨inf,i1,i2,i3,i4⟩:=eJ (gc cy)
   obtain ⟨z,z1,z2⟩:=i4 L hL
   obtain ⟨A',σ',F',v',aJ,g1,g2,g3,g4⟩:=LQ KV ps.toList aA h r2 hk
   have hu:∃ el ie,P.underlying t=some (.array n el)/\P.info? el=some ie/\ie.size=e.sz:=by
    have hl:=cy
    simp only[aD,Bool.and_eq_true] at hl
    have Y:=hl.2
    split at Y
    ·rename_i n' el hu
     simp only[Bool.and_eq_true,Nat.beq_eq] at Y
     obtain ⟨ie,j1,j2,_⟩:=eJ (gc Y.2)
     exact ⟨el,ie,by rw[hu,Y.1.1],j1,j2⟩
    ·cases Y
   obtain ⟨el,ie,u1,u2,u3⟩:=hu
   have BN:z.cells=L.toArray:=Array.ext' (by simpa using z2)
   have e1:bf (.arr n e) aJ=.agg aJ.toArray:=rfl
   refine cn (v:=bf (.arr n e) aJ) (run _ ?_) ?_
   ·unfold Program.built
    simp only[i1,u1,z1,u2,u3,BN]
    exact g4
   ·exact qT g2 g1 (Ro.flat _ (fun _ _=>0) (by simpa [Ty.flat] using KV) g3) (fun _ _=>Nat.le_refl _)
  ·cases hk
 ·rename_i t1 t2
  split at hk
  ·rename_i hz
   obtain ⟨L,hL⟩:=nN (.pair t1 t2) hz
   obtain ⟨r1,r2,r3⟩:=td (P:=P) (w:=w) (A:=A) _ hL cy
   obtain ⟨inf,i1,i2,i3,i4⟩:=eJ (gc cy)
   obtain ⟨z,z1,z2⟩:=i4 L hL
   have BN:z.cells=L.toArray:=Array.ext' (by simpa using z2)
   obtain ⟨fs,Rz,u1,u2,u3⟩:=AE cy (j:=0) rfl
   obtain ⟨A',σ',F',m',v',aJ,X',g1,g2,g3,g4⟩:=HS (pl:=fun j=>Rz.toArray[j]?) u3 ps.toList aA h r1 hk
   refine cn (v:=bf (.pair t1 t2) aJ) (run _ ?_) (qT g2 g1 g3 (fun _ _=>Nat.le_refl _))
   unfold Program.built
   simp only[i1,u1,z1,u2,BN]
   exact g4
  ·cases hk
 ·cases hk
theorem LR {e:Ty} {fz:Nat->Bool} (ez:1<=e.sz) {K:Md->List e.den->St->Option R} :
  ∀ (ps:List (Nat×Operand)) {n:Nat} {σ:St} {A:Cells} {X:FP} {F:Nat->FP} {m:Md} {v:List e.den} {L Z:List Value} {Fi:Nat->FP},ps.all (fun p=>bn P p.2)=true->Rel P C A X σ a w F ->
   List.length v=n->L.length=n*e.sz->Z.length=ps.length*e.sz->(∀ b i,az n Fi b i<=X b i)->(∀ (i:Nat) (y:e.den),v[i]?=some y->ai P w A e m [] y ((L.drop (i*e.sz)).take e.sz) (Fi i)) ->
   wM σ e fz ps n m v K=some x->∃ (A':Cells) (σ':St) (F':Nat->FP) (m':Md) (v':List e.den) (L':List Value) (X':FP) (xT:Nat->FP),K m' v' σ'=some x/\Rel P C A' X' σ' a w F'/\List.length v'=n+ps.length/\L'.length=(n+ps.length)*e.sz/\(∀ b i,az (n+ps.length) xT b i<=X' b i) /\
    (∀ (i:Nat) (y:e.den),v'[i]?=some y->ai P w A' e m' [] y ((L'.drop (i*e.sz)).take e.sz) (xT i))/\Instr.fill (fun i=>some (i*e.sz,e.sz)) (L++Z).toArray (ps.map fun p=>(p.1,a.eval p.2))=some L'.toArray:=by
 intro ps
 induction ps with
 | nil=>
  intro n σ A X F m v L Z Fi aA h hv hL hZ hX hr hk
  have:Z=[]:=by simpa using hZ
  subst this
  exact ⟨A,σ,F,m,v,L,X,Fi,hk,h,hv,hL,hX,hr,by simp[Instr.fill]⟩
 | cons p ps ih=>
  intro n σ A X F m v L Z Fi aA h hv hL hZ hX hr hk
  obtain ⟨j,y⟩:=p
  simp only[List.all_cons,Bool.and_eq_true] at aA
  simp only[wM] at hk
  split at hk
  ·rename_i hj
   have hj:j=n:=by simpa using hj
   subst hj
   rcases b9 h aA.1 with hs | ⟨xs,e⟩
   rotate_left
   ·rw[e] at hk;simp[gy] at hk
   obtain ⟨A1,ji,F1,m1,v1,ij,Fv,k1,k2,k3,k4,kr,k5,k6⟩:=mK h hs hk
   have BS:=ai.length _ k6
   have Pm:Z.length=e.sz+ps.length*e.sz:=by rw[hZ,List.length_cons,Nat.add_mul];omega
   have Pn:∀ {A2:Cells} {X2:FP} {m2:Md} {BT:Nat->FP},Rel P C A2 X2 ji a w F1->(∀ b i,az (j+1) BT b i<=X2 b i)->(∀ (i:Nat) (y:e.den),v[i]?=some y->ai P w A2 e m2 [] y ((L.drop (i*e.sz)).take e.sz) (BT i)) ->
     ai P w A2 e m2 [] v1 ij (BT j)->wM ji e fz ps (j+1) m2 (v++[v1]) K=some x ->
     ∃ (A':Cells) (σ':St) (F':Nat->FP) (m':Md) (v':List e.den) (L':List Value) (X':FP) (xT:Nat->FP),K m' v' σ'=some x/\Rel P C A' X' σ' a w F'/\List.length v'=j+(ps.length+1)/\L'.length=(j+(ps.length+1))*e.sz/\(∀ b i,az (j+(ps.length+1)) xT b i<=X' b i) /\
      (∀ (i:Nat) (y:e.den),v'[i]?=some y->ai P w A' e m' [] y ((L'.drop (i*e.sz)).take e.sz) (xT i))/\Instr.fill (fun i=>some (i*e.sz,e.sz)) (L++Z).toArray ((j,a.eval y)::ps.map fun p=>(p.1,a.eval p.2))=some L'.toArray:=by
    intro A2 X2 m2 BT Y RA nv zQ gr
    obtain ⟨A',σ',F',m',v',L',X',xT,g1,g2,g3,g4,g5,g6,g7⟩:=ih (L:=L++ij) (Z:=Z.drop e.sz) (Fi:=BT) aA.2 Y (by simp[hv]) (by simp[hL,BS,Nat.add_mul]) (by simp[Pm]) RA (fun i z hz=>by
     by_cases hi:i=j
     ·subst hi
      rw[List.getElem?_append_right (by omega)] at hz
      simp only[hv,Nat.sub_self,List.getElem?_cons_zero,Option.some.injEq] at hz
      subst hz
      rw[List.drop_left' hL,List.take_of_length_le (by omega)];exact zQ
     ·have aj:i < j:=by
       have:=(List.getElem?_eq_some_iff.1 hz).1
       simp only[List.length_append,List.length_singleton,hv] at this;omega
      rw[List.getElem?_append_left (by omega)] at hz
      have h6:i*e.sz+e.sz<=j*e.sz:=by rw[<-Nat.succ_mul];exact Nat.mul_le_mul_right _ (by omega)
      rw[List.drop_append_of_le_length (by omega),List.take_append_of_le_length (by simp;omega)]
      exact nv i z hz) gr
    refine ⟨A',σ',F',m',v',L',X',xT,g1,g2,by omega,by rw[g4];congr 1;omega,fun b i=>by have:=g5 b i;rw[show j+(ps.length+1)=j+1+ps.length by omega];exact this,g6,?_⟩
    rw[k5,vf (pl:=fun i=>some (i*e.sz,e.sz)) rfl BS (fu BS (ai.one _ k6)) (by simp[hL,Pm])]
    rw[List.take_left' hL,show j*e.sz+e.sz=L.length+e.sz by omega,List.drop_append,List.drop_of_length_le (by omega),List.nil_append,Nat.add_sub_cancel_left]
    exact g7
   have mF:∀ (i:Nat) (y:e.den),v[i]?=some y->ai P w A1 e m [] y ((L.drop (i*e.sz)).take e.sz) (Fi i):=fun i y hy=>ai.mono (P:=P) (A':=A1) k2 (fun _ _ _ _ h=>h) (fun _ _ h=>h) e (hr i y hy) (fun _ _=>Nat.le_refl _) (fun _ _ _ _ h=>h)
   split at k1
   ·rename_i hm
    subst hm
    refine Pn (BT:=bW Fi j Fv) k3 (fun b i=>?_) (fun i y hy=>?_) (by simp only[bW,if_true];exact k6) k1
    ·have h1:=nK j 1 (bW Fi j Fv) b i
     have Y:az j (bW Fi j Fv) b i=az j Fi b i:=by rw[Bq Fi (Nat.le_refl j)]
     have h3:az 1 (fun k=>bW Fi j Fv (j+k)) b i=Fv b i:=by simp[az,bW]
     have:=hX b i
     omega
    ·have:i≠j:=by have:=(List.getElem?_eq_some_iff.1 hy).1;omega
     simp only[bW];rw[if_neg this];exact mF i y hy
   ·
    have ls:∃ A2:Cells,(∀ b i,A1 b i->A2 b i)/\Rel P C A2 (fun _ _=>0) ji a w F1/\Ro P w A2 e v1 ij/\∀ (i:Nat) (y:e.den),v[i]?=some y->Ro P w A2 e y ((L.drop (i*e.sz)).take e.sz):=by
     refine ⟨fun b i=>A1 b i\/1<=X b i+Fv b i,fun _ _ h=>.inl h,k3.giveUp (fun _ _ h=>.inl h) (fun b i ha=>ha.imp id fun hp=>⟨hp,rfl⟩) (fun _ _=>Nat.zero_le _),ai.ox (fun _ _ h=>.inl h) e k6 (fun b i hp=>.inr (by omega)),fun i y hy=>?_⟩
     have hi:=(List.getElem?_eq_some_iff.1 hy).1
     exact ai.ox (fun _ _ h=>.inl h) e (mF i y hy) (fun b k hp=>.inr (by have:=be Fi (show i < j by omega) b k;have:=hX b k;omega))
    obtain ⟨A2,a1,a2,a3,a4⟩:=ls
    exact Pn (BT:=fun _ _ _=>0) a2 (fun b i=>by rw[gC];exact Nat.zero_le _) (fun i y hy=>Ro.rep _ _ (cM _) (a4 i y hy)) (Ro.rep _ _ (cM _) a3) k1
  ·cases hk
theorem zp (h:bu P C A σ a w F) (eo:∀ i T,E.TI i=some T->aD P T (.inl i)=true) {t n:Nat} {ps:Array (Nat×Operand)} {fz:Nat->Bool} (ho:o.op=.buildSlice t n ps) (aA:ps.toList.all (fun p=>bn P p.2)=true) {K:St->Option R}
  (hk:(jm E t fun t=>match t with
  | .U e=>if Nat.beq n ps.size&&e.nT&&Nat.ble (n*e.sz) 16777216 then wM σ e fz ps.toList 0 (aq e) [] fun m v σ=>K (σ.aQ o.dst (.own (.U e) (.U true m) [] v)) else none
  | _=>none)=some x):o.wp P a w (fun a' w'=>Nx P C K x a' w'/\Ext w w' (fun _ _=>0)) Q:=by
 obtain ⟨T,hT,hk⟩:=cm hk
 have cy:=eo _ _ hT
 split at hk
 ·rename_i e
  split at hk
  ·rename_i hc
   simp only[Bool.and_eq_true,Nat.beq_eq,Nat.ble_eq] at hc
   obtain ⟨⟨hn,hz⟩,km⟩:=hc
   have hl:=cy
   simp only[aD,Bool.and_eq_true] at hl
   have Y:=hl.2
   split at Y
   ·rename_i el hu
    simp only[Bool.and_eq_true,Nat.ble_eq] at Y
    obtain ⟨ez,iY⟩:=Y
    obtain ⟨Lz,Po⟩:=nN e hz
    obtain ⟨r1,r2,r3⟩:=td (P:=P) (w:=w) (A:=A) _ Po iY
    obtain ⟨inf,i1,i2,i3,i4⟩:=eJ (gc iY)
    obtain ⟨z,z1,z2⟩:=i4 Lz Po
    have RB:z.cells.size=e.sz:=by rw[<-r3,<- z2];simp
    obtain ⟨A',σ',F',m',v',L',X',xT,g1,g2,g3,g4,g5,g6,g7⟩:=LR (P:=P) ez ps.toList (n:=0) (L:=[]) (Z:=((Array.range (n*e.sz)).map (z.cells[· % z.cells.size]!)).toList) (Fi:=fun _ _ _=>0) (m:=aq e) aA h rfl (by simp) (by simp[hn]) (fun b i=>by rw[gC];exact Nat.zero_le _) (fun i y hy=>by cases hy) hk
    simp only[List.nil_append,Array.toArray_toList] at g7
    simp only[Nat.zero_add] at g3 g4 g5
    have BU:ps.toList.length=n:=by simpa using hn.symm
    rw[BU] at g3 g4 g5
    have da:(execOp a.eval o).run P w=.ok (.value (.slice (some ⟨w.heap.size,0,none⟩) n n)) (w.alloc (.cells L'.toArray el)):=by
     by_cases xU:n*e.sz=0
     ·have:n=0:=by rcases Nat.mul_eq_zero.1 xU with h | h <;> omega
      subst this
      have mM:ps=#[]:=by apply Array.eq_empty_of_size_eq_zero;omega
      subst mM
      have KB:L'=[]:=by simpa using g4
      subst KB
      simp[execOp,ho,Instr.buildSlice,run_underlying hu,Go.sizeOf,typeInfo,i1,Instr.fill,newRow,show Array.range 0=#[] from rfl]
     ·have:=run_buildSlice (P:=P) w t el n (ps.map fun (i,x)=>(i,a.eval x)) L'.toArray inf z hu i1 z1 (by rw[i2];simp;omega) (by rw[i2];exact xU) (by rw[i2];simpa using g7)
      simp only[execOp,ho,this,Sem.run_bind,Result.andThen_ok,Sem.run_pure]
    refine hY (w':=w.alloc (.cells L'.toArray el)) da ?_
    have h_:=v_ g2 (K:=K) (x:=x) (d:=o.dst) (e:=e) (m:=m') (v:=v') (c:=L'.toArray) (cap:=n) (el:=el) (fr:=(0,0)) (Fi:=xT) (.inr (Nat.le_refl _)) g1 (by simp[g4]) (by simp only[maxLen];have:=Nat.le_mul_of_pos_right n ez;omega) (by omega)
     (fun b i=>by rw[g3];exact g5 b i) (fun i y hy=>⟨(L'.drop (i*e.sz)).take e.sz,ai.length _ (g6 i y hy),(fun j u hu=>by
      rw[List.getElem?_take] at hu
      split at hu
      ·rw[List.getElem?_drop] at hu;simpa using hu
      ·cases hu),g6 i y hy⟩)
    rw[g3] at h_
    exact ⟨h_,iE w _⟩
   ·cases Y
  ·cases hk
 ·cases hk
end
end OT
set_option linter.unusedVariables false
set_option linter.unusedSimpArgs false
namespace OT
open Go
section
variable {P:Program} {C:Ctx} {A:Cells} {X:FP} {σ:St} {a:Act} {w:World} {F:Nat->FP} {R:Type} {x:R} {Q:Exit->Act->World->Prop} {o:Oper} {E:Env}
theorem Rel.world (h:Rel P C A X σ a w F) {w1:World} {G:FP} (hw:Ext w w1 G) (hG:∀ b i,1<=G b i->1<=X b i):Rel P C A X σ a w1 F:=by
 have lu:∀ b i,A b i->∀ u,ce w b i=some u->ce w1 b i=some u:=fun b i ha u hu=>by
  refine hw.cell b i (h.eh b i (.inr ha)) ?_ u hu
  rcases Nat.eq_zero_or_pos (G b i) with h0 | h0
  ·exact h0
  ·exact absurd ha (h.jn b i (by have:=hG b i h0;omega))
 have uW:∀ j,j < σ.n->∀ b i,1<=F j b i->(∀ u,ce w b i=some u->ce w1 b i=some u)/\w1.frozen? ⟨b,i,none⟩=w.frozen? ⟨b,i,none⟩:=fun j hj b i hp=>by
  have hs:=be F hj b i
  have hb:=h.eh b i (.inl (by omega))
  refine ⟨fun u hu=>hw.cell b i hb ?_ u hu,hw.pO b i hb⟩
  rcases Nat.eq_zero_or_pos (G b i) with h0 | h0
  ·exact h0
  ·have:=hG b i h0;have:=h.iD b i;omega
 have gD:o9 σ a w σ a w1:=fun r p snap hb=>⟨hb,fun aA=>⟨aA,fun hl pl dO=>⟨pl.H,pl.cs,by
  have aj:=mH dO
  exact nw (h.dj r aj) rfl rfl lu (fun b i hp=>(uW r aj b i hp).1) dO,fun _=>rfl⟩⟩⟩
 refine ⟨h.size,h.defers,fun i hi=>a7.fY gD (fun _ _ h=>h) lu hw.o3 (uW i hi) (h.dj i hi),fun d r p snap hm=>ke.fY gD (h.gh d r p snap hm),h.iD,h.jn,fun b i hp=>Nat.lt_of_lt_of_le (h.eh b i hp) hw.size,
  h.ft,h.ext.trans hw (fun b i hb hz=>?_),h.own,h.a0,h.a1,h.ii,fun r t m H v hg hl=>?_,fun j k hm R' dH=>?_⟩
 ·rcases Nat.eq_zero_or_pos (G b i) with h0 | h0
  ·exact h0
  ·rcases h.own b i (by have:=hG b i h0;omega) with h1 | h1 <;> omega
 ·obtain ⟨b,h1,Y⟩:=h.whole r t m H v hg hl
  exact ⟨b,h1,hw.o3 _ _ Y⟩
 ·rcases Nat.lt_or_ge j σ.n with hj | hj
  ·have hK:=h.dj j hj
   cases nk:bi w (tmp a j) (σ.get j) with
   | none=>exfalso;cases hg:σ.get j <;> rw[hg] at nk dH <;> simp only[bi] at nk dH <;> first | (cases dH;done) | (cases nk;done) | (split at nk <;> simp_all)
   | some R0=>
    rw[oA hK (fun b i hp=>(uW j hj b i hp).1) nk] at dH
    injection dH with dH
    subst dH
    exact h.gt j k hm _ nk
  ·rw[e8 (Nat.not_lt.2 hj)] at dH;cases dH
theorem xV {b o sz:Nat} {n:Nat} (h:∀ i,i < n->∃ L:List Value,L.length=sz/\Has w b (o+i*sz) L):Has w b o (rd w b o (n*sz))/\∀ i L,i < n->L.length=sz->Has w b (o+i*sz) L->((rd w b o (n*sz)).drop (i*sz)).take sz=L:=by
 have On:∀ j,j < n*sz->(ce w b (o+j)).isSome=true:=fun j hj=>by
  have ez:0 < sz:=by rcases Nat.eq_zero_or_pos sz with h0 | h0;(· subst h0;simp at hj);exact h0
  have hi:j / sz < n:=Nat.div_lt_of_lt_mul (by rw[Nat.mul_comm];exact hj)
  obtain ⟨L,h1,Y⟩:=h _ hi
  have hm:j % sz < L.length:=by rw[h1];exact Nat.mod_lt _ ez
  have:=Y (j % sz) _ (List.getElem?_eq_getElem hm)
  have e:o+j / sz*sz+j % sz=o+j:=by have:=Nat.div_add_mod j sz;rw[Nat.mul_comm] at this;omega
  rw[e] at this
  rw[this];rfl
 refine ⟨fun j u hu=>?_,fun i L hi hl hL=>?_⟩
 ·have hj:=(List.getElem?_eq_some_iff.1 hu).1
  rw[pB] at hj
  unfold rd at hu
  rw[List.getElem?_map,List.getElem?_range hj] at hu
  simp only[Option.map_some,Option.some.injEq] at hu
  obtain ⟨u',MU⟩:=Option.isSome_iff_exists.1 (On j hj)
  rw[MU] at hu ⊢
  exact congrArg some hu
 ·have h6:i*sz+sz<=n*sz:=by rw[<-Nat.succ_mul];exact Nat.mul_le_mul_right _ (by omega)
  apply List.ext_getElem?
  intro j
  rw[List.getElem?_take,List.getElem?_drop]
  by_cases hj:j < sz
  ·rw[if_pos hj]
   unfold rd
   rw[List.getElem?_map,List.getElem?_range (by omega)]
   have:=hL j L[j] (List.getElem?_eq_getElem (by omega))
   rw[show o+i*sz+j=o+(i*sz+j) by omega] at this
   rw[List.getElem?_eq_getElem (by omega)]
   simp[this]
  ·rw[if_neg hj,List.getElem?_eq_none (by omega)]
theorem vg {e:Ty} {m:Md} {v:List e.den} {cs:List Value} {Fv:FP} (hr:ai P w A (.U e) m [] v cs Fv) :
  ∃ xa cap news Fi,cs=[.slice xa (List.length v) cap]/\(List.length v<=cap/\(xa=none->List.length v=0))/\(∀ ad,xa=some ad->(0 < cap->ad.spot=none)/\Has w ad.block ad.off news)/\news.length=List.length v*e.sz/\(∀ u ∈ news,u.oneCell'=true) /\
   (∀ (i:Nat) (y:e.den),v[i]?=some y->ai P w A e m.e [] y ((news.drop (i*e.sz)).take e.sz) (Fi i))/\(∀ b i,az (List.length v) Fi b i<=Fv b i) /\
   (m.own=true->List.length v<=cap/\cap<=maxLen/\(xa=none->cap=0)/\∀ ad,xa=some ad->ad.off=0/\ad.spot=none/\de w ad.block (cap*e.sz,Bp e)/\∀ b i,bj ad.block 0 (cap*e.sz) b i+az (List.length v) Fi b i<=Fv b i):=by
 have gY:∀ (news:List Value) (Fi:Nat->FP),news.length=List.length v*e.sz->(∀ (i:Nat) (y:e.den),v[i]?=some y->ai P w A e m.e [] y ((news.drop (i*e.sz)).take e.sz) (Fi i))->∀ u ∈ news,u.oneCell'=true:=by
  intro news Fi hl iY u hu
  obtain ⟨j,hj,rfl⟩:=List.mem_iff_getElem.1 hu
  have ez:0 < e.sz:=by rcases Nat.eq_zero_or_pos e.sz with h0 | h0;(· rw[hl,h0] at hj;simp at hj);exact h0
  have hi:j / e.sz < List.length v:=Nat.div_lt_of_lt_mul (by rw[Nat.mul_comm,<- hl];exact hj)
  have h1:=ai.one _ (iY _ _ (List.getElem?_eq_getElem hi))
  refine h1 _ (List.mem_of_getElem? (i:=j % e.sz) ?_)
  rw[List.getElem?_take,if_pos (Nat.mod_lt _ ez),List.getElem?_drop]
  have:j / e.sz*e.sz+j % e.sz=j:=by rw[Nat.mul_comm];exact Nat.div_add_mod j e.sz
  rw[this,List.getElem?_eq_getElem hj]
 simp only[ai,hole,List.any_nil,Bool.false_eq_true,if_false] at hr
 split at hr
 ·rename_i c_
  obtain ⟨xa,cap,rfl,h1,Y,h3,h4⟩:=hr
  cases xa with
  | none=>
   have km:=h3 rfl
   have EH:List.length v=0:=by omega
   have hv:v=[]:=List.eq_nil_of_length_eq_zero EH
   subst hv
   exact ⟨none,cap,[],fun _ _ _=>0,rfl,⟨Nat.zero_le _,fun _=>rfl⟩,(fun ad e=>by cases e),by simp,(fun u hu=>by cases hu),(fun i y hy=>by cases hy),fun b i=>by rw[gC];exact Nat.zero_le _,fun _=>⟨h1,Y,h3,fun ad e=>by cases e⟩⟩
  | some ad=>
   obtain ⟨g1,g2,g3,Fi,g4,g5⟩:=h4 ad rfl
   have hp:∀ i,i < List.length v->∃ L:List Value,L.length=e.sz/\Has w ad.block (0+i*e.sz) L:=fun i hi=>by
    obtain ⟨L,l1,l2,_⟩:=g5 i _ (List.getElem?_eq_getElem hi)
    exact ⟨L,l1,by rw[Nat.zero_add];exact l2⟩
   obtain ⟨p1,p2⟩:=xV hp
   have iY:∀ (i:Nat) (y:e.den),v[i]?=some y->ai P w A e m.e [] y (((rd w ad.block 0 (List.length v*e.sz)).drop (i*e.sz)).take e.sz) (Fi i):=fun i y hy=>by
    obtain ⟨L,l1,l2,l3⟩:=g5 i y hy
    rw[p2 i L (List.getElem?_eq_some_iff.1 hy).1 l1 (by rw[Nat.zero_add];exact l2)]
    simpa using l3
   refine ⟨some ad,cap,rd w ad.block 0 (List.length v*e.sz),Fi,rfl,⟨h1,(fun e=>by cases e)⟩,fun aZ e=>?_,pB _ _ _ _,gY _ _ (pB _ _ _ _) iY,iY,fun b i=>by have:=g4 b i;omega,fun _=>⟨h1,Y,h3,fun aZ e=>?_⟩⟩
   ·injection e with e;subst e;exact ⟨fun _=>g2,by rw[g1];exact p1⟩
   ·injection e with e;subst e;exact ⟨g1,g2,g3,g4⟩
 ·rename_i c_
  obtain ⟨_,kD,xa,cap,rfl,h1,Y,h3⟩:=hr
  cases xa with
  | none=>
   have hv:v=[]:=List.eq_nil_of_length_eq_zero (Y rfl)
   subst hv
   exact ⟨none,cap,[],fun _ _ _=>0,rfl,⟨Nat.zero_le _,fun _=>rfl⟩,(fun ad e=>by cases e),by simp,(fun u hu=>by cases hu),(fun i y hy=>by cases hy),(fun b i=>by rw[gC];exact Nat.zero_le _),fun h=>absurd h c_⟩
  | some ad=>
   obtain ⟨g1,g2⟩:=h3 ad rfl
   have hp:∀ i,i < List.length v->∃ L:List Value,L.length=e.sz/\Has w ad.block (ad.off+i*e.sz) L:=fun i hi=>by
    obtain ⟨L,l1,l2,_⟩:=g2 i _ (List.getElem?_eq_getElem hi)
    exact ⟨L,l1,fun j u hu=>(l2 j u hu).1⟩
   obtain ⟨p1,p2⟩:=xV hp
   have iY:∀ (i:Nat) (y:e.den),v[i]?=some y->ai P w A e m.e [] y (((rd w ad.block ad.off (List.length v*e.sz)).drop (i*e.sz)).take e.sz) (fun _ _=>0):=fun i y hy=>by
    obtain ⟨L,l1,l2,l3⟩:=g2 i y hy
    rw[p2 i L (List.getElem?_eq_some_iff.1 hy).1 l1 (fun j u hu=>(l2 j u hu).1)]
    exact Ro.rep _ _ kD l3
   refine ⟨some ad,cap,rd w ad.block ad.off (List.length v*e.sz),fun _ _ _=>0,rfl,⟨h1,(fun e=>by cases e)⟩,fun aZ e=>?_,pB _ _ _ _,gY _ _ (pB _ _ _ _) iY,iY,(fun b i=>by rw[gC];exact Nat.zero_le _),fun h=>absurd h c_⟩
   injection e with e;subst e;exact ⟨g1,p1⟩
theorem EI (h:Rel P C A X σ a w F) {s:Slot} {tv:Value} {G:FP} (hs:a7 P A σ a w tv s G) {mv:Bool} {e:Ty} {tx:TypeId} (th:(∃ e',P.underlying tx=some (.slice e'))\/P.underlying tx=some .string)
  {K:Md->List e.den->St->Option R} (hk:vV σ s e mv K=some x) :
  ∃ (A':Cells) (σ':St) (F':Nat->FP) (me:Md) (y:List e.den) (news:List Value) (Fv:FP) (Fi:Nat->FP),K me y σ'=some x/\(∀ b i,A b i->A' b i)/\Rel P C A' (fun b i=>X b i+Fv b i) σ' a w F'/\jO σ σ' /\
   Src P e.sz tx tv (List.length y) news w/\(∀ k,k<=List.length y->(Builtin.firstCells e.sz k tv).run P w=.ok (news.take (k*e.sz)).toArray w)/\(∀ (i:Nat) (z:e.den),y[i]?=some z->ai P w A' e me [] z ((news.drop (i*e.sz)).take e.sz) (Fi i))/\∀ b i,az (List.length y) Fi b i<=Fv b i:=by
 unfold vV at hk
 split at hk
 ·rename_i s'
  obtain ⟨e1,hk⟩:=a8 hk
  injection e1 with e1
  subst e1
  obtain ⟨cs,h1,Y⟩:=hs
  simp only[Ro] at Y
  subst Y
  have qS:tv=.string ⟨List.toArray s'⟩:=h1
  subst qS
  have hlen:(byteCells ⟨List.toArray s'⟩)=List.map (fun (b:UInt8)=>Value.int .u8 b.toNat) s':=by simp[byteCells]
  have ez:(⟨List.toArray s'⟩:ByteArray).size=List.length s':=rfl
  refine ⟨A,σ,F,.leaf,s',byteCells ⟨List.toArray s'⟩,fun _ _=>0,fun _ _ _=>0,hk,fun _ _ h=>h,h,jO.refl σ,⟨th,fun _=>rfl,firstCells_string _ w,firstCells_string _ w.drew,by rw[byteCells_length,ez];simp[Ty.sz],fun u hu=>?_⟩,fun k hk=>?_,fun i z hz=>?_,fun b i=>by rw[gC];exact Nat.zero_le _⟩
  ·obtain ⟨_,_,rfl⟩:=List.mem_map.1 hu;rfl
  ·rw[hlen]
   have Qi:((⟨List.toArray s'⟩:ByteArray).extract 0 k).data.toList=s'.take k:=by simp[ByteArray.data_extract]
   simp only[Builtin.firstCells,Sem.run_pure,Ty.sz,Nat.mul_one]
   congr 1
   apply Array.ext'
   simp only[Array.toList_map,Qi,List.map_take]
  ·have:((byteCells ⟨List.toArray s'⟩).drop (i*Ty.sz (.int .u8))).take (Ty.sz (.int .u8))=[Value.int .u8 z.toNat]:=by
    show ((byteCells ⟨List.toArray s'⟩).drop (i*1)).take 1=_
    rw[hlen,Nat.mul_one,List.take_one,List.head?_drop,List.getElem?_map,hz]
    rfl
   exact this
 ·rename_i s' Pi
  obtain ⟨A',σ',F',m,v,cs,Fv,k1,k2,k3,k4,kr,k5,k6⟩:=mK h hs hk
  obtain ⟨xa,cap,news,Fi,r1,r2,r3,r4,r5,r6,r7,r8⟩:=vg k6
  rw[r1,bq _ _ rfl] at k5
  subst k5
  have u_:∀ ad,xa=some ad->∀ j u,news[j]?=some u->w.cell? (ad.add j)=some u:=fun ad e1 j u hu=>by
   obtain ⟨g1,g2⟩:=r3 ad e1
   have hj:=(List.getElem?_eq_some_iff.1 hu).1
   have zn:0 < cap:=by
    rcases Nat.eq_zero_or_pos cap with h0 | h0
    ·have:List.length v=0:=by have:=r2.1;omega
     rw[r4,this,Nat.zero_mul] at hj;omega
    ·exact h0
   obtain ⟨b,off,sp⟩:=ad
   have:=g1 zn
   simp only at this
   subst this
   rw[jH]
   exact mZ (g2 j u hu) (r5 u (List.mem_of_getElem? hu))
  refine ⟨A',σ',F',m.e,v,news,Fv,Fi,k1,k2,k3,kr,?_,?_,r6,r7⟩
  rotate_left
  ·intro k hk
   cases xa with
   | none=>
    have h0:=r2.2 rfl
    have hn:news=[]:=List.eq_nil_of_length_eq_zero (by rw[r4,h0,Nat.zero_mul])
    subst hn
    simp only[List.take_nil]
    exact run_firstCells_none w e.sz k (List.length v) cap
   | some ad=>
    have hc:=u_ ad rfl
    have hle:k*e.sz<=List.length v*e.sz:=Nat.mul_le_mul_right _ hk
    have:=run_firstCells_some (P:=P) w e.sz k ad (List.length v) cap (news.take (k*e.sz)) (by simp;omega) (fun j u hu=>by
     rw[List.getElem?_take] at hu
     split at hu
     ·exact hc j u hu
     ·cases hu)
    simpa [Builtin.firstCells] using this
  cases xa with
  | none=>
   have h0:=r2.2 rfl
   have hn:news=[]:=List.eq_nil_of_length_eq_zero (by rw[r4,h0,Nat.zero_mul])
   subst hn
   rw[h0]
   exact ⟨th,fun _=>rfl,run_firstCells_none w e.sz 0 0 cap,run_firstCells_none w.drew e.sz 0 0 cap,by simp,fun u hu=>by cases hu⟩
  | some ad=>
   have hc:=u_ ad rfl
   exact ⟨th,fun _=>rfl,run_firstCells_some w e.sz (List.length v) ad (List.length v) cap news r4 hc,run_firstCells_some w.drew e.sz (List.length v) ad (List.length v) cap news r4 (by simpa using hc),r4,r5⟩
theorem BV {e:Ty} {me:Md} {v y:List e.den} {nO news:List Value} {Fi Gi:Nat->FP} (hl:nO.length=List.length v*e.sz)
  (h1:∀ (i:Nat) (z:e.den),v[i]?=some z->ai P w A e me [] z ((nO.drop (i*e.sz)).take e.sz) (Fi i)) (Y:∀ (i:Nat) (z:e.den),y[i]?=some z->ai P w A e me [] z ((news.drop (i*e.sz)).take e.sz) (Gi i)) :
  ∀ (i:Nat) (z:e.den),(v++y)[i]?=some z->ai P w A e me [] z (((nO++news).drop (i*e.sz)).take e.sz) (if i < List.length v then Fi i else Gi (i - List.length v)):=by
 intro i z hz
 by_cases hi:i < List.length v
 ·rw[if_pos hi]
  rw[List.getElem?_append_left hi] at hz
  have h6:i*e.sz+e.sz<=List.length v*e.sz:=by rw[<-Nat.succ_mul];exact Nat.mul_le_mul_right _ (by omega)
  rw[List.drop_append_of_le_length (by omega),List.take_append_of_le_length (by simp;omega)]
  exact h1 i z hz
 ·rw[if_neg hi]
  rw[List.getElem?_append_right (by omega)] at hz
  have h6:List.length v*e.sz<=i*e.sz:=Nat.mul_le_mul_right _ (by omega)
  rw[List.drop_append,List.drop_of_length_le (by omega),List.nil_append,hl,<- Nat.sub_mul]
  exact Y _ z hz
theorem BW (n m:Nat) (Fi Gi:Nat->FP) (b i:Nat):az (n+m) (fun i=>if i < n then Fi i else Gi (i - n)) b i=az n Fi b i+az m Gi b i:=by
 rw[nK]
 congr 1
 ·have:=jM (n:=n) (f:=fun i=>if i < n then Fi i else Gi (i - n)) (g:=Fi) (fun j hj=>by simp only[if_pos hj]);rw[this]
 ·have:=jM (n:=m) (f:=fun j=>(fun i=>if i < n then Fi i else Gi (i - n)) (n+j)) (g:=Gi) (fun j hj=>by
   simp only;rw[if_neg (by omega),Nat.add_sub_cancel_left]);rw[this]
theorem step_append (h:bu P C A σ a w F) (eo:∀ i T,E.TI i=some T->aD P T (.inl i)=true) {t tx:Nat} {y z:Operand} (ho:o.op=.call { callee:=.builtin .append,args:=#[y,z],argTypes:=#[t,tx] }) (aA:bn P y=true/\bn P z=true)
  (th:(∃ e',P.underlying tx=some (.slice e'))\/P.underlying tx=some .string) {mv:Bool} {K:St->Option R} (hk:y9 E σ t (bs σ y) z mv o.dst K=some x):o.wp P a w (Nx P C K x) Q:=by
 unfold y9 at hk
 obtain ⟨T,hT,hk⟩:=cm hk
 have cy:=eo _ _ hT
 split at hk
 ·rename_i e
  have hl:=cy
  simp only[aD,Bool.and_eq_true] at hl
  have Y:=hl.2
  split at Y
  rotate_left
  ·cases Y
  rename_i el hu
  simp only[Bool.and_eq_true,Nat.ble_eq] at Y
  obtain ⟨ez,iY⟩:=Y
  obtain ⟨inf,zv,i1,i2,i3,i4,i5,_⟩:=wr (gc iY)
  rcases b9 h aA.1 with hs | ⟨xs,e'⟩
  rotate_left
  ·rw[e'] at hk;simp[gy] at hk
  obtain ⟨A1,ji,F1,m,v,cs,Fv,k1,k2,k3,k4,kr,k5,k6⟩:=mK h hs hk
  split at k1
  rotate_left
  ·cases k1
  rename_i c_
  rcases b9 k3 aA.2 with no | ⟨xs,e'⟩
  rotate_left
  ·rw[e'] at k1;simp[vV,gy] at k1
  obtain ⟨A2,eI,F2,me,yv,news,Fw,Gi,q1,q2,q3,qr,q4,_,q5,q6⟩:=EI k3 no th k1
  split at q1
  rotate_left
  ·cases q1
  rename_i km
  obtain ⟨xa,cap,nO,Fi,r1,r2,r3,r4,r5,r6,r7,r8⟩:=vg k6
  obtain ⟨c1,c2,c3,c4⟩:=r8 c_
  rw[r1,bq _ _ rfl] at k5
  have Pp:∀ (i:Nat) (z:e.den),v[i]?=some z->ai P w A2 e m.e [] z ((nO.drop (i*e.sz)).take e.sz) (Fi i):=fun i z hz=>ai.mono (P:=P) (A':=A2) q2 (fun _ _ _ _ h=>h) (fun _ _ h=>h) e (r6 i z hz) (fun _ _=>Nat.le_refl _) (fun _ _ _ _ h=>h)
  have pR:∃ (A3:Cells) (X3:FP) (Hi:Nat->FP),Rel P C A3 X3 eI a w F2/\(∀ (i:Nat) (z:e.den),(v++yv)[i]?=some z->ai P w A3 e (if me=m.e then me else ay e) [] z (((nO++news).drop (i*e.sz)).take e.sz) (Hi i)) /\
    (∀ b i,az (List.length v+List.length yv) Hi b i<=X3 b i)/\∀ ad,xa=some ad->∀ b i,bj ad.block 0 (cap*e.sz) b i+az (List.length v+List.length yv) Hi b i<=X3 b i:=by
   by_cases um:me=m.e
   ·subst um
    refine ⟨A2,_,_,q3,by simp only[if_true];exact BV r4 Pp q5,fun b i=>?_,fun ad cO b i=>?_⟩
    ·rw[BW];have:=r7 b i;have:=q6 b i;omega
    ·rw[BW];have:=(c4 ad cO).2.2.2 b i;have:=q6 b i;omega
   ·simp only[if_neg um]
    obtain ⟨B,MX,RD,Tv⟩:∃ B:FP,(∀ b i,B b i+az (List.length v) Fi b i<=Fv b i)/\(∀ ad,xa=some ad->∀ b i,bj ad.block 0 (cap*e.sz) b i=B b i)/\∀ b i,B b i<=1:=by
     cases xa with
     | none=>exact ⟨fun _ _=>0,fun b i=>by show 0+_<=_;have:=r7 b i;omega,(fun ad e=>by cases e),fun _ _=>Nat.zero_le _⟩
     | some ad=>exact ⟨bj ad.block 0 (cap*e.sz),(c4 ad rfl).2.2.2,(fun aZ e=>by injection e with e;subst e;exact fun _ _=>rfl),fun b i=>by simp only[bj];split <;> omega⟩
    obtain ⟨A3,jX⟩:∃ A3:Cells,∀ b i,A3 b i↔(A2 b i\/(1<=0+Fv b i+Fw b i/\B b i=0)):=⟨fun b i=>A2 b i\/(1<=0+Fv b i+Fw b i/\B b i=0),fun _ _=>Iff.rfl⟩
    refine ⟨A3,B,fun _ _ _=>0,q3.giveUp (fun b i h=>(jX b i).2 (.inl h)) (fun b i ha=>(jX b i).1 ha) (fun b i=>by have:=MX b i;omega),?_,fun b i=>by rw[gC];exact Nat.zero_le _,fun ad cO b i=>by rw[gC,RD ad cO];exact Nat.le_refl _⟩
    have iR:∀ b i,(0+Fv b i+Fw b i)+az eI.n F2 b i<=1:=fun b i=>q3.iD b i
    have RF:∀ (i:Nat) (z:e.den),v[i]?=some z->ai P w A3 e (ay e) [] z ((nO.drop (i*e.sz)).take e.sz) (fun _ _=>0):=fun i z hz=>Ro.rep _ _ (cM _) (ai.ox (fun b i h=>(jX b i).2 (.inl h)) e (Pp i z hz) fun b k hp=>(jX b k).2 (.inr (by
     have h1:=be Fi (List.getElem?_eq_some_iff.1 hz).1 b k
     have Y:=MX b k;have h3:=iR b k
     constructor <;> omega)))
    have RG:∀ (i:Nat) (z:e.den),yv[i]?=some z->ai P w A3 e (ay e) [] z ((news.drop (i*e.sz)).take e.sz) (fun _ _=>0):=fun i z hz=>Ro.rep _ _ (cM _) (ai.ox (fun b i h=>(jX b i).2 (.inl h)) e (q5 i z hz) fun b k hp=>(jX b k).2 (.inr (by
     have h1:=be Gi (List.getElem?_eq_some_iff.1 hz).1 b k
     have Y:=MX b k;have h3:=iR b k;have h4:=q6 b k
     constructor <;> omega)))
    exact fun i z hz=>by simpa using BV (Fi:=fun _ _ _=>0) (Gi:=fun _ _ _=>0) r4 RF RG i z hz
  obtain ⟨A3,X3,Hi,n1,n2,n3,n4⟩:=pR
  have uV:List.length (v++yv)=List.length v+List.length yv:=by simp
  by_cases pq:List.length v+List.length yv<=cap
  ·cases xa with
   | none=>
    have Tw:=c3 rfl
    have EH:v=[]:=List.eq_nil_of_length_eq_zero (by omega)
    have RH:yv=[]:=List.eq_nil_of_length_eq_zero (by omega)
    subst EH;subst RH
    have KN:(Builtin.firstCells e.sz 0 (a.eval z)).run P w=.ok news.toArray w:=by have:=q4.cells;simpa using this
    have da:(execOp a.eval o).run P w=.ok (.value (.slice none 0 cap)) w:=by
     rcases q4.kind with ⟨e',sC⟩ | sC <;>
      simp[execOp,ho,resolve,invoke,builtin,Builtin.append_,k5,run_underlying hu,run_underlying sC,Go.sizeOf,typeInfo,i1,q4.len,i2,KN]
    refine hY da (i9 n1 q1 (Fd:=fun _ _=>0) ⟨[.slice none 0 cap],(bq _ _ rfl).symm,?_⟩ (fun _ _=>Nat.zero_le _) (fun _ _ _ _ e=>by cases e))
    simp only[ai,hole,List.any_nil,Bool.false_eq_true,if_false,Md.own,if_true]
    exact ⟨none,cap,rfl,Nat.zero_le _,c2,c3,fun ad e=>by cases e⟩
   | some ad=>
    obtain ⟨d1,d4,d2,d3⟩:=c4 ad rfl
    obtain ⟨_,d5⟩:=r3 ad rfl
    obtain ⟨b,off,sp⟩:=ad
    simp only at d1 d2 d3 d4 d5
    subst d1;subst d4
    have KW:∀ b' i,bj b 0 (cap*e.sz) b' i+az (List.length v+List.length yv) Hi b' i<=X3 b' i:=n4 _ rfl
    have BU:=q4.newsLen
    have vh:List.length v*e.sz+news.length<=cap*e.sz:=by rw[BU,<- Nat.add_mul];exact Nat.mul_le_mul_right _ pq
    have lj:∀ j,j < cap*e.sz->(w.cell? ⟨b,j,none⟩).isSome=true:=fun j hj=>by
     obtain ⟨c,e',fr,w1,w2,w3⟩:=d2
     unfold World.cell?
     simp only[w1,Option.isSome_none,Bool.false_eq_true,if_false]
     rw[Array.getElem?_eq_getElem (by omega)];rfl
    have da:=run_append_room_src (P:=P) w t tx o.type el inf hu i1 b 0 (List.length v) cap (a.eval z) (List.length yv) news (by rw[i2];exact q4) pq (fun j hj=>by rw[i2,Nat.zero_add];exact lj _ (by omega)) (fun j hj=>by rw[i2,Nat.zero_add];exact d2.frozen (by omega))
    rw[i2,Nat.zero_add] at da
    have FO:(execOp a.eval o).run P w=.ok (.value (.slice (some ⟨b,0,none⟩) (List.length v+List.length yv) cap)) (w.setCells b (List.length v*e.sz) news):=by
     simp[execOp,ho,resolve,invoke,builtin,k5,da]
    have ca:=kg (b:=b) (o:=List.length v*e.sz) news w (List.length v*e.sz)
    have MY:∀ b' i,1<=bj b (List.length v*e.sz) news.length b' i->1<=bj b 0 (cap*e.sz) b' i:=fun b' i hp=>by
     simp only[bj] at hp ⊢
     split at hp
     ·rw[if_pos (by omega)];exact Nat.le_refl _
     ·omega
    have KX:=n1.world ca (fun b' i hp=>by have:=MY b' i hp;have:=KW b' i;omega)
    refine hY FO (i9 KX q1 (Fd:=X3) ⟨[.slice (some ⟨b,0,none⟩) (List.length v+List.length yv) cap],(bq _ _ rfl).symm,?_⟩ (fun _ _=>Nat.le_refl _) (fun _ _ _ _ e=>by cases e))
    simp only[ai,hole,List.any_nil,Bool.false_eq_true,if_false,Md.own,if_true,Md.e]
    refine ⟨some ⟨b,0,none⟩,cap,by rw[uV],by omega,c2,(fun e=>by cases e),fun aZ e'=>?_⟩
    injection e' with e';subst e'
    refine ⟨rfl,rfl,ca.o3 _ _ d2,Hi,fun b' i=>by rw[uV];exact KW b' i,fun i zz hz=>?_⟩
    have cx:=n2 i zz hz
    have zq:i < List.length v+List.length yv:=by have:=(List.getElem?_eq_some_iff.1 hz).1;omega
    refine ⟨_,ai.length _ cx,?_,?_⟩
    ·
     have i_:Has (w.setCells b (List.length v*e.sz) news) b 0 (nO++news):=fun j u hu=>by
      rw[Nat.zero_add]
      by_cases hj:j < nO.length
      ·rw[List.getElem?_append_left hj] at hu
       have hold:=d5 j u hu
       rw[Nat.zero_add] at hold
       refine ca.cell b j (by obtain ⟨c,e',fr,w1,_⟩:=d2;exact (Array.getElem?_eq_some_iff.1 w1).1) ?_ u hold
       simp only[bj];rw[if_neg (by omega)]
      ·rw[List.getElem?_append_right (by omega)] at hu
       have:=qU (w:=w) (b:=b) (o:=List.length v*e.sz) (L:=news) (fun k hk=>lj _ (by omega)) q4.one _ u hu
       rw[<-this];congr 1;omega
     intro j u hu
     rw[List.getElem?_take] at hu
     split at hu
     ·rw[List.getElem?_drop] at hu
      have:=i_ _ u hu
      rw[Nat.zero_add] at this
      exact this
     ·cases hu
    ·simp only[List.filterMap_nil]
     refine ai.mono (P:=P) (fun _ _ h=>h) (fun b' k ha u hu=>ca.cell b' k (n1.eh b' k (.inr ha)) ?_ u hu) ca.o3 e cx (fun _ _=>Nat.le_refl _) (fun b' k hp u hu=>ca.cell b' k ?_ ?_ u hu)
     ·rcases Nat.eq_zero_or_pos (bj b (List.length v*e.sz) news.length b' k) with h0 | h0
      ·exact h0
      ·exact absurd ha (n1.jn b' k (by have:=MY b' k h0;have:=KW b' k;omega))
     ·exact n1.eh b' k (.inl (by have:=be Hi zq b' k;have:=n3 b' k;omega))
     ·rcases Nat.eq_zero_or_pos (bj b (List.length v*e.sz) news.length b' k) with h0 | h0
      ·exact h0
      ·have h1:=MY b' k h0;have Y:=KW b' k;have h3:=be Hi zq b' k;have h4:=n1.iD b' k;omega
  ·
   have Oo:(Builtin.firstCells inf.size (List.length v) (.slice xa (List.length v) cap)).run P w.drew=.ok nO.toArray w.drew:=by
    cases xa with
    | none=>
     have h0:=r2.2 rfl
     have:nO=[]:=List.eq_nil_of_length_eq_zero (by rw[r4,h0,Nat.zero_mul])
     subst this
     exact run_firstCells_none w.drew inf.size (List.length v) (List.length v) cap
    | some ad=>
     obtain ⟨_,d4,_,_⟩:=c4 ad rfl
     obtain ⟨_,d5⟩:=r3 ad rfl
     obtain ⟨b,off,sp⟩:=ad
     simp only at d4 d5
     subst d4
     exact run_firstCells_some w.drew inf.size (List.length v) ⟨b,off,none⟩ (List.length v) cap nO (by rw[i2];exact r4) (fun j u hu=>by rw[jH];exact mZ (d5 j u hu) (r5 u (List.mem_of_getElem? hu)))
   simp only[bm] at km
   have da:=run_append_grow_src (P:=P) w t tx o.type el inf zv hu i1 i4 xa (List.length v) cap nO Oo (a.eval z) (List.length yv) news (by rw[i2];exact q4) (by omega) (by omega)
    (growslice_fits (by omega) (Nat.le_trans (Nat.mul_le_mul km i3) (by decide)))
   have FO:(execOp a.eval o).run P w=.ok (.value (.slice (some ⟨w.heap.size,0,none⟩) (List.length v+List.length yv) (grownCap w (List.length v+List.length yv) cap el)))
     (w.drew.alloc (.cells ((nO++news).toArray++Builtin.zeroCells zv.cells (grownCap w (List.length v+List.length yv) cap el - (List.length v+List.length yv))) el)):=by
    simp[execOp,ho,resolve,invoke,builtin,k5,da]
   have HP:=grownCap_ge w (List.length v+List.length yv) cap el
   have RI:=grownCap_le_maxLen w (List.length v+List.length yv) cap el (by simp only[maxLen];omega)
   have BU:=q4.newsLen
   have h_:=v_ n1.drew (K:=K) (x:=x) (d:=o.dst) (e:=e) (m:=if me=m.e then me else ay e) (v:=v++yv) (c:=(nO++news).toArray++Builtin.zeroCells zv.cells (grownCap w (List.length v+List.length yv) cap el - (List.length v+List.length yv)))
    (cap:=grownCap w (List.length v+List.length yv) cap el) (el:=el) (fr:=(0,0)) (Fi:=Hi) (.inr (Nat.le_refl _)) q1
    (by
     rw[Array.size_append,size_zeroCells,i5,List.size_toArray,List.length_append,r4,BU,<- Nat.add_mul,<- Nat.add_mul]
     congr 1;omega) RI (by rw[uV];exact HP)
    (fun b i=>by rw[uV];exact n3 b i) (fun i zz hz=>by
     have cx:=n2 i zz hz
     refine ⟨_,ai.length _ cx,fun j u hu=>?_,ai.mono (P:=P) (w:=w) (w':=w.drew) (A:=A3) (A':=A3) (fun _ _ h=>h) (fun _ _ _ _ h=>h) (fun b n hn=>hn) e cx (fun _ _=>Nat.le_refl _) (fun _ _ _ _ h=>h)⟩
     rw[List.getElem?_take] at hu
     split at hu
     ·rw[List.getElem?_drop] at hu
      have aj:=(List.getElem?_eq_some_iff.1 hu).1
      rw[Array.getElem?_append_left (by simpa using aj)]
      simpa using hu
     ·cases hu)
   rw[uV] at h_
   exact hY FO h_
 ·cases hk
end
end OT
set_option linter.unusedVariables false
set_option linter.unusedSimpArgs false
namespace OT
open Go
section
variable {P:Program} {C:Ctx} {A:Cells} {X:FP} {σ:St} {a:Act} {w:World} {F:Nat->FP} {R:Type} {x:R} {Q:Exit->Act->World->Prop} {o:Oper} {E:Env}
theorem AF (h:bu P C A σ a w F) {f:Nat} {first cs:Array Operand} (ho:o.op=.makeFunc (.func f) first cs) (bb:(P.funcs[f]?).any (fun fn=>fn.nfree == cs.size)=true) {K:St->Option R}
  (hk:(if first.size=0 then
   match cs.toList with
   | []=>K (σ.aQ o.dst (.val .fn (f,0)))
   | [.tmp i]=>match σ.get i with
    | .box (.int .i64) _ _ n=>K (((σ.put i .dead).put i (.cp (.int .i64) n)).aQ o.dst (.val .fn (f,n)))
    | _=>none
   | _=>none
  else none)=some x):Tk P o a w (Nx P C K x):=by
 simp only[Option.any_eq_true,beq_iff_eq] at bb
 obtain ⟨fn,hf,hn⟩:=bb
 split at hk
 ·rename_i h0
  have BX:first=#[]:=Array.eq_empty_of_size_eq_zero h0
  subst BX
  split at hk
  ·rename_i lE
   have lE:cs=#[]:=by apply Array.ext';simpa using lE
   subst lE
   refine cn (v:=.func (.func f) #[] #[]) (by simp[execOp,ho,Instr.makeFunc]) (aW h hk ⟨[.func (.func f) #[] #[]],rfl,#[],rfl,fn,hf,.inl ⟨by simpa using hn,rfl⟩⟩ (fun _ _ _ _ e=>by cases e))
  ·rename_i i lE
   have lE:cs=#[.tmp i]:=by apply Array.ext';simpa using lE
   subst lE
   split at hk
   ·rename_i m H n hg
    have hi:i < σ.n:=by
     rcases Nat.lt_or_ge i σ.n with hi | hi
     ·exact hi
     ·rw[e8 (Nat.not_lt.2 hi)] at hg;cases hg
    have hs:=h.dj i hi
    rw[hg] at hs
    obtain ⟨b,off,L,F1,s1,s2,s3,s4,s5,s6⟩:=hs
    simp only[ai,Ro] at s6
    subst s6
    have h1:=h.put hi (s:=.dead) (v:=tmp a i) (Fd:=fun _ _=>0) (X':=F i) trivial (fun b k=>by omega) (fun _ _ _ _ e=>by cases e)
    rw[kf] at h1
    have hle:∀ b' i',bj b off 1 b' i'<=F i b' i':=fun b' i'=>by have:=s5 b' i';simp only[Ty.sz] at this;omega
    have Y:=h1.giveUp (A1:=fun b' i'=>A b' i'\/1<=bj b off 1 b' i') (X1:=fun _ _=>0) (fun _ _ h=>.inl h) (fun b' i' ha=>ha.imp id fun hp=>⟨by have:=hle b' i';omega,rfl⟩) (fun _ _=>Nat.zero_le _)
    have lj:ce w b off=some (.int .i64 n):=s3 0 _ rfl
    have hA:1<=bj b off 1 b off:=by simp[bj]
    have h3:=Y.put (d:=i) hi (s:=.cp (.int .i64) n) (v:=tmp a i) (Fd:=fun _ _=>0) (X':=fun _ _=>0)
     ⟨⟨b,off,none⟩,by rw[s1],rfl,[.int .i64 n],rfl,(fun j u hu=>by
      cases j with
      | zero=>injection hu with hu;subst hu;exact ⟨lj,.inr hA⟩
      | succ j=>cases hu),rfl⟩ (fun b k=>by omega) (fun _ _ _ _ e=>by cases e)
    rw[kf] at h3
    have ev:a.eval (.tmp i)=.pointer (some ⟨b,off,none⟩):=s1
    refine cn (v:=.func (.func f) #[] #[.pointer (some ⟨b,off,none⟩)]) (by simp[execOp,ho,Instr.makeFunc,ev])
     (aW h3 hk ⟨[.func (.func f) #[] #[.pointer (some ⟨b,off,none⟩)]],rfl,_,rfl,fn,hf,.inr ⟨by simpa using hn,_,rfl,rfl,lj,.inr hA⟩⟩ (fun _ _ _ _ e=>by cases e))
   ·cases hk
  ·cases hk
 ·cases hk
theorem DB (h:bu P C A σ a w F) {y:Operand} (ho:o.op=.assign y) (aA:bn P y=true) {T:Nat} {mv:Bool} {K:St->Option R} (hk:y_ E σ T y mv o.dst K=some x):Tk P o a w (Nx P C K x):=by
 refine cn (v:=a.eval y) (by simp[execOp,ho]) ?_
 unfold y_ at hk
 by_cases MZ:∃ i xs,y=.tmp i/\σ.get i=.kC xs
 ·obtain ⟨i,xs,rfl,hg⟩:=MZ
  have e:bs σ (.tmp i)=.kC xs:=by simp only[bs,hg]
  rw[e] at hk
  cases xs with
  | nil=>
   have hi:i < σ.n:=by
    rcases Nat.lt_or_ge i σ.n with hi | hi
    ·exact hi
    ·rw[e8 (Nat.not_lt.2 hi)] at hg;cases hg
   have hs:=h.dj i hi
   rw[hg] at hs
   obtain ⟨vs,Fi,h1,Y,h3⟩:=hs
   exact aW h hk ⟨vs,fun _ _ _=>0,h1,fun b i=>by simp[az],fun j y hy=>by cases hy⟩ (fun _ _ _ _ e=>by cases e)
  | cons _ _=>cases hk
 rcases b9 h aA with hs | ⟨xs,e⟩
 rotate_left
 ·exfalso
  cases y with
  | tmp i=>
   simp only[bs] at e
   cases hg:σ.get i <;> rw[hg] at e <;> first | (cases e;done) | exact MZ ⟨i,_,rfl,hg⟩
  | const v=>simp only[bs] at e;unfold pA at e;split at e <;> first | (cases e;done) | (split at e <;> cases e)
  | func f=>cases e
  | global g=>cases e
 split at hk
 ·exact aW h hk trivial (fun _ _ _ _ e=>by cases e)
 ·rename_i hv
  rw[hv] at hs
  obtain ⟨t,hT,hk⟩:=cm hk
  split at hk
  ·have hs:a.eval y=.slice none 0 0:=hs
   rw[hs]
   refine aW h hk ⟨[.slice none 0 0],(bq _ _ rfl).symm,?_⟩ (fun _ _ _ _ e=>by cases e)
   simp only[ai,hole,List.any_nil,Bool.false_eq_true,if_false,aq,mz,Md.own,if_true]
   exact ⟨none,0,rfl,Nat.le_refl _,by simp[maxLen],fun _=>rfl,fun ad cO=>by cases cO⟩
  ·cases hk
 ·rename_i hv
  rw[hv] at hs
  obtain ⟨vs,Fi,h1,Y,h3⟩:=hs
  exact aW h hk ⟨vs,Fi,h1,Y,fun j y hy=>by cases hy⟩ (fun _ _ _ _ e=>by cases e)
 ·cases hk
 ·rename_i r p snap hv
  rw[hv] at hs
  split at hk
  ·split at hk
   ·obtain ⟨A',σ',F',m,v,cs,Fv,k1,k2,k3,k4,kr,k5,k6⟩:=mK h hs hk
    rw[k5]
    exact qT k3 k1 k6 (fun b i=>by omega)
   ·cases hk
  ·cases hk
 ·rename_i r p snap lo hi hv
  rw[hv] at hs
  split at hk
  ·split at hk
   ·obtain ⟨A',σ',F',m,v,cs,Fv,k1,k2,k3,k4,kr,k5,k6⟩:=mK h hs hk
    rw[k5]
    exact qT k3 k1 k6 (fun b i=>by omega)
   ·cases hk
  ·cases hk
 ·rename_i r p snap hv
  rw[hv] at hs
  split at hk
  ·rename_i t m H v hg
   split at hk
   ·rename_i hc
    simp only[Bool.and_eq_true,Bool.not_eq_true'] at hc
    split at hk
    ·rename_i i hd
     have hr:r < σ.n:=by
      rcases Nat.lt_or_ge r σ.n with hi | hi
      ·exact hi
      ·rw[e8 (Nat.not_lt.2 hi)] at hg;cases hg
     have hK:=h.dj r hr
     rw[hg] at hK
     obtain ⟨b,off,L,F1,s1,s2,s3,s4,s5,s6⟩:=hK
     obtain ⟨pl,b',o',g1,g2,g3,g4⟩:=hs.2 hc.1.1
     have dO:place σ a w r []=some ⟨t,H,rd w b off t.sz,some (b,off)⟩:=by
      unfold place;rw[hg,s1];rfl
     rw[dO] at g1
     injection g1 with g1
     subst g1
     simp only[Option.some.injEq,Prod.mk.injEq] at g2
     obtain ⟨rfl,rfl⟩:=g2
     have h1:=h.put hr (s:=.dead) (v:=tmp a r) (Fd:=fun _ _=>0) (X':=F r) trivial (fun b k=>by omega) (fun _ _ _ _ e=>by cases e)
     rw[kf] at h1
     obtain ⟨bw,w1,w2⟩:=h.whole r t m H v hg (xJ hc.2)
     rw[s1] at w1
     injection w1 with w1;injection w1 with w1;injection w1 with w1 w3
     subst w1
     have:=i9 (K:=K) (x:=x) (d:=some i) h1 hk (v:=a.eval y) (s:=.box t m H v) (Fd:=F r) ⟨b,off,L,F1,g3,s2,s3,s4,s5,s6⟩ (fun b i=>Nat.le_refl _) (fun t' m' H' v' e=>by injection e with e1;subst e1;exact ⟨b,by rw[g3,w3],w2⟩)
     rw[hd];exact this
    ·cases hk
   ·exact aW h hk hs (fun _ _ _ _ e=>by cases e)
  ·exact aW h hk hs (fun _ _ _ _ e=>by cases e)
 ·exact aW h hk hs (fun t m H v e=>zP σ _ t m H v e)
theorem wt {α:Type} (v y:List α) {lo n:Nat} (h:lo+n<=v.length) (hy:n<=y.length):(lc v lo n y).length=v.length:=by
 simp only[lc,List.length_append,List.length_take,List.length_drop];omega
theorem Jx {α:Type} (v y:List α) {lo n:Nat} (h:lo+n<=v.length) (hy:n<=y.length) (i:Nat):(lc v lo n y)[i]?=if lo<=i/\i < lo+n then y[i - lo]? else v[i]?:=by
 unfold lc
 by_cases h1:i < lo
 ·rw[if_neg (by omega),List.append_assoc,List.getElem?_append_left (by simp;omega),List.getElem?_take_of_lt h1]
 ·by_cases Y:i < lo+n
  ·rw[if_pos (by omega),List.append_assoc,List.getElem?_append_right (by simp;omega),List.getElem?_append_left (by simp;omega)]
   have:(v.take lo).length=lo:=by simp;omega
   rw[this,List.getElem?_take_of_lt (by omega)]
  ·rw[if_neg (by omega),List.getElem?_append_right (by simp;omega),List.getElem?_drop]
   have:(v.take lo++y.take n).length=lo+n:=by simp;omega
   rw[this];congr 1;omega
theorem zT (h:bu P C A σ a w F) {r:Nat} {p:Path} {e:Ty} {m:Md} {v y:List e.den} {news:List Value} {Gi:Nat->FP} {me:Md} {lo n:Nat} {K:St->Option R} (pE:At σ r p (.U e) m [] v) (c_:m.own=true) (hf:e.flat=true) (hn:lo+n<=List.length v) (hy:n<=List.length y)
  (hl:news.length=List.length y*e.sz) (gY:∀ u ∈ news,u.oneCell'=true) (iY:∀ (i:Nat) (z:e.den),y[i]?=some z->ai P w A e me [] z ((news.drop (i*e.sz)).take e.sz) (Gi i))
  (hk:np σ r p (.U e) m (lc v lo n y) (fun σ'=>K { σ' with vr:=(σ.eY r oq).vr,av:=σ.av })=some x) :
  ∃ (xa:Option Addr) (cap:Nat) (ad:Option (Nat×Nat)) (w2:World) (A3:Cells) (σ':St) (F3:Nat->FP),place σ a w r p=some ⟨.U e,[],[.slice xa (List.length v) cap],ad⟩/\K σ'=some x/\bu P C A3 σ' a w2 F3 /\
   (xa=none->w2=w/\List.length v=0)/\∀ ad,xa=some ad->ad.off=0/\ad.spot=none/\(n=0->w2=w)/\(storeCells ⟨ad.block,lo*e.sz,none⟩ (news.take (n*e.sz))).run P w=.ok () w2:=by
 obtain ⟨hr,m2,H2,v2,bh,pD,F2,q1,q2,q3,q4,q5,q6⟩:=sA h hk
 obtain ⟨_,e2,e3,e4⟩:=pE.inj q1
 subst e2;subst e3
 have e4:=eq_of_heq e4
 subst e4
 have cx:=q3
 simp only[ai,hole,List.any_nil,Bool.false_eq_true,if_false,c_,if_true] at q3
 obtain ⟨xa,cap,rfl,c1,c2,c3,c4⟩:=q3
 have uV:=wt v y hn hy
 have pZ:∀ b i,F r b i<=1:=fun b i=>by have:=h.iD b i;have:=be F hr b i;omega
 have fin:∀ (w2:World),Ext w w2 (fun b i=>0+(F2 b i+df pD (Ty.U e).sz b i))->(∀ b o,pD=some (b,o)->Has w2 b o [.slice xa (List.length v) cap])->ai P w2 A (.U e) m [] (lc v lo n y) [.slice xa (List.length v) cap] F2 ->
   (∀ (i:Nat) (z:e.den),(lc v lo n y)[i]?=some z->∀ ad,xa=some ad->∃ L,L.length=e.sz/\Has w2 ad.block (ad.off+i*e.sz) L/\ai P w2 A e .leaf [] z L (fun _ _=>0)) ->
   ∃ (A3:Cells) (σ':St) (F3:Nat->FP),K σ'=some x/\bu P C A3 σ' a w2 F3:=by
  intro w2 g1 g2 g3 g4
  obtain ⟨A3,p8,Fr,n1,n2,n3,n4,n5⟩:=q6 w2 A _ F2 (fun _ _=>0) g1 (fun _ _ h=>h) (fun _ _ h=>.inl h) (fun b i=>by omega) g2 (fun _=>rfl) g3
  refine ⟨A3,_,_,n1,n5 oq (pk (h.ft r)) (uT (h.ft r)) rfl fun p' snap hb aA hlen=>?_⟩
  have h5:=wR (h.ft r) hb aA
  refine ⟨bk p'+1,False,by omega,fun _=>.inl (by omega),fun _=>by omega,?_⟩
  intro q pl hq hp
  cases q with
  | nil=>
   simp only[aG,Option.some.injEq] at hp
   subst hp
   exact ⟨_,_,rfl,fun _=>rfl⟩
  | cons s q=>
   cases s with
   | idx i=>
    cases xa with
    | none=>simp[aG,hole] at hp
    | some ad=>
     simp only[aG,hole,List.any_nil,Bool.false_eq_true,if_false,List.filterMap_nil] at hp ⊢
     split at hp
     ·rename_i hi
      rw[if_pos hi]
      have eZ:i < (lc v lo n y).length:=by rw[uV];exact hi
      obtain ⟨L,l1,l2,l3⟩:=g4 i _ (List.getElem?_eq_getElem eZ) ad rfl
      rw[bt l2 l1]
      obtain ⟨H',aJ,h1,Y⟩:=rE (A:=A) (m:=.leaf) (v:=(lc v lo n y)[i]) (F:=fun _ _=>0) q e l3 (.inr hf) hp
      exact ⟨H',aJ,h1,fun h=>by rcases h with ⟨_,hs⟩ | h;rw[Y hf] at hs;cases hs;exact h.elim⟩
     ·cases hp
   | _=>simp[aG] at hp
 cases xa with
 | none=>
  have h0:=c3 rfl
  have EH:List.length v=0:=by omega
  have M0:lc v lo n y=v:=by
   have:n=0:=by omega
   subst this
   have hv:v=[]:=List.eq_nil_of_length_eq_zero EH
   subst hv
   simp[lc]
  obtain ⟨A3,p8,F3,n1,n2⟩:=fin w (Ext.refl _ _) (fun b o e=>(q5 b o e).1) (by rw[M0];exact cx) (fun i z hz ad e=>by cases e)
  exact ⟨none,cap,pD,w,A3,p8,F3,q2,n1,n2,fun _=>⟨rfl,EH⟩,fun ad e=>by cases e⟩
 | some ad=>
  obtain ⟨d1,d2,d3,Fi,d4,d5⟩:=c4 ad rfl
  obtain ⟨b,off,sp⟩:=ad
  simp only at d1 d2 d3 d4 d5
  subst d1;subst d2
  have hle:lo*e.sz+n*e.sz<=cap*e.sz:=by rw[<-Nat.add_mul];exact Nat.mul_le_mul_right _ (by omega)
  have BU:(news.take (n*e.sz)).length=n*e.sz:=by
   rw[List.length_take,hl,Nat.min_eq_left];exact Nat.mul_le_mul_right _ hy
  have lj:∀ j,j < cap*e.sz->(w.cell? ⟨b,j,none⟩).isSome=true:=fun j hj=>by
   obtain ⟨c,e',fr,w1,w2,w3⟩:=d3
   unfold World.cell?
   simp only[w1,Option.isSome_none,Bool.false_eq_true,if_false]
   rw[Array.getElem?_eq_getElem (by omega)];rfl
  have bb:=run_storeCells_cells (P:=P) b (lo*e.sz) (news.take (n*e.sz)) 0 w (fun j hj=>by rw[Nat.add_zero];exact lj _ (by omega)) (fun j hj=>by rw[Nat.add_zero];exact d3.frozen (by omega)) (fun u hu=>gY u (List.mem_of_mem_take hu))
  rw[Nat.add_zero] at bb
  have ca:=kg (b:=b) (o:=lo*e.sz) (news.take (n*e.sz)) w (lo*e.sz)
  rw[BU] at ca
  have uN:∀ b' i,bj b (lo*e.sz) (n*e.sz) b' i<=bj b 0 (cap*e.sz) b' i:=fun b' i=>by
   simp only[bj]
   split
   ·rw[if_pos (by omega)];exact Nat.le_refl _
   ·exact Nat.zero_le _
  have hA:∀ b' i,A b' i->∀ u,ce w b' i=some u->ce (w.setCells b (lo*e.sz) (news.take (n*e.sz))) b' i=some u:=fun b' i ha u hu=>by
   refine ca.cell b' i (h.eh b' i (.inr ha)) ?_ u hu
   rcases Nat.eq_zero_or_pos (bj b (lo*e.sz) (n*e.sz) b' i) with h0 | h0
   ·exact h0
   ·exact absurd ha (h.jn b' i (by have:=uN b' i;have:=d4 b' i;have:=q4 b' i;have:=be F hr b' i;omega))
  have M1:∀ (i:Nat) (z:e.den),(lc v lo n y)[i]?=some z->∃ L,L.length=e.sz/\Has (w.setCells b (lo*e.sz) (news.take (n*e.sz))) b (i*e.sz) L/\Ro P (w.setCells b (lo*e.sz) (news.take (n*e.sz))) A e z L:=by
   intro i z hz
   rw[Jx v y hn hy] at hz
   split at hz
   ·rename_i hi
    have mF:=ai.flat _ hf (iY _ z hz)
    refine ⟨_,Ro.length _ mF,fun j u hu=>?_,Ro.mono hA (fun _ _ h=>h) e mF⟩
    rw[List.getElem?_take] at hu
    split at hu
    ·rename_i hj
     rw[List.getElem?_drop] at hu
     have h6:(i - lo)*e.sz+e.sz<=n*e.sz:=by rw[<-Nat.succ_mul];exact Nat.mul_le_mul_right _ (by omega)
     have:=qU (w:=w) (b:=b) (o:=lo*e.sz) (L:=news.take (n*e.sz)) (fun k hk=>lj _ (by omega)) (fun u hu=>gY u (List.mem_of_mem_take hu)) ((i - lo)*e.sz+j) u (by rw[List.getElem?_take_of_lt (by omega)];exact hu)
     rw[<-this]
     have h7:i*e.sz=lo*e.sz+(i - lo)*e.sz:=by rw[<-Nat.add_mul];congr 1;omega
     congr 1;omega
    ·cases hu
   ·rename_i hi
    obtain ⟨L,l1,l2,l3⟩:=d5 i z hz
    have mF:=ai.flat _ hf l3
    refine ⟨L,l1,fun j u hu=>?_,Ro.mono hA (fun _ _ h=>h) e mF⟩
    refine ca.cell b _ (by obtain ⟨c,e',fr,w1,_⟩:=d3;exact (Array.getElem?_eq_some_iff.1 w1).1) ?_ u (l2 j u hu)
    have hj:=(List.getElem?_eq_some_iff.1 hu).1
    simp only[bj]
    rw[if_neg]
    rintro ⟨_,h8,h9⟩
    rcases Nat.lt_or_ge i lo with KY | KY
    ·have h6:i*e.sz+e.sz<=lo*e.sz:=by rw[<-Nat.succ_mul];exact Nat.mul_le_mul_right _ (by omega)
     omega
    ·have h6:lo*e.sz+n*e.sz<=i*e.sz:=by rw[<-Nat.add_mul];exact Nat.mul_le_mul_right _ (by omega)
     omega
  have v6:ai P (w.setCells b (lo*e.sz) (news.take (n*e.sz))) A (.U e) m [] (lc v lo n y) [.slice (some ⟨b,0,none⟩) (List.length v) cap] F2:=by
   simp only[ai,hole,List.any_nil,Bool.false_eq_true,if_false,c_,if_true]
   refine ⟨some ⟨b,0,none⟩,cap,by rw[uV],by omega,c2,(fun e=>by cases e),fun aZ e'=>?_⟩
   injection e' with e';subst e'
   refine ⟨rfl,rfl,ca.o3 _ _ d3,fun _ _ _=>0,fun b' i=>by rw[gC];have h9:=d4 b' i;show bj b 0 (cap*e.sz) b' i+0<=F2 b' i;omega,fun i z hz=>?_⟩
   obtain ⟨L,l1,l2,l3⟩:=M1 i z hz
   exact ⟨L,l1,l2,Ro.flat _ _ hf l3⟩
  have uX:∀ b' o',pD=some (b',o')->Has (w.setCells b (lo*e.sz) (news.take (n*e.sz))) b' o' [.slice (some ⟨b,0,none⟩) (List.length v) cap]:=fun b' o' ea j u hu=>by
   have h1:=(q5 b' o' ea).1 j u hu
   have hj:=(List.getElem?_eq_some_iff.1 hu).1
   have Y:=q4 b' (o'+j);have h3:=d4 b' (o'+j);have h4:=uN b' (o'+j);have h5:=pZ b' (o'+j);have h7:=be F hr b' (o'+j)
   have h6:df pD (Ty.U e).sz b' (o'+j)=1:=by
    subst ea
    have M2:j=0:=by simpa using hj
    subst M2
    simp[df,bj,Ty.sz]
   exact ca.cell _ _ (h.eh b' (o'+j) (.inl (by show 1<=0+_;omega))) (by omega) u h1
  obtain ⟨A3,p8,F3,n1,n2⟩:=fin _ (ca.mono fun b' i hz=>by
    have hz:0+(F2 b' i+df pD (Ty.U e).sz b' i)=0:=hz
    have Y:=uN b' i;have h3:=d4 b' i;omega) uX v6 (fun i z hz ad e=>by
    injection e with e;subst e
    obtain ⟨L,l1,l2,l3⟩:=M1 i z hz
    exact ⟨L,l1,by simpa using l2,Ro.flat _ _ hf l3⟩)
  refine ⟨_,cap,pD,_,A3,p8,F3,q2,n1,n2,(fun e=>by cases e),fun aZ e'=>?_⟩
  injection e' with e';subst e'
  refine ⟨rfl,rfl,fun xU=>?_,bb⟩
  subst xU
  simp[World.setCells]
theorem HT (h:bu P C A σ a w F) (eo:∀ i T,E.TI i=some T->aD P T (.inl i)=true) {t tx:Nat} {y z:Operand} (ho:o.op=.call { callee:=.builtin .copy,args:=#[y,z],argTypes:=#[t,tx] }) (aA:bn P y=true/\bn P z=true)
  (th:(∃ e',P.underlying tx=some (.slice e'))\/P.underlying tx=some .string) {K:St->Option R} (hk:Ff E σ t y (bs σ z) o.dst K=some x):o.wp P a w (Nx P C K x) Q:=by
 unfold Ff at hk
 obtain ⟨T,hT,hk⟩:=cm hk
 have cy:=eo _ _ hT
 split at hk
 ·rename_i e
  have hl:=cy
  simp only[aD,Bool.and_eq_true] at hl
  have Y:=hl.2
  split at Y
  rotate_left
  ·cases Y
  rename_i el hu
  simp only[Bool.and_eq_true,Nat.ble_eq] at Y
  obtain ⟨ez,iY⟩:=Y
  have M3:=run_sizeOf (P:=P) (w:=w) iY
  split at hk
  rotate_left
  ·cases hk
  rename_i hf
  rcases b9 h aA.2 with no | ⟨xs,e'⟩
  rotate_left
  ·rw[e'] at hk;simp[vV,gy] at hk
  obtain ⟨A2,eI,F2,me,yv,news,Fw,Gi,q1,q2,q3,qr,q4,RJ,q5,q6⟩:=EI h no th hk
  have Y:bu P C A2 eI a w F2:=q3.less fun _ _=>Nat.zero_le _
  have run:∀ (xa:Option Addr) (n cap:Nat) (w2:World),a.eval y=.slice xa n cap->(match (generalizing:=false) xa with | none=>w2=w | some ad=>(storeCells ad (news.take (min (List.length yv) n*e.sz))).run P w=.ok () w2) ->
    (execOp a.eval o).run P w=.ok (.value (.int .i64 ((min (List.length yv) n:Nat):Int))) w2:=by
   intro xa n cap w2 hy bb
   have KZ:=RJ (min (List.length yv) n) (Nat.min_le_left _ _)
   cases xa with
   | none=>
    simp only at bb
    subst bb
    simp[execOp,ho,resolve,invoke,builtin,Builtin.copy_,hy,run_underlying hu,q4.len,M3,Nat.min_def] at KZ ⊢
    simp[KZ,goInt]
   | some ad=>
    simp only at bb
    simp[execOp,ho,resolve,invoke,builtin,Builtin.copy_,hy,run_underlying hu,q4.len,M3,Nat.min_def] at KZ bb ⊢
    simp[KZ,bb,goInt]
  rcases b9 Y aA.1 with hs | ⟨xs,e'⟩
  rotate_left
  ·rw[e'] at q1;cases q1
  split at q1
  ·rename_i r p snap lo hi hv
   rw[hv] at hs
   split at q1
   ·rename_i h_
    obtain ⟨hr,t',m',H',v',aJ,aZ,F',h1,pE,h3,h4,h5,h6⟩:=fi Y q1
    split at h1
    ·rename_i hc
     simp only[Bool.and_eq_true,List.isEmpty_iff] at hc
     obtain ⟨c_,hH⟩:=hc
     subst hH
     obtain ⟨e1,h1⟩:=a8 h1
     subst e1
     obtain ⟨pl,e2,xa,n,cap,nm,cap',g1,g2,g3,g4,g5,g6,g7,g8,g9,g10,g11⟩:=hs.2 h_
     have Tz:n=List.length v':=by
      rw[g1] at h3
      injection h3 with h3
      subst h3
      simp only at g3
      subst g3
      simp only[ai,hole,List.any_nil,Bool.false_eq_true,if_false,c_,if_true] at h4
      obtain ⟨_,_,h4,_⟩:=h4
      injection h4 with h4;injection h4
     obtain ⟨xb,tf,pD,w2,A3,p8,F3,c1,c2,c3,c4,c5⟩:=zT Y (K:=fun σ'=>K (σ'.aQ o.dst (.val (.int .i64) ((min (List.length yv) (hi - lo):Nat):Int)))) ⟨pE⟩ c_ hf (lo:=lo) (n:=min (List.length yv) (hi - lo)) (by omega) (Nat.min_le_left _ _) q4.newsLen q4.one q5 h1
     rw[c1] at g1
     injection g1 with g1
     subst g1
     simp only[List.cons.injEq,Value.slice.injEq,and_true] at g3
     obtain ⟨rfl,g3,rfl⟩:=g3
     injection g2 with g2
     subst g2
     refine hY (run nm (hi - lo) cap' w2 g6 ?_) (aW c3 c2 ⟨[.int .i64 _],rfl,rfl⟩ (fun _ _ _ _ e=>by cases e))
     cases xb with
     | none=>rw[g9 rfl];exact (c4 rfl).1
     | some ad=>
      obtain ⟨M4,k1,k2,k3,k4⟩:=g10 ad rfl
      rw[k1]
      obtain ⟨j1,j2,j3,j4⟩:=c5 ad rfl
      simp only
      by_cases aj:lo < hi
      ·have:M4=⟨ad.block,lo*e.sz,none⟩:=by
        have h1:=k4 aj
        obtain ⟨x1,x2,x3⟩:=M4
        simp only at k2 k3 h1
        rw[k3,k2,j2,h1,j1,Nat.zero_add]
       rw[this];exact j4
      ·have xU:min (List.length yv) (hi - lo)=0:=by omega
       rw[xU,Nat.zero_mul,List.take_zero]
       rw[j3 xU];rfl
    ·cases h1
   ·cases q1
  ·rename_i r p snap hv
   rw[hv] at hs
   split at q1
   ·rename_i h_
    obtain ⟨hr,t',m',H',v',aJ,aZ,F',h1,pE,h3,h4,h5,h6⟩:=fi Y q1
    split at h1
    ·rename_i hc
     simp only[Bool.and_eq_true,List.isEmpty_iff] at hc
     obtain ⟨c_,hH⟩:=hc
     subst hH
     obtain ⟨e1,h1⟩:=a8 h1
     subst e1
     obtain ⟨pl,g1,g2,g3⟩:=hs.2 h_
     obtain ⟨xb,tf,pD,w2,A3,p8,F3,c1,c2,c3,c4,c5⟩:=zT Y (K:=fun σ'=>K (σ'.aQ o.dst (.val (.int .i64) ((min (List.length yv) (List.length v'):Nat):Int)))) ⟨pE⟩ c_ hf (lo:=0) (n:=min (List.length yv) (List.length v')) (by omega) (Nat.min_le_left _ _) q4.newsLen q4.one q5 h1
     rw[c1] at g1
     injection g1 with g1
     subst g1
     simp only[bq (.U e) _ rfl] at g2
     refine hY (run xb (List.length v') tf w2 g2 ?_) (aW c3 c2 ⟨[.int .i64 _],rfl,rfl⟩ (fun _ _ _ _ e=>by cases e))
     cases xb with
     | none=>exact (c4 rfl).1
     | some ad=>
      obtain ⟨j1,j2,j3,j4⟩:=c5 ad rfl
      obtain ⟨b,off,sp⟩:=ad
      simp only at j1 j2 j4 ⊢
      subst j1;subst j2
      simpa using j4
    ·cases h1
   ·cases q1
  ·cases q1
 ·cases hk
end
end OT
set_option linter.unusedVariables false
set_option linter.unusedSimpArgs false
namespace OT
open Go
def et (w:World):(t:Ty)->Md->List Path->List Value->FP
 | .pair a b,m,H,cs=>fun x i=>et w a m.l (H.filterMap nt) (cs.take a.sz) x i+et w b m.r (H.filterMap nu) (cs.drop a.sz) x i
 | .U e,m,H,cs=>
  if hole H then fun _ _=>0 else if m.own then
   match cs with
   | [.slice (some ad) n cap]=>fun x i=>bj ad.block 0 (cap*e.sz) x i+az n (fun j=>et w e m.e (H.filterMap (gb j)) (rd w ad.block (j*e.sz) e.sz)) x i
   | _=>fun _ _=>0
  else fun _ _=>0
 | .ptr e,m,H,cs=>
  if hole H then fun _ _=>0 else if m.own then
   match cs with
   | [.pointer (some ad)]=>fun x i=>bj ad.block 0 e.sz x i+et w e m.e [] (rd w ad.block 0 e.sz) x i
   | _=>fun _ _=>0
  else fun _ _=>0
 | .map _ _,m,H,cs=>
  if hole H then fun _ _=>0 else if m.own then
   match cs with
   | [.map (some r)]=>bj r 0 1
   | _=>fun _ _=>0
  else fun _ _=>0
 | _,_,_,_=>fun _ _=>0
section
variable {P:Program} {w w1:World} {A:Cells}
theorem ai.fp:∀ (t:Ty) {m:Md} {H:List Path} {v:t.den} {cs:List Value} {F:FP},ai P w A t m H v cs F->ai P w A t m H v cs (et w t m H cs)/\∀ b i,et w t m H cs b i<=F b i:=by
 intro t
 induction t with
 | pair a b eg dZ=>
  intro m H v cs F h
  obtain ⟨h0,F1,F2,hs,h1,Y⟩:=h
  obtain ⟨a1,a2⟩:=eg h1
  obtain ⟨b1,b2⟩:=dZ Y
  exact ⟨⟨h0,_,_,fun _ _=>Nat.le_refl _,a1,b1⟩,fun b i=>by have:=a2 b i;have:=b2 b i;have:=hs b i;simp only[et];omega⟩
 | U e ih=>
  intro m H v cs F h
  have h':=h
  simp only[ai] at h
  split at h
  ·rename_i hh
   exact ⟨by simp only[ai,hh,if_true];exact h,fun b i=>by simp only[et,hh,if_true];exact Nat.zero_le _⟩
  ·rename_i hh
   split at h
   ·rename_i hm
    obtain ⟨xa,cap,rfl,h1,Y,h3,h4⟩:=h
    cases xa with
    | none=>
     refine ⟨?_,fun b i=>by simp only[et,hh,hm,if_true,Bool.false_eq_true,if_false];exact Nat.zero_le _⟩
     simp only[ai,hh,hm,if_true,Bool.false_eq_true,if_false]
     exact ⟨none,cap,rfl,h1,Y,h3,fun ad e=>by cases e⟩
    | some ad=>
     obtain ⟨g1,g2,g3,Fi,g4,g5⟩:=h4 ad rfl
     have each:∀ (i:Nat) (x:e.den),v[i]?=some x->∃ L:List Value,L.length=e.sz/\Has w ad.block (i*e.sz) L/\ai P w A e m.e (H.filterMap (gb i)) x L (et w e m.e (H.filterMap (gb i)) (rd w ad.block (i*e.sz) e.sz)) /\
       ∀ b k,et w e m.e (H.filterMap (gb i)) (rd w ad.block (i*e.sz) e.sz) b k<=Fi i b k:=fun i x hx=>by
      obtain ⟨L,l1,l2,l3⟩:=g5 i x hx
      obtain ⟨q1,q2⟩:=ih l3
      rw[bt l2 l1]
      exact ⟨L,l1,l2,q1,q2⟩
     have hle:∀ b i,az (List.length v) (fun j=>et w e m.e (H.filterMap (gb j)) (rd w ad.block (j*e.sz) e.sz)) b i<=az (List.length v) Fi b i:=fun b i=>zg b i fun j hj=>by
      obtain ⟨_,_,_,_,q⟩:=each j _ (List.getElem?_eq_getElem hj)
      exact q b i
     refine ⟨?_,fun b i=>by simp only[et,hh,hm,if_true,Bool.false_eq_true,if_false];have:=hle b i;have:=g4 b i;omega⟩
     simp only[ai,hh,hm,if_true,Bool.false_eq_true,if_false]
     refine ⟨some ad,cap,rfl,h1,Y,h3,fun aZ e'=>?_⟩
     injection e' with e';subst e'
     refine ⟨g1,g2,g3,fun j=>et w e m.e (H.filterMap (gb j)) (rd w ad.block (j*e.sz) e.sz),fun b i=>by simp only[et,hh,hm,if_true,Bool.false_eq_true,if_false];exact Nat.le_refl _,fun i x hx=>?_⟩
     obtain ⟨L,l1,l2,l3,_⟩:=each i x hx
     exact ⟨L,l1,l2,l3⟩
   ·rename_i hm
    exact ⟨by simp only[ai,hh,hm,Bool.false_eq_true,if_false];exact h,fun b i=>by simp only[et,hh,hm,Bool.false_eq_true,if_false];exact Nat.zero_le _⟩
 | ptr e ih=>
  intro m H v cs F h
  simp only[ai] at h
  split at h
  ·rename_i hh
   exact ⟨by simp only[ai,hh,if_true];exact h,fun b i=>by simp only[et,hh,if_true];exact Nat.zero_le _⟩
  ·rename_i hh
   split at h
   ·rename_i hm
    obtain ⟨b0,rfl,h1,L,F1,Y,h3,h4,h5⟩:=h
    obtain ⟨q1,q2⟩:=ih h5
    refine ⟨?_,fun b i=>by simp only[et,hh,hm,if_true,Bool.false_eq_true,if_false,bt h3 Y];have:=q2 b i;have:=h4 b i;omega⟩
    simp only[ai,hh,hm,if_true,Bool.false_eq_true,if_false]
    exact ⟨b0,rfl,h1,L,_,Y,h3,fun b i=>by simp only[et,hh,hm,if_true,Bool.false_eq_true,if_false,bt h3 Y];exact Nat.le_refl _,q1⟩
   ·rename_i hm
    exact ⟨by simp only[ai,hh,hm,Bool.false_eq_true,if_false];exact h,fun b i=>by simp only[et,hh,hm,Bool.false_eq_true,if_false];exact Nat.zero_le _⟩
 | arr n e ih=>intro m H v cs F h;exact ⟨h,fun _ _=>Nat.zero_le _⟩
 | map k v=>
  intro m H x cs F h
  simp only[ai] at h
  split at h
  ·rename_i hh
   exact ⟨by simp only[ai,hh,if_true];exact h,fun b i=>by simp only[et,hh,if_true];exact Nat.zero_le _⟩
  ·rename_i hh
   split at h
   ·rename_i hm
    obtain ⟨h1,Y,r,jW,rfl,h4,h5,h6,h7⟩:=h
    refine ⟨?_,fun b i=>?_⟩
    ·simp only[ai,hh,hm,if_true,Bool.false_eq_true,if_false]
     exact ⟨h1,Y,r,jW,rfl,h4,by simp[et,hh,hm,bj],h6,h7⟩
    ·simp only[et,hh,hm,if_true,Bool.false_eq_true,if_false,bj]
     split
     ·rename_i hc
      obtain ⟨rfl,RK,vj⟩:=hc
      have:i=0:=by omega
      subst this;exact h5
     ·exact Nat.zero_le _
   ·rename_i hm
    exact ⟨by simp only[ai,hh,hm,Bool.false_eq_true,if_false];exact h,fun b i=>by simp only[et,hh,hm,Bool.false_eq_true,if_false];exact Nat.zero_le _⟩
 | _=>intro m H v cs F h;exact ⟨h,fun _ _=>Nat.zero_le _⟩
theorem FQ:∀ (t:Ty) {m:Md} {H:List Path} {v:t.den} {cs:List Value} {F:FP},ai P w A t m H v cs F->(∀ b i,1<=F b i->∀ u,ce w b i=some u->ce w1 b i=some u)->et w1 t m H cs=et w t m H cs:=by
 intro t
 induction t with
 | pair a b eg dZ=>
  intro m H v cs F h hF
  obtain ⟨h0,F1,F2,hs,h1,Y⟩:=h
  have e1:=eg h1 (fun b i hp=>hF b i (by have:=hs b i;omega))
  have e2:=dZ Y (fun b i hp=>hF b i (by have:=hs b i;omega))
  simp only[et,e1,e2]
 | U e ih=>
  intro m H v cs F h hF
  simp only[ai] at h
  split at h
  ·rename_i hh;simp only[et,hh,if_true]
  ·rename_i hh
   split at h
   ·rename_i hm
    obtain ⟨xa,cap,rfl,h1,Y,h3,h4⟩:=h
    cases xa with
    | none=>simp only[et]
    | some ad=>
     obtain ⟨g1,g2,g3,Fi,g4,g5⟩:=h4 ad rfl
     simp only[et,hh,hm,if_true,Bool.false_eq_true,if_false]
     funext b i
     congr 1
     refine congrFun (congrFun (jM fun j hj=>?_) b) i
     obtain ⟨L,l1,l2,l3⟩:=g5 j _ (List.getElem?_eq_getElem hj)
     have hle:j*e.sz+e.sz<=cap*e.sz:=by rw[<-Nat.succ_mul];exact Nat.mul_le_mul_right _ (by omega)
     have RL:Has w1 ad.block (j*e.sz) L:=fun k u hu=>hF _ _ (by
      have hk:=(List.getElem?_eq_some_iff.1 hu).1
      have:=g4 ad.block (j*e.sz+k)
      have h9:bj ad.block 0 (cap*e.sz) ad.block (j*e.sz+k)=1:=by simp only[bj];rw[if_pos ⟨trivial,by omega,by omega⟩]
      omega) u (l2 k u hu)
     rw[bt RL l1,bt l2 l1]
     exact ih l3 (fun b i hp=>hF b i (by have:=g4 b i;have:=be Fi hj b i;omega))
   ·rename_i hm;simp only[et,hh,hm,Bool.false_eq_true,if_false]
 | ptr e ih=>
  intro m H v cs F h hF
  simp only[ai] at h
  split at h
  ·rename_i hh;simp only[et,hh,if_true]
  ·rename_i hh
   split at h
   ·rename_i hm
    obtain ⟨b0,rfl,h1,L,F1,Y,h3,h4,h5⟩:=h
    have BY:Has w1 b0 0 L:=fun k u hu=>hF _ _ (by
     have hk:=(List.getElem?_eq_some_iff.1 hu).1
     have:=h4 b0 (0+k)
     have h9:bj b0 0 e.sz b0 (0+k)=1:=by simp only[bj];rw[if_pos ⟨trivial,by omega,by omega⟩]
     omega) u (h3 k u hu)
    simp only[et,hh,hm,if_true,Bool.false_eq_true,if_false,bt h3 Y,bt BY Y]
    rw[ih h5 (fun b i hp=>hF b i (by have:=h4 b i;omega))]
   ·rename_i hm;simp only[et,hh,hm,Bool.false_eq_true,if_false]
 | _=>intro m H v cs F h hF;rfl
theorem Ro.indep {A':Cells}:∀ (t:Ty) {v:t.den} {cs:List Value},t.flat=true->t.k9=true->Ro P w A t v cs->Ro P w A' t v cs:=by
 intro t
 induction t with
 | pair a b eg dZ=>
  intro v cs hf hn h
  simp only[Ty.flat,Ty.k9,Bool.and_eq_true] at hf hn
  exact ⟨eg hf.1 hn.1 h.1,dZ hf.2 hn.2 h.2⟩
 | arr n e ih=>
  intro v cs hf hn h
  exact ⟨h.1,h.2.1,h.2.2.1,fun i x hx=>ih hf hn (h.2.2.2 i x hx)⟩
 | U e ih=>intro v cs hf;simp[Ty.flat] at hf
 | ptr e ih=>intro v cs hf;simp[Ty.flat] at hf
 | fn=>intro v cs hf hn;simp[Ty.k9] at hn
 | map k v=>intro v cs hf;simp[Ty.flat] at hf
 | _=>intro v cs hf hn h;exact h
theorem ai.indep {A':Cells}:∀ (t:Ty) {v:t.den} {cs:List Value} {F:FP},t.k9=true->ai P w A t (aq t) [] v cs F->ai P w A' t (aq t) [] v cs F:=by
 intro t
 induction t with
 | pair a b eg dZ=>
  intro v cs F hn h
  simp only[Ty.k9,Bool.and_eq_true] at hn
  obtain ⟨h0,F1,F2,hs,h1,Y⟩:=h
  exact ⟨h0,F1,F2,hs,eg hn.1 h1,dZ hn.2 Y⟩
 | U e ih=>
  intro v cs F hn h
  simp only[ai,hole,List.any_nil,Bool.false_eq_true,if_false,aq,mz,Md.own,if_true] at h ⊢
  obtain ⟨xa,cap,h1,Y,h3,h4,h5⟩:=h
  refine ⟨xa,cap,h1,Y,h3,h4,fun ad e'=>?_⟩
  obtain ⟨g1,g2,g3,Fi,g4,g5⟩:=h5 ad e'
  refine ⟨g1,g2,g3,Fi,g4,fun i x hx=>?_⟩
  obtain ⟨L,l1,l2,l3⟩:=g5 i x hx
  exact ⟨L,l1,l2,ih hn l3⟩
 | ptr e ih=>
  intro v cs F hn h
  simp only[ai,hole,List.any_nil,Bool.false_eq_true,if_false,aq,mz,Md.own,if_true] at h ⊢
  obtain ⟨b,h1,Y,L,F1,h3,h4,h5,h6⟩:=h
  exact ⟨b,h1,Y,L,F1,h3,h4,h5,ih hn h6⟩
 | arr n e ih=>
  intro v cs F hn h
  exact ⟨h.1,Ro.indep _ (by have:=h.2.1;simpa [Ty.flat] using this) hn h.2⟩
 | fn=>intro v cs F hn;simp[Ty.k9] at hn
 | map k v=>
  intro x cs F hn h
  simp only[Ty.k9,Bool.and_eq_true] at hn
  simp only[ai,hole,List.any_nil,Bool.false_eq_true,if_false,aq,mz,Md.own,if_true] at h ⊢
  obtain ⟨h1,Y,r,jW,h3,h4,h5,h6,h7⟩:=h
  refine ⟨h1,Y,r,jW,h3,h4,h5,h6,fun i y hy=>?_⟩
  obtain ⟨kc,vc,g1,g2,g3⟩:=h7 i y hy
  exact ⟨kc,vc,g1,Ro.indep k h1 hn.1 g2,Ro.indep v Y hn.2 g3⟩
 | _=>intro v cs F hn h;exact h
theorem ai.free {A':Cells} {t:Ty} {m:Md} {v:t.den} {cs:List Value} {F:FP} (ho:(t.flat||decide (m=aq t))=true) (hn:t.k9=true) (h:ai P w A t m [] v cs F):ai P w A' t m [] v cs F:=by
 simp only[Bool.or_eq_true,decide_eq_true_eq] at ho
 rcases ho with ho | ho
 ·exact Ro.flat t F ho (Ro.indep t ho hn (ai.flat t ho h))
 ·subst ho;exact ai.indep t hn h
def World.news (w w2:World):World:={ w2 with heap:=(w.heap.toList++w2.heap.toList.drop w.heap.size).toArray }
theorem zU {w2:World} (h:w.heap.size<=w2.heap.size) (k:Nat):(World.news w w2).heap[k]?=if k < w.heap.size then w.heap[k]? else w2.heap[k]?:=by
 simp only[World.news,List.getElem?_toArray]
 by_cases hk:k < w.heap.size
 ·rw[if_pos hk,List.getElem?_append_left (by simpa using hk),Array.getElem?_toList]
 ·rw[if_neg hk,List.getElem?_append_right (by simp;omega),List.getElem?_drop,Array.getElem?_toList]
  congr 1;simp;omega
theorem pF {w2:World} (h:w.heap.size<=w2.heap.size):(World.news w w2).heap.size=w2.heap.size:=by simp[World.news];omega
theorem mN {w2:World} (h:w.heap.size<=w2.heap.size) {b:Nat} (hb:b < w.heap.size):(World.news w w2).heap[b]?=w.heap[b]?:=by rw[zU h,if_pos hb]
theorem tj {w2:World} (h:w.heap.size<=w2.heap.size) {b:Nat} (hb:w.heap.size<=b):(World.news w w2).heap[b]?=w2.heap[b]?:=by rw[zU h,if_neg (by omega)]
theorem sf {w2:World} {b:Nat} (h:w2.heap[b]?=w.heap[b]?) (i:Nat):ce w2 b i=ce w b i:=o8 h i
theorem pr {w2:World} {b:Nat} (h:w2.heap[b]?=w.heap[b]?) (i:Nat):w2.frozen? ⟨b,i,none⟩=w.frozen? ⟨b,i,none⟩:=by simp[World.frozen?,h]
theorem oE {w2:World} {b:Nat} (h:w2.heap[b]?=w.heap[b]?) (n:Nat×Bool):de w b n↔de w2 b n:=by unfold de;rw[h]
theorem de.lt {b:Nat} {n:Nat×Bool} (h:de w b n):b < w.heap.size:=by
 obtain ⟨c,e,fr,h1,_⟩:=h;exact (Array.getElem?_eq_some_iff.1 h1).1
theorem wW {w2:World} {F:FP} (h:Ext w w2 F):Ext w (World.news w w2) (fun _ _=>0)/\Ext (World.news w w2) w2 F:=by
 have hs:=h.size
 refine ⟨⟨by rw[pF hs];exact hs,fun b i hb _ u hu=>by rw[sf (mN hs hb)];exact hu,fun b n hn=>(oE (mN hs hn.lt) n).1 hn,fun b i hb=>pr (mN hs hb) i,h.os,h.tape,h.output,fun b hb _=>mN hs hb,h.drawn⟩,
  ⟨by rw[pF hs];exact Nat.le_refl _,fun b i hb hz u hu=>?_,fun b n hn=>?_,fun b i hb=>?_,rfl,rfl,rfl,fun b hb hz=>?_,Nat.le_refl _⟩⟩
 ·by_cases lA:b < w.heap.size
  ·rw[sf (mN hs lA)] at hu
   exact h.cell b i lA hz u hu
  ·rw[sf (w:=w2) (tj hs (Nat.le_of_not_lt lA))] at hu;exact hu
 ·by_cases lA:b < w.heap.size
  ·exact h.o3 b n ((oE (mN hs lA) n).2 hn)
  ·exact (oE (w:=w2) (tj hs (Nat.le_of_not_lt lA)) n).2 hn
 ·by_cases lA:b < w.heap.size
  ·rw[pr (mN hs lA)];exact h.pO b i lA
  ·exact (pr (w:=w2) (tj hs (Nat.le_of_not_lt lA)) i).symm
 ·by_cases lA:b < w.heap.size
  ·rw[mN hs lA];exact h.obj b lA hz
  ·exact (tj hs (Nat.le_of_not_lt lA)).symm
end
def ArgRel (P:Program) (w:World) (A:Cells) (pm:PM) (t:Ty) (v:t.den) (x:Value) (F:FP):Prop:=
 match pm with
 | .ro=>∃ cs,x=bf t cs/\Ro P w A t v cs
 | .fix f=>(∃ cs,x=bf t cs/\Ro P w A t v cs)/\∀ e:t=.fn,(e ▸ v:Ty.fn.den).1=f
 | .i7 m=>∃ b o L F1,x=.pointer (some ⟨b,o,none⟩)/\L.length=t.sz/\Has w b o L/\(∀ j,j < t.sz->w.frozen? ⟨b,o+j,none⟩=false)/\(∀ b' i,bj b o t.sz b' i+F1 b' i<=F b' i)/\ai P w A t m [] v L F1
 | .gG m | .jL m=>∃ cs,x=bf t cs/\ai P w A t m [] v cs F
 | .lD m=>∃ b o L F1,x=.pointer (some ⟨b,o,none⟩)/\L.length=t.sz/\Has w b o L/\(∀ j,j < t.sz->w.frozen? ⟨b,o+j,none⟩=false)/\(∀ b' i,bj b o t.sz b' i+F1 b' i<=F b' i)/\ai P w A t m [] v L F1
def kH (P:Program) (w:World) (A:Cells):(ps:List (PM×Ty))->(bz (ps.map (·.2))).den->List Value->FP->Prop
 | [],_,xs,_=>xs=[]
 | (pm,t)::ps,v,xs,F=>∃ (x:Value) (M5:List Value) (F1 F2:FP),xs=x::M5/\(∀ b i,F1 b i+F2 b i<=F b i)/\ArgRel P w A pm t v.1 x F1/\kH P w A ps v.2 M5 F2
def iC (P:Program) (w:World) (A:Cells):(ps:List (PM×Ty))->(bz (eP ps)).den->List Value->FP->Prop
 | [],_,_,_=>True
 | (.ro,_)::ps,v,xs,F=>iC P w A ps v xs.tail F
 | (.fix _,_)::ps,v,xs,F=>iC P w A ps v xs.tail F
 | (.lD _,_)::ps,v,xs,F=>iC P w A ps v xs.tail F
 | (.jL _,_)::ps,v,xs,F=>iC P w A ps v xs.tail F
 | (.i7 m,t)::ps,v,xs,F=>∃ (F1 F2:FP),(∀ b i,F1 b i+F2 b i<=F b i)/\(∃ b o L F3,xs.head?=some (.pointer (some ⟨b,o,none⟩))/\L.length=t.sz/\Has w b o L/\(∀ b' i,bj b o t.sz b' i+F3 b' i<=F1 b' i)/\ai P w A t m [] v.1 L F3)/\iC P w A ps v.2 xs.tail F2
 | (.gG m,t)::ps,v,xs,F=>∃ (F1 F2:FP),(∀ b i,F1 b i+F2 b i<=F b i)/\(∃ cs,xs.head?=some (bf t cs)/\ai P w A t m [] v.1 cs F1)/\iC P w A ps v.2 xs.tail F2
def ic (P:Program) (w:World) (A:Cells) (rs:List xt) (rv:Value) (F:FP):Prop:=
 match rs with
 | []=>True
 | [x]=>∃ cs,rv=bf x.t cs/\ai P w A x.t x.m [] x.v cs F
 | xs=>∃ (vs:Array Value) (Fi:Nat->FP),rv=.tuple vs/\(∀ b i,az xs.length Fi b i<=F b i)/\∀ j x,xs[j]?=some x->∃ v cs,vs[j]?=some v/\v=bf x.t cs/\ai P w A x.t x.m [] x.v cs (Fi j)
def Sound (P:Program) (f:FuncId) (g:mA):Prop:=
 ∀ (w:World) (A:Cells) (F0:FP) (v:(bz (g.ps.map (·.2))).den) (xs:List Value),kH P w A g.ps v xs F0->(∀ b i,F0 b i<=1)->(∀ b i,1<=F0 b i->¬ A b i)->(∀ b i,1<=F0 b i\/A b i->b < w.heap.size) ->
  ∀ out,g.F v=some out->Calls P f xs.toArray w fun e w'=>∃ rv,e=.returned rv/\Ext w w' F0/\∃ (A':Cells) (G GR GM:FP),(∀ b i,A b i->A' b i)/\(∀ b i,A' b i->A b i\/1<=F0 b i\/w.heap.size<=b) /\
   (∀ b i,1<=G b i->1<=F0 b i\/w.heap.size<=b)/\(∀ b i,G b i<=1)/\(∀ b i,1<=G b i->¬ A' b i)/\(∀ b i,1<=G b i\/A' b i->b < w'.heap.size)/\(∀ b i,GR b i+GM b i<=G b i) /\
   ic P w' A' (fU g.rs out).1 rv GR/\iC P w' A' g.ps (fU g.rs out).2 xs GM
def n_ (P:Program) (f:FuncId) (cap:Bool):Prop:=∃ fn,P.funcs[f]?=some fn/\(fn.name == "runtime.NumGoroutine")=false/\fn.body.isNone=false/\fn.nfree=(match cap with | true=>1 | false=>0)
end OT
