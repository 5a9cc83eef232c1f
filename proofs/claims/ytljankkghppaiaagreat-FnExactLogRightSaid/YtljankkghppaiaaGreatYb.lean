/- The proof's parts, merged: Operands used  slots laid.. No conditions but those that each states. -/
import Derived.Test.YtljankkghppaiaaGreatYa
import Derived.Laws.Entries
import Derived.Laws.NewFold
import Derived.Laws.Sem
import Derived.Laws.Slices
import Derived.Laws.Concat
import Derived.Laws.StructEq
import Derived.Laws.Cover3
import Derived.ChangeKeysEq
import Derived.Laws.MakeOwn
import Derived.Laws.IdiomStrings
import Derived.Laws.BytesArg
import Derived.Laws.Tables
import Derived.Great.BuildSlice
import Derived.Deep.AppendSrc
set_option linter.unusedVariables false
set_option linter.unusedSimpArgs false
namespace OT
open Go
section
variable {P:Program} {C:Ctx} {A:Cells} {X:FP} {σ:St} {a:Act} {w:World} {F:Nat->FP} {R:Type} {x:R}
theorem Gj {l:List (Nat×Nat×Bool)} {r:Nat} (h:Bf l r=false) (k:Nat):(r,k,false) ∉ l:=by
 induction l with
 | nil=>intro hm;cases hm
 | cons y l ih=>
  obtain ⟨k',n,b⟩:=y;simp only[Bf,iQ] at h;intro hm;rcases aY.1 hm with e | hm
  ·injection e with e1 e2;injection e2 with e2 e3;subst e1;subst e3;simp at h
  ·exact ih h.2 hm
theorem qU (a:Act) (i:Nat):a.put (some i) (tmp a i)=a:=by
 have:a.tmps.setIfInBounds i (tmp a i)=a.tmps:=by
  apply Array.ext
  ·simp
  ·intro j h1 h2;rw[iZ (by simpa using h1)];split
   ·rename_i e;subst e;simp[tmp,h2]
   ·rfl
 simp[Act.put,this]
theorem ud (h:Rel P C A X σ a w F) {s:Slot} {tv:Value} {G:FP} (hs:cu P A σ a w tv s G) {mv:Bool} {t:Ty} {K:Md->t.den->St->Option R} (hk:nD σ s mv t K=some x) :
  ∃ (A':Cells) (σ':St) (F':Nat->FP) (m:Md) (v:t.den) (cs:List Value) (Fv:FP),K m v σ'=some x/\(∀ b i,A b i->A' b i)/\Rel P C A' (fun b i=>X b i+Fv b i) σ' a w F'/\σ'.n=σ.n/\qy σ σ' /\
   tv=cg t cs/\an P w A' t m [] v cs Fv:=by
 have hz:Rel P C A (fun b i=>X b i+0) σ a w F:=h
 cases s with
 | val t' v=>
  simp only[nD] at hk;obtain ⟨e,hk⟩:=cv hk;subst e;obtain ⟨cs,h1,h2⟩:=hs;exact ⟨A,σ,F,_,v,cs,fun _ _=>0,hk,fun _ _ h=>h,hz,rfl,qy.refl σ,h1,Ro.rep _ _ (gm _) h2⟩
 | cp t' v=>
  simp only[nD] at hk;obtain ⟨e,hk⟩:=cv hk;subst e;exact ⟨A,σ,F,_,v,[tv],fun _ _=>0,hk,fun _ _ h=>h,hz,rfl,qy.refl σ,(df _ _ rfl).symm,Ro.rep _ _ (gm _) hs⟩
 | v6=>
  simp only[nD] at hk;split at hk
  ·rename_i t e;have hs:tv=.slice none 0 0:=hs;subst hs;refine ⟨A,σ,F,_,_,[.slice none 0 0],fun _ _=>0,hk,fun _ _ h=>h,hz,rfl,qy.refl σ,(df _ _ rfl).symm,?_⟩
   simp only[an,hole,bT,aG,aL,am,sK,Md.own,aI];exact ⟨none,0,rfl,aN _,by simp[maxLen],fun _=>rfl,fun ad fm=>by cases fm⟩
  ·cases hk
 | ref r p snap=>
  simp only[nD] at hk;split at hk
  ·rename_i bc;obtain ⟨hr,t',m',H',v',br,cr,F',h1,h2,h3,h4,h5,h6⟩:=mf h hk;obtain ⟨pl,g1,g2,g3⟩:=hs.2 bc;rw[h3] at g1;injection g1 with g1;subst g1;split at h1
   ·rename_i hH;have hH:=bN.1 hH;subst hH;obtain ⟨e,h1⟩:=cv h1;subst e;split at h1
    ·rename_i hm;subst hm;exact ⟨A,σ,F,_,v',br,fun _ _=>0,h1,fun _ _ h=>h,hz,rfl,qy.refl σ,g2,Ro.rep _ _ (gm _) (an.ro _ (gm _) h4)⟩
    ·split at h1
     ·obtain ⟨A',σ',F2,cs,ad,Fv,k1,k2,k3,k4,kr,k5,k6⟩:=HM h h1 ⟨h2⟩;rw[h3] at k5;injection k5 with k5;simp only[Pl.mk.injEq,dY] at k5;obtain ⟨rfl,rfl⟩:=k5;exact ⟨A',σ',F2,_,v',br,Fv,k1,k2,k3,k4,kr,g2,an.mono k2 (fun _ _ _ _ h=>h) (fun _ _ h=>h) _ k6 (fun _ _=>aN _) (fun _ _ _ _ h=>h)⟩
     ·obtain ⟨A',σ',F2,t2,m2,v2,cs,ad,k1,k2,k3,k4,kr,k5,k6,k7⟩:=Da h h1;obtain ⟨e1,e2,e3,e4⟩:=At.inj ⟨h2⟩ k5;subst e1;have e4:=iA e4;subst e4;rw[h3] at k6;injection k6 with k6;simp only[Pl.mk.injEq,dY] at k6;obtain ⟨rfl,rfl⟩:=k6;exact ⟨A',σ',F2,_,v',br,fun _ _=>0,k1,k2,k3,k4,kr,g2,Ro.rep _ _ (gm _) k7⟩
   ·cases h1
  ·cases hk
 | sub r p snap lo hi=>
  simp only[nD] at hk;split at hk
  ·rename_i bc;obtain ⟨hr,t',m',H',v',br,cr,F',h1,h2,h3,h4,h5,h6⟩:=mf h hk;obtain ⟨pl,e,xa,n,cap,uV,cap',g1,g2,g3,g4,g5,g6,g7,Ke,g8,g9,g10⟩:=hs.2 bc;rw[h3] at g1;injection g1 with g1;subst g1;simp only at g2 g3;subst g2;subst g3;split at h1
   ·rename_i hH;have hH:=bN.1 hH;subst hH;obtain ⟨e',h1⟩:=cv h1;subst e';simp only at h1;have zg:tv=cg (.U e) [.slice uV (hi - lo) cap']:=by rw[df _ _ rfl];exact g6
    split at h1
    ·rename_i hm;subst hm;exact ⟨A,σ,F,_,_,_,fun _ _=>0,h1,fun _ _ h=>h,hz,rfl,qy.refl σ,zg,Ro.rep _ _ (gm _) (Ro.piece (an.ro _ (gm _) h4) g4 g5 g7 g8 g9)⟩
    ·split at h1
     ·split at h1
      ·rename_i vf;subst vf;obtain ⟨A',σ',F2,cs,ad,Fv,k1,k2,k3,k4,kr,k5,k6⟩:=HM h h1 ⟨h2⟩;rw[h3] at k5;injection k5 with k5;simp only[Pl.mk.injEq,dY] at k5;obtain ⟨rfl,rfl⟩:=k5;have k6:=an.mono k2 (fun _ _ _ _ h=>h) (fun _ _ h=>h) _ k6 (fun _ _=>aN _) (fun _ _ _ _ h=>h);refine ⟨A',σ',F2,_,_,_,Fv,k1,k2,k3,k4,kr,zg,?_⟩
       have xA:=Ke rfl;subst xA;simp only[cY] at g7;subst g7;simp only[an,hole,bT,aG,aL] at k6 ⊢;split at k6
       ·rename_i fu;rw[aU fu];obtain ⟨a0,aae,q1,q2,q3,q4,q5⟩:=k6;simp only[cV,Value.slice.injEq,eJ] at q1;obtain ⟨rfl,rfl,rfl⟩:=q1;have hlen:List.length ((v'.take hi).drop 0)=hi:=by simp;omega
        refine ⟨uV,cap',by rw[hlen];rfl,by rw[hlen];omega,q3,q4,fun ad fm=>?_⟩
        obtain ⟨r1,r2,r3,Fi,r4,r5⟩:=q5 ad fm;refine ⟨r1,r2,r3,Fi,fun b i=>?_,fun i y hy=>?_⟩
        ·rw[hlen];have:=r4 b i;have:=Is (List.length v') Fi 0 hi (by omega) b i
         simp only[bE] at this;have this:ba hi Fi b i<=ba (List.length v') Fi b i:=this;omega
        ·rw[eD,bK] at hy;split at hy
         ·exact r5 i y hy
         ·cases hy
       ·rename_i fu;rw[bA fu];exact ⟨trivial,k6.2.1,Ro.piece (cap':=cap') k6.2.2 g4 g5 rfl g8 g9⟩
      ·cases h1
     ·obtain ⟨A',σ',F2,t2,m2,v2,cs,ad,k1,k2,k3,k4,kr,k5,k6,k7⟩:=Da h h1;obtain ⟨e1,e2,e3,e4⟩:=At.inj ⟨h2⟩ k5;subst e1;have e4:=iA e4;subst e4;rw[h3] at k6;injection k6 with k6;simp only[Pl.mk.injEq,dY] at k6;obtain ⟨rfl,rfl⟩:=k6;exact ⟨A',σ',F2,_,_,_,fun _ _=>0,k1,k2,k3,k4,kr,zg,Ro.rep _ _ (gm _) (Ro.piece k7 g4 g5 g7 g8 g9)⟩
   ·cases h1
  ·cases hk
 | ptr r p snap=>
  cases p with
  | cons s p=>simp[nD] at hk
  | nil=>
   simp only[nD] at hk;split at hk
   ·rename_i bc;split at hk
    ·rename_i t' m' H' v' hg;split at hk
     ·rename_i hc;simp only[aF,bN,cM] at hc;obtain ⟨rfl,hl⟩:=hc;obtain ⟨e,hk⟩:=cv hk;subst e
      have hr:r < σ.n:=by
       rcases bZ r σ.n with hr | hr
       ·exact hr
       ·rw[lY (dK.2 hr)] at hg;cases hg
      obtain ⟨pl,b,o,g1,g2,g3,g4⟩:=hs.2 bc;have oq:=h.im r hr;rw[hg] at oq;obtain ⟨b0,o0,L,F1,q1,q2,q3,q4,q5,q6⟩:=oq;unfold place at g1;rw[hg,q1] at g1;simp only[c_,aB,bh,aR] at g1;subst g1;simp only[aR,bS] at g2;obtain ⟨rfl,rfl⟩:=g2;obtain ⟨b1,w1,w2⟩:=h.whole r t' m' [] v' hg (Gj hl);rw[q1] at w1;simp only[Value.pointer.injEq,aR,Addr.mk.injEq,eJ] at w1;obtain ⟨rfl,rfl⟩:=w1;have ue:=h.put hr (s:=.dead) (v:=tmp a r) (Fd:=fun _ _=>0) (X':=fun b i=>X b i+F r b i) trivial (fun b i=>by omega) (fun t m H v e=>by cases e);rw[qU] at ue
      refine ⟨A,_,_,_,v',[tv],F r,hk,fun _ _ h=>h,ue,rfl,(fun w tv i R hR=>⟨R.H,by
       rw[w5] at hR;split at hR
       ·cases hR
       ·exact hR⟩),(df _ _ rfl).symm,?_⟩
      simp only[an,hole,bT,aG,aL,Md.own,aI,Md.e];exact ⟨b0,by rw[g3],w2,L,F1,q2,q3,q5,q6⟩
     ·cases hk
    ·cases hk
   ·cases hk
 | _=>simp[nD] at hk
theorem Ee {t:Ty} {m:Md} {v:t.den} {cs:List Value} {Fv:FP} (h:an P w A t m [] v cs Fv) :
  cu P A σ a w (cg t cs) (laid t m v) Fv/\∀ t' m' H' v',laid t m v=.box t' m' H' v'->∃ b,cg t cs=.pointer (some ⟨b,0,none⟩)/\gc w b (t'.sz,false):=by
 unfold laid;split
 ·rename_i hm;subst hm;exact ⟨⟨cs,rfl,an.ro _ (gm _) h⟩,fun t' m' H' v' e=>by cases e⟩
 ·split
  ·rename_i e m' v' _;simp only[an,hole,bT,aG,aL,Md.own,aI,Md.e] at h;obtain ⟨b,rfl,h2,L,F1,h3,h4,h5,h6⟩:=h;rw[df _ _ rfl];refine ⟨⟨b,0,L,F1,rfl,h3,h4,fun j hj=>by rw[bE];exact h2.frozen hj,h5,h6⟩,fun t' m' H' v' e=>?_⟩
   injection e with e1;subst e1;exact ⟨b,rfl,h2⟩
  ·exact ⟨⟨cs,rfl,h⟩,fun t' m' H' v' e=>by cases e⟩
theorem Rel.VY (h:Rel P C A X σ a w F) {d:Nat} (hd:σ.n<=d) (s:Slot) (v:Value) {X':FP} (ht:∀ b i,X' b i<=X b i):Rel P C A X' (σ.put d s) (a.put (some d) v) w F:=by
 have kt:=h.size;have ha:a.put (some d) v=a:=by simp[Act.put,Array.setIfInBounds,kt,dK.2 hd]
 rw[ha]
 have ua:∀ i,(σ.put d s).get i=σ.get i:=fun i=>by
  rw[w5];split
  ·omega
  ·rfl
 have nF:wZ σ a w (σ.put d s) a w:=by
  intro r p snap hb;rw[yN,St.ok,yN];by_cases hr:d=r
  ·subst hr;simp only[aI];refine ⟨hb.trans (st _),fun bc=>?_⟩
   have h0:=Ez (h.mo d) hb bc;exact ⟨(Eb hb (st _) bc).1,fun hl=>by omega⟩
  ·simp only[bA hr];refine ⟨hb,fun bc=>⟨bc,fun hl pl ip=>⟨pl.H,pl.cs,?_,fun _=>rfl⟩⟩⟩
   unfold place at ip ⊢;rw[ua];exact ip
 refine ⟨h.size,h.defers,fun i hi=>?_,?_,fun b i=>by have:=h.o5 b i;have:=ht b i;show X' b i+ba σ.n F b i<=1;omega,fun b i hp=>h.pW b i (by have:=ht b i;have hp:1<=X' b i+ba σ.n F b i:=hp;omega),
  fun b i hp=>h.kO b i (hp.imp (fun hp=>by have:=ht b i;have hp:1<=X' b i+ba σ.n F b i:=hp;omega) id),fun i=>?_,h.ext,fun b i hp=>h.own b i (by have:=ht b i;have hp:1<=X' b i+ba σ.n F b i:=hp;omega),h.a0,h.a1,?_,?_,?_⟩
 ·rw[ua];exact cu.mY nF (fun _ _ h=>h) (fun _ _ _ _ h=>h) (fun _ _ h=>h) (fun _ _ _=>⟨fun _ h=>h,rfl⟩) (h.im i hi)
 ·intro d' r p snap hm;exact qT.mY nF (h.gh d' r p snap (J8 hm).1)
 ·rw[yN];split
  ·rw[C6];exact h.mo d
  ·exact h.mo i
 ·intro j k hm;exact h.oA j k (yq hm).1
 ·intro r t m H v' hg hl;rw[ua] at hg;refine h.whole r t m H v' hg fun k hm=>hl k (Gb hm fun e=>?_);have e:r=d:=e;subst e;rw[lY (dK.2 hd)] at hg;cases hg
 ·intro j k hm R hR;rw[ua] at hR;exact h.nw j k (yq hm).1 R hR
theorem Rel.bY (h:Rel P C A X σ a w F) (d:Option Tmp) {s:Slot} {v:Value} {Fd X':FP} (hs:cu P A σ a w v s Fd) (ht:∀ b i,X' b i+Fd b i<=X b i)
  (QH:∀ t m H v',s=.box t m H v'->∃ b,v=.pointer (some ⟨b,0,none⟩)/\gc w b (t.sz,false)):∃ F',Rel P C A X' (σ.bY d s) (a.put d v) w F':=by
 cases d with
 | none=>exact ⟨F,h.less fun b i=>by have:=ht b i;omega⟩
 | some d=>
  rcases bZ d σ.n with hd | hd
  ·exact ⟨_,h.put hd hs (fun b i=>by have:=ht b i;omega) QH⟩
  ·exact ⟨_,h.VY hd s v fun b i=>by have:=ht b i;omega⟩
def Dd (P:Program) (C:Ctx) (σ:St) (a:Act) (w:World):Prop:=∃ A F,Rel P C A (fun _ _=>0) σ a w F
end
end OT
namespace OT
open Go
def zc:Ty->Option (List Value)
 | .int k=>some [.int k 0]
 | .bool=>some [.bool false]
 | .str=>some [.string ⟨#[]⟩]
 | .unit=>some []
 | .pair a b=>match zc a,zc b with
  | some x,some y=>some (x++y)
  | _,_=>none
 | .arr n e=>match zc e with
  | some x=>some (List.replicate n x).flatten
  | none=>none
 | .U _=>some [.slice none 0 0]
 | _=>none
def WZ:Value->Value->Bool
 | .int k n,.int k' n'=>decide (k=k')&&decide (n=n')
 | .bool a,.bool b=>a == b
 | .string s,.string t=>decide (s.data.toList=t.data.toList)
 | .slice none 0 0,.slice none 0 0=>true
 | _,_=>false
def HN:List Value->List Value->Bool
 | [],[]=>true
 | a::x,b::y=>WZ a b&&HN x y
 | _,_=>false
theorem W0 {a b:Value} (h:WZ a b=true):a=b:=by
 unfold WZ at h;split at h
 ·simp only[aF,bO] at h;rw[h.1,h.2]
 ·simp at h;rw[h]
 ·rename_i s t;simp only[bO] at h;congr 1;cases s;cases t;simp only at h;congr 1;exact eX h
 ·rfl
 ·cases h
theorem NE:∀ {x y:List Value},HN x y=true->x=y
 | [],[],_=>rfl
 | a::x,b::y,h=>by
  simp only[HN,aF] at h;rw[W0 h.1,NE h.2]
 | [],_::_,h=>by simp[HN] at h
 | _::_,[],h=>by simp[HN] at h
def rC (P:Program) (t:Ty) (i:TypeId):Bool:=
 match P.info? i with
 | some inf=>Nat.beq inf.size t.sz&&Nat.ble inf.bytes 512&&(match inf.zero with
  | some z=>Nat.beq z.cells.size t.sz&&(match zc t with
   | some L=>HN z.cells.toList L
   | none=>true)
  | none=>false)
 | none=>false
def qH (P:Program):Ty->Sum TypeId (List Field)->Bool
 | .int _,.inl _=>true
 | .bool,.inl _=>true
 | .str,.inl _=>true
 | .unit,.inl i=>!P.stoodInHeld i
 | .unit,.inr _=>true
 | .pair a b,.inl i=>!P.stoodInHeld i&&(match P.underlying i with
  | some (.struct fs)=>(match fs.toList with
   | f::r=>f.name != "_" && qH P a (.inl f.type)&&qH P b (.inr r)
   | []=>false)
  | _=>false)
 | .pair a b,.inr (f::r)=>f.name != "_" && qH P a (.inl f.type)&&qH P b (.inr r)
 | .arr _ e,.inl i=>(match P.underlying i with
  | some (.array _ el)=>qH P e (.inl el)
  | _=>false)
 | _,_=>false
def dep:Ty->Nat
 | .arr _ e=>dep e+1
 | .pair a b=>max (dep a+1) (dep b)
 | _=>1
def W2 (P:Program) (k:Ty) (i:TypeId):Bool:=isAgg k&&k.of&&k.flat&&qH P k (.inl i)&&Nat.ble (dep k) 9000
def UQ (P:Program) (v:Ty) (i:TypeId):Bool:=match P.info? i with
 | some inf=>(match inf.zero with
  | some (.agg _)=>isAgg v
  | some _=>!isAgg v
  | none=>false)
 | none=>false
def bd (P:Program):Ty->Sum TypeId (List Field×Nat)->Bool
 | .int k,.inl i=>rC P (.int k) i&&(match P.underlying i with | some (.int k')=>decide (k=k') | _=>false)
 | .bool,.inl i=>rC P .bool i&&(match P.underlying i with | some .bool=>true | _=>false)
 | .str,.inl i=>rC P .str i&&(match P.underlying i with | some .string=>true | _=>false)
 | .unit,.inl i=>rC P .unit i&&(match P.underlying i with | some (.struct fs)=>fs.toList.isEmpty | _=>false)
 | .unit,.inr (fs,_)=>fs.isEmpty
 | .pair a b,.inl i=>rC P (.pair a b) i&&(match P.underlying i with
  | some (.struct fs)=>(match fs.toList with
   | f::r=>Nat.beq f.offset 0&&Nat.ble 1 a.sz&&bd P a (.inl f.type)&&bd P b (.inr (r,a.sz))
   | []=>false)
  | _=>false)
 | .pair a b,.inr (f::r,off)=>Nat.beq f.offset off&&Nat.ble 1 a.sz&&bd P a (.inl f.type)&&bd P b (.inr (r,off+a.sz))
 | .arr n e,.inl i=>rC P (.arr n e) i&&e.flat&&(match P.underlying i with | some (.array n' el)=>Nat.beq n n'&&Nat.ble 1 e.sz&&bd P e (.inl el) | _=>false)
 | .U e,.inl i=>rC P (.U e) i&&(match P.underlying i with | some (.slice el)=>Nat.ble 1 e.sz&&bd P e (.inl el) | _=>false)
 | .ptr e,.inl i=>rC P (.ptr e) i&&(match P.underlying i with | some (.pointer el)=>bd P e (.inl el) | _=>false)
 | .fn,.inl i=>rC P .fn i&&(match P.underlying i with | some (.func ..)=>true | _=>false)
 | .map k v,.inl i=>rC P (.map k v) i&&(match P.underlying i with | some (.map ki vi)=>bd P k (.inl ki)&&bd P v (.inl vi)&&W2 P k ki&&UQ P v vi | _=>false)
 | _,_=>false
section
variable {P:Program} {w:World} {A:Cells}
theorem vg {t:Ty} {i:TypeId} (h:rC P t i=true):∃ inf z,P.info? i=some inf/\inf.size=t.sz/\inf.bytes<=512/\inf.zero=some z/\z.cells.size=t.sz/\∀ L,zc t=some L->z.cells.toList=L:=by
 unfold rC at h;split at h
 ·rename_i inf hi;simp only[aF,eI,dP] at h;have h2:=h.2;split at h2
  ·rename_i z hz;simp only[aF,eI] at h2;refine ⟨inf,z,hi,h.1.1,h.1.2,hz,h2.1,fun L hL=>?_⟩
   have h3:=h2.2;rw[hL] at h3;exact NE h3
  ·cases h2
 ·cases h
theorem lz {t:Ty} {i:TypeId} (h:rC P t i=true):∃ inf,P.info? i=some inf/\inf.size=t.sz/\inf.bytes<=512/\∀ L,zc t=some L->∃ z,inf.zero=some z/\z.cells.toList=L:=by
 obtain ⟨inf,z,h1,h2,h3,h4,h5,h6⟩:=vg h;exact ⟨inf,h1,h2,h3,fun L hL=>⟨z,h4,h6 L hL⟩⟩
theorem lR {t:Ty} {i:TypeId} (h:bd P t (.inl i)=true):rC P t i=true:=by
 cases t <;> simp only[bd,aF] at h <;> first | exact h.1 | exact h.1.1 | cases h
theorem yr {t:Ty} {i:TypeId} (h:bd P t (.inl i)=true):∃ d,P.underlying i=some d/\(isAgg t=true->(∃ fs,d=.struct fs)\/∃ n e,d=.array n e)/\(isAgg t=false->(∀ fs,d≠.struct fs)/\∀ n e,d≠.array n e):=by
 cases hd:P.underlying i with
 | none=>cases t <;> simp[bd,hd] at h
 | some d=>
  refine ⟨d,rfl,?_,?_⟩
  ·intro ha;cases t <;> simp only[isAgg] at ha <;> first | cases ha | skip
   all_goals
    simp only[bd,hd,aF] at h;cases d <;> simp_all
  ·intro ha;cases t <;> simp only[isAgg] at ha <;> first | cases ha | skip
   all_goals
    simp only[bd,hd,aF] at h;cases d <;> simp_all
theorem vN {t:Ty} {i:TypeId} (h:bd P t (.inl i)=true):(Go.isAgg i).run P w=.ok (isAgg t) w:=by
 obtain ⟨d,h1,h2,h3⟩:=yr h;unfold Go.isAgg;simp only[Sem.run_bind,run_underlying h1,Result.andThen_ok]
 cases ht:isAgg t with
 | true=>
  rcases h2 ht with ⟨fs,rfl⟩ | ⟨n,e,rfl⟩ <;> rfl
 | false=>
  obtain ⟨h4,h5⟩:=h3 ht
  cases d <;> first | rfl | (exact absurd rfl (h4 _)) | (exact absurd rfl (h5 _ _))
theorem run_sizeOf {t:Ty} {i:TypeId} (h:bd P t (.inl i)=true):(Go.sizeOf i).run P w=.ok t.sz w:=by
 obtain ⟨inf,h1,h2,_⟩:=lz (lR h);simp[Go.sizeOf,typeInfo,h1,h2]
theorem E8 {t:Ty} (h:isAgg t=false):t.sz=1:=by cases t <;> simp_all [isAgg,Ty.sz]
theorem pz (b o n:Nat):(⟨b,o,none⟩:Addr).add n=⟨b,o+n,none⟩:=by unfold Addr.add;split <;> simp_all
theorem xk {t:Ty} {i:TypeId} (h:bd P t (.inl i)=true) {b o:Nat} {L:List Value} (hL:Has w b o L) (hl:L.length=t.sz) (mQ:∀ u ∈ L,u.oneCell'=true):(loadVar i ⟨b,o,none⟩).run P w=.ok (cg t L) w:=by
 unfold loadVar;simp only[Sem.run_bind,vN h,Result.andThen_ok]
 cases ht:isAgg t with
 | true=>
  have:=run_loadCells_list (P:=P) w ⟨b,o,none⟩ L (fun j v hj=>by rw[pz];exact qR (hL j v hj) (mQ v (cB hj)));rw[hl] at this;simp only[aI,Sem.run_bind,run_sizeOf h,Result.andThen_ok,this,Sem.run_pure,cg,ht]
 | false=>
  have hs:=E8 ht
  match L,hl with
  | [y],_=>
   have:=qR (hL 0 y rfl) (mQ y (by simp));simp only[cY] at this;simp only[aG,aL,run_load,this,cg,ht,List.headD_cons]
  | [],hl=>simp[hs] at hl
  | _::_::_,hl=>simp[hs] at hl
theorem zU:∀ (t:Ty) {L:List Value} {i:Sum TypeId (List Field×Nat)},zc t=some L->bd P t i=true->an P w A t (am t) [] t.zero L (fun _ _=>0)/\Ro P w A t t.zero L/\L.length=t.sz:=by
 intro t
 induction t with
 | int k=>intro L i h _;injection h with h;subst h;cases k <;> exact ⟨rfl,rfl,rfl⟩
 | bool=>intro L i h _;injection h with h;subst h;exact ⟨rfl,rfl,rfl⟩
 | str=>intro L i h _;injection h with h;subst h;exact ⟨rfl,rfl,rfl⟩
 | unit=>intro L i h _;injection h with h;subst h;exact ⟨rfl,rfl,rfl⟩
 | pair a b kN kE=>
  intro L i h hl;simp only[zc] at h;split at h
  ·rename_i x y hx hy;injection h with h;subst h
   have:∃ ia ib,bd P a ia=true/\bd P b ib=true:=by
    cases i with
    | inl i=>
     simp only[bd,aF] at hl;have h2:=hl.2;split at h2
     ·split at h2
      ·simp only[aF] at h2;exact ⟨_,_,h2.1.2,h2.2⟩
      ·cases h2
     ·cases h2
    | inr fo=>
     obtain ⟨fs,off⟩:=fo
     cases fs with
     | nil=>simp[bd] at hl
     | cons f r=>simp only[bd,aF] at hl;exact ⟨_,_,hl.1.2,hl.2⟩
   obtain ⟨ia,ib,h1,h2⟩:=this;obtain ⟨ra,oa,la⟩:=kN hx h1;obtain ⟨rb,ob,lb⟩:=kE hy h2;have e1:(x++y).take a.sz=x:=fK la;have e2:(x++y).drop a.sz=y:=fL la;refine ⟨⟨rfl,fun _ _=>0,fun _ _=>0,fun _ _=>aN _,by rw[e1];exact ra,by rw[e2];exact rb⟩,⟨by rw[e1];exact oa,by rw[e2];exact ob⟩,by simp[la,lb,Ty.sz]⟩
  ·cases h
 | arr n e ih=>
  intro L i h hl;simp only[zc] at h;split at h
  ·rename_i z hz;injection h with h;subst h
   have:e.flat=true/\∃ ie,bd P e ie=true:=by
    cases i with
    | inl i=>
     simp only[bd,aF] at hl;have h2:=hl.2;split at h2
     ·simp only[aF] at h2;exact ⟨hl.1.2,_,h2.2⟩
     ·cases h2
    | inr fo=>simp[bd] at hl
   obtain ⟨hf,ie,he⟩:=this;obtain ⟨re,oe,le⟩:=ih hz he
   have hlen:∀ n,((List.replicate n z).flatten).length=n*e.sz:=fun n=>by
    induction n with
    | zero=>simp
    | succ n ih=>rw[List.replicate_succ,List.flatten_cons,aS,ih,le,cI];omega
   have so:Ro P w A (.arr n e) (Ty.arr n e).zero ((List.replicate n z).flatten):=by
    refine ⟨hf,by simp[Ty.zero],hlen n,fun i x hx=>?_⟩
    have hi:i < n:=by have:=(aM.1 hx).1;simpa [Ty.zero] using this
    have hx:x=e.zero:=by
     simp only[Ty.zero,fY,hi,aI,aR] at hx;exact hx.symm
    subst hx
    have:(((List.replicate n z).flatten).drop (i*e.sz)).take e.sz=z:=by
     have e1:n=i+(1+(n - i - 1)):=by omega
     rw[e1,<- iK,<- iK,List.flatten_append,List.flatten_append];have e2:=hlen i;rw[fL e2];simp only[List.replicate_one,List.flatten_cons,List.flatten_nil,cH];exact fK le
    rw[this];exact oe
   exact ⟨⟨rfl,so⟩,so,hlen n⟩
  ·cases h
 | U e ih=>
  intro L i h _;injection h with h;subst h;refine ⟨?_,⟨none,0,rfl,aN _,fun _=>rfl,fun ad fm=>by cases fm⟩,rfl⟩
  simp only[an,hole,bT,aG,aL,am,sK,Md.own,aI];exact ⟨none,0,rfl,aN _,by simp[maxLen],fun _=>rfl,fun ad fm=>by cases fm⟩
 | ptr e ih=>intro L i h _;simp[zc] at h
 | fn=>intro L i h _;simp[zc] at h
 | map k v=>intro L i h _;simp[zc] at h
theorem xT {t:Ty} {i:TypeId} (h:bd P t (.inl i)=true) {L:List Value} (hz:zc t=some L):∃ z,(zeroValue i).run P w=.ok z w/\z.cells.toList=L:=by
 obtain ⟨inf,h1,h2,_,h3⟩:=lz (lR h);obtain ⟨z,h4,h5⟩:=h3 L hz;exact ⟨z,by simp[zeroValue,typeInfo,h1,h4],h5⟩
end
end OT
namespace OT
open Go
section
variable {P:Program} {C:Ctx} {A:Cells} {X:FP} {σ:St} {a:Act} {w:World} {F:Nat->FP} {R:Type} {x:R} {Q:Exit->Act->World->Prop} {o:Oper} {E:Env}
def Nx (P:Program) (C:Ctx) {R:Type} (K:St->Option R) (x:R) (a:Act) (w:World):Prop:=∃ σ',K σ'=some x/\Dd P C σ' a w
abbrev du (P:Program) (C:Ctx) (A:Cells) (σ:St) (a:Act) (w:World) (F:Nat->FP):Prop:=Rel P C A (fun _ _=>0) σ a w F
theorem ou {v:Value} {w':World} {next:Act->World->Prop} (f_:(execOp a.eval o).run P w=.ok (.value v) w') (hn:next (a.put o.dst v) w'):o.wp P a w next Q:=by
 unfold Oper.wp;rw[f_];exact hn
theorem Kg {w':World} {next:Act->World->Prop} (f_:(execOp a.eval o).run P w=.ok .skip w') (hd:o.dst=none) (hn:next a w'):o.wp P a w next Q:=by
 unfold Oper.wp;rw[f_,Oper.upon,hd];exact hn
def reads:Op->Bool
 | .load .. | .convert ..=>true
 | _=>false
def sP (o:Oper) (w w':World):Prop:=reads o.op=true->Ext w w' (fun _ _=>0)
theorem sP.ext {o:Oper} {w w':World} (h:sP o w w') (hr:reads o.op=true):Ext w w' (fun _ _=>0):=h hr
def Tk (P:Program) (o:Oper) (a:Act) (w:World) (next:Act->World->Prop):Prop:=
 ∃ v,(∀ w',sP o w w'->(execOp a.eval o).run P w'=.ok (.value v) w')/\next (a.put o.dst v) w
theorem f7 {v:Value} {next:Act->World->Prop} (f_:∀ w',sP o w w'->(execOp a.eval o).run P w'=.ok (.value v) w') (hn:next (a.put o.dst v) w):Tk P o a w next:=⟨v,f_,hn⟩
theorem Tk.wp {next:Act->World->Prop} (h:Tk P o a w next):o.wp P a w next Q:=by
 obtain ⟨v,h1,h2⟩:=h;exact ou (h1 w fun _=>Ext.refl _ _) h2
theorem wk {b i:Nat} {u:Value} (h:ce w b i=some u):b < w.heap.size:=by
 rcases bZ b w.heap.size with hb | hb
 ·exact hb
 ·have hn:w.heap[b]?=none:=dL hb;simp[ce,World.cell?,hn] at h
theorem Has.ext {b o:Nat} {L:List Value} {w':World} (h:Has w b o L) (hw:Ext w w' (fun _ _=>0)):Has w' b o L:=fun j u hu=>hw.cell b (o+j) (wk (h j u hu)) rfl u (h j u hu)
theorem pA (h:Rel P C A X σ a w F) {K:St->Option R} {d:Option Tmp} {s:Slot} {v:Value} {Fd:FP} (hk:K (σ.bY d s)=some x) (hs:cu P A σ a w v s Fd) (ht:∀ b i,Fd b i<=X b i)
  (QH:∀ t m H v',s=.box t m H v'->∃ b,v=.pointer (some ⟨b,0,none⟩)/\gc w b (t.sz,false)):Nx P C K x (a.put d v) w:=by
 obtain ⟨F',hF⟩:=h.bY d (X':=fun _ _=>0) hs (fun b i=>by have:=ht b i;omega) QH;exact ⟨_,hk,A,F',hF⟩
theorem cj (h:Rel P C A X σ a w F) {K:St->Option R} {d:Option Tmp} {s:Slot} {v:Value} (hk:K (σ.bY d s)=some x) (hs:cu P A σ a w v s (fun _ _=>0))
  (hb:∀ t m H v',s≠.box t m H v'):Nx P C K x (a.put d v) w:=
 pA h hk hs (fun _ _=>aW _) (fun t m H v' e=>absurd e (hb t m H v'))
theorem zh (h:Rel P C A X σ a w F) {K:St->Option R} {d:Option Tmp} {t:Ty} {m:Md} {v:t.den} {cs:List Value} {Fd:FP} (hk:K (σ.bY d (laid t m v))=some x) (hr:an P w A t m [] v cs Fd) (ht:∀ b i,Fd b i<=X b i) :
  Nx P C K x (a.put d (cg t cs)) w:=
 pA h hk (Ee (σ:=σ) (a:=a) hr).1 ht (Ee (σ:=σ) (a:=a) hr).2
theorem fx {t:Nat} {K:Ty->Option R} (h:pV E t K=some x):∃ T,E.TI t=some T/\K T=some x:=by
 unfold pV at h;split at h
 ·rename_i T hT;exact ⟨T,hT,h⟩
 ·cases h
theorem Gk {s:Slot} {K:Bool->Option R} {tv:Value} {G:FP} (hs:cu P A σ a w tv s G) (h:FU s K=some x):∃ b,tv=.bool b/\K b=some x:=by
 unfold FU at h;split at h
 ·rename_i b;obtain ⟨cs,h1,h2⟩:=hs;simp only[Ro] at h2;subst h2;exact ⟨b,by rw[h1];rfl,h⟩
 ·cases h
theorem sE {s:Slot} {K:Int->Option R} {tv:Value} {G:FP} (hs:cu P A σ a w tv s G) (h:vz s K=some x):∃ k n,tv=.int k n/\K n=some x:=by
 unfold vz at h;split at h
 ·rename_i k n;obtain ⟨cs,h1,h2⟩:=hs;simp only[Ro] at h2;subst h2;exact ⟨k,_,by rw[h1];rfl,h⟩
 ·cases h
theorem Bu (h:Rel P C A X σ a w F) {r:Nat} {p:Path} {pl:Pl} (hp:place σ a w r p=some pl):qT σ a w (cg pl.t pl.cs) r p (uz σ r p pl.t):=by
 have h5:=h.mo r;refine ⟨?_,fun _=>⟨_,hp,rfl,?_⟩⟩
 ·unfold uz;split
  ·intro j y hj;rw[bK] at hj;split at hj;exact ⟨y,hj,aN _⟩;cases hj
  ·intro j y hj;rw[bK] at hj;split at hj;exact ⟨y,hj,aN _⟩;cases hj
  ·exact Below.refl _
 ·unfold uz;split
  ·rename_i e he;left;exact ⟨by rw[he];rfl,by rw[bQ,h5];omega⟩
  ·rename_i k v he;left;exact ⟨by rw[he];rfl,by rw[bQ,h5];omega⟩
  ·right;exact h5
theorem Ix (σ:St) (y:Operand) (t:Ty) (m:Md) (H:List Path) (v:t.den):dr σ y≠.box t m H v:=by
 intro e
 cases y with
 | tmp i=>simp only[dr] at e;cases hg:σ.get i <;> rw[hg] at e <;> cases e
 | const v=>simp only[dr] at e;unfold xw at e;split at e <;> first | (cases e;done) | (split at e <;> cases e)
 | func f=>cases e
 | global g=>cases e
theorem QO (h:du P C A σ a w F) {y:Operand} (ho:o.op=.move y) (bc:dj P y=true) {K:St->Option R} (hk:Ot σ y o.dst K=some x):Tk P o a w (Nx P C K x):=by
 refine f7 (v:=a.eval y) (by simp[execOp,ho]) ?_;unfold Ot at hk;have hs:=fh h bc;split at hk
 ·rename_i xs i hx
  have hi:i < σ.n:=by
   rcases bZ i σ.n with hi | hi
   ·exact hi
   ·simp only[dr,lY (dK.2 hi)] at hx;cases hx
  have hg:σ.get i=.rq xs:=by
   simp only[dr] at hx;cases hg:σ.get i <;> rw[hg] at hx <;> first | (cases hx;done) | exact hx
  have oq:=h.im i hi;rw[hg] at oq;have h2:=h.put hi (s:=.dead) (v:=tmp a i) (Fd:=fun _ _=>0) (X':=fun b k=>F i b k) trivial (fun b k=>by omega) (fun t m H v e=>by cases e);rw[qU] at h2;refine pA h2 hk (Fd:=F i) ?_ (fun b i=>aN _) (fun t m H v e=>by cases e);obtain ⟨vs,Fi,h3,h4,h5⟩:=oq;exact ⟨vs,Fi,h3,h4,h5⟩
 ·cases hk
 ·rename_i s' y' Iy EA
  rcases hs with hs | ⟨xs,e⟩
  ·exact cj h hk hs fun t m H v e=>Ix σ _ t m H v e
  ·exact (Iy xs e).elim
theorem QP (h:du P C A σ a w F) {c y z:Operand} (ho:o.op=.pick c y z) (bc:dj P c=true/\dj P y=true/\dj P z=true) {K:St->Option R}
  (hk:(FU (dr σ c) fun c=>match dr σ (bif c then y else z) with
   | .val .bool b=>K (σ.bY o.dst (.val .bool b))
   | _=>none)=some x):Tk P o a w (Nx P C K x):=by
 have hc:=fh h bc.1
 rcases hc with hc | ⟨xs,e⟩
 ·obtain ⟨b,hb,hk⟩:=Gk hc hk
  have UR:∀ y':Operand,dj P y'=true->(match dr σ y' with
   | .val .bool b=>K (σ.bY o.dst (.val .bool b))
   | _=>none)=some x->Nx P C K x (a.put o.dst (a.eval y')) w:=fun y' hy hk=>by
   split at hk
   ·rename_i b' qI
    rcases fh h hy with hs | ⟨xs,e⟩
    ·rw[qI] at hs;exact cj h hk hs (fun _ _ _ _ e=>by cases e)
    ·rw[qI] at e;cases e
   ·cases hk
  cases b with
  | true=>exact f7 (v:=a.eval y) (by simp[execOp,ho,hb,asBool]) (UR y bc.2.1 hk)
  | false=>exact f7 (v:=a.eval z) (by simp[execOp,ho,hb,asBool]) (UR z bc.2.2 hk)
 ·rw[e] at hk;cases hk
theorem QQ (h:du P C A σ a w F) (kS:∀ i T,E.TI i=some T->bd P T (.inl i)=true) {t:Nat} {y:Operand} (ho:o.op=.load t y) (bc:dj P y=true) {K:St->Option R}
  {mv:Bool} (hk:FV E σ t (dr σ y) mv o.dst K=some x):Tk P o a w (Nx P C K x):=by
 unfold FV at hk;obtain ⟨T,hT,hk⟩:=fx hk;have gf:=kS _ _ hT
 have run:∀ b off L,a.eval y=.pointer (some ⟨b,off,none⟩)->Has w b off L->L.length=T.sz->(∀ u ∈ L,u.oneCell'=true)->∀ w',sP o w w'->(execOp a.eval o).run P w'=.ok (.value (cg T L)) w':=fun b off L hy hL hl mQ w' qJ=>by
  have qJ:=qJ (by rw[ho];rfl);simp[execOp,ho,hy,Instr.loadAt,Instr.sureAddr,xk gf (hL.ext qJ) hl mQ]
 rcases fh h bc with hs | ⟨xs,e⟩
 rotate_left
 ·rw[e] at hk;cases hk
 split at hk
 ·rename_i t' v hv;rw[hv] at hs;split at hk
  ·rename_i e;subst e;obtain ⟨⟨b,off,sp⟩,h1,h2,L,h3,h4,h5⟩:=hs;simp only[cV,eJ] at h1;simp only at h2;subst h2;exact f7 (run b off L h1 (fun j u hu=>(h4 j u hu).1) h3 (Ro.one _ h5)) (cj h hk ⟨L,rfl,h5⟩ (fun _ _ _ _ e=>by cases e))
  ·cases hk
 ·rename_i r p snap hv;rw[hv] at hs;split at hk
  ·rename_i ov;obtain ⟨hr,t',m',H',v',br,cr,F',h1,h2,h3,h4,h5,h6⟩:=mf h hk;obtain ⟨pl,b,off,g1,g2,g3,g4⟩:=hs.2 ov;rw[h3] at g1;injection g1 with g1;subst g1;simp only at g2;subst g2;split at h1
   ·rename_i e;subst e;refine f7 (run b off br g3 (h6 b off rfl) (an.length _ h4) (an.one _ h4)) ?_;split at h1
    ·rename_i hf;split at h1
     ·exact cj h h1 ⟨br,rfl,an.flat _ hf h4⟩ (fun _ _ _ _ e=>by cases e)
     ·cases h1
    ·split at h1
     ·rename_i hm;split at h1
      ·rename_i hH;have hH:=bN.1 hH;subst hH;subst hm
       cases mv with
       | false=>exact cj h h1 ⟨br,rfl,an.ro _ (gm _) h4⟩ (fun _ _ _ _ e=>by cases e)
       | true=>exact cj h h1 (Bu h h3) (fun _ _ _ _ e=>by cases e)
      ·cases h1
     ·cases mv with
      | false=>exact cj h h1 (Bu h h3) (fun _ _ _ _ e=>by cases e)
      | true=>
       simp only at h1;split at h1
       ·rename_i hH;have hH:=bN.1 hH;subst hH;obtain ⟨A2,ly,F2,c9,wl,Fv,k1,k2,k3,k4,k5,k6,k7⟩:=HM h h1 ⟨h2⟩;rw[h3] at k6;simp only[aR,Pl.mk.injEq,dY] at k6;obtain ⟨rfl,rfl⟩:=k6;have hl:=Ee (σ:=ly) (a:=a) (an.mono k2 (fun _ _ _ _ h=>h) (fun _ _ h=>h) _ k7 (fun _ _=>aN _) (fun _ _ _ _ h=>h));exact pA k3 k1 hl.1 (fun b i=>by omega) hl.2
       ·cases h1
   ·cases h1
  ·cases hk
 ·cases hk
theorem OG {b o b' i:Nat} {v u:Value} (fw:¬ (b=b'/\o=i)) (h:ce w b' i=some u):ce (w.setCell ⟨b,o,none⟩ v) b' i=some u:=by
 by_cases hb:b=b'
 ·subst hb
  cases hh:w.heap[b]? with
  | none=>simp[ce,World.cell?,hh] at h
  | some ob=>
   cases ob with
   | map es clock=>
    have:(w.setCell ⟨b,o,none⟩ v).heap[b]?=w.heap[b]?:=by simp[World.setCell,dQ,hh]
    rw[wX this];exact h
   | cells c e fr=>
    have h2:(w.setCell ⟨b,o,none⟩ v).heap[b]?=some (.cells (c.setIfInBounds o v) e fr):=by simp[World.setCell,dQ,hh]
    simp only[ce,World.cell?,hh,h2] at h ⊢;rw[iL (fun e=>fw ⟨rfl,e⟩)];exact h
   | _=>simp[ce,World.cell?,hh] at h
 ·have:(w.setCell ⟨b,o,none⟩ v).heap[b']?=w.heap[b']?:=by simp[World.setCell,dQ,hb]
  rw[wX this];exact h
theorem k9 {b o:Nat}:∀ (L:List Value) (w:World) (o:Nat),Ext w (w.setCells b o L) (b_ b o L.length)
 | [],w,o=>Ext.refl _ _
 | v::L,w,o=>by
  have ih:=k9 (b:=b) (o:=o+1) L (w.setCell ⟨b,o,none⟩ v) (o+1)
  have h1:Ext w (w.setCell ⟨b,o,none⟩ v) (b_ b o (L.length+1)):=by
   refine ⟨by simp,fun b' i hb hz u hu=>?_,fun b' n hn=>?_,fun b' i hb=>by simp,rfl,rfl,rfl,fun b' hb hz=>?_,aN _⟩
   ·refine OG (fun e=>?_) hu;obtain ⟨e1,e2⟩:=e;subst e1;subst e2;simp[b_] at hz
   ·obtain ⟨c,e,fr,h1,h2,h3⟩:=hn;by_cases yg:b=b'
    ·subst yg;exact ⟨c.setIfInBounds o v,e,fr,by simp[World.setCell,dQ,h1],by simp[h2],h3⟩
    ·exact ⟨c,e,fr,by simp[World.setCell,dQ,yg,h1],h2,h3⟩
   ·have fw:b≠b':=fun e=>by
     subst e;have:=hz o;simp[b_] at this
    simp[World.setCell,dQ,fw]
  exact h1.trans ih fun b' i hb hz=>by
   simp only[b_] at hz ⊢;split at hz
   ·cases hz
   ·rename_i hn;rw[bA];omega
theorem oH {w:World} {b o:Nat} {L:List Value} (h:∀ j,j < L.length->(w.cell? ⟨b,o+j,none⟩).isSome=true) (mQ:∀ u ∈ L,u.oneCell'=true):Has (w.setCells b o L) b o L:=by
 intro j u hu
 have hj:=(aM.1 hu)
 obtain ⟨hj,e⟩:=hj;refine Ea ?_ (mQ u (cB hu));rw[World.cell?_setCells_in b L o w h j hj,e]
theorem OH (h:du P C A σ a w F) (kS:∀ i T,E.TI i=some T->bd P T (.inl i)=true) {t:Nat} {y z:Operand} (ho:o.op=.store t y z) (hd:o.dst=none) (bc:dj P y=true/\dj P z=true) {mv:Bool} {K:St->Option R}
  (hk:JP E σ t (dr σ y) (dr σ z) mv K=some x):o.wp P a w (Nx P C K x) Q:=by
 unfold JP at hk;obtain ⟨T,hT,hk⟩:=fx hk;have gf:=kS _ _ hT
 rcases fh h bc.1 with hs | ⟨xs,e⟩
 rotate_left
 ·rw[e] at hk;cases hk
 split at hk
 ·rename_i r p snap hv;rw[hv] at hs;split at hk
  ·rename_i ov;split at hk
   ·obtain ⟨pl,b,off,g1,g2,g3,g4⟩:=hs.2 ov
    rcases fh h bc.2 with hz | ⟨xs,e⟩
    rotate_left
    ·rw[e] at hk;simp[nD] at hk
    obtain ⟨A',σ',F',m,v,cs,Fv,k1,k2,k3,k4,kr,k5,k6⟩:=ud h hz hk;obtain ⟨hr,m2,H2,v2,c9,wl,F2,q1,q2,q3,q4,q5,q6⟩:=A4 k3 k1
    have ip:wl=some (b,off):=by
     unfold place at g1 q2
     cases hR:c_ w (tmp a r) (σ'.get r) with
     | none=>rw[hR] at q2;cases q2
     | some R1=>
      rw[hR] at q2;obtain ⟨H0,uU⟩:=kr w (tmp a r) r R1 hR;rw[uU] at g1;have:=(YP p R1.t g1 q2).2.2;simp only at this;rw[this,g2]
    subst ip;obtain ⟨xS,n_⟩:=q5 b off rfl;have hl:=an.length _ k6;have to:=an.length _ q3;have mQ:=an.one _ k6;have YV:=an.one _ q3
    have xB:∀ j,j < cs.length->(w.cell? ⟨b,off+j,none⟩).isSome=true:=fun j hj=>by
     rw[qR (xS j _ (aA (by omega))) (YV _ (aQ _))];rfl
    have c6:=run_storeCells_cells (P:=P) b off cs 0 w (by simpa using xB) (fun j hj=>by simpa using n_ j (by omega)) mQ;have US:(cg T cs).cells.toList=cs:=lQ hl mQ;have kt:(cg T cs).cells.size=T.sz:=by rw[<-hl,<- iV,US]
    have f_:(execOp a.eval o).run P w=.ok .skip (w.setCells b off cs):=by
     simp[execOp,ho,g3,k5,Instr.storeAt,Instr.sureAddr,storeVar,run_sizeOf gf,kt,US,c6]
    refine Kg f_ hd ?_
    have fa:an P (w.setCells b off cs) A' T m [] v cs Fv:=by
     refine an.mono (fun _ _ h=>h) (fun b' i ha u hu=>?_) (k9 (b:=b) (o:=off) cs w off).tQ _ k6 (fun _ _=>aN _) (fun b' i hp u hu=>?_)
     ·refine (k9 (b:=b) (o:=off) cs w off).cell b' i (k3.kO b' i (.inr ha)) ?_ u hu;have h1:=q4 b' i;have h2:=c7 F' hr b' i
      rcases bF (je (some (b,off)) T.sz b' i) with h0 | h0
      ·rw[hl];exact h0
      ·exact absurd ha (k3.pW b' i (by omega))
     ·have h1:=q4 b' i;have h2:=c7 F' hr b' i;have h3:=k3.o5 b' i
      refine (k9 (b:=b) (o:=off) cs w off).cell b' i (k3.kO b' i (.inl (by omega))) ?_ u hu;rw[hl];show je (some (b,off)) T.sz b' i=0;omega
    have dm:Ext w (w.setCells b off cs) (fun b' i=>(0+Fv b' i)+(F2 b' i+je (some (b,off)) T.sz b' i)):=(k9 (b:=b) (o:=off) cs w off).mono fun b' i hz=>by
     have:je (some (b,off)) T.sz b' i=0:=by have hz:(0+Fv b' i)+(F2 b' i+je (some (b,off)) T.sz b' i)=0:=hz;omega
     rw[hl];exact this
    obtain ⟨A3,yj,Fr,n1,n2,n3,_⟩:=q6 (w.setCells b off cs) A' cs Fv (fun _ _=>0) dm (fun _ _ h=>h) (fun _ _ h=>.inl h) (fun b i=>by omega) (fun b' o' e=>by
      simp only[aR,bS] at e;obtain ⟨rfl,rfl⟩:=e;exact oH xB mQ) (fun e=>by cases e) fa
    exact ⟨yj,n1,A3,_,n3⟩
   ·cases hk
  ·cases hk
 ·cases hk
end
end OT
namespace OT
open Go
section
variable {P:Program} {w:World} {A:Cells}
theorem OI:∀ (p q:Path) (t:Ty) {H:List Path} {cs:List Value} {ad:Option (Nat×Nat)},bh w (p++q) t H cs ad=(bh w p t H cs ad).bind fun pl=>bh w q pl.t pl.H pl.cs pl.ad:=by
 intro p
 induction p with
 | nil=>intro q t H cs ad;rfl
 | cons s p ih=>
  intro q t H cs ad
  cases t with
  | pair a b=>
   cases s with
   | fst=>simp only[cO,bh];split;rfl;exact ih q a
   | snd=>simp only[cO,bh];split;rfl;exact ih q b
   | _=>simp[bh]
  | U e=>
   cases s with
   | idx i=>
    simp only[cO,bh];split
    ·rfl
    ·split
     ·split
      ·exact ih q e
      ·rfl
     ·rfl
   | _=>simp[bh]
  | arr n e=>
   cases s with
   | o4 i=>
    simp only[cO,bh];split
    ·split
     ·exact ih q e
     ·rfl
    ·rfl
   | _=>simp[bh]
  | _=>cases s <;> simp[bh]
theorem E9:∀ (p:Path) (t:Ty) {H:List Path} {cs:List Value} {ad:Option (Nat×Nat)} {pl:Pl},bh w p t H cs ad=some pl->Au p t=some pl.t:=by
 intro p
 induction p with
 | nil=>intro t H cs ad pl h;simp only[bh,aR] at h;subst h;rfl
 | cons s p ih=>
  intro t H cs ad pl h
  cases t with
  | pair a b=>
   cases s with
   | fst=>simp only[bh] at h;split at h;cases h;exact ih a h
   | snd=>simp only[bh] at h;split at h;cases h;exact ih b h
   | _=>simp[bh] at h
  | U e=>
   cases s with
   | idx i=>
    simp only[bh] at h;split at h
    ·cases h
    ·split at h
     ·split at h
      ·exact ih e h
      ·cases h
     ·cases h
   | _=>simp[bh] at h
  | arr n e=>
   cases s with
   | o4 i=>
    simp only[bh] at h;split at h
    ·split at h
     ·exact ih e h
     ·cases h
    ·cases h
   | _=>simp[bh] at h
  | _=>cases s <;> simp[bh] at h
theorem VZ:∀ (q:Path) (t:Ty) {m:Md} {H:List Path} {v:t.den} {cs:List Value} {F:FP} {ad:Option (Nat×Nat)} {pl:Pl},an P w A t m H v cs F->bh w q t H cs ad=some pl ->
  ∃ (m':Md) (v':pl.t.den) (F':FP),an P w A pl.t m' pl.H v' pl.cs F':=by
 intro q
 induction q with
 | nil=>intro t m H v cs F ad pl hr h;simp only[bh,aR] at h;subst h;exact ⟨m,v,F,hr⟩
 | cons s q ih=>
  intro t m H v cs F ad pl hr h
  cases t with
  | pair a b=>
   obtain ⟨h0,F1,F2,hs,h1,h2⟩:=hr
   cases s with
   | fst=>simp only[bh,h0,aL] at h;exact ih a h1 h
   | snd=>simp only[bh,h0,aL] at h;exact ih b h2 h
   | _=>simp[bh] at h
  | U e=>
   cases s with
   | idx i=>
    simp only[an] at hr;simp only[bh] at h;split at h
    ·cases h
    ·rename_i hh;rw[bA hh] at hr;split at hr
     ·obtain ⟨a,cap,rfl,h2,h3,h4,h5⟩:=hr
      cases a with
      | none=>cases h
      | some ff=>
       obtain ⟨g1,g2,g3,Fi,g4,g5⟩:=h5 ff rfl;simp only at h;split at h
       ·rename_i hi;obtain ⟨L,hl,hL,fa⟩:=g5 i _ (aA hi);rw[g1,bE,dt hL hl] at h;exact ih e fa h
       ·cases h
     ·obtain ⟨rfl,qt,a,cap,rfl,h2,h3,h4⟩:=hr
      cases a with
      | none=>cases h
      | some ff=>
       simp only at h;split at h
       ·rename_i hi;obtain ⟨L,hl,hL,fa⟩:=(h4 ff rfl).2 i _ (aA hi);rw[dt (fun j u hu=>(hL j u hu).1) hl] at h;exact ih e (Ro.rep e (fun _ _=>0) qt fa) h
       ·cases h
   | _=>simp[bh] at h
  | arr n e=>
   cases s with
   | o4 i=>
    obtain ⟨rfl,hf,hl,hlen,hr⟩:=hr;simp only[bh,cS,aI] at h;split at h
    ·rename_i hi;exact ih e (Ro.flat e (m:=.leaf) (fun _ _=>0) hf (hr i _ (aA (by rw[hl];exact hi)))) h
    ·cases h
   | _=>simp[bh] at h
  | _=>cases s <;> simp[bh] at h
def jj:Nat->Ty->Nat
 | j+1,.pair a b=>a.sz+jj j b
 | _,_=>0
theorem Mq (ad:Option (Nat×Nat)):gd ad 0=ad:=by cases ad <;> simp[gd]
theorem OJ (ad:Option (Nat×Nat)) (j k:Nat):gd (gd ad j) k=gd ad (j+k):=by cases ad <;> simp[gd,cE]
theorem NF:∀ (j:Nat) (S:Ty) {t':Ty} {m:Md} {H:List Path} {v:S.den} {cs:List Value} {F:FP} {ad:Option (Nat×Nat)},an P w A S m H v cs F->tO j S=some t' ->
  ∃ H',bh w (oh j) S H cs ad=some ⟨t',H',(cs.drop (jj j S)).take t'.sz,gd ad (jj j S)⟩:=by
 intro j
 induction j with
 | zero=>
  intro S t' m H v cs F ad hr h
  cases S with
  | pair a b=>
   injection h with h;subst h;obtain ⟨h0,F1,F2,hs,h1,h2⟩:=hr;exact ⟨_,by simp only[oh,bh,h0,aG,aL,jj,eD,Mq];rfl⟩
  | _=>cases h
 | succ j ih=>
  intro S t' m H v cs F ad hr h
  cases S with
  | pair a b=>
   obtain ⟨h0,F1,F2,hs,h1,h2⟩:=hr;obtain ⟨H',e⟩:=ih b (ad:=gd ad a.sz) h2 h;exact ⟨H',by simp only[oh,bh,h0,aG,aL,jj];rw[e,dA,OJ]⟩
  | _=>cases h
theorem S6:∀ (j:Nat) (T:Ty) {t:Ty},Au (oh j) T=some t->∃ t2,tO j T=some t2:=by
 intro j
 induction j with
 | zero=>intro T t h;cases T <;> first | exact ⟨_,rfl⟩ | (simp[oh,Au] at h;done)
 | succ j ih=>intro T t h;cases T <;> first | (simp[oh,Au] at h;done) | exact ih _ (by simpa [oh,Au] using h)
theorem NG:∀ (j:Nat) (S:Ty) {t':Ty} {fs:List Field} {off:Nat},bd P S (.inr (fs,off))=true->tO j S=some t' ->
  ∃ f,fs[j]?=some f/\f.offset=off+jj j S/\bd P t' (.inl f.type)=true/\1<=t'.sz:=by
 intro j
 induction j with
 | zero=>
  intro S t' fs off hl h
  cases S with
  | pair a b=>
   injection h with h;subst h
   cases fs with
   | nil=>simp[bd] at hl
   | cons f r=>
    simp only[bd,aF,eI,dP] at hl;exact ⟨f,rfl,by simp[jj,hl.1.1.1],hl.1.2,hl.1.1.2⟩
  | _=>cases h
 | succ j ih=>
  intro S t' fs off hl h
  cases S with
  | pair a b=>
   cases fs with
   | nil=>simp[bd] at hl
   | cons f r=>
    simp only[bd,aF,eI,dP] at hl;obtain ⟨f',h1,h2,h3⟩:=ih b hl.2 h;exact ⟨f',by simpa using h1,by rw[h2,jj];omega,h3⟩
  | _=>cases h
theorem Gl {j:Nat} {S t':Ty} {i:TypeId} (hl:bd P S (.inl i)=true) (h:tO j S=some t') :
  ∃ fs f,P.underlying i=some (.struct fs)/\fs[j]?=some f/\f.offset=jj j S/\bd P t' (.inl f.type)=true/\1<=t'.sz:=by
 cases S with
 | pair a b=>
  simp only[bd,aF] at hl;have h2:=hl.2;split at h2
  ·rename_i fs hu;split at h2
   ·rename_i f r De
    have h3:bd P (.pair a b) (.inr (f::r,0))=true:=by
     simp only[bd,bE];exact h2
    obtain ⟨f',q1,q2,q3,q4⟩:=NG j (.pair a b) h3 h;refine ⟨fs,f',hu,?_,by omega,q3,q4⟩
    rw[<-De] at q1
    simpa using q1
   ·cases h2
  ·cases h2
 | _=>cases j <;> cases h
theorem uf {t:Ty} {i:TypeId} (h:bd P t (.inl i)=true) {cs:Array Value} {off:Nat} (hl:((cs.toList.drop off).take t.sz).length=t.sz):(part i cs off).run P w=.ok (cg t ((cs.toList.drop off).take t.sz)) w:=by
 unfold part;simp only[Sem.run_bind,vN h,Result.andThen_ok]
 cases ht:isAgg t with
 | true=>
  simp only[aI,Sem.run_bind,run_sizeOf h,Result.andThen_ok,Sem.run_pure,cg,ht];congr 2;apply eX;simp[Array.toList_extract,jH]
 | false=>
  have hs:=E8 ht;rw[hs] at hl ⊢;have ho:off < cs.size:=by simp at hl;omega
  have e:(cs.toList.drop off).take 1=[cs[off]]:=by
   rw[List.take_one];simp[ho]
  simp only[aG,aL,cg,ht,e,List.headD_cons];simp[ho]
end
section
variable {P:Program} {C:Ctx} {A:Cells} {X:FP} {σ:St} {a:Act} {w:World} {F:Nat->FP} {R:Type} {x:R} {Q:Exit->Act->World->Prop} {o:Oper} {E:Env}
theorem Iz (h:Rel P C A X σ a w F) {r:Nat} {p:Path} {pl:Pl} (hp:place σ a w r p=some pl):∃ (m':Md) (v':pl.t.den) (F':FP),an P w A pl.t m' pl.H v' pl.cs F':=by
 have aj:=sO hp;unfold place at hp
 cases hR:c_ w (tmp a r) (σ.get r) with
 | none=>rw[hR] at hp;cases hp
 | some R0=>
  rw[hR] at hp;obtain ⟨m0,v0,F1,q1,q2,q3,_⟩:=wg (h.im r aj) hR;exact VZ p R0.t q1 hp
theorem sv (r:Nat) (p q:Path):place σ a w r (p++q)=(place σ a w r p).bind fun pl=>bh w q pl.t pl.H pl.cs pl.ad:=by
 unfold place
 cases c_ w (tmp a r) (σ.get r) with
 | none=>rfl
 | some R0=>exact OI p q R0.t
theorem Gm {r:Nat} {p:Path} {pl:Pl} (hp:place σ a w r p=some pl):E1 σ r p=some pl.t:=by
 unfold place at hp;unfold E1 JO
 cases hg:σ.get r with
 | own t m H v=>rw[hg] at hp;simp only[c_,aB] at hp;exact E9 p t hp
 | box t m H v=>
  rw[hg] at hp;simp only[c_] at hp;split at hp
  ·exact E9 p t hp
  ·cases hp
 | _=>rw[hg] at hp;simp[c_] at hp
theorem S7 (p:Path) (j:Nat):dh (p++oh j)=dh p:=by
 induction p with
 | nil=>induction j with
  | zero=>rfl
  | succ j ih=>simpa [oh,dh] using ih
 | cons s p ih=>cases s <;> simp only[cO,dh,ih]
theorem IA {A':Cells}:∀ (j:Nat) (S:Ty) {v:S.den} {K:(t':Ty)->t'.den->Option R} {cs:List Value},On j S v K=some x->Ro P w A' S v cs ->
  ∃ t' v',tO j S=some t'/\K t' v'=some x/\Ro P w A' t' v' ((cs.drop (jj j S)).take t'.sz):=by
 intro j
 induction j with
 | zero=>
  intro S v K cs h hr
  cases S with
  | pair a b=>exact ⟨a,v.1,rfl,h,by simp only[jj,eD];exact hr.1⟩
  | _=>cases h
 | succ j ih=>
  intro S v K cs h hr
  cases S with
  | pair a b=>
   obtain ⟨t',v',h1,h2,h3⟩:=ih b (v:=v.2) h hr.2;exact ⟨t',v',h1,h2,by rw[jj,<- dA];exact h3⟩
  | _=>cases h
theorem Jh (h:du P C A σ a w F) {y:Operand} (ho:o.op=.nilCheck y) (bc:dj P y=true) {K:St->Option R}
  (hk:(match dr σ y with
  | .ptr r p snap=>if σ.ok r snap then K (σ.bY o.dst (.ptr r p snap)) else none
  | .cp t v=>K (σ.bY o.dst (.cp t v))
  | .val .fn f=>K (σ.bY o.dst (.val .fn f))
  | _=>none)=some x):Tk P o a w (Nx P C K x):=by
 rcases fh h bc with hs | ⟨xs,e⟩
 rotate_left
 ·rw[e] at hk;cases hk
 split at hk
 ·rename_i r p snap hv;rw[hv] at hs;split at hk
  ·rename_i ov;obtain ⟨pl,b,off,g1,g2,g3,g4⟩:=hs.2 ov;exact f7 (v:=a.eval y) (by simp[execOp,ho,g3]) (cj h hk hs (fun _ _ _ _ e=>by cases e))
  ·cases hk
 ·rename_i t v hv;rw[hv] at hs;obtain ⟨ad,h1,_⟩:=id hs;simp only[cV,eJ] at h1;exact f7 (v:=a.eval y) (by simp[execOp,ho,h1]) (cj h hk hs (fun _ _ _ _ e=>by cases e))
 ·rename_i f hv;rw[hv] at hs;obtain ⟨cs,h1,xO,h2,_⟩:=id hs;subst h2;exact f7 (v:=a.eval y) (by simp[execOp,ho,h1,cg,isAgg]) (cj h hk hs (fun _ _ _ _ e=>by cases e))
 ·cases hk
theorem HO (h:du P C A σ a w F) (kS:∀ i T,E.TI i=some T->bd P T (.inl i)=true) {S:Nat} {y:Operand} {j:Nat} (ho:o.op=.fieldAddr S y j) (bc:dj P y=true) {K:St->Option R}
  (hk:Bg E σ S (dr σ y) j o.dst K=some x):Tk P o a w (Nx P C K x):=by
 unfold Bg at hk;obtain ⟨T,hT,hk⟩:=fx hk;have gf:=kS _ _ hT
 have run:∀ t' b off,tO j T=some t'->a.eval y=.pointer (some ⟨b,off,none⟩)->∀ w',sP o w w'->(execOp a.eval o).run P w'=.ok (.value (.pointer (some ⟨b,off+jj j T,none⟩))) w':=fun t' b off ht hy w' _=>by
  obtain ⟨fs,f,h1,h2,h3,h4,h5⟩:=Gl gf ht;have kt:=run_sizeOf (P:=P) (w:=w') h4;have fw:¬ t'.sz=0:=by omega
  simp[execOp,ho,hy,Instr.fieldAt,Instr.sureAddr,run_underlying h1,h2,fieldPlace,kt,fw,pz,h3]
 rcases fh h bc with hs | ⟨xs,e⟩
 rotate_left
 ·rw[e] at hk;cases hk
 split at hk
 ·rename_i t' v hv;rw[hv] at hs;split at hk
  ·rename_i e;subst e;obtain ⟨⟨b,off,sp⟩,h1,h2,L,h3,h4,h5⟩:=hs;simp only[cV,eJ] at h1;simp only at h2;subst h2;obtain ⟨t2,v2,q1,q2,q3⟩:=IA j t' hk h5;refine f7 (run t2 b off q1 h1) (cj h q2 ⟨_,rfl,rfl,_,Ro.length _ q3,fun k u hu=>?_,q3⟩ (fun _ _ _ _ e=>by cases e));rw[bK] at hu;split at hu
   ·rw[bM] at hu;have:=h4 _ u hu
    simpa [cE] using this
   ·cases hu
  ·cases hk
 ·rename_i r p snap hv;rw[hv] at hs;split at hk
  ·rename_i ov;split at hk
   ·rename_i zi;split at hk
    ·rename_i hf;obtain ⟨pl,b,off,g1,g2,g3,g4⟩:=hs.2 ov;rw[Gm g1] at zi;injection zi with zi;obtain ⟨t',CA⟩:=fW.1 hf;refine f7 (run t' b off CA g3) (cj h hk ⟨hs.1,fun _=>?_⟩ (fun _ _ _ _ e=>by cases e));obtain ⟨m',v',F',fa⟩:=Iz h g1;obtain ⟨tp,Hp,UT,QR⟩:=pl;simp only at zi g2 fa;subst zi;obtain ⟨H',e⟩:=NF (ad:=QR) j tp fa CA;refine ⟨⟨t',H',(UT.drop (jj j tp)).take t'.sz,gd QR (jj j tp)⟩,b,off+jj j tp,?_,?_,rfl,by rw[S7];exact g4⟩
     ·rw[sv,g1];exact e
     ·simp[gd,g2]
    ·cases hk
   ·cases hk
  ·cases hk
 ·cases hk
theorem OK (h:du P C A σ a w F) (kS:∀ i T,E.TI i=some T->bd P T (.inl i)=true) {S:Nat} {y:Operand} {j:Nat} (ho:o.op=.field S y j) (bc:dj P y=true) {K:St->Option R}
  (hk:HB E σ S (dr σ y) j o.dst K=some x):Tk P o a w (Nx P C K x):=by
 unfold HB at hk;obtain ⟨T,hT,hk⟩:=fx hk;have gf:=kS _ _ hT
 have run:∀ t' cs,tO j T=some t'->a.eval y=cg T cs->((cs.drop (jj j T)).take t'.sz).length=t'.sz->∀ w',sP o w w'->(execOp a.eval o).run P w'=.ok (.value (cg t' ((cs.drop (jj j T)).take t'.sz))) w':=fun t' cs ht hy hl w' _=>by
  obtain ⟨fs,f,h1,h2,h3,h4,h5⟩:=Gl gf ht
  have aaf:cg T cs=.agg cs.toArray:=by cases T <;> first | rfl | (cases j <;> cases ht)
  have:=uf (P:=P) (w:=w') h4 (cs:=cs.toArray) (off:=jj j T) (by simpa using hl);simp only[List.toList_toArray] at this;simp[execOp,ho,hy,aaf,Instr.field,run_underlying h1,h2,asAgg,h3,this]
 rcases fh h bc with hs | ⟨xs,e⟩
 rotate_left
 ·rw[e] at hk;cases hk
 split at hk
 ·rename_i t' v hv;rw[hv] at hs;split at hk
  ·rename_i e;subst e;obtain ⟨cs,h1,h2⟩:=hs;obtain ⟨t2,v2,q1,q2,q3⟩:=IA j t' hk h2;exact f7 (run t2 cs q1 h1 (Ro.length _ q3)) (cj h q2 ⟨_,rfl,q3⟩ (fun _ _ _ _ e=>by cases e))
  ·cases hk
 ·rename_i r p snap hv;rw[hv] at hs;split at hk
  ·rename_i ov;split at hk
   ·rename_i zi;obtain ⟨hr,t',m',H',v',br,cr,F',h1,h2,h3,h4,h5,h6⟩:=mf h hk;obtain ⟨pl,g1,g2,g3⟩:=hs.2 ov;rw[Gm g1] at zi;injection zi with zi;obtain ⟨m0,v0,F0,fa⟩:=Iz h g1;obtain ⟨tp,Hp,UT,QR⟩:=pl;simp only at zi g2 fa;subst zi
    have hf:∃ t2,tO j tp=some t2:=by
     have h7:=h3;rw[sv,g1] at h7;exact S6 j tp (E9 _ _ h7)
    obtain ⟨t2,UU⟩:=hf;obtain ⟨H2,e⟩:=NF (ad:=QR) j tp fa UU;have ip:place σ a w r (p++oh j)=some ⟨t2,H2,(UT.drop (jj j tp)).take t2.sz,gd QR (jj j tp)⟩:=by rw[sv,g1];exact e
    rw[ip] at h3;injection h3 with h3;simp only[Pl.mk.injEq] at h3;obtain ⟨rfl,rfl,rfl,rfl⟩:=h3;refine f7 (run t2 UT UU g2 (an.length _ h4)) ?_;split at h1
    ·rename_i hc;split at h1
     ·rename_i hH;have hH:=bN.1 hH;subst hH;refine cj h h1 ⟨_,rfl,?_⟩ (fun _ _ _ _ e=>by cases e);simp only[cX,bO] at hc;rcases hc with hc | hc
      ·exact an.flat _ hc h4
      ·subst hc;exact an.ro _ (gm _) h4
     ·cases h1
    ·exact cj h h1 (Bu h ip) (fun _ _ _ _ e=>by cases e)
   ·cases hk
  ·cases hk
 ·cases hk
end
end OT
namespace OT
open Go
section
variable {P:Program} {C:Ctx} {A:Cells} {X:FP} {σ:St} {a:Act} {w:World} {F:Nat->FP} {R:Type} {x:R} {Q:Exit->Act->World->Prop} {o:Oper} {E:Env}
theorem E_ {n:Int} {len:Nat} {K:Nat->Option R} (h:Qu n len K=some x):0<=n/\n < (len:Int)/\K n.toNat=some x:=by
 unfold Qu at h;split at h
 ·rename_i hc;exact ⟨hc.1,hc.2,h⟩
 ·cases h
theorem bind_some {α:Type} {o:Option α} {K:α->Option R} (h:o.bind K=some x):∃ y,o=some y/\K y=some x:=by
 cases o with
 | none=>cases h
 | some y=>exact ⟨y,rfl,h⟩
theorem tG {e:Ty} {i:TypeId} (h:bd P (.U e) (.inl i)=true):∃ el,P.underlying i=some (.slice el)/\1<=e.sz/\bd P e (.inl el)=true:=by
 simp only[bd,aF] at h;have h2:=h.2;split at h2
 ·rename_i el hu;simp only[aF,dP] at h2;exact ⟨el,hu,h2.1,h2.2⟩
 ·cases h2
theorem NH {n:Nat} {e:Ty} {i:TypeId} (h:bd P (.arr n e) (.inl i)=true):∃ el,P.underlying i=some (.array n el)/\1<=e.sz/\bd P e (.inl el)=true:=by
 simp only[bd,aF] at h;have h2:=h.2;split at h2
 ·rename_i n' el hu;simp only[aF,dP,eI] at h2;rw[h2.1.1];exact ⟨el,hu,h2.1.2,h2.2⟩
 ·cases h2
theorem m7 {i:TypeId} (h:bd P .str (.inl i)=true):P.underlying i=some .string:=by
 simp only[bd,aF] at h;have h2:=h.2;split at h2
 ·assumption
 ·cases h2
theorem pB {k:IntKind} {i:TypeId} (h:bd P (.int k) (.inl i)=true):P.underlying i=some (.int k):=by
 simp only[bd,aF] at h;have h2:=h.2;split at h2
 ·rename_i k' hu;simp only[bO] at h2;rw[h2];exact hu
 ·cases h2
theorem Mr (p q:Path):dh (p++q)=dh p+dh q:=by
 induction p with
 | nil=>simp[dh]
 | cons s p ih=>cases s <;> simp only[cO,dh,ih] <;> omega
theorem Gn (h:Rel P C A X σ a w F) {r:Nat} {p:Path} {pl:Pl} {b off:Nat} (hp:place σ a w r p=some pl) (fm:pl.ad=some (b,off)):AZ σ a w (.pointer (some ⟨b,off,none⟩)) r p (vI σ r p):=by
 have h5:=h.mo r;refine ⟨?_,fun _=>⟨pl,b,off,hp,fm,rfl,by unfold vI;rw[bQ,h5];omega⟩⟩
 unfold vI;intro j y hj;rw[bK] at hj;split at hj;exact ⟨y,hj,aN _⟩;cases hj
theorem HP (h:du P C A σ a w F) (kS:∀ i T,E.TI i=some T->bd P T (.inl i)=true) {t:Nat} {y z:Operand} (ho:o.op=.indexAddr t y z) (bc:dj P y=true/\dj P z=true) {K:St->Option R}
  (hk:Bh E σ t (dr σ y) (dr σ z) o.dst K=some x):Tk P o a w (Nx P C K x):=by
 unfold Bh at hk;obtain ⟨T,hT,hk⟩:=fx hk;have gf:=kS _ _ hT
 rcases fh h bc.2 with hz | ⟨xs,e⟩
 rotate_left
 ·rw[e] at hk;cases hk
 obtain ⟨kz,n,Kh,hk⟩:=sE hz hk
 have Df:∀ e ad len cap,T=.U e->a.eval y=.slice (some ad) len cap->ad.spot=none->0<=n->n < (len:Int)->∀ w',sP o w w'->(execOp a.eval o).run P w'=.ok (.value (.pointer (some ⟨ad.block,ad.off+n.toNat*e.sz,none⟩))) w':=fun e ad len cap qV hy oc h0 h1 w' _=>by
  subst qV;obtain ⟨el,hu,_,hle⟩:=tG gf;obtain ⟨b,off,sp⟩:=ad;simp only at oc;subst oc;have kt:=run_sizeOf (P:=P) (w:=w') hle;simp[execOp,ho,hy,Kh,Instr.indexAt,asIntOf,run_underlying hu,h0,h1,kt,pz]
 have W3:∀ m e b off,T=.arr m e->a.eval y=.pointer (some ⟨b,off,none⟩)->0<=n->n < (m:Int)->∀ w',sP o w w'->(execOp a.eval o).run P w'=.ok (.value (.pointer (some ⟨b,off+n.toNat*e.sz,none⟩))) w':=fun m e b off qV hy h0 h1 w' _=>by
  subst qV;obtain ⟨el,hu,_,hle⟩:=NH gf;have kt:=run_sizeOf (P:=P) (w:=w') hle;simp[execOp,ho,hy,Kh,Instr.indexAt,asIntOf,run_underlying hu,h0,h1,kt,pz,Instr.sureAddr]
 have ZZ:∀ (e:Ty) (v:List e.den) (tv:Value) (yv:e.den),T=.U e->a.eval y=tv->Ro P w A (.U e) v [tv]->0<=n->v[n.toNat]?=some yv->K (σ.bY o.dst (.cp e yv))=some x->Tk P o a w (Nx P C K x):=fun e v tv yv qV hy so h0 CB hk=>by
  obtain ⟨xa,cap,h1,h2,h3,h4⟩:=so;simp only[cV,eJ] at h1;subst h1;have aj:=(aM.1 CB).1
  cases xa with
  | none=>have:=h3 rfl;omega
  | some ad=>
   obtain ⟨g1,g2⟩:=h4 ad rfl;obtain ⟨L,l1,l2,l3⟩:=g2 _ _ CB;exact f7 (Df e ad _ cap qV hy (g1 (by omega)) h0 (by omega)) (cj h hk ⟨_,rfl,rfl,L,l1,l2,l3⟩ (fun _ _ _ _ e=>by cases e))
 rcases fh h bc.1 with hs | ⟨xs,e⟩
 rotate_left
 ·rw[e] at hk;cases hk
 split at hk
 ·rename_i e v hv;rw[hv] at hs;split at hk
  ·rename_i qV;split at hk
   ·rename_i h0;obtain ⟨yv,CB,hk⟩:=bind_some hk;obtain ⟨cs,h1,h2⟩:=hs;have hl:=Ro.length _ h2
    match cs,hl with
    | [tv],_=>exact ZZ e v tv yv qV (by rw[h1,df _ _ rfl]) h2 h0 CB hk
   ·cases hk
  ·cases hk
 ·rename_i m e v hv;rw[hv] at hs;split at hk
  ·rename_i qV;split at hk
   ·rename_i h0;obtain ⟨yv,CB,hk⟩:=bind_some hk;obtain ⟨⟨b,off,sp⟩,h1,h2,L,h3,h4,h5⟩:=hs;simp only[cV,eJ] at h1;simp only at h2;subst h2;obtain ⟨q1,q2,q3,q4⟩:=h5;have aj:n.toNat < m:=q2 ▸ (aM.1 CB).1;have so:=q4 _ _ CB;refine f7 (W3 m e b off qV h1 h0 (by omega)) (cj h hk ⟨_,rfl,rfl,_,Ro.length _ so,fun k u hu=>?_,so⟩ (fun _ _ _ _ e=>by cases e));rw[bK] at hu;split at hu
    ·rw[bM] at hu;have:=h4 _ u hu;simp only[<-cE] at this;exact this
    ·cases hu
   ·cases hk
  ·cases hk
 ·rename_i r p snap hv;rw[hv] at hs;split at hk
  ·rename_i ov;obtain ⟨hr,t',m',H',v',br,cr,F',h1,h2,h3,h4,h5,h6⟩:=mf h hk;obtain ⟨pl,g1,g2,g3⟩:=hs.2 ov;rw[h3] at g1;injection g1 with g1;subst g1;simp only at g2;split at h1
   ·cases h1
   ·rename_i hH;have hH:hole H'=false:=gO.2 hH;split at h1
    ·rename_i qV;split at h1
     ·rename_i e Ki;have hl:=an.length _ h4;split at h1
      ·rename_i fu;obtain ⟨i0,i1,h1⟩:=E_ h1;have fa:=h4;simp only[an,hH,aG,aL,fu,aI] at fa;obtain ⟨xa,cap,rfl,q2,q3,q4,q5⟩:=fa
       cases xa with
       | none=>have:=q4 rfl;omega
       | some ff=>
        obtain ⟨r1,r2,r3,Fi,r4,r5⟩:=q5 ff rfl;rw[df _ _ rfl] at g2;have aj:n.toNat < List.length Ki:=by omega
        refine f7 (Df e ff _ cap qV.symm g2 r2 i0 i1) (cj h h1 (Gn (pl:=⟨e,H'.filterMap (kZ n.toNat),rd w ff.block (ff.off+n.toNat*e.sz) e.sz,some (ff.block,ff.off+n.toNat*e.sz)⟩) h ?_ rfl) (fun _ _ _ _ e=>by cases e));rw[sv,h3];simp only[aB,bh,hH,aG,aL,aj,aI]
      ·rename_i fu;split at h1
       ·rename_i h0;obtain ⟨yv,CB,h1⟩:=bind_some h1;have fa:=h4;simp only[an,hH,aG,aL,fu] at fa
        match br,hl with
        | [tv],_=>
         rw[df _ _ rfl] at g2;exact ZZ e Ki tv yv qV.symm g2 fa.2.2 h0 CB h1
       ·cases h1
     ·cases h1
    ·cases h1
  ·cases hk
 ·rename_i r p snap lo hi hv;rw[hv] at hs;split at hk
  ·rename_i ov;obtain ⟨hr,t',m',H',v',br,cr,F',h1,h2,h3,h4,h5,h6⟩:=mf h hk;obtain ⟨pl,e,xa,len,cap,uV,cap',g1,g2,g3,g4,g5,g6,g7,Ke,g8,g9,g10⟩:=hs.2 ov;rw[h3] at g1;injection g1 with g1;subst g1;simp only at g2 g3;subst g2;subst g3;split at h1
   ·cases h1
   ·rename_i hH;have hH:hole H'=false:=gO.2 hH;split at h1
    ·rename_i qV;obtain ⟨i0,i1,h1⟩:=E_ h1
     have uZ:∃ ff,xa=some ff/\ff.spot=none:=by
      simp only[an,hH,aG,aL] at h4
      cases xa with
      | none=>
       split at h4
       ·obtain ⟨NI,Bv,q1,q2,q3,q4,_⟩:=h4;simp only[cV,Value.slice.injEq,eJ] at q1;have:=q4 q1.1.symm;omega
       ·obtain ⟨_,_,NI,Bv,q1,q2,q3,_⟩:=h4;simp only[cV,Value.slice.injEq,eJ] at q1;have:=q3 q1.1.symm;omega
      | some ff=>
       refine ⟨ff,rfl,?_⟩
       split at h4
       ·obtain ⟨NI,Bv,q1,q2,q3,q4,q5⟩:=h4;simp only[cV,Value.slice.injEq,eJ] at q1;exact (q5 ff q1.1.symm).2.1
       ·obtain ⟨_,_,NI,Bv,q1,q2,q3,q4⟩:=h4;simp only[cV,Value.slice.injEq,eJ] at q1;exact (q4 ff q1.1.symm).1 (by have:=q1.2.1;have:=q1.2.2;omega)
     obtain ⟨ff,rfl,oc⟩:=uZ;obtain ⟨zS,e1,e2,e3,e4⟩:=g9 ff rfl;subst e1;have e4:=e4 (by omega);refine f7 (Df e zS _ cap' qV.symm g6 (e2.trans oc) i0 i1) ?_
     have Kj:(⟨zS.block,zS.off+n.toNat*e.sz,none⟩:Addr)=⟨ff.block,ff.off+(lo+n.toNat)*e.sz,none⟩:=by
      rw[e3,e4,cI,cE]
     rw[Kj];have aj:lo+n.toNat < len:=by omega
     refine cj h h1 (Gn (pl:=⟨e,H'.filterMap (kZ (lo+n.toNat)),rd w ff.block (ff.off+(lo+n.toNat)*e.sz) e.sz,some (ff.block,ff.off+(lo+n.toNat)*e.sz)⟩) h ?_ rfl) (fun _ _ _ _ e=>by cases e);rw[sv,h3];simp only[aB,bh,hH,aG,aL,aj,aI]
    ·cases h1
  ·cases hk
 ·rename_i r p snap hv;rw[hv] at hs;split at hk
  ·rename_i ov;obtain ⟨hr,t',m',H',v',br,cr,F',h1,h2,h3,h4,h5,h6⟩:=mf h hk;obtain ⟨pl,b,off,g1,g2,g3,g4⟩:=hs.2 ov;rw[h3] at g1;injection g1 with g1;subst g1;simp only at g2;subst g2;split at h1
   ·rename_i qV;split at h1
    ·rename_i m e Ki;obtain ⟨i0,i1,h1⟩:=E_ h1;obtain ⟨hH,hf,hl,hlen,so⟩:=h4;subst hH;have aj:n.toNat < m:=by omega
     refine f7 (W3 m e b off qV.symm g3 i0 (by omega)) (cj h h1 ⟨hs.1,fun _=>⟨⟨e,[],(br.drop (n.toNat*e.sz)).take e.sz,some (b,off+n.toNat*e.sz)⟩,b,off+n.toNat*e.sz,?_,rfl,rfl,?_⟩⟩ (fun _ _ _ _ e=>by cases e))
     ·rw[sv,h3];simp only[aB,bh,cS,aI,aj,gd,cD]
     ·rw[Mr];exact g4
    ·cases h1
   ·cases h1
  ·cases hk
 ·cases hk
end
end OT
namespace OT
open Go
section
variable {P:Program} {C:Ctx} {A:Cells} {X:FP} {σ:St} {a:Act} {w:World} {F:Nat->FP} {R:Type} {x:R} {Q:Exit->Act->World->Prop} {o:Oper} {E:Env}
theorem QS (s:List UInt8) (n:Nat):(⟨s.toArray⟩:ByteArray)[n]?=s[n]?:=by
 by_cases h:n < s.length
 ·have h1:n < (⟨s.toArray⟩:ByteArray).size:=by simpa [ByteArray.size] using h
  rw[getElem?_pos _ n h1,aA h];rfl
 ·have h1:¬ n < (⟨s.toArray⟩:ByteArray).size:=by simpa [ByteArray.size] using h
  rw[getElem?_neg _ n h1,cW (fP h)]
theorem OL (h:du P C A σ a w F) (kS:∀ i T,E.TI i=some T->bd P T (.inl i)=true) {t:Nat} {y z:Operand} (ho:o.op=.index t y z) (bc:dj P y=true/\dj P z=true) {K:St->Option R}
  (hk:JQ E σ t (dr σ y) (dr σ z) o.dst K=some x):Tk P o a w (Nx P C K x):=by
 unfold JQ at hk;have CC:=fx hk;clear hk;obtain ⟨T,hT,mB⟩:=CC;have gf:=kS _ _ hT
 rcases fh h bc.2 with hz | ⟨xs,e⟩
 rotate_left
 ·rw[e] at mB;cases mB
 have hk3:=sE hz mB;clear mB;obtain ⟨kz,n,Kh,hk⟩:=hk3
 rcases fh h bc.1 with hs | ⟨xs,e⟩
 rotate_left
 ·rw[e] at hk;cases hk
 split at hk
 ·rename_i s hv;rw[hv] at hs;split at hk
  ·rename_i qV;subst qV;split at hk
   ·rename_i h0;obtain ⟨c,hc,hk⟩:=bind_some hk;obtain ⟨cs,h1,h2⟩:=hs;simp only[Ro] at h2;subst h2;have hb:=QS s n.toNat;rw[hc] at hb;refine f7 (v:=.int .u8 c.toNat) ?_ (cj h hk ⟨[_],rfl,rfl⟩ (fun _ _ _ _ e=>by cases e));simp[execOp,ho,h1,cg,isAgg,Kh,Instr.index,asIntOf,run_underlying (m7 gf),h0,hb]
   ·cases hk
  ·cases hk
 ·rename_i m e v hv;rw[hv] at hs;split at hk
  ·rename_i qV;subst qV;split at hk
   ·rename_i h0;obtain ⟨yv,CB,hk⟩:=bind_some hk;obtain ⟨cs,h1,h2⟩:=hs;obtain ⟨q1,q2,q3,q4⟩:=id h2;obtain ⟨el,hu,_,hle⟩:=NH gf;have aj:n.toNat < m:=q2 ▸ (aM.1 CB).1;have sN:n < (m:Int):=by omega
    have so:=q4 _ _ CB;refine f7 (v:=cg e ((cs.drop (n.toNat*e.sz)).take e.sz)) (fun w' _=>?_) (cj h hk ⟨_,rfl,so⟩ (fun _ _ _ _ e=>by cases e));have hp:=uf (P:=P) (w:=w') hle (cs:=cs.toArray) (off:=n.toNat*e.sz) (by simpa using Ro.length _ so);simp only[List.toList_toArray] at hp;have kt:=run_sizeOf (P:=P) (w:=w') hle;simp[execOp,ho,h1,cg,isAgg,Kh,Instr.index,asIntOf,run_underlying hu,h0,sN,kt,hp]
   ·cases hk
  ·cases hk
 ·cases hk
theorem zj {t:Ty} {m:Md} {H:List Path} {e:Ty} {v:List e.den} {cs:List Value} {G:FP} (h:an P w A (.U e) m H v cs G) (hH:hole H=false) :
  ∃ xa cap,cs=[.slice xa (List.length v) cap]/\List.length v<=cap/\(xa=none->List.length v=0):=by
 simp only[an,hH,aG,aL] at h;split at h
 ·obtain ⟨xa,cap,q1,q2,q3,q4,q5⟩:=h;exact ⟨xa,cap,q1,q2,fun e=>by have:=q4 e;omega⟩
 ·obtain ⟨_,_,xa,cap,q1,q2,q3,q4⟩:=h;exact ⟨xa,cap,q1,q2,q3⟩
theorem zk {t:Nat} {y:Operand} (ho:o.op=.call { callee:=.builtin .len,args:=#[y],argTypes:=#[t] }) :
  (execOp a.eval o).run P w=((Builtin.len_ #[t] o.type #[a.eval y]).run P w).andThen fun v w'=>.ok (.value v) w':=by
 unfold execOp;simp only[ho,resolve,invoke,builtin,Sem.run_bind,Sem.run_pure,Result.andThen_ok,List.map_toArray,cR,fS]
theorem S8 (h:du P C A σ a w F) (kS:∀ i T,E.TI i=some T->bd P T (.inl i)=true) {t:Nat} {y:Operand} (ho:o.op=.call { callee:=.builtin .len,args:=#[y],argTypes:=#[t] }) (bc:dj P y=true) {K:St->Option R}
  (hk:SS E σ t (dr σ y) (fun n=>K (σ.bY o.dst (.val (.int .i64) (n:Int))))=some x):Tk P o a w (Nx P C K x):=by
 unfold SS at hk;obtain ⟨T,hT,hk⟩:=fx hk;have gf:=kS _ _ hT
 rcases fh h bc with hs | ⟨xs,e⟩
 rotate_left
 ·rw[e] at hk;split at hk <;> cases hk
 have fin:∀ n:Nat,K (σ.bY o.dst (.val (.int .i64) (n:Int)))=some x->Nx P C K x (a.put o.dst (.int .i64 (n:Int))) w:=fun n hk=>cj h hk ⟨[_],rfl,rfl⟩ (fun _ _ _ _ e=>by cases e);split at hk
 ·split at hk
  ·rename_i s hv;rw[hv] at hs;obtain ⟨cs,h1,h2⟩:=hs;simp only[Ro] at h2;subst h2;refine f7 (v:=.int .i64 (s.length:Int)) (fun w' _=>?_) (fin _ hk);have e:a.eval y=.string ⟨List.toArray s⟩:=h1;have e2:(⟨List.toArray s⟩:ByteArray).size=s.length:=rfl;rw[zk ho,e];unfold Builtin.len_;simp only[gN,eN,Sem.run_bind,run_underlying (m7 gf),Result.andThen_ok,Sem.run_pure,goInt,e2]
  ·cases hk
 ·rename_i e;obtain ⟨el,hu,_,hle⟩:=tG gf
  have run:∀ xa n cap,a.eval y=.slice xa n cap->∀ w',sP o w w'->(execOp a.eval o).run P w'=.ok (.value (.int .i64 (n:Int))) w':=fun xa n cap hy w' _=>by
   rw[zk ho];simp[Builtin.len_,hy,run_underlying hu,goInt]
  split at hk
  ·rename_i e' v hv;rw[hv] at hs;obtain ⟨cs,h1,xa,cap,h2,_⟩:=hs;subst h2;exact f7 (run xa _ cap h1) (fin _ hk)
  ·rename_i hv;rw[hv] at hs;exact f7 (run none 0 0 hs) (fin _ hk)
  ·rename_i r p snap hv;rw[hv] at hs;split at hk
   ·rename_i ov;obtain ⟨hr,t',m',H',v',br,cr,F',h1,h2,h3,h4,h5,h6⟩:=mf h hk;obtain ⟨pl,g1,g2,g3⟩:=hs.2 ov;rw[h3] at g1;injection g1 with g1;subst g1;simp only at g2;split at h1
    ·cases h1
    ·rename_i hH;have hH:hole H'=false:=gO.2 hH;split at h1
     ·rename_i e' Ki;obtain ⟨xa,cap,q1,q2,q3⟩:=zj (t:=.unit) h4 hH;subst q1;exact f7 (run xa _ cap g2) (fin _ h1)
     ·cases h1
   ·cases hk
  ·rename_i r p snap lo hi hv;rw[hv] at hs;split at hk
   ·rename_i ov;obtain ⟨pl,e',xa,len,cap,uV,cap',g1,g2,g3,g4,g5,g6,g7,Ke,g8,g9,g10⟩:=hs.2 ov;exact f7 (run uV _ cap' g6) (fin _ hk)
   ·cases hk
  ·cases hk
 ·cases hk
theorem QT {len cap:Nat} {lo hi:Option Operand} {K:Nat->Nat->Option R} (k_:len<=cap) (vf:∀ y,lo=some y->cu P A σ a w (a.eval y) (dr σ y) (fun _ _=>0)) (NJ:∀ y,hi=some y->cu P A σ a w (a.eval y) (dr σ y) (fun _ _=>0))
  (hk:tF len (lo.map (dr σ)) (hi.map (dr σ)) K=some x):∃ l h,l<=h/\h<=len/\K l h=some x/\(∀ w',(Instr.sliceBounds true len cap (lo.map a.eval) (hi.map a.eval) none).run P w'=.ok (l,h,cap) w') /\
   (len=cap->∀ w',(Instr.sliceBounds false len cap (lo.map a.eval) (hi.map a.eval) none).run P w'=.ok (l,h,cap) w'):=by
 have kO:∀ (k:IntKind) (i:Int) (y:Nat) code,0<=i->i<=(y:Int)->∀ w',(Instr.sliceBound (.int k i) y code).run P w'=.ok i.toNat w':=fun k i y code h0 h1 w'=>run_sliceBound w' k i y code h0 h1
 have two:∀ (QU k8:Option Value) (l h:Nat),(QU=none/\l=0\/∃ k n,QU=some (.int k n)/\0<=n/\n<=(h:Int)/\l=n.toNat)->(k8=none/\h=len\/∃ k n,k8=some (.int k n)/\0<=n/\n<=(len:Int)/\h=n.toNat) ->
   (∀ w',(Instr.sliceBounds true len cap QU k8 none).run P w'=.ok (l,h,cap) w')/\(len=cap->∀ w',(Instr.sliceBounds false len cap QU k8 none).run P w'=.ok (l,h,cap) w'):=fun QU k8 l h h1 h2=>by
  rcases h2 with ⟨rfl,rfl⟩ | ⟨k2,n2,rfl,b1,b2,rfl⟩
  ·rcases h1 with ⟨rfl,rfl⟩ | ⟨k1,n1,rfl,a1,a2,rfl⟩
   ·exact ⟨by simp[Instr.sliceBounds],fun _=>by simp[Instr.sliceBounds]⟩
   ·exact ⟨by simp[Instr.sliceBounds,kO k1 n1 _ .sliceB a1 a2],fun _=>by simp[Instr.sliceBounds,kO k1 n1 _ .sliceB a1 a2]⟩
  ·have c1:=kO k2 n2 cap .sliceAcap b1 (by omega);have c2:=kO k2 n2 cap .sliceAlen b1 (by omega)
   rcases h1 with ⟨rfl,rfl⟩ | ⟨k1,n1,rfl,a1,a2,rfl⟩
   ·exact ⟨by simp[Instr.sliceBounds,c1],fun e=>by subst e;simp[Instr.sliceBounds,c2]⟩
   ·have c3:=kO k1 n1 _ .sliceB a1 a2;exact ⟨by simp[Instr.sliceBounds,c1,c3],fun e=>by subst e;simp[Instr.sliceBounds,c2,c3]⟩
 unfold tF at hk
 cases lo with
 | none=>
  cases hi with
  | none=>
   have:=two none none 0 len (.inl ⟨rfl,rfl⟩) (.inl ⟨rfl,rfl⟩);exact ⟨0,len,aW _,aN _,hk,this.1,this.2⟩
  | some yh=>
   obtain ⟨kh,nh,hv,hk⟩:=sE (NJ yh rfl) hk;split at hk
   ·rename_i hc;have:=two none (some (a.eval yh)) 0 nh.toNat (.inl ⟨rfl,rfl⟩) (.inr ⟨kh,nh,by rw[hv],hc.1,hc.2,rfl⟩);exact ⟨0,nh.toNat,aW _,by omega,hk,this.1,this.2⟩
   ·cases hk
 | some yl=>
  cases hi with
  | none=>
   obtain ⟨kl,nl,hv,hk⟩:=sE (vf yl rfl) hk;split at hk
   ·rename_i hc;have:=two (some (a.eval yl)) none nl.toNat len (.inr ⟨kl,nl,by rw[hv],hc.1,hc.2,rfl⟩) (.inl ⟨rfl,rfl⟩);exact ⟨nl.toNat,len,by omega,aN _,hk,this.1,this.2⟩
   ·cases hk
  | some yh=>
   obtain ⟨kl,nl,hv,hk⟩:=sE (vf yl rfl) hk;obtain ⟨kh,nh,Gp,hk⟩:=sE (NJ yh rfl) hk;split at hk
   ·rename_i hc;have:=two (some (a.eval yl)) (some (a.eval yh)) nl.toNat nh.toNat (.inr ⟨kl,nl,by rw[hv],hc.1,by omega,rfl⟩) (.inr ⟨kh,nh,by rw[Gp],by omega,hc.2.2,rfl⟩);exact ⟨nl.toNat,nh.toNat,by omega,by omega,hk,this.1,this.2⟩
   ·cases hk
theorem Ji (s:List UInt8) (l h:Nat) (hl:l<=h) (hh:h<=s.length):(⟨s.toArray⟩:ByteArray).extract l h=⟨((s.take h).drop l).toArray⟩:=by
 apply ByteArray.ext;rw[ByteArray.data_extract];apply eX;simp[jH];rw[eO]
theorem OM (h:du P C A σ a w F) (kS:∀ i T,E.TI i=some T->bd P T (.inl i)=true) {t:Nat} {y:Operand} {lo hi:Option Operand} (ho:o.op=.slice t y lo hi none)
  (bc:dj P y=true/\(∀ z,lo=some z->dj P z=true)/\(∀ z,hi=some z->dj P z=true)) {K:St->Option R}
  (hk:JR E σ t (dr σ y) (lo.map (dr σ)) (hi.map (dr σ)) o.dst K=some x):Tk P o a w (Nx P C K x):=by
 unfold JR at hk;have CC:=fx hk;clear hk;obtain ⟨T,hT,hk⟩:=CC;have gf:=kS _ _ hT
 have UV:∀ z,dj P z=true->(∀ xs,dr σ z≠.rq xs)->cu P A σ a w (a.eval z) (dr σ z) (fun _ _=>0):=fun z hz hn=>by
  rcases fh h hz with hs | ⟨xs,e⟩
  ·exact hs
  ·exact absurd e (hn xs)
 have bound:∀ (len cap:Nat) (K':Nat->Nat->Option R),len<=cap->tF len (lo.map (dr σ)) (hi.map (dr σ)) K'=some x->∃ l h,l<=h/\h<=len/\K' l h=some x/\(∀ w',(Instr.sliceBounds true len cap (lo.map a.eval) (hi.map a.eval) none).run P w'=.ok (l,h,cap) w') /\
   (len=cap->∀ w',(Instr.sliceBounds false len cap (lo.map a.eval) (hi.map a.eval) none).run P w'=.ok (l,h,cap) w'):=fun len cap K' hc hb=>by
  refine QT hc (fun z hz=>UV z (bc.2.1 z hz) fun xs e=>?_) (fun z hz=>UV z (bc.2.2 z hz) fun xs e=>?_) hb
  ·subst hz;unfold tF at hb;cases hi <;> simp only[cD,gZ,e,vz] at hb <;> cases hb
  ·subst hz;unfold tF at hb
   cases lo with
   | none=>simp only[cD,gZ,e,vz] at hb;cases hb
   | some yl=>
    simp only[cD,e] at hb;unfold vz at hb;split at hb <;> cases hb
 have Df:∀ e xa len cap l h,T=.U e->a.eval y=.slice xa len cap->l<=cap->(∀ ad,xa=some ad->0 < cap->ad.spot=none)->(∀ w',(Instr.sliceBounds true len cap (lo.map a.eval) (hi.map a.eval) none).run P w'=.ok (l,h,cap) w') ->
   ∀ w',sP o w w'->(execOp a.eval o).run P w'=.ok (.value (.slice (if cap=l then xa else xa.map fun ad=>⟨ad.block,ad.off+l*e.sz,none⟩) (h - l) (cap - l))) w':=fun e xa len cap l h qV hy Z0 oc hb w' _=>by
  have hb:=hb w';subst qV;obtain ⟨el,hu,_,hle⟩:=tG gf;have kt:=run_sizeOf (P:=P) (w:=w') hle;unfold execOp;simp only[ho,gZ,Instr.sliceAt,Instr.slice,Sem.run_bind,run_underlying hu,Result.andThen_ok,hy,hb,kt,Sem.run_pure];by_cases vh:cap=l
  ·simp[vh]
  ·congr 4
   cases xa with
   | none=>rfl
   | some ad=>
    obtain ⟨b,off,sp⟩:=ad;have:=oc _ rfl (by omega);simp only at this;subst this;simp[pz]
 have addr:∀ (xa:Option Addr) (cap l h n:Nat) (e:Ty),l<=h->h<=n->n<=cap->(∀ ad,xa=some ad->0 < cap->ad.spot=none) ->
   (xa=none->(if cap=l then xa else xa.map fun ad=>⟨ad.block,ad.off+l*e.sz,none⟩)=none) /\
   (∀ ad,xa=some ad->∃ cr,(if cap=l then xa else xa.map fun ad=>⟨ad.block,ad.off+l*e.sz,none⟩)=some cr/\cr.spot=ad.spot/\cr.block=ad.block/\(l < h->cr.off=ad.off+l*e.sz)) /\
   (l=0->(if cap=l then xa else xa.map fun ad=>(⟨ad.block,ad.off+l*e.sz,none⟩:Addr))=xa):=fun xa cap l h n e h1 h2 h3 oc=>by
  refine ⟨fun e=>by subst e;split <;> rfl,fun ad e=>?_,fun e0=>?_⟩
  ·subst e;split
   ·exact ⟨ad,rfl,rfl,rfl,fun _=>by omega⟩
   ·exact ⟨_,rfl,(oc ad rfl (by omega)).symm,rfl,fun _=>rfl⟩
  ·subst e0;split
   ·rfl
   ·cases xa with
    | none=>rfl
    | some ad=>
     obtain ⟨b,off,sp⟩:=ad;have:=oc _ rfl (by omega);simp only at this;subst this;simp
 have UW:∀ {e:Ty} {v:List e.den} {m:Md} {H:List Path} {xa n cap} {G:FP},an P w A (.U e) m H v [.slice xa n cap] G->hole H=false->∀ ad,xa=some ad->0 < cap->ad.spot=none:=fun {e v m H xa n cap G} fa hH ad xA Dg=>by
  simp only[an,hH,aG,aL] at fa;split at fa
  ·obtain ⟨NI,Bv,q1,q2,q3,q4,q5⟩:=fa;simp only[cV,Value.slice.injEq,eJ] at q1;exact (q5 ad (q1.1.symm.trans xA)).2.1
  ·obtain ⟨_,_,NI,Bv,q1,q2,q3,q4⟩:=fa;simp only[cV,Value.slice.injEq,eJ] at q1;exact (q4 ad (q1.1.symm.trans xA)).1 (by omega)
 rcases fh h bc.1 with hs | ⟨xs,e⟩
 rotate_left
 ·rw[e] at hk;cases hk
 split at hk
 ·rename_i s hv;rw[hv] at hs;split at hk
  ·rename_i qV;have UX:=gf;rw[qV] at UX;obtain ⟨l,h',b1,b2,hk,b3,b4⟩:=bound s.length s.length _ (aN _) hk;obtain ⟨cs,h1,h2⟩:=hs;simp only[Ro] at h2;subst h2;have e1:a.eval y=.string ⟨List.toArray s⟩:=h1;have e2:(⟨List.toArray s⟩:ByteArray).size=s.length:=rfl;refine f7 (v:=.string ⟨((s.take h').drop l).toArray⟩) (fun w' _=>?_) (cj h hk ⟨[_],rfl,rfl⟩ (fun _ _ _ _ e=>by cases e));unfold execOp;simp only[ho,gZ,Instr.sliceAt,Instr.slice,Sem.run_bind,run_underlying (m7 UX),Result.andThen_ok,e1,eP,aG,aL,e2,b4 rfl w',Sem.run_pure,Ji s l h' b1 b2]
  ·cases hk
 ·rename_i e v hv;rw[hv] at hs;split at hk
  ·rename_i qV;obtain ⟨cs,h1,h2⟩:=hs;obtain ⟨xa,cap,q1,q2,q3,q4⟩:=id h2;subst q1;rw[df _ _ rfl] at h1;obtain ⟨l,h',b1,b2,hk,b3,_⟩:=bound (List.length v) cap _ q2 hk;obtain ⟨r1,r2,r3⟩:=addr xa cap l h' _ e b1 b2 q2 (fun ad e=>(q4 ad e).1);exact f7 (Df e xa _ cap l h' qV h1 (by omega) (fun ad e=>(q4 ad e).1) b3) (cj h hk ⟨_,(df (.U e) _ rfl).symm,Ro.piece h2 b1 b2 (by omega) r1 r2⟩ (fun _ _ _ _ e=>by cases e))
  ·cases hk
 ·rename_i r p snap hv;rw[hv] at hs;split at hk
  ·rename_i ov;obtain ⟨hr,t',m',H',v',br,cr,F',h1,h2,h3,h4,h5,h6⟩:=mf h hk;obtain ⟨pl,g1,g2,g3⟩:=hs.2 ov;rw[h3] at g1;injection g1 with g1;subst g1;simp only at g2 g3;split at h1
   ·cases h1
   ·rename_i hH;have hH:hole H'=false:=gO.2 hH;split at h1
    ·rename_i qV;split at h1
     ·rename_i e Ki;obtain ⟨xa,cap,q1,q2,q3⟩:=zj (t:=.unit) h4 hH;subst q1;rw[df _ _ rfl] at g2;have oc:=UW h4 hH;split at h1
      ·obtain ⟨l,h',b1,b2,h1,b3,_⟩:=bound (List.length Ki) cap _ q2 h1;obtain ⟨r1,r2,r3⟩:=addr xa cap l h' _ e b1 b2 q2 oc;refine f7 (Df e xa _ cap l h' qV.symm g2 (by omega) oc b3) (cj h h1 ⟨hs.1,fun _=>⟨_,e,xa,_,cap,_,cap - l,h3,rfl,rfl,b1,b2,rfl,by omega,r3,r1,r2,?_⟩⟩ (fun _ _ _ _ e=>by cases e));exact g3.imp (·.2) id
      ·rename_i fu;obtain ⟨l,h',b1,b2,h1,b3,_⟩:=bound (List.length Ki) cap _ q2 h1;obtain ⟨r1,r2,r3⟩:=addr xa cap l h' _ e b1 b2 q2 oc;simp only[an,hH,aG,aL,fu] at h4;exact f7 (Df e xa _ cap l h' qV.symm g2 (by omega) oc b3) (cj h h1 ⟨_,(df (.U e) _ rfl).symm,Ro.piece h4.2.2 b1 b2 (by omega) r1 r2⟩ (fun _ _ _ _ e=>by cases e))
     ·cases h1
    ·cases h1
  ·cases hk
 ·rename_i r p snap l0 h0 hv;rw[hv] at hs;split at hk
  ·rename_i ov;obtain ⟨hr,t',m',H',v',br,cr,F',h1,h2,h3,h4,h5,h6⟩:=mf h hk;obtain ⟨pl,e,xa,n,cap,uV,cap',g1,g2,g3,g4,g5,g6,g7,Ke,g8,g9,g10⟩:=hs.2 ov;have g1':=g1;rw[h3] at g1;injection g1 with g1;subst g1;simp only at g2 g3;subst g2;subst g3;split at h1
   ·cases h1
   ·rename_i hH;have hH:hole H'=false:=gO.2 hH;split at h1
    ·rename_i qV;obtain ⟨NI,Bv,q1,q2,q3⟩:=zj (t:=.unit) h4 hH;simp only[cV,Value.slice.injEq,eJ] at q1;obtain ⟨rfl,rfl,rfl⟩:=q1;have oc:=UW h4 hH
     have W4:∀ ad,uV=some ad->0 < cap'->ad.spot=none:=fun ad e' Dg=>by
      cases xA:xa with
      | none=>rw[g8 xA] at e';cases e'
      | some ff=>
       obtain ⟨zS,e1,e2,_⟩:=g9 ff xA;rw[e'] at e1;injection e1 with e1;subst e1;exact e2.trans (oc ff xA (by omega))
     obtain ⟨l,h',b1,b2,h1,b3,_⟩:=bound (h0 - l0) cap' _ (by omega) h1;obtain ⟨r1,r2,r3⟩:=addr uV cap' l h' _ e b1 b2 (by omega) W4;refine f7 (Df e uV _ cap' l h' qV.symm g6 (by omega) W4 b3) (cj h h1 ⟨hs.1,fun _=>⟨⟨.U e,H',[.slice xa (List.length v') cap],cr⟩,e,xa,List.length v',cap,(if cap'=l then uV else uV.map fun ad=>⟨ad.block,ad.off+l*e.sz,none⟩),cap' - l,h3,rfl,rfl,by omega,by omega,?_,by omega,fun e0=>?_,fun e'=>?_,fun ad e'=>?_,g10⟩⟩ (fun _ _ _ _ e=>by cases e))
     ·rw[show l0+h' - (l0+l)=h' - l by omega]
     ·rw[r3 (by omega),Ke (by omega)]
     ·exact r1 (g8 e')
     ·obtain ⟨zS,e1,e2,e3,e4⟩:=g9 ad e';obtain ⟨wl,f1,f2,f3,f4⟩:=r2 zS e1;exact ⟨wl,f1,f2.trans e2,f3.trans e3,fun aj=>by rw[f4 (by omega),e4 (by omega),cI,cE]⟩
    ·cases h1
  ·cases hk
 ·cases hk
end
end OT
namespace OT
open Go
theorem rz (k:IntKind) (n:Int):pJ k (Cv k n)=k.wrap n:=by
 cases k <;> first | rfl | skip
 show ((UInt8.ofNat (n % 2 ^ 8).toNat).toNat:Int)=_;rw[UInt8.toNat_ofNat'];simp[IntKind.wrap,IntKind.bits,IntKind.signed];omega
theorem HQ (k:IntKind) (n:Int) (h:k=.u8->0<=n/\n < 256):pJ k (UE k n)=n:=by
 cases k <;> first | rfl | skip
 obtain ⟨h1,h2⟩:=h rfl;show ((UInt8.ofNat (n % 2 ^ 8).toNat).toNat:Int)=_;rw[UInt8.toNat_ofNat'];omega
theorem QV (v:AS .u8):0<=pJ .u8 v/\pJ .u8 v < 256:=by
 have:UInt8.toNat v < 256:=jS v;show 0<=((UInt8.toNat v:Nat):Int)/\((UInt8.toNat v:Nat):Int) < 256;omega
section
variable {P:Program} {C:Ctx} {A:Cells} {X:FP} {σ:St} {a:Act} {w:World} {F:Nat->FP} {R:Type} {x:R} {Q:Exit->Act->World->Prop} {o:Oper} {E:Env}
theorem V0 {op:BinOp} {k k':IntKind} {na nb:Int} {K:(t:Ty)->t.den->Option R} (hk:JT op k na nb K=some x) (C_:k=k'\/op=.shl\/op=.shr) (hu:k=.u8->0<=na/\na < 256) (QW:k'=.u8->0<=nb/\nb < 256) (T:TypeId) :
  ∃ t v tv,K t v=some x/\Ro P w A t v [tv]/\isAgg t=false/\∀ w:World,(binOp op T (.int k na) (.int k' nb)).run P w=.ok tv w:=by
 have same:op≠.shl->op≠.shr->k=k':=fun h1 h2=>by rcases C_ with h | h | h;exact h;exact absurd h h1;exact absurd h h2
 unfold JT at hk;split at hk
 ·have:=same (by simp) (by simp);subst this;exact ⟨_,_,.int k (k.wrap (na+nb)),hk,by simp only[Ro,rz],rfl,fun w=>by simp[Go.binOp,Op.intArith]⟩
 ·have:=same (by simp) (by simp);subst this;exact ⟨_,_,.int k (k.wrap (na - nb)),hk,by simp only[Ro,rz],rfl,fun w=>by simp[Go.binOp,Op.intArith]⟩
 ·have:=same (by simp) (by simp);subst this;exact ⟨_,_,.int k (k.wrap (na*nb)),hk,by simp only[Ro,rz],rfl,fun w=>by simp[Go.binOp,Op.intArith]⟩
 ·have:=same (by simp) (by simp);subst this;split at hk
  ·cases hk
  ·rename_i W5;exact ⟨_,_,.int k (k.wrap (na.tdiv nb)),hk,by simp only[Ro,rz],rfl,fun w=>by simp[Go.binOp,Op.intDiv,W5]⟩
 ·have:=same (by simp) (by simp);subst this;split at hk
  ·cases hk
  ·rename_i W5;refine ⟨_,_,.int k (na.tmod nb),hk,?_,rfl,fun w=>by simp[Go.binOp,Op.intDiv,W5]⟩
   simp only[Ro];rw[HQ k _ (fun e=>?_)];have h1:=hu e;have h2:=QW e
   have:=Int.tmod_nonneg nb h1.1;have h3:na.tmod nb < nb:=Int.tmod_lt_of_pos na (by omega);omega
 ·have:=same (by simp) (by simp);subst this;exact ⟨_,_,.int k (k.wrap ((BitVec.ofInt k.bits na &&& BitVec.ofInt k.bits nb).toNat:Int)),hk,by simp only[Ro,rz],rfl,fun w=>by unfold Go.binOp;simp only[ne_eq,eU,aL,Op.intBits,Sem.run_pure]⟩
 ·have:=same (by simp) (by simp);subst this;exact ⟨_,_,.int k (k.wrap ((BitVec.ofInt k.bits na ||| BitVec.ofInt k.bits nb).toNat:Int)),hk,by simp only[Ro,rz],rfl,fun w=>by unfold Go.binOp;simp only[ne_eq,eU,aL,Op.intBits,Sem.run_pure]⟩
 ·have:=same (by simp) (by simp);subst this;exact ⟨_,_,.int k (k.wrap ((BitVec.ofInt k.bits na ^^^ BitVec.ofInt k.bits nb).toNat:Int)),hk,by simp only[Ro,rz],rfl,fun w=>by unfold Go.binOp;simp only[ne_eq,eU,aL,Op.intBits,Sem.run_pure]⟩
 ·split at hk
  ·cases hk
  ·rename_i hn;exact ⟨_,_,.int k (k.wrap (na*2 ^ (min nb.toNat k.bits))),hk,by simp only[Ro,rz],rfl,fun w=>by simp[Go.binOp,Op.shift,hn]⟩
 ·split at hk
  ·cases hk
  ·rename_i hn;refine ⟨_,_,.int k (na.fdiv (2 ^ (min nb.toNat k.bits))),hk,?_,rfl,fun w=>by simp[Go.binOp,Op.shift,hn]⟩
   simp only[Ro];rw[HQ k _ (fun e=>?_)];have h1:=hu e;have hp:(0:Int) < 2 ^ (min nb.toNat k.bits):=Int.pow_pos (by omega);rw[gS _ (by omega)];have h2:=Int.ediv_nonneg h1.1 (Int.le_of_lt hp);have h3:=Int.ediv_le_self (2 ^ (min nb.toNat k.bits)) h1.1;omega
 ·have:=same (by simp) (by simp);subst this;exact ⟨.bool,decide (na=nb),_,hk,rfl,rfl,fun w=>by simp[Go.binOp,Op.intCmp];rfl⟩
 ·have:=same (by simp) (by simp);subst this;exact ⟨.bool,!decide (na=nb),_,hk,rfl,rfl,fun w=>by simp[Go.binOp,Op.intCmp,bne];rfl⟩
 ·have:=same (by simp) (by simp);subst this;exact ⟨.bool,decide (na < nb),_,hk,rfl,rfl,fun w=>by simp[Go.binOp,Op.intCmp]⟩
 ·have:=same (by simp) (by simp);subst this;exact ⟨.bool,decide (na<=nb),_,hk,rfl,rfl,fun w=>by simp[Go.binOp,Op.intCmp]⟩
 ·have:=same (by simp) (by simp);subst this;exact ⟨.bool,decide (nb < na),_,hk,rfl,rfl,fun w=>by simp[Go.binOp,Op.intCmp]⟩
 ·have:=same (by simp) (by simp);subst this;exact ⟨.bool,decide (nb<=na),_,hk,rfl,rfl,fun w=>by simp[Go.binOp,Op.intCmp]⟩
 ·cases hk
theorem V1 {op:BinOp} {s t:List UInt8} {K:(t:Ty)->t.den->Option R} (hk:ST op s t K=some x) (T:TypeId) :
  ∃ ty v tv,K ty v=some x/\Ro P w A ty v [tv]/\isAgg ty=false/\∀ w:World,(binOp op T (.string ⟨s.toArray⟩) (.string ⟨t.toArray⟩)).run P w=.ok tv w:=by
 have h0:∀ w:World,(binOp op T (.string ⟨s.toArray⟩) (.string ⟨t.toArray⟩)).run P w=(Op.stringOp op ⟨s.toArray⟩ ⟨t.toArray⟩).run P w:=fun w=>by cases op <;> rfl
 simp only[h0];unfold ST at hk;split at hk
 ·split at hk
  ·rename_i hc;refine ⟨.str,s++t,.string ⟨(s++t).toArray⟩,hk,rfl,rfl,fun w=>?_⟩
   rw[run_string_add_sum w _ _ (by simp only[ByteArray.size,dM];simp only[bz] at hc;omega),ByteArray.mk_append_mk]
  ·cases hk
 ·exact ⟨.bool,decide (s=t),_,hk,rfl,rfl,fun w=>by simp[Op.stringOp];exact fB.2 (by simp)⟩
 ·exact ⟨.bool,!decide (s=t),_,hk,rfl,rfl,fun w=>by simp[Op.stringOp];exact fB.2 (by simp)⟩
 ·cases hk
theorem yO {tv:Value} {s:List UInt8} {G:FP} (h:cu P A σ a w tv (.val .str s) G):tv=.string ⟨s.toArray⟩:=by
 obtain ⟨cs,h1,h2⟩:=h;simp only[Ro] at h2;subst h2;exact h1
theorem yP {tv:Value} {k:IntKind} {n:AS k} {G:FP} (h:cu P A σ a w tv (.val (.int k) n) G):tv=.int k (pJ k n):=by
 obtain ⟨cs,h1,h2⟩:=h;simp only[Ro] at h2;subst h2;exact h1
theorem Kk {tv:Value} {b:Bool} {G:FP} (h:cu P A σ a w tv (.val .bool b) G):tv=.bool b:=by
 obtain ⟨cs,h1,h2⟩:=h;simp only[Ro] at h2;subst h2;exact h1
theorem QX (h:du P C A σ a w F) {op:UnOp} {t:Nat} {y:Operand} (ho:o.op=.unOp op t y) (bc:dj P y=true) {K:St->Option R}
  (hk:(match op,dr σ y with
  | .not,.val .bool b=>K (σ.bY o.dst (.val .bool (!b)))
  | .neg,.val (.int k) n=>K (σ.bY o.dst (.val (.int k) (Cv k (0 - pJ k n))))
  | _,_=>none)=some x):Tk P o a w (Nx P C K x):=by
 rcases fh h bc with hs | ⟨xs,e⟩
 rotate_left
 ·rw[e] at hk;split at hk <;> simp_all
 split at hk
 ·rename_i b ho hv;rw[hv] at hs;have e:=Kk hs;exact f7 (v:=.bool (!b)) (by simp[execOp,ho,e,Op.unary]) (cj h hk ⟨[_],rfl,rfl⟩ (fun _ _ _ _ e=>by cases e))
 ·rename_i k n ho hv;rw[hv] at hs;have e:=yP hs;exact f7 (v:=.int k (k.wrap (0 - pJ k n))) (by simp[execOp,ho,e,Op.unary,Op.intArith]) (cj h hk ⟨[_],rfl,by simp only[Ro,rz]⟩ (fun _ _ _ _ e=>by cases e))
 ·cases hk
end
end OT
namespace OT
open Go
section
variable {P:Program} {w:World} {A:Cells}
theorem UY:∀ (t:Ty),(∀ (i:TypeId) (d:Nat) (v1 v2:t.den) (oE c9:List Value),bd P t (.inl i)=true->qH P t (.inl i)=true->dep t<=d->Ro P w A t v1 oE->Ro P w A t v2 c9->(Op.equalIn d i (cg t oE) (cg t c9)).run P w=.ok (t.eq v1 v2) w) /\
  (∀ (fs:List Field) (off d:Nat) (v1 v2:t.den) (xs ys:Array Value),bd P t (.inr (fs,off))=true->qH P t (.inr fs)=true->dep t<=d+1->Ro P w A t v1 (xs.toList.drop off)->Ro P w A t v2 (ys.toList.drop off)->(Op.eqFields d xs ys fs).run P w=.ok (t.eq v1 v2) w):=by
 intro t
 induction t with
 | int k=>
  refine ⟨fun i d v1 v2 oE c9 hl he hd h1 h2=>?_,fun fs off d v1 v2 xs ys hl=>by simp[bd] at hl⟩
  simp only[Ro] at h1 h2;subst h1;subst h2
  cases d with
  | zero=>simp[dep] at hd
  | succ d=>
   rw[df _ _ rfl,df _ _ rfl,run_equalIn_int w d i k k _ _ (pB hl)];congr 1
   cases k with
   | u8=>exact fB.2 (by simp only[pJ,Ty.eq,jN];constructor;(intro h;exact jP.1 (by omega));(intro h;rw[h]))
   | _=>exact fB.2 (by simp[pJ,Ty.eq])
 | bool=>
  refine ⟨fun i d v1 v2 oE c9 hl he hd h1 h2=>?_,fun fs off d v1 v2 xs ys hl=>by simp[bd] at hl⟩
  simp only[Ro] at h1 h2;subst h1;subst h2
  have hu:P.underlying i=some .bool:=by
   simp only[bd,aF] at hl;have h2:=hl.2;split at h2
   ·assumption
   ·cases h2
  cases d with
  | zero=>simp[dep] at hd
  | succ d=>rw[df _ _ rfl,df _ _ rfl,run_equalIn_bool' w d i _ _ hu];rfl
 | str=>
  refine ⟨fun i d v1 v2 oE c9 hl he hd h1 h2=>?_,fun fs off d v1 v2 xs ys hl=>by simp[bd] at hl⟩
  simp only[Ro] at h1 h2;subst h1;subst h2
  cases d with
  | zero=>simp[dep] at hd
  | succ d=>
   rw[df _ _ rfl,df _ _ rfl,run_equalIn_string w d i _ _ (m7 hl),ByteArray.toList_mk,ByteArray.toList_mk];congr 1;exact fB.2 (by simp[Ty.eq])
 | unit=>
  refine ⟨fun i d v1 v2 oE c9 hl he hd h1 h2=>?_,fun fs off d v1 v2 xs ys hl he hd h1 h2=>?_⟩
  ·simp only[Ro] at h1 h2;subst h1;subst h2;simp only[bd,aF] at hl;have h3:=hl.2;split at h3
   ·rename_i fs hu;have hf:P.fieldsOf i=fs:=by simp[Program.fieldsOf,hu]
    cases d with
    | zero=>simp[dep] at hd
    | succ d=>
     have qW:fs.toList=[]:=bN.1 h3;simp only[qH,cM] at he;show (Op.equalIn (d+1) i (.agg #[]) (.agg #[])).run P w=_;rw[run_equalIn_struct w d i _ _ (by rw[hf];exact hu) he,hf,qW];rfl
   ·cases h3
  ·simp only[bd,bN] at hl;subst hl;rfl
 | pair a b kN kE=>
  have second:∀ (fs:List Field) (off d:Nat) (v1 v2:(Ty.pair a b).den) (xs ys:Array Value),bd P (.pair a b) (.inr (fs,off))=true->qH P (.pair a b) (.inr fs)=true->dep (.pair a b)<=d+1->Ro P w A (.pair a b) v1 (xs.toList.drop off)->Ro P w A (.pair a b) v2 (ys.toList.drop off)->(Op.eqFields d xs ys fs).run P w=.ok ((Ty.pair a b).eq v1 v2) w:=by
   intro fs off d v1 v2 xs ys hl he hd h1 h2
   cases fs with
   | nil=>simp[bd] at hl
   | cons f r=>
    simp only[bd,aF,eI,dP] at hl;simp only[qH,aF,bne_iff_ne,ne_eq] at he;simp only[dep] at hd;obtain ⟨QY,QZ⟩:=h1;obtain ⟨Z1,Z2⟩:=h2;have p1:=uf (P:=P) (w:=w) hl.1.2 (cs:=xs) (off:=off) (Ro.length _ QY);have p2:=uf (P:=P) (w:=w) hl.1.2 (cs:=ys) (off:=off) (Ro.length _ Z1);have e1:=kN.1 f.type d v1.1 v2.1 _ _ hl.1.2 he.1.2 (by omega) QY Z1;rw[dA] at QZ Z2;have e2:=kE.2 r (off+a.sz) d v1.2 v2.2 xs ys hl.2 he.2 (by omega) QZ Z2;simp only[Op.eqFields,ne_eq,he.1.1,eV,aI,Sem.run_bind,hl.1.1.1,p1,p2,e1,Result.andThen_ok]
    cases hq:a.eq v1.1 v2.1 with
    | true=>simp[e2,Ty.eq,hq]
    | false=>simp[Ty.eq,hq]
  refine ⟨fun i d v1 v2 oE c9 hl he hd h1 h2=>?_,second⟩
  simp only[bd,aF] at hl;simp only[qH,aF,cM] at he;have h3:=hl.2;have h4:=he.2;split at h3
  ·rename_i fs hu;rw[hu] at h4;simp only at h4;have hf:P.fieldsOf i=fs:=by simp[Program.fieldsOf,hu]
   split at h3
   ·rename_i f r De;rw[De] at h4;simp only at h4
    cases d with
    | zero =>have:1<=dep (.pair a b):=by simp only[dep];omega
             omega
    | succ d=>
     show (Op.equalIn (d+1) i (.agg oE.toArray) (.agg c9.toArray)).run P w=_;rw[run_equalIn_struct w d i _ _ (by rw[hf];exact hu) he.1,hf,De];refine second (f::r) 0 d v1 v2 _ _ ?_ ?_ hd (by simpa using h1) (by simpa using h2)
     ·simp only[bd,bE];exact h3
     ·simp only[qH];exact h4
   ·cases h3
  ·cases h3
 | arr n e ih=>
  refine ⟨fun i d v1 v2 oE c9 hl he hd h1 h2=>?_,fun fs off d v1 v2 xs ys hl=>by simp[bd] at hl⟩
  simp only[bd,aF] at hl;have h3:=hl.2;simp only[qH] at he;split at h3
  ·rename_i n' el hu;simp only[aF,eI,dP] at h3;obtain ⟨⟨rfl,_⟩,hle⟩:=h3;rw[hu] at he;simp only at he;obtain ⟨inf,i1,i2,_⟩:=lz (lR hle);have kt:P.cellsOf el=e.sz:=by simp[Program.cellsOf,i1,i2]
   obtain ⟨_,l1,_,r1⟩:=h1;obtain ⟨_,l2,_,r2⟩:=h2
   cases d with
   | zero=>simp[dep] at hd
   | succ d=>
    simp only[dep] at hd
    have key:∀ (m j:Nat),j+m=n->(Op.eqItems d el e.sz oE.toArray c9.toArray (List.range' j m)).run P w=.ok (((List.drop j v1).zip (List.drop j v2)).all fun p=>e.eq p.1 p.2) w:=by
     intro m
     induction m with
     | zero=>
      intro j hj;rw[dN (by omega)];rfl
     | succ m Q5=>
      intro j hj;have g1:=aA (l:=v1) (i:=j) (by omega);have g2:=aA (l:=v2) (i:=j) (by omega);have a1:=r1 j _ g1;have a2:=r2 j _ g2;have p1:=uf (P:=P) (w:=w) hle (cs:=oE.toArray) (off:=j*e.sz) (Ro.length _ a1);have p2:=uf (P:=P) (w:=w) hle (cs:=c9.toArray) (off:=j*e.sz) (Ro.length _ a2);have e1:=ih.1 el d _ _ _ _ hle he (by omega) a1 a2;rw[List.range'_succ,cZ (l:=v1) (i:=j) (by omega),cZ (l:=v2) (i:=j) (by omega)];simp only[Op.eqItems,Sem.run_bind,p1,p2,e1,Result.andThen_ok,hJ,eF]
      cases hq:e.eq v1[j] v2[j] with
      | true=>simpa using Q5 (j+1) (by omega)
      | false=>simp
    show (Op.equalIn (d+1) i (.agg oE.toArray) (.agg c9.toArray)).run P w=_;rw[run_equalIn_array w d _ _ hu i1,kt,List.range_eq_range'];exact key n 0 (by omega)
  ·cases h3
 | _=>exact ⟨fun i d v1 v2 oE c9 hl he=>by simp[qH] at he,fun fs off d v1 v2 xs ys hl he=>by simp[qH] at he⟩
end
section
variable {P:Program} {C:Ctx} {A:Cells} {X:FP} {σ:St} {a:Act} {w:World} {F:Nat->FP} {R:Type} {x:R} {Q:Exit->Act->World->Prop} {o:Oper} {E:Env}
def UZ (P:Program) (E:Env):Prop:=∀ i T,E.TI i=some T->T.of=true->isAgg T=true->qH P T (.inl i)=true/\P.eqGuardType P.depth i=false/\dep T<=10000
theorem Bw {op:BinOp} {t:TypeId} {y z:Operand} {u v:Value} (h:¬ (∃ p q,u=.agg p/\v=.agg q)) (h2:u≠.nilIface):(eqGuard op t y z u v).run P w=.ok () w:=by
 cases op <;> first | rfl | skip
 all_goals
  unfold eqGuard
  cases u <;> cases v <;> first | rfl | (exact absurd rfl h2) | (exact absurd ⟨_,_,rfl,rfl⟩ h)
theorem Ro.of {w':World} {A':Cells}:∀ (t:Ty) {v:t.den} {cs:List Value},t.of=true->Ro P w A t v cs->Ro P w' A' t v cs:=by
 intro t
 induction t with
 | pair a b kN kE=>
  intro v cs hq h;simp only[Ty.of,aF] at hq;exact ⟨kN hq.1 h.1,kE hq.2 h.2⟩
 | arr n e ih=>intro v cs hq h;exact ⟨h.1,h.2.1,h.2.2.1,fun i x hx=>ih hq (h.2.2.2 i x hx)⟩
 | U e ih=>intro v cs hq;simp[Ty.of] at hq
 | ptr e ih=>intro v cs hq;simp[Ty.of] at hq
 | fn=>intro v cs hq;simp[Ty.of] at hq
 | map k v=>intro v cs hq;simp[Ty.of] at hq
 | _=>intro v cs hq h;exact h
theorem ON (h:du P C A σ a w F) (kS:∀ i T,E.TI i=some T->bd P T (.inl i)=true) (heq:UZ P E) {op:BinOp} {t t2:Nat} {y z:Operand} (ho:o.op=.binOp op t y z t2) (bc:dj P y=true/\dj P z=true) {K:St->Option R}
  (hk:JU E t op (dr σ y) (dr σ z) (fun t v=>K (σ.bY o.dst (.val t v)))=some x):Tk P o a w (Nx P C K x):=by
 rcases fh h bc.1 with hy | ⟨xs,e⟩
 rotate_left
 ·rw[e] at hk;simp[JU] at hk
 rcases fh h bc.2 with hz | ⟨xs,e⟩
 rotate_left
 ·rw[e] at hk;unfold JU at hk;split at hk <;> simp_all
 have fin:∀ (ty:Ty) (v:ty.den) (tv:Value),K (σ.bY o.dst (.val ty v))=some x->Ro P w A ty v [tv]->isAgg ty=false->(∀ w',sP o w w'->(eqGuard op t y z (a.eval y) (a.eval z)).run P w'=.ok () w')->(∀ w',sP o w w'->(binOp op t (a.eval y) (a.eval z)).run P w'=.ok tv w')->Tk P o a w (Nx P C K x):=fun ty v tv hk hr ha hg hb=>by
  refine f7 (v:=tv) (fun w' qJ=>?_) (cj h hk ⟨[tv],(df ty tv ha).symm,hr⟩ (fun _ _ _ _ e=>by cases e));unfold execOp;simp only[ho,Sem.run_bind,hg w' qJ,hb w' qJ,Result.andThen_ok,Sem.run_pure]
 unfold JU at hk;split at hk
 ·rename_i k n1 k' n2 Gq Gp;rw[Gq] at hy;rw[Gp] at hz;have e1:=yP hy;have e2:=yP hz;have hg:∀ w',sP o w w'->(eqGuard op t y z (a.eval y) (a.eval z)).run P w'=.ok () w':=fun w' _=>by rw[e1,e2];exact Bw (by rintro ⟨p,q,h,_⟩;cases h) (by intro h;cases h)
  have C_:(k=k'\/op=.shl\/op=.shr)/\JT op k (pJ k n1) (pJ k' n2) (fun t v=>K (σ.bY o.dst (.val t v)))=some x:=by
   split at hk
   ·exact ⟨.inr (.inl rfl),hk⟩
   ·exact ⟨.inr (.inr rfl),hk⟩
   ·split at hk
    ·rename_i e;exact ⟨.inl e,hk⟩
    ·cases hk
  obtain ⟨ty,v,tv,q1,q2,q3,q4⟩:=V0 (P:=P) (A:=A) (w:=w) C_.2 C_.1 (fun e=>by subst e;exact QV n1) (fun e=>by subst e;exact QV n2) t;exact fin ty v tv q1 q2 q3 hg (fun w' _=>by rw[e1,e2];exact q4 w')
 ·rename_i s1 s2 Gq Gp;rw[Gq] at hy;rw[Gp] at hz;have e1:=yO hy;have e2:=yO hz;have hg:∀ w',sP o w w'->(eqGuard op t y z (a.eval y) (a.eval z)).run P w'=.ok () w':=fun w' _=>by rw[e1,e2];exact Bw (by rintro ⟨p,q,h,_⟩;cases h) (by intro h;cases h)
  obtain ⟨ty,v,tv,q1,q2,q3,q4⟩:=V1 (P:=P) (A:=A) (w:=w) hk t;exact fin ty v tv q1 q2 q3 hg (fun w' _=>by rw[e1,e2];exact q4 w')
 ·rename_i ty v1 ty' v2 W6 Z3 Gq Gp;rw[Gq] at hy;rw[Gp] at hz
  have main:∀ (e:ty=ty') (hq:ty.of=true) (hT:E.TI t=some ty) (w':World),sP o w w'->(eqGuard op t y z (a.eval y) (a.eval z)).run P w'=.ok () w'/\(∀ b,b=ty.eq v1 (e ▸ v2)->(op=.eql->(binOp op t (a.eval y) (a.eval z)).run P w'=.ok (.bool b) w')/\(op=.neq->(binOp op t (a.eval y) (a.eval z)).run P w'=.ok (.bool (!b)) w')):=fun e hq hT w' qJ=>by
   subst e;obtain ⟨oE,e1,r1⟩:=hy;obtain ⟨c9,e2,r2⟩:=hz;have r1:=Ro.of (w':=w') (A':=A) _ hq r1;have r2:=Ro.of (w':=w') (A':=A) _ hq r2;have gf:=kS _ _ hT
   cases U0:isAgg ty with
   | true=>
    obtain ⟨q1,q2,q3⟩:=heq _ _ hT hq U0;have S9:=(UY (P:=P) (w:=w') (A:=A) ty).1 t 10000 v1 v2 oE c9 gf q1 q3 r1 r2;have m1:cg ty oE=.agg oE.toArray:=by simp[cg,U0]
    have m2:cg ty c9=.agg c9.toArray:=by simp[cg,U0]
    rw[m1,m2] at S9;rw[e1,e2,m1,m2];refine ⟨run_eqGuard_agg w' op t y z _ _ q2,fun b hb=>⟨fun h=>?_,fun h=>?_⟩⟩
    ·subst h;subst hb;rw[run_eql_struct,S9];rfl
    ·subst h;subst hb;rw[run_neq_struct,S9];rfl
   | false=>
    cases ty with
    | int k=>exact (W6 k v1 k v2 rfl HEq.rfl rfl HEq.rfl).elim
    | str=>exact (Z3 v1 v2 rfl HEq.rfl rfl HEq.rfl).elim
    | bool=>
     simp only[Ro] at r1 r2;subst r1;subst r2;rw[df _ _ rfl] at e1 e2
     have hu:P.underlying t=some .bool:=by
      simp only[bd,aF] at gf;have h2:=gf.2;split at h2
      ·assumption
      ·cases h2
     rw[e1,e2];refine ⟨Bw (by rintro ⟨p,q,h,_⟩;cases h) (by intro h;cases h),fun b hb=>⟨fun h=>?_,fun h=>?_⟩⟩
     ·subst h;subst hb;have:=run_equalIn_bool' (P:=P) w' 9999 t v1 v2 hu;simp only[Go.binOp,Op.equal,Op.maxDepth,Sem.run_bind,this,Result.andThen_ok,Sem.run_pure];rfl
     ·subst h;subst hb;have:=run_equalIn_bool' (P:=P) w' 9999 t v1 v2 hu;simp only[Go.binOp,Op.equal,Op.maxDepth,Sem.run_bind,this,Result.andThen_ok,Sem.run_pure];rfl
    | _=>first | (simp[Ty.of] at hq;done) | (simp[isAgg] at U0;done)
  split at hk
  ·split at hk
   ·rename_i hq;obtain ⟨T,hT,hk⟩:=fx hk;split at hk
    ·rename_i e;subst e;obtain ⟨e,hk⟩:=cv hk;have m:=main e.symm hq hT;subst e;exact fin .bool _ _ hk rfl rfl (fun w' qJ=>(m w' qJ).1) (fun w' qJ=>((m w' qJ).2 _ rfl).1 rfl)
    ·cases hk
   ·cases hk
  ·split at hk
   ·rename_i hq;obtain ⟨T,hT,hk⟩:=fx hk;split at hk
    ·rename_i e;subst e;obtain ⟨e,hk⟩:=cv hk;have m:=main e.symm hq hT;subst e;exact fin .bool _ _ hk rfl rfl (fun w' qJ=>(m w' qJ).1) (fun w' qJ=>((m w' qJ).2 _ rfl).2 rfl)
    ·cases hk
   ·cases hk
  ·cases hk
 ·rename_i e v Gq Gp;rw[Gq] at hy;rw[Gp] at hz;obtain ⟨T,hT,hk⟩:=fx hk;split at hk
  ·rename_i eT;subst eT
   obtain ⟨te,hu⟩:∃ te,P.underlying t=some (.slice te):=by
    have gf:=kS _ _ hT;simp only[bd,aF] at gf;have h2:=gf.2;split at h2
    ·rename_i el ox;exact ⟨el,ox⟩
    ·cases h2
   obtain ⟨cs,h1,a0,cap,h2,h3,h4,h5⟩:=hy;subst h2;rw[df _ _ rfl] at h1;have Kl:a.eval z=.slice none 0 0:=hz;have hg:∀ w',sP o w w'->(eqGuard op t y z (a.eval y) (a.eval z)).run P w'=.ok () w':=fun w' _=>by rw[h1,Kl];exact Bw (by rintro ⟨p,q,h,_⟩;cases h) (by intro h;cases h)
   have key:∀ (b:Bool),Bi v (K (σ.bY o.dst (.val .bool b))) (K (σ.bY o.dst (.val .bool !b)))=some x->K (σ.bY o.dst (.val .bool (if a0.isNone then b else !b)))=some x:=fun b hb=>by
    cases v with
    | nil=>
     simp only[Bi,both] at hb;split at hb
     ·rename_i e;split
      ·exact hb
      ·rw[<-e];exact hb
     ·cases hb
    | cons y v=>
     have:a0.isNone=false:=by
      cases a0 with
      | none=>have:=h4 rfl;simp at this
      | some _=>rfl
     rw[this];exact hb
   unfold WH at hk;split at hk
   ·refine fin .bool _ (.bool a0.isNone) (key true hk) ?_ rfl hg fun w' _=>?_
    ·cases a0 <;> rfl
    ·rw[h1,Kl];have:=run_equal_slice_nil (P:=P) w' t te a0 (List.length v) cap hu;simp only[Go.binOp,Sem.run_bind,this,Result.andThen_ok,Sem.run_pure]
   ·refine fin .bool _ (.bool !a0.isNone) (key false hk) ?_ rfl hg fun w' _=>?_
    ·cases a0 <;> rfl
    ·rw[h1,Kl];exact run_neq_slice_nil (P:=P) w' t te a0 (List.length v) cap hu
   ·cases hk
  ·cases hk
 ·cases hk
end
end OT
namespace OT
open Go
section
variable {P:Program} {C:Ctx} {A:Cells} {X:FP} {σ:St} {a:Act} {w:World} {F:Nat->FP} {R:Type} {x:R} {Q:Exit->Act->World->Prop} {o:Oper} {E:Env}
theorem nG (w:World) (ob:Obj):Ext w (w.alloc ob) (fun _ _=>0):=by
 refine ⟨by simp,fun b i hb _ u hu=>?_,fun b n hn=>?_,fun b i hb=>World.frozen?_alloc_old w ob _ (by simp;omega),rfl,rfl,rfl,fun b hb _=>?_,aN _⟩
 ·rw[wX (w:=w) (by simp only[World.alloc,iW];rw[bA (by omega)])];exact hu
 ·obtain ⟨c,e,fr,h1,h2,h3⟩:=hn;refine ⟨c,e,fr,?_,h2,h3⟩
  have hb:=(bR.1 h1).1;simp only[World.alloc,iW];rw[bA (by omega)];exact h1
 ·simp only[World.alloc,iW];rw[bA (by omega)]
theorem ug (w:World):Ext w w.drew (fun _ _=>0):=⟨aN _,fun _ _ _ _ _ h=>h,fun _ _ h=>h,fun _ _ _=>rfl,rfl,rfl,rfl,fun _ _ _=>rfl,Nat.le_succ _⟩
theorem vO (w:World) (c:Array Value) (e:TypeId) (fr:Nat×Nat) (u:Bool) (n_:(u=true/\c.size<=fr.1)\/fr.2<=fr.1):gc (w.alloc (.cells c e fr)) w.heap.size (c.size,u):=
 ⟨c,e,fr,heap_alloc_new w _,rfl,fun i hi=>by simp only at hi;omega,fun hu=>by simp only at hu ⊢;subst hu;rcases n_ with ⟨h,_⟩ | h;cases h;omega⟩
theorem vP (w:World) (c:Array Value) (e:TypeId) (fr:Nat×Nat) {k:Nat} {L:List Value} (hL:∀ j u,L[j]?=some u->c[k+j]?=some u) (mQ:∀ u ∈ L,u.oneCell'=true):Has (w.alloc (.cells c e fr)) w.heap.size k L:=by
 intro j u hu;have:=hL j u hu;refine Ea ?_ (mQ u (cB hu));unfold World.cell?;simp only[heap_alloc_new,eP,aG,aL,this]
theorem Rel.alloc (h:Rel P C A X σ a w F) (c:Array Value) (e:TypeId) (fr:Nat×Nat):Rel P C A (fun b i=>X b i+b_ w.heap.size 0 c.size b i) σ a (w.alloc (.cells c e fr)) F:=by
 refine h.grow (nG w _) (fun _ _ h=>h) (fun _ _ h=>.inl h) (fun b i=>?_);by_cases hb:b=w.heap.size
 ·subst hb;right
  have hx:X w.heap.size i=0:=by
   rcases bF (X w.heap.size i) with h0 | h0
   ·exact h0
   ·have:=h.kO w.heap.size i (.inl (by omega));omega
  exact ⟨aN _,by simp,by rw[hx];simp only[b_];split <;> omega⟩
 ·left;simp[b_,hb]
theorem Rel.drew (h:Rel P C A X σ a w F):Rel P C A X σ a w.drew F:=h.grow (ug w) (fun _ _ h=>h) (fun _ _ h=>.inl h) (fun _ _=>.inl (aN _))
theorem an.alloc (h:Rel P C A X σ a w F) {t:Ty} {m:Md} {H:List Path} {v:t.den} {cs:List Value} {G:FP} (hr:an P w A t m H v cs G) (hG:∀ b i,1<=G b i->b < w.heap.size) {w':World} (hw:Ext w w' (fun _ _=>0)):an P w' A t m H v cs G:=
 an.mono (fun _ _ h=>h) (fun b i ha u hu=>hw.cell b i (h.kO b i (.inr ha)) rfl u hu) hw.tQ t hr (fun _ _=>aN _) (fun b i hp u hu=>hw.cell b i (hG b i hp) rfl u hu)
theorem NK (h:Rel P C A X σ a w F) {K:St->Option R} {d:Option Tmp} {t:Ty} {m:Md} {v:t.den} {cs:List Value} {Fv:FP} (e:TypeId) (hk:K (σ.bY d (.box t m [] v))=some x)
  (hr:an P w A t m [] v cs Fv) (hX:∀ b i,Fv b i<=X b i):∃ A' F',Rel P C A' (fun _ _=>0) (σ.bY d (.box t m [] v)) (a.put d (.pointer (some ⟨w.heap.size,0,none⟩))) (w.alloc (.cells cs.toArray e)) F':=by
 have hl:=an.length t hr;have h1:=h.alloc cs.toArray e (0,0);have fu:=vO w cs.toArray e (0,0) false (.inr (aN _));simp only[dM,hl] at fu h1;have t8:=an.alloc h hr (fun b i hp=>h.kO b i (.inl (by have:=hX b i;omega))) (nG w (.cells cs.toArray e))
 obtain ⟨F',hF⟩:=h1.bY d (s:=.box t m [] v) (v:=.pointer (some ⟨w.heap.size,0,none⟩)) (Fd:=fun b i=>b_ w.heap.size 0 t.sz b i+Fv b i) (X':=fun _ _=>0)
  ⟨w.heap.size,0,cs,Fv,rfl,hl,vP w cs.toArray e (0,0) (fun j u hu=>by simpa using hu) (an.one _ hr),fun j hj=>by rw[bE];exact fu.frozen hj,fun _ _=>aN _,t8⟩
  (fun b i=>by have:=hX b i;omega) (fun t' m' H' v' e'=>by injection e' with e1;subst e1;exact ⟨_,rfl,fu⟩)
 exact ⟨A,F',hF⟩
theorem uh:∀ (t:Ty),t.uR=true->∃ L,zc t=some L:=by
 intro t
 induction t with
 | pair a b kN kE=>
  intro h;simp only[Ty.uR,aF] at h;obtain ⟨x,hx⟩:=kN h.1;obtain ⟨y,hy⟩:=kE h.2;exact ⟨x++y,by simp[zc,hx,hy]⟩
 | arr n e ih=>
  intro h;obtain ⟨x,hx⟩:=ih h;exact ⟨(List.replicate n x).flatten,by simp only[zc,hx]⟩
 | ptr e ih=>intro h;cases h
 | fn=>intro h;cases h
 | map k v=>intro h;cases h
 | _=>intro h;exact ⟨_,rfl⟩
theorem Q6 (h:du P C A σ a w F) (kS:∀ i T,E.TI i=some T->bd P T (.inl i)=true) {t:Nat} (ho:o.op=.alloc t) {K:St->Option R}
  (hk:(pV E t fun T=>if T.uR then K (σ.bY o.dst (.box T (am T) [] T.zero)) else none)=some x):o.wp P a w (fun a' w'=>Nx P C K x a' w'/\Ext w w' (fun _ _=>0)) Q:=by
 obtain ⟨T,hT,hk⟩:=fx hk;split at hk
 ·rename_i EB;have gf:=kS _ _ hT;obtain ⟨L,hL⟩:=uh T EB;obtain ⟨z,wT,A5⟩:=xT (P:=P) (w:=w) gf hL;obtain ⟨r1,r2,r3⟩:=zU (P:=P) (w:=w) (A:=A) T hL gf;refine ou (v:=.pointer (some ⟨w.heap.size,0,none⟩)) (w':=w.alloc (.cells L.toArray t)) ?_ ?_
  ·have:z.cells=L.toArray:=by apply eX;simpa using A5
   unfold execOp;simp[ho,Instr.alloc,wT,newVar,newRow,this]
  ·obtain ⟨A',F',hF⟩:=NK h t hk r1 (fun _ _=>aN _);exact ⟨⟨_,hk,A',F',hF⟩,nG w _⟩
 ·cases hk
end
end OT
namespace OT
open Go
section
variable {P:Program} {C:Ctx} {A:Cells} {X:FP} {σ:St} {a:Act} {w:World} {F:Nat->FP} {R:Type} {x:R} {Q:Exit->Act->World->Prop} {o:Oper} {E:Env}
theorem Ef (h:Rel P C A X σ a w F) {K:St->Option R} {d:Option Tmp} {e:Ty} {m:Md} {v:List e.den} {c:Array Value} {cap:Nat} {el:TypeId} {fr:Nat×Nat} {Fi:Nat->FP} (n_:(wY e=true/\c.size<=fr.1)\/fr.2<=fr.1)
  (hk:K (σ.bY d (.own (.U e) (.U true m) [] v))=some x) (hc:c.size=cap*e.sz) (k_:cap<=maxLen) (hv:List.length v<=cap) (hX:∀ b i,ba (List.length v) Fi b i<=X b i)
  (ox:∀ (i:Nat) (y:e.den),v[i]?=some y->∃ L:List Value,L.length=e.sz/\(∀ j u,L[j]?=some u->c[i*e.sz+j]?=some u)/\an P w A e m [] y L (Fi i)) :
  Nx P C K x (a.put d (.slice (some ⟨w.heap.size,0,none⟩) (List.length v) cap)) (w.alloc (.cells c el fr)):=by
 have h1:=h.alloc c el fr;have fu:=vO w c el fr (wY e) n_;rw[hc] at fu h1;refine pA h1 hk (Fd:=fun b i=>b_ w.heap.size 0 (cap*e.sz) b i+ba (List.length v) Fi b i) ⟨_,(df (.U e) _ rfl).symm,?_⟩ (fun b i=>by have:=hX b i;omega) (fun _ _ _ _ e=>by cases e);simp only[an,hole,bT,aG,aL,Md.own,aI,Md.e];refine ⟨_,cap,rfl,hv,k_,(fun e=>by cases e),fun ad fm=>?_⟩
 injection fm with fm;subst fm;refine ⟨rfl,rfl,fu,Fi,fun _ _=>aN _,fun i y hy=>?_⟩
 obtain ⟨L,l1,l2,l3⟩:=ox i y hy;have hi:=(aM.1 hy).1;refine ⟨L,l1,vP w c el fr l2 (an.one _ l3),?_⟩
 simp only[eQ];exact an.alloc h l3 (fun b k hp=>h.kO b k (.inl (by have:=hX b k;have:=c7 Fi hi b k;omega))) (nG w _)
theorem Jj (h:du P C A σ a w F) (kS:∀ i T,E.TI i=some T->bd P T (.inl i)=true) {t:Nat} {y z:Operand} (ho:o.op=.makeSlice t y z) (bc:dj P y=true/\dj P z=true) {K:St->Option R}
  (hk:(pV E t fun t=>match t with
  | .U e=>vz (dr σ y) fun n=>vz (dr σ z) fun c=>
   if e.uR then (if 0<=n/\n<=c/\c<=(bz:Int) then K (σ.bY o.dst (.own (.U e) (am (.U e)) [] (List.replicate n.toNat e.zero))) else none) else none
  | _=>none)=some x):o.wp P a w (fun a' w'=>Nx P C K x a' w'/\Ext w w' (fun _ _=>0)) Q:=by
 obtain ⟨T,hT,hk⟩:=fx hk;have gf:=kS _ _ hT;split at hk
 ·rename_i e
  rcases fh h bc.1 with hy | ⟨xs,e'⟩
  rotate_left
  ·rw[e'] at hk;cases hk
  obtain ⟨k1,n,hn,hk⟩:=sE hy hk
  rcases fh h bc.2 with hz | ⟨xs,e'⟩
  rotate_left
  ·rw[e'] at hk;cases hk
  obtain ⟨k2,c,hc,hk⟩:=sE hz hk;split at hk
  ·rename_i EB;split at hk
   ·rename_i hb;obtain ⟨el,hu,kt,hle⟩:=tG gf;obtain ⟨inf,i1,i2,i3,i4⟩:=lz (lR hle);obtain ⟨L,hL⟩:=uh e EB;obtain ⟨zv,z1,z2⟩:=i4 L hL;obtain ⟨r1,r2,r3⟩:=zU (P:=P) (w:=w) (A:=A) e hL hle
    have Km:(inf.bytes:Int)*c<=281474976710656:=by
     have h1:(inf.bytes:Int)<=512:=by omega
     have h2:(inf.bytes:Int)*c<=512*c:=Int.mul_le_mul_of_nonneg_right h1 (by omega);simp only[bz] at hb;omega
    have f_:=run_make (P:=P) w t el inf zv hu i1 z1 k1 k2 n c hb.1 hb.2.1 Km (by simp only[bz] at hb;omega);have hzs:zv.cells.size=e.sz:=by rw[<-iV,z2,r3]
    have hlen:List.length (List.replicate n.toNat e.zero)=n.toNat:=by simp
    refine ou (v:=.slice (some ⟨w.heap.size,0,none⟩) n.toNat c.toNat) (w':=w.alloc (.cells (madeCells zv.cells (c.toNat*inf.size)) el)) ?_ ?_
    ·unfold execOp;simp only[ho,hn,hc,Sem.run_bind,f_,Result.andThen_ok,Sem.run_pure]
    ·refine ⟨?_,nG w _⟩
     have Z4:=Ef h (K:=K) (d:=o.dst) (v:=List.replicate n.toNat e.zero) (c:=madeCells zv.cells (c.toNat*inf.size)) (cap:=c.toNat) (el:=el) (fr:=(0,0)) (m:=am e) (Fi:=fun _ _ _=>0) (.inr (aN _)) hk
      (by rw[size_madeCells,i2]) (by simp only[bz] at hb;simp only[maxLen];omega) (by rw[hlen];omega) (fun b i=>by rw[nf];exact aN _)
      (fun i y hy=>by
       have hi:i < n.toNat:=by have:=(aM.1 hy).1;simpa using this
       have hy:y=e.zero:=by simp only[fY,hi,aI,aR] at hy;exact hy.symm
       subst hy;refine ⟨L,r3,fun j u hu=>?_,r1⟩
       have hj:j < e.sz:=r3 ▸ (aM.1 hu).1
       have aj:i*e.sz+j < c.toNat*e.sz:=by
        have:(i+1)*e.sz<=c.toNat*e.sz:=bD _ (by omega);rw[cI] at this;omega
       have S_:(i*e.sz+j) % e.sz=j:=by rw[fR,Nat.mul_add_mod];exact Nat.mod_eq_of_lt hj
       have hzu:zv.cells[j]?=some u:=by rw[<-dE,z2];exact hu
       obtain ⟨Kn,aag⟩:=bR.1 hzu;unfold madeCells;rw[i2,Array.getElem?_map,Array.getElem?_range];simp only[aj,aI,cD,hzs,S_]
       rw[gF _ j Kn,aag])
     rw[hlen] at Z4;exact Z4
   ·cases hk
  ·cases hk
 ·cases hk
theorem Ko (h:du P C A σ a w F) (kS:∀ i T,E.TI i=some T->bd P T (.inl i)=true) {s t:Nat} {y:Operand} (ho:o.op=.convert s t y) (bc:dj P y=true) (NL:∀ T,E.TI t=some T->T.flat=true) {K:St->Option R}
  (hk:Bj E σ s t (dr σ y) o.dst K=some x):Tk P o a w (Nx P C K x):=by
 unfold Bj at hk;obtain ⟨S,hS,hk⟩:=fx hk;obtain ⟨T,hT,hk⟩:=fx hk;have zd:=kS _ _ hS;have zl:=kS _ _ hT
 rcases fh h bc with hs | ⟨xs,e⟩
 rotate_left
 ·rw[e] at hk;split at hk <;> first | (cases hk;done) | (split at hk <;> first | (cases hk;done) | (simp[rj] at hk;done))
 split at hk
 ·rename_i k;split at hk
  ·rename_i k' n hv;rw[hv] at hs;have e:=yP hs;split at hk
   ·rename_i U1;obtain ⟨dS,hd,_⟩:=yr zd;refine f7 (v:=.int k (k.wrap (pJ k' n))) (fun w' _=>?_) (cj h hk ⟨[_],rfl,by simp only[Ro,rz]⟩ (fun _ _ _ _ e=>by cases e));unfold execOp;simp only[ho,e,Sem.run_bind]
    have:(convert s t (.int k' (pJ k' n))).run P w'=.ok (.int k (k.wrap (pJ k' n))) w':=by
     unfold convert;simp only[Sem.run_bind,run_underlying hd,run_underlying (pB zl),Result.andThen_ok];cases dS <;> rfl
    simp only[this,Result.andThen_ok,Sem.run_pure]
   ·cases hk
  ·cases hk
 ·split at hk
  ·split at hk
   ·rename_i b hv;rw[hv] at hs;have e:=yO hs;refine f7 (v:=.string ⟨List.toArray b⟩) (fun w' _=>?_) (cj h hk ⟨[_],rfl,rfl⟩ (fun _ _ _ _ e=>by cases e));unfold execOp
    have:(convert s t (.string ⟨List.toArray b⟩)).run P w'=.ok (.string ⟨List.toArray b⟩) w':=by
     unfold convert;simp only[Sem.run_bind,run_underlying (m7 zd),run_underlying (m7 zl),Result.andThen_ok];rfl
    simp only[ho,e,Sem.run_bind,this,Result.andThen_ok,Sem.run_pure]
   ·cases hk
  ·obtain ⟨v,cs,hk,h1,h2⟩:=ND h hs hk;obtain ⟨el,hu,_,hle⟩:=tG zd;obtain ⟨xa,cap,q1,q2,q3,q4⟩:=h2;subst q1;rw[df _ _ rfl] at h1;have v8:List UInt8:=v
   have f_:∀ w',sP o w w'->(convert s t (a.eval y)).run P w'=.ok (.string ⟨List.toArray v⟩) w':=fun w' qJ=>by
    have qJ:=qJ (by rw[ho];rfl);rw[h1]
    cases xa with
    | none=>
     have:v=[]:=bH (q3 rfl);subst this;exact run_convert_bytes_nil w' s el hu (pB hle) _ _ t (m7 zl)
    | some ad=>
     obtain ⟨g1,g2⟩:=q4 _ rfl;refine run_convert_bytes_back w' s t el _ cap v hu (pB hle) (m7 zl) fun j hj=>?_;obtain ⟨L,l1,l2,l3⟩:=g2 j _ (aA hj);simp only[Ro] at l3;subst l3;have:=(l2 0 _ rfl).1;obtain ⟨b,off,sp⟩:=ad;have oc:=g1 (by omega);simp only at oc;subst oc;rw[pz];simp only[Ty.sz,iR,cY] at this;exact qR (qJ.cell _ _ (wk this) rfl _ this) rfl
   refine f7 (v:=.string ⟨List.toArray v⟩) (fun w' qJ=>?_) (cj h hk ⟨[_],rfl,rfl⟩ (fun _ _ _ _ e=>by cases e));unfold execOp;simp only[ho,Sem.run_bind,f_ w' qJ,Result.andThen_ok,Sem.run_pure]
  ·cases hk
 ·have:=NL _ hT;simp[Ty.flat] at this
 ·cases hk
theorem Gr (h:du P C A σ a w F) (kS:∀ i T,E.TI i=some T->bd P T (.inl i)=true) {s t:Nat} {y:Operand} (ho:o.op=.convert s t y) (bc:dj P y=true) (NL:∀ T,E.TI t=some T->T.flat=true) (Dh:(match dr σ y with | .val (.int _) _=>true | .val .str _=>true | .val (.U (.int .u8)) _=>true | _=>false)=true) {K:St->Option R}
  (hk:Bj E σ s t (dr σ y) o.dst K=some x) :
  ∃ v,(∀ w',(∀ b i,A b i->∀ u,ce w b i=some u->ce w' b i=some u)->(execOp a.eval o).run P w'=.ok (.value v) w')/\Nx P C K x (a.put o.dst v) w:=by
 unfold Bj at hk;obtain ⟨S,hS,hk⟩:=fx hk;obtain ⟨T,hT,hk⟩:=fx hk;have zd:=kS _ _ hS;have zl:=kS _ _ hT
 rcases fh h bc with hs | ⟨xs,e⟩
 rotate_left
 ·rw[e] at hk;split at hk <;> first | (cases hk;done) | (split at hk <;> first | (cases hk;done) | (simp[rj] at hk;done))
 split at hk
 ·rename_i k;split at hk
  ·rename_i k' n hv;rw[hv] at hs;have e:=yP hs;split at hk
   ·rename_i U1;obtain ⟨dS,hd,_⟩:=yr zd;refine ⟨.int k (k.wrap (pJ k' n)),(fun w' _=>?_),cj h hk ⟨[_],rfl,by simp only[Ro,rz]⟩ (fun _ _ _ _ e=>by cases e)⟩
    unfold execOp;simp only[ho,e,Sem.run_bind]
    have:(convert s t (.int k' (pJ k' n))).run P w'=.ok (.int k (k.wrap (pJ k' n))) w':=by
     unfold convert;simp only[Sem.run_bind,run_underlying hd,run_underlying (pB zl),Result.andThen_ok];cases dS <;> rfl
    simp only[this,Result.andThen_ok,Sem.run_pure]
   ·cases hk
  ·cases hk
 ·split at hk
  ·split at hk
   ·rename_i b hv;rw[hv] at hs;have e:=yO hs;refine ⟨.string ⟨List.toArray b⟩,(fun w' _=>?_),cj h hk ⟨[_],rfl,rfl⟩ (fun _ _ _ _ e=>by cases e)⟩
    unfold execOp
    have:(convert s t (.string ⟨List.toArray b⟩)).run P w'=.ok (.string ⟨List.toArray b⟩) w':=by
     unfold convert;simp only[Sem.run_bind,run_underlying (m7 zd),run_underlying (m7 zl),Result.andThen_ok];rfl
    simp only[ho,e,Sem.run_bind,this,Result.andThen_ok,Sem.run_pure]
   ·cases hk
  ·have Kp:∃ v',dr σ y=.val (.U (.int .u8)) v':=by
    split at Dh
    ·rename_i e;rw[e] at hk;simp[rj,j_] at hk
    ·rename_i e;rw[e] at hk;simp[rj,j_] at hk
    ·rename_i v' e;exact ⟨v',e⟩
    ·cases Dh
   obtain ⟨v,hv⟩:=Kp;rw[hv] at hs hk;simp only[rj] at hk;obtain ⟨_,hk⟩:=cv hk;obtain ⟨cs,h1,h2⟩:=hs;obtain ⟨el,hu,_,hle⟩:=tG zd;obtain ⟨xa,cap,q1,q2,q3,q4⟩:=h2;subst q1;rw[df _ _ rfl] at h1;have v8:List UInt8:=v
   have f_:∀ w',(∀ b i,A b i->∀ u,ce w b i=some u->ce w' b i=some u)->(convert s t (a.eval y)).run P w'=.ok (.string ⟨List.toArray v⟩) w':=fun w' qJ=>by
    rw[h1]
    cases xa with
    | none=>
     have:v=[]:=bH (q3 rfl);subst this;exact run_convert_bytes_nil w' s el hu (pB hle) _ _ t (m7 zl)
    | some ad=>
     obtain ⟨g1,g2⟩:=q4 _ rfl;refine run_convert_bytes_back w' s t el _ cap v hu (pB hle) (m7 zl) fun j hj=>?_;obtain ⟨L,l1,l2,l3⟩:=g2 j _ (aA hj);simp only[Ro] at l3;subst l3;have to:=l2 0 _ rfl;obtain ⟨b,off,sp⟩:=ad;have oc:=g1 (by omega);simp only at oc;subst oc;rw[pz];simp only[Ty.sz,iR,cY] at to;exact qR (qJ _ _ to.2 _ to.1) rfl
   refine ⟨.string ⟨List.toArray v⟩,(fun w' qJ=>?_),cj h hk ⟨[_],rfl,rfl⟩ (fun _ _ _ _ e=>by cases e)⟩
   unfold execOp;simp only[ho,Sem.run_bind,f_ w' qJ,Result.andThen_ok,Sem.run_pure]
  ·cases hk
 ·have:=NL _ hT;simp[Ty.flat] at this
 ·cases hk
theorem Ms (h:du P C A σ a w F) (kS:∀ i T,E.TI i=some T->bd P T (.inl i)=true) {s t:Nat} {y:Operand} (ho:o.op=.convert s t y) (bc:dj P y=true) {K:St->Option R}
  (hk:Bj E σ s t (dr σ y) o.dst K=some x):o.wp P a w (fun a' w'=>Nx P C K x a' w'/\Ext w w' (fun _ _=>0)) Q:=by
 unfold Bj at hk;obtain ⟨S,hS,hk⟩:=fx hk;obtain ⟨T,hT,hk⟩:=fx hk;have zd:=kS _ _ hS;have zl:=kS _ _ hT
 rcases fh h bc with hs | ⟨xs,e⟩
 rotate_left
 ·rw[e] at hk;split at hk <;> first | (cases hk;done) | (split at hk <;> first | (cases hk;done) | (simp[rj] at hk;done))
 split at hk
 ·rename_i k;split at hk
  ·rename_i k' n hv;rw[hv] at hs;have e:=yP hs;split at hk
   ·rename_i U1;obtain ⟨dS,hd,_⟩:=yr zd;refine ou (v:=.int k (k.wrap (pJ k' n))) (w':=w) ?_ ⟨cj h hk ⟨[_],rfl,by simp only[Ro,rz]⟩ (fun _ _ _ _ e=>by cases e),Ext.refl _ _⟩;unfold execOp;simp only[ho,e,Sem.run_bind]
    have:(convert s t (.int k' (pJ k' n))).run P w=.ok (.int k (k.wrap (pJ k' n))) w:=by
     unfold convert;simp only[Sem.run_bind,run_underlying hd,run_underlying (pB zl),Result.andThen_ok];cases dS <;> rfl
    simp only[this,Result.andThen_ok,Sem.run_pure]
   ·cases hk
  ·cases hk
 ·split at hk
  ·split at hk
   ·rename_i b hv;rw[hv] at hs;have e:=yO hs;refine ou (v:=.string ⟨List.toArray b⟩) (w':=w) ?_ ⟨cj h hk ⟨[_],rfl,rfl⟩ (fun _ _ _ _ e=>by cases e),Ext.refl _ _⟩;unfold execOp
    have:(convert s t (.string ⟨List.toArray b⟩)).run P w=.ok (.string ⟨List.toArray b⟩) w:=by
     unfold convert;simp only[Sem.run_bind,run_underlying (m7 zd),run_underlying (m7 zl),Result.andThen_ok];rfl
    simp only[ho,e,Sem.run_bind,this,Result.andThen_ok,Sem.run_pure]
   ·cases hk
  ·obtain ⟨v,cs,hk,h1,h2⟩:=ND h hs hk;obtain ⟨el,hu,_,hle⟩:=tG zd;obtain ⟨xa,cap,q1,q2,q3,q4⟩:=h2;subst q1;rw[df _ _ rfl] at h1;have v8:List UInt8:=v
   have f_:(convert s t (a.eval y)).run P w=.ok (.string ⟨List.toArray v⟩) w:=by
    rw[h1]
    cases xa with
    | none=>
     have:v=[]:=bH (q3 rfl);subst this;exact run_convert_bytes_nil w s el hu (pB hle) _ _ t (m7 zl)
    | some ad=>
     obtain ⟨g1,g2⟩:=q4 _ rfl;refine run_convert_bytes_back w s t el _ cap v hu (pB hle) (m7 zl) fun j hj=>?_;obtain ⟨L,l1,l2,l3⟩:=g2 j _ (aA hj);simp only[Ro] at l3;subst l3;have:=(l2 0 _ rfl).1;obtain ⟨b,off,sp⟩:=ad;have oc:=g1 (by omega);simp only at oc;subst oc;rw[pz];simp only[Ty.sz,iR,cY] at this;exact qR (this) rfl
   refine ou (v:=.string ⟨List.toArray v⟩) (w':=w) ?_ ⟨cj h hk ⟨[_],rfl,rfl⟩ (fun _ _ _ _ e=>by cases e),Ext.refl _ _⟩;unfold execOp;simp only[ho,Sem.run_bind,f_,Result.andThen_ok,Sem.run_pure]
  ·cases hk
 ·split at hk
  ·rename_i b hv;rw[hv] at hs;have e:=yO hs;split at hk
   ·rename_i U1;rw[U1] at zd;split at hk;rotate_left
    ·cases hk
    rename_i k_;obtain ⟨el,hu,_,hle⟩:=tG zl;have f_:=run_bytes_of_string (P:=P) w s t el ⟨List.toArray b⟩ (m7 zd) hu (pB hle);have hlen:(⟨List.toArray b⟩:ByteArray).size=List.length b:=rfl;have Di:=grownCap_ge w (List.length b) 0 el;have J3:=grownCap_le_maxLen w (List.length b) 0 el (by simp only[bz] at k_;simp only[maxLen];omega);rw[hlen] at f_
    have kt:(bytesRow ⟨List.toArray b⟩ (grownCap w (List.length b) 0 el)).size=grownCap w (List.length b) 0 el:=by
     simp[bytesRow,ByteArray.size];omega
    refine ou ?_ ⟨Ef (h.drew) (K:=K) (d:=o.dst) (e:=.int .u8) (v:=b) (m:=.leaf) (Fi:=fun _ _ _=>0) (cap:=grownCap w (List.length b) 0 el) (el:=el) (fr:=((bytesRow ⟨List.toArray b⟩ (grownCap w (List.length b) 0 el)).size,(bytesRow ⟨List.toArray b⟩ (grownCap w (List.length b) 0 el)).size+1)) (c:=bytesRow ⟨List.toArray b⟩ (grownCap w (List.length b) 0 el)) (.inl ⟨rfl,aN _⟩) hk
     (by rw[kt];simp[Ty.sz]) J3 Di (fun b i=>by rw[nf];exact aN _) (fun i y hy=>?_),(ug w).trans (nG w.drew _) (fun _ _ _ _=>rfl)⟩
    ·unfold execOp;simp only[ho,e,Sem.run_bind,f_,Result.andThen_ok,Sem.run_pure];rfl
    ·have hi:=(aM.1 hy).1;have hb:=bytesRow_at ⟨List.toArray b⟩ (grownCap w (List.length b) 0 el) i (by simpa using hi);refine ⟨[.int .u8 (UInt8.toNat y)],rfl,fun j u hu=>?_,rfl⟩
     have hj:j=0:=by have:=(aM.1 hu).1;simpa using this
     subst hj;simp only[Ty.sz,iR,cY,hb];have:=(aM.1 hy).2;simp at hu ⊢;rw[this,hu]
   ·cases hk
  ·cases hk
 ·cases hk
end
end OT
namespace OT
open Go
section
variable {P:Program} {C:Ctx} {A:Cells} {X:FP} {σ:St} {a:Act} {w:World} {F:Nat->FP} {R:Type} {x:R} {Q:Exit->Act->World->Prop} {o:Oper} {E:Env}
theorem Kq (h:du P C A σ a w F) {i j:Nat} (ho:o.op=.extract (.tmp i) j) {K:St->Option R}
  (hk:(match σ.get i with
   | .rq xs=>match xs[j]? with
    | some x=>if x.t=.unit then none else K ((σ.put i (.rq (xs.set j ⟨.unit,.leaf,()⟩))).bY o.dst (laid x.t x.m x.v))
    | none=>none
   | _=>none)=some x):Tk P o a w (Nx P C K x):=by
 split at hk
 ·rename_i xs hg;split at hk
  ·rename_i y hy;split at hk
   ·cases hk
   ·rename_i hnu
    have hi:i < σ.n:=by
     rcases bZ i σ.n with hi | hi
     ·exact hi
     ·rw[lY (dK.2 hi)] at hg;cases hg
    have hs:=h.im i hi;rw[hg] at hs;obtain ⟨vs,Fi,h1,h2,h3⟩:=hs;obtain ⟨v,h4,h5⟩:=h3 j y hy
    rcases h5 with h5 | ⟨cs,h6,h7⟩
    ·exact absurd h5 hnu
    have hj:=(aM.1 hy).1
    have ue:=h.put hi (s:=.rq (xs.set j ⟨.unit,.leaf,()⟩)) (v:=tmp a i) (Fd:=ba xs.length (fd Fi j fun _ _=>0)) (X':=Fi j)
     ⟨vs,fd Fi j fun _ _=>0,h1,fun b k=>by rw[fM];exact aN _,fun k y' AY=>by
      rw[fH] at AY;split at AY
      ·rename_i e;subst e;injection AY with AY;subst AY;exact ⟨v,h4,.inl rfl⟩
      ·rename_i fw;obtain ⟨v',g1,g2⟩:=h3 k y' AY;refine ⟨v',g1,?_⟩
       have:fd Fi j (fun _ _=>0) k=Fi k:=by simp only[fd];rw[bA (fun e=>fw e.symm)]
       rw[this];exact g2⟩
     (fun b k=>by have:=sL Fi hj (fun _ _=>0) b k;have:=h2 b k;omega) (fun t m H v e=>by cases e)
    rw[qU] at ue;refine f7 (v:=v) ?_ ?_
    ·unfold execOp;have e:a.eval (.tmp i)=.tuple vs:=h1;simp[ho,e,Instr.extract,h4]
    ·rw[h6];exact zh ue hk h7 (fun b i=>aN _)
  ·cases hk
 ·cases hk
theorem Rel.aah (h:Rel P C A X σ a w F) {d n:Nat} (hd:∀ R,c_ w (tmp a d) (σ.get d)=some R->cg R.t R.cs=C.args.getD n undef):Rel P C A X { σ with aT:=(d,n,true)::σ.aT } a w F:=by
 have nF:wZ σ a w { σ with aT:=(d,n,true)::σ.aT } a w:=fun r p snap hb=>⟨hb,fun bc=>⟨bc,fun hl pl ip=>⟨pl.H,pl.cs,ip,fun _=>rfl⟩⟩⟩
 refine ⟨h.size,h.defers,fun i hi=>cu.mY nF (fun _ _ h=>h) (fun _ _ _ _ h=>h) (fun _ _ h=>h) (fun _ _ _=>⟨fun _ h=>h,rfl⟩) (h.im i hi),fun d r p snap hm=>qT.mY nF (h.gh d r p snap hm),h.o5,h.pW,h.kO,h.mo,h.ext,h.own,h.a0,h.a1,fun j k hm=>?_,fun r t m H v hg hl=>h.whole r t m H v hg fun k hm=>hl k (aZ _ hm),fun j k hm R hR=>?_⟩
 ·rcases aY.1 hm with e | hm
  ·injection e with e1 e2;injection e2 with e2 e3;cases e3
  ·exact h.oA j k hm
 ·rcases aY.1 hm with e | hm
  ·injection e with e1 e2;injection e2 with e2 e3;subst e1;subst e2;exact hd R hR
  ·exact h.nw j k hm R hR
theorem OP {l:List (Nat×Nat×Bool)} {i n:Nat} (h:FT l i=some n):(i,n,true) ∈ l:=by
 induction l with
 | nil=>cases h
 | cons y l ih=>
  obtain ⟨k,m,b⟩:=y;simp only[FT] at h;split at h
  ·rename_i hc;simp only[aF,eI] at hc;injection h with h;rw[<-hc.1,<- h,hc.2];exact bG
  ·exact aZ _ (ih h)
theorem V2 (h:du P C A σ a w F) {t:Nat} {y:Operand} (ho:o.op=.box t y) (bc:dj P y=true) {mv:Bool} {K:St->Option R}
  (hk:(pV E t fun t=>nD σ (dr σ y) mv t fun m v σ'=>K (JW σ y o.dst (σ'.bY o.dst (.box t m [] v))))=some x):o.wp P a w (fun a' w'=>Nx P C K x a' w'/\Ext w w' (fun _ _=>0)) Q:=by
 obtain ⟨T,hT,hk⟩:=fx hk
 rcases fh h bc with hs | ⟨xs,e⟩
 rotate_left
 ·rw[e] at hk;simp[nD] at hk
 have Gs:=hk;obtain ⟨A',σ',F',m,v,cs,Fv,k1,k2,k3,k4,kr,k5,k6⟩:=ud h hs hk;have hl:=an.length _ k6;have mQ:=an.one _ k6;have US:(cg T cs).cells=cs.toArray:=by apply eX;simpa using lQ hl mQ
 obtain ⟨A2,F2,hF⟩:=NK k3 (K:=fun s=>some s) (x:=σ'.bY o.dst (.box T m [] v)) (d:=o.dst) t rfl k6 (fun b i=>by omega);refine ou (v:=.pointer (some ⟨w.heap.size,0,none⟩)) (w':=w.alloc (.cells cs.toArray t)) ?_ ?_
 ·unfold execOp;simp[ho,Instr.box,newVar,newRow,k5,US]
 ·refine ⟨⟨_,k1,A2,F2,?_⟩,nG w _⟩
  clear hk;unfold JW;split
  ·rename_i i d hd;split
   ·rename_i t0 m0 H0 v0 hg;split
    ·rename_i n hn;rw[hd] at hF ⊢;refine Rel.aah hF fun R hR=>?_;have lc:=h.nw i n (OP hn) ⟨t0,H0,(tmp a i).cells.toList,none⟩ (by rw[hg];rfl);have kS:tmp a i=cg T cs:=k5
     have ht0:t0=T:=by
      simp only[dr,hg] at Gs;unfold nD at Gs;simp only at Gs;split at Gs
      ·simp only[pK,v_,hg,og] at Gs;split at Gs
       ·exact (cv Gs).1
       ·cases Gs
      ·cases Gs
     subst ht0;simp only[kS,lQ hl mQ] at lc;simp only[St.bY,w5] at hR;split at hR
     ·rename_i hc
      have htd:tmp (a.put (some d) (.pointer (some ⟨w.heap.size,0,none⟩))) d=.pointer (some ⟨w.heap.size,0,none⟩):=by
       rw[ot,aU ⟨rfl,by rw[h.size,<- k4];exact hc.2⟩]
      rw[htd] at hR;simp only[c_,aR] at hR;subst hR;have hh:=vP w cs.toArray t (0,0) (k:=0) (L:=cs) (fun j u hu=>by simpa using hu) mQ;show cg _ (rd _ _ _ _)=_;rw[dt hh hl];exact lc
     ·rename_i hc
      have Di:σ'.n<=d:=by
       rcases bZ d σ'.n with h1 | h1
       ·exact absurd (by simpa using h1) hc
       ·exact h1
      rw[lY (dK.2 Di)] at hR;cases hR
    ·exact hF
   ·exact hF
  ·exact hF
end
end OT
namespace OT
open Go
section
variable {P:Program} {C:Ctx} {A:Cells} {X:FP} {σ:St} {a:Act} {w:World} {F:Nat->FP} {R:Type} {x:R} {Q:Exit->Act->World->Prop} {o:Oper} {E:Env}
theorem Rel.giveUp (h:Rel P C A X σ a w F) {A1:Cells} {X1:FP} (hA:∀ b i,A b i->A1 b i) (Db:∀ b i,A1 b i->A b i\/(1<=X b i/\X1 b i=0)) (hX:∀ b i,X1 b i<=X b i):Rel P C A1 X1 σ a w F:=by
 have nF:wZ σ a w σ a w:=fun r p snap hb=>⟨hb,fun bc=>⟨bc,fun hl pl ip=>⟨pl.H,pl.cs,ip,fun _=>rfl⟩⟩⟩
 refine ⟨h.size,h.defers,fun i hi=>cu.mY nF hA (fun _ _ _ _ h=>h) (fun _ _ h=>h) (fun _ _ _=>⟨fun _ h=>h,rfl⟩) (h.im i hi),h.gh,fun b i=>by have:=h.o5 b i;have:=hX b i;omega,
  fun b i hp ha=>?_,fun b i hp=>?_,h.mo,h.ext,fun b i hp=>h.own b i (by have:=hX b i;omega),fun b i ha=>hA b i (h.a0 b i ha),fun b i ha=>?_,h.oA,h.whole,h.nw⟩
 ·rcases Db b i ha with ha | ha
  ·exact h.pW b i (by have:=hX b i;omega) ha
  ·have:=h.o5 b i;omega
 ·rcases hp with hp | ha
  ·exact h.kO b i (.inl (by have:=hX b i;omega))
  ·rcases Db b i ha with ha | ha
   ·exact h.kO b i (.inr ha)
   ·exact h.kO b i (.inl (by omega))
 ·rcases Db b i ha with ha | ha
  ·exact h.a1 b i ha
  ·exact .inr (h.own b i (by omega))
theorem Q7 {off:Nat} {l cs:List Value} (h:off+l.length<=cs.length) :
  ((l.toArray.zipIdx).foldl (fun cs (x:Value×Nat)=>cs.setIfInBounds (off+x.2) x.1) cs.toArray)=(cs.take off++l++cs.drop (off+l.length)).toArray:=by
 obtain ⟨h1,h2⟩:=Great.foldl_set off l 0 cs.toArray;have e:(l.toArray.zipIdx).foldl (fun cs (x:Value×Nat)=>cs.setIfInBounds (off+x.2) x.1) cs.toArray=(l.zipIdx 0).foldl (fun cs (x:Value×Nat)=>cs.setIfInBounds (off+x.2) x.1) cs.toArray:=by simp
 rw[e];apply Array.ext_getElem?;intro k;rw[h2 k];simp only[cY,dM,gN];by_cases hk:k < off
 ·rw[bA (by omega),bL,bW (by simp;omega),eW hk]
 ·by_cases mB:k < off+l.length
  ·rw[aU (by omega),bL,bV (by simp;omega)];have:(cs.take off).length=off:=by simp;omega
   rw[this,bW (by omega)]
  ·rw[bA (by omega),bV (by simp;omega)];have:(cs.take off++l).length=off+l.length:=by simp;omega
   rw[this,bM];congr 1;omega
theorem Dj {pl:Nat->Option (Nat×Nat)} {j off sz:Nat} (hp:pl j=some (off,sz)) {t:Ty} {l cs:List Value} (hl:l.length=sz) (h1:(cg t l).cells.toList=l) (h:off+sz<=cs.length) (rest:List (Nat×Value)) :
  Instr.fill pl cs.toArray ((j,cg t l)::rest)=Instr.fill pl (cs.take off++l++cs.drop (off+sz)).toArray rest:=by
 have hc:(cg t l).cells=l.toArray:=eX (by simpa using h1);rw[Instr.fill,hp];simp only[hc,dM,hl,ne_eq,eU,aD,dX];rw[bA (by simp;omega)];have:=Q7 (off:=off) (l:=l) (cs:=cs) (by omega);rw[hl] at this;rw[<-this]
theorem Q8:∀ (n:Nat) (t:Ty) {t':Ty} {m m':Md} {v:t.den} {y:t'.den} {cs ys:List Value} {G H:FP} {K:Md->t.den->Option R},an P w A t m [] v cs G->an P w A t' m' [] y ys H ->
  CR n t m v t' m' y K=some x->∃ m2 v2,K m2 v2=some x/\an P w A t m2 [] v2 (cs.take (jj n t)++ys++cs.drop (jj n t+t'.sz)) (fun b i=>G b i+H b i)/\jj n t+t'.sz<=cs.length:=by
 intro n
 induction n with
 | zero=>
  intro t t' m m' v y cs ys G H K hr hy hk
  cases t with
  | pair a b=>
   simp only[CR] at hk;obtain ⟨e,hk⟩:=cv hk;subst e;have hl:=an.length _ hr;have NM:=an.length _ hy;obtain ⟨h0,F1,F2,hs,h1,h2⟩:=hr;refine ⟨_,_,hk,⟨rfl,H,F2,fun b i=>by have:=hs b i;show H b i+F2 b i<=G b i+H b i;omega,?_,?_⟩,?_⟩
   ·simp only[jj,jD,bP,bE,eQ,Md.l];rw[fK NM];exact hy
   ·simp only[jj,jD,bP,bE,eQ,Md.r];rw[fL NM];exact h2
   ·simp only[jj,Ty.sz] at hl ⊢;omega
  | _=>cases hk
 | succ n ih=>
  intro t t' m m' v y cs ys G H K hr hy hk
  cases t with
  | pair a b=>
   simp only[CR] at hk;have hl:=an.length _ hr;obtain ⟨h0,F1,F2,hs,h1,h2⟩:=hr;obtain ⟨m2,v2,k1,k2,k3⟩:=ih b h2 hy hk;simp only[bI] at k3;simp only[Ty.sz] at hl;refine ⟨_,_,k1,⟨rfl,F1,fun b i=>F2 b i+H b i,fun b i=>by have:=hs b i;show F1 b i+(F2 b i+H b i)<=G b i+H b i;omega,?_,?_⟩,?_⟩
   ·simp only[jj,eQ,Md.l]
    have:(cs.take (a.sz+jj n b)++ys++cs.drop (a.sz+jj n b+t'.sz)).take a.sz=cs.take a.sz:=by
     rw[bL,dH (by simp;omega),fG,fD (by omega)]
    rw[this];exact h1
   ·simp only[jj,eQ,Md.r]
    have:(cs.take (a.sz+jj n b)++ys++cs.drop (a.sz+jj n b+t'.sz)).drop a.sz=(cs.drop a.sz).take (jj n b)++ys++(cs.drop a.sz).drop (jj n b+t'.sz):=by
     rw[bL,dI (by simp;omega),eO,dA,bL];rw[show a.sz+jj n b - a.sz=jj n b by omega,show a.sz+(jj n b+t'.sz)=a.sz+jj n b+t'.sz by omega]
    rw[this];exact k2
   ·simp only[jj];omega
  | _=>cases hk
theorem Kr {α β:Type} (g:α->Option β):∀ (l:List α) (ps:List β),l.mapM g=some ps->∀ (j:Nat) (f:α),l[j]?=some f->ps[j]?=g f
 | [],ps,h,j,f,hf=>by cases hf
 | y::l,ps,h,j,f,hf=>by
  simp only[List.mapM_cons,Option.bind_eq_bind,Option.pure_def] at h
  cases hy:g y with
  | none=>simp[hy] at h
  | some z=>
   cases hr:l.mapM g with
   | none=>simp[hy,hr] at h
   | some r=>
    simp only[hy,hr,aB,aR] at h;subst h
    cases j with
    | zero=>injection hf with hf;subst hf;exact hy.symm
    | succ j=>exact Kr g l r hr j f hf
theorem OQ:∀ (t:Ty) {fs:List Field} {off:Nat},bd P t (.inr (fs,off))=true->∃ ps,fs.mapM (fun f=>(P.info? f.type).map fun i=>(f.offset,i.size))=some ps:=by
 intro t
 induction t with
 | unit=>
  intro fs off h;simp only[bd,bN] at h;subst h;exact ⟨[],rfl⟩
 | pair a b kN kE=>
  intro fs off h
  cases fs with
  | nil=>simp[bd] at h
  | cons f r=>
   simp only[bd,aF] at h;obtain ⟨ps,ui⟩:=kE h.2;obtain ⟨inf,hi,_⟩:=lz (lR h.1.2);exact ⟨(f.offset,inf.size)::ps,by simp[hi,ui]⟩
 | _=>intro fs off h;simp[bd] at h
theorem Jk {T:Ty} {i:TypeId} (hl:bd P T (.inl i)=true) {j:Nat} {t':Ty} (hj:tO j T=some t') :
  ∃ fs ps,P.underlying i=some (.struct fs)/\fs.toList.mapM (fun f=>(P.info? f.type).map fun i=>(f.offset,i.size))=some ps/\∀ j t',tO j T=some t'->ps.toArray[j]?=some (jj j T,t'.sz):=by
 cases T with
 | pair a b=>
  have Z5:=hl;simp only[bd,aF] at hl;have h2:=hl.2;split at h2
  ·rename_i fs hu;split at h2
   ·rename_i f r De
    have h3:bd P (.pair a b) (.inr (f::r,0))=true:=by
     simp only[bd,bE];exact h2
    obtain ⟨ps,ui⟩:=OQ _ h3;refine ⟨fs,ps,hu,by rw[De];exact ui,fun j t' hj=>?_⟩
    obtain ⟨f',q1,q2,q3,q4⟩:=NG j (.pair a b) h3 hj;have:=Kr _ _ _ ui j f' q1;obtain ⟨inf,hi,hs,_⟩:=lz (lR q3);simp only[gN,this,hi,cD,hs,q2,bE]
   ·cases h2
  ·cases h2
 | _=>cases j <;> cases hj
theorem Q9 {T:Ty} {fz:Nat->Bool} {pl:Nat->Option (Nat×Nat)} (ip:∀ j t',tO j T=some t'->pl j=some (jj j T,t'.sz)) {K:Md->T.den->St->Option R} :
  ∀ (ps:List (Nat×Operand)) {n:Nat} {σ:St} {A:Cells} {X:FP} {F:Nat->FP} {m:Md} {v:T.den} {cs:List Value},ps.all (fun p=>dj P p.2)=true->Rel P C A X σ a w F->an P w A T m [] v cs X ->
   CS E σ T fz ps n m v K=some x->∃ A' σ' F' m' v' br X',K m' v' σ'=some x/\Rel P C A' X' σ' a w F'/\an P w A' T m' [] v' br X'/\Instr.fill pl cs.toArray (ps.map fun p=>(p.1,a.eval p.2))=some br.toArray:=by
 intro ps
 induction ps with
 | nil=>intro n σ A X F m v cs bc h hr hk;exact ⟨A,σ,F,m,v,cs,X,hk,h,hr,rfl⟩
 | cons p ps ih=>
  intro n σ A X F m v cs bc h hr hk;obtain ⟨j,y⟩:=p;simp only[eF,aF] at bc;simp only[CS] at hk;split at hk
  ·rename_i t' CA
   rcases fh h bc.1 with hs | ⟨xs,e⟩
   rotate_left
   ·rw[e] at hk;simp[nD] at hk
   obtain ⟨A1,o6,F1,m1,v1,oE,Fv,k1,k2,k3,k4,kr,k5,k6⟩:=ud h hs hk;have t8:=an.mono (P:=P) (A':=A1) k2 (fun _ _ _ _ h=>h) (fun _ _ h=>h) T hr (fun _ _=>aN _) (fun _ _ _ _ h=>h);obtain ⟨m2,v2,q1,q2,q3⟩:=Q8 j T t8 k6 k1;obtain ⟨A',σ',F',m',v',br,X',g1,g2,g3,g4⟩:=ih bc.2 k3 q2 q1;refine ⟨A',σ',F',m',v',br,X',g1,g2,g3,?_⟩
   rw[cR,k5,Dj (ip j t' CA) (an.length _ k6) (lQ (an.length _ k6) (an.one _ k6)) q3];exact g4
  ·cases hk
theorem V3 {n j:Nat} {e:Ty} {v:List e.den} {y:e.den} {cs ys:List Value} (h:Ro P w A (.arr n e) v cs) (hy:Ro P w A e y ys) (hj:j < v.length) :
  Ro P w A (.arr n e) (v.set j y) (cs.take (j*e.sz)++ys++cs.drop (j*e.sz+e.sz))/\j*e.sz+e.sz<=cs.length:=by
 obtain ⟨h1,h2,h3,h4⟩:=h;have NM:=Ro.length _ hy
 have hle:j*e.sz+e.sz<=cs.length:=by
  rw[h3,<- fA];exact bD _ (by omega)
 refine ⟨⟨h1,by simpa using h2,by simp only[aS,bQ,bI,NM];omega,fun i z hz=>?_⟩,hle⟩
 rw[fH] at hz;split at hz
 ·rename_i e1;subst e1
  first
   | rw[aU hj] at hz
   | skip
  injection hz with hz;subst hz;rw[bL,fL (by simp;omega),fK NM];exact hy
 ·rename_i fw;have h5:=h4 i z hz
  have:((cs.take (j*e.sz)++ys++cs.drop (j*e.sz+e.sz)).drop (i*e.sz)).take e.sz=(cs.drop (i*e.sz)).take e.sz:=by
   rcases bZ i j with oD | oD
   ·have h6:i*e.sz+e.sz<=j*e.sz:=by rw[<-fA];exact bD _ (by omega)
    rw[bL,dI (by simp;omega),dH (by simp;omega),eO,fG,fD (by omega)]
   ·have h6:j*e.sz+e.sz<=i*e.sz:=by rw[<-fA];exact bD _ (by omega)
    have h7:(cs.take (j*e.sz)++ys).length=j*e.sz+e.sz:=by simp[NM];omega
    rw[gV,h7,dN (by omega),bP,dA];congr 2;omega
  rw[this];exact h5
theorem V4 {n0:Nat} {e:Ty} {fz:Nat->Bool} (hf:e.flat=true) {K:List e.den->St->Option R} :
  ∀ (ps:List (Nat×Operand)) {n:Nat} {σ:St} {A:Cells} {F:Nat->FP} {v:List e.den} {cs:List Value},ps.all (fun p=>dj P p.2)=true->du P C A σ a w F->Ro P w A (.arr n0 e) v cs ->
   JS σ e fz ps n v K=some x->∃ A' σ' F' v' br,K v' σ'=some x/\du P C A' σ' a w F'/\Ro P w A' (.arr n0 e) v' br/\Instr.fill (fun i=>some (i*e.sz,e.sz)) cs.toArray (ps.map fun p=>(p.1,a.eval p.2))=some br.toArray:=by
 intro ps
 induction ps with
 | nil=>intro n σ A F v cs bc h hr hk;exact ⟨A,σ,F,v,cs,hk,h,hr,rfl⟩
 | cons p ps ih=>
  intro n σ A F v cs bc h hr hk;obtain ⟨j,y⟩:=p;simp only[eF,aF] at bc;simp only[JS] at hk
  rcases fh h bc.1 with hs | ⟨xs,e⟩
  rotate_left
  ·rw[e] at hk;simp[nD] at hk
  obtain ⟨A1,o6,F1,m1,v1,oE,Fv,k1,k2,k3,k4,kr,k5,k6⟩:=ud h hs hk;split at k1
  ·rename_i hj;have t8:Ro P w A1 (.arr n0 e) v cs:=Ro.mono (fun _ _ _ _ h=>h) k2 _ hr;obtain ⟨q1,q2⟩:=V3 t8 (an.flat _ hf k6) hj;obtain ⟨A',σ',F',v',br,g1,g2,g3,g4⟩:=ih bc.2 (k3.less (X':=fun _ _=>0) fun _ _=>aW _) q1 k1;refine ⟨A',σ',F',v',br,g1,g2,g3,?_⟩
   rw[cR,k5,Dj (pl:=fun i=>some (i*e.sz,e.sz)) rfl (an.length _ k6) (lQ (an.length _ k6) (an.one _ k6)) q2];exact g4
  ·cases k1
theorem OR (h:du P C A σ a w F) (kS:∀ i T,E.TI i=some T->bd P T (.inl i)=true) {t:Nat} {ps:Array (Nat×Operand)} {fz:Nat->Bool} (ho:o.op=.build t ps) (bc:ps.toList.all (fun p=>dj P p.2)=true) {K:St->Option R}
  (hk:(pV E t fun t=>match t with
  | .arr n e=>if e.uR then JS σ e fz ps.toList 0 (Ty.arr n e).zero fun v σ=>K (σ.bY o.dst (laid (.arr n e) (am (.arr n e)) v)) else none
  | .pair t1 t2=>if (Ty.pair t1 t2).uR then CS E σ (.pair t1 t2) fz ps.toList 0 (am (.pair t1 t2)) (Ty.pair t1 t2).zero fun m v σ=>K (σ.bY o.dst (laid (.pair t1 t2) m v)) else none
  | _=>none)=some x):Tk P o a w (Nx P C K x):=by
 obtain ⟨T,hT,hk⟩:=fx hk;have gf:=kS _ _ hT
 have run:∀ (cells:Array Value),P.built t (ps.map fun (i,x)=>(i,a.eval x)).toList=some cells->∀ w',sP o w w'->(execOp a.eval o).run P w'=.ok (.value (.agg cells)) w':=fun cells hc w' _=>by
  simp[execOp,ho,run_build w' t _ cells hc]
 have ui:(ps.map fun (i,x)=>(i,a.eval x)).toList=ps.toList.map fun p=>(p.1,a.eval p.2):=by simp
 rw[ui] at run;split at hk
 ·rename_i n e;split at hk
  ·rename_i hz
   have U2:e.flat=true:=by
    have hl:=gf;simp only[bd,aF] at hl;exact hl.1.2
   obtain ⟨L,hL⟩:=uh (.arr n e) (by simpa [Ty.uR] using hz);obtain ⟨r1,r2,r3⟩:=zU (P:=P) (w:=w) (A:=A) _ hL gf;obtain ⟨inf,i1,i2,i3,i4⟩:=lz (lR gf);obtain ⟨z,z1,z2⟩:=i4 L hL;obtain ⟨A',σ',F',v',br,g1,g2,g3,g4⟩:=V4 U2 ps.toList bc h r2 hk
   have hu:∃ el ie,P.underlying t=some (.array n el)/\P.info? el=some ie/\ie.size=e.sz:=by
    have hl:=gf;simp only[bd,aF] at hl;have h2:=hl.2;split at h2
    ·rename_i n' el hu;simp only[aF,eI] at h2;obtain ⟨ie,j1,j2,_⟩:=lz (lR h2.2);exact ⟨el,ie,by rw[hu,h2.1.1],j1,j2⟩
    ·cases h2
   obtain ⟨el,ie,u1,u2,u3⟩:=hu;have Kl:z.cells=L.toArray:=eX (by simpa using z2);have e1:cg (.arr n e) br=.agg br.toArray:=rfl;refine f7 (v:=cg (.arr n e) br) (run _ ?_) ?_
   ·unfold Program.built;simp only[i1,u1,z1,u2,u3,Kl];exact g4
   ·exact zh g2 g1 (Ro.flat _ (fun _ _=>0) (by simpa [Ty.flat] using U2) g3) (fun _ _=>aN _)
  ·cases hk
 ·rename_i t1 t2;split at hk
  ·rename_i hz;obtain ⟨L,hL⟩:=uh (.pair t1 t2) hz;obtain ⟨r1,r2,r3⟩:=zU (P:=P) (w:=w) (A:=A) _ hL gf;obtain ⟨inf,i1,i2,i3,i4⟩:=lz (lR gf);obtain ⟨z,z1,z2⟩:=i4 L hL;have Kl:z.cells=L.toArray:=eX (by simpa using z2);obtain ⟨fs,pls,u1,u2,u3⟩:=Jk gf (j:=0) rfl;obtain ⟨A',σ',F',m',v',br,X',g1,g2,g3,g4⟩:=Q9 (pl:=fun j=>pls.toArray[j]?) u3 ps.toList bc h r1 hk;refine f7 (v:=cg (.pair t1 t2) br) (run _ ?_) (zh g2 g1 g3 (fun _ _=>aN _));unfold Program.built;simp only[i1,u1,z1,u2,Kl];exact g4
  ·cases hk
 ·cases hk
theorem V5 {e:Ty} {fz:Nat->Bool} (kt:1<=e.sz) {K:Md->List e.den->St->Option R} :
  ∀ (ps:List (Nat×Operand)) {n:Nat} {σ:St} {A:Cells} {X:FP} {F:Nat->FP} {m:Md} {v:List e.den} {L Z:List Value} {Fi:Nat->FP},ps.all (fun p=>dj P p.2)=true->Rel P C A X σ a w F ->
   List.length v=n->L.length=n*e.sz->Z.length=ps.length*e.sz->(∀ b i,ba n Fi b i<=X b i)->(∀ (i:Nat) (y:e.den),v[i]?=some y->an P w A e m [] y ((L.drop (i*e.sz)).take e.sz) (Fi i)) ->
   E2 σ e fz ps n m v K=some x->∃ (A':Cells) (σ':St) (F':Nat->FP) (m':Md) (v':List e.den) (L':List Value) (X':FP) (Gt:Nat->FP),K m' v' σ'=some x/\Rel P C A' X' σ' a w F'/\List.length v'=n+ps.length/\L'.length=(n+ps.length)*e.sz/\(∀ b i,ba (n+ps.length) Gt b i<=X' b i) /\
    (∀ (i:Nat) (y:e.den),v'[i]?=some y->an P w A' e m' [] y ((L'.drop (i*e.sz)).take e.sz) (Gt i))/\Instr.fill (fun i=>some (i*e.sz,e.sz)) (L++Z).toArray (ps.map fun p=>(p.1,a.eval p.2))=some L'.toArray:=by
 intro ps
 induction ps with
 | nil=>
  intro n σ A X F m v L Z Fi bc h hv hL hZ hX hr hk;have:Z=[]:=by simpa using hZ
  subst this;exact ⟨A,σ,F,m,v,L,X,Fi,hk,h,hv,hL,hX,hr,by simp[Instr.fill]⟩
 | cons p ps ih=>
  intro n σ A X F m v L Z Fi bc h hv hL hZ hX hr hk;obtain ⟨j,y⟩:=p;simp only[eF,aF] at bc;simp only[E2] at hk;split at hk
  ·rename_i hj;have hj:j=n:=by simpa using hj
   subst hj
   rcases fh h bc.1 with hs | ⟨xs,e⟩
   rotate_left
   ·rw[e] at hk;simp[nD] at hk
   obtain ⟨A1,o6,F1,m1,v1,oE,Fv,k1,k2,k3,k4,kr,k5,k6⟩:=ud h hs hk;have uj:=an.length _ k6;have Z6:Z.length=e.sz+ps.length*e.sz:=by rw[hZ,aP,cI];omega
   have Z7:∀ {A2:Cells} {X2:FP} {m2:Md} {Ks:Nat->FP},Rel P C A2 X2 o6 a w F1->(∀ b i,ba (j+1) Ks b i<=X2 b i)->(∀ (i:Nat) (y:e.den),v[i]?=some y->an P w A2 e m2 [] y ((L.drop (i*e.sz)).take e.sz) (Ks i)) ->
     an P w A2 e m2 [] v1 oE (Ks j)->E2 o6 e fz ps (j+1) m2 (v++[v1]) K=some x ->
     ∃ (A':Cells) (σ':St) (F':Nat->FP) (m':Md) (v':List e.den) (L':List Value) (X':FP) (Gt:Nat->FP),K m' v' σ'=some x/\Rel P C A' X' σ' a w F'/\List.length v'=j+(ps.length+1)/\L'.length=(j+(ps.length+1))*e.sz/\(∀ b i,ba (j+(ps.length+1)) Gt b i<=X' b i) /\
      (∀ (i:Nat) (y:e.den),v'[i]?=some y->an P w A' e m' [] y ((L'.drop (i*e.sz)).take e.sz) (Gt i))/\Instr.fill (fun i=>some (i*e.sz,e.sz)) (L++Z).toArray ((j,a.eval y)::ps.map fun p=>(p.1,a.eval p.2))=some L'.toArray:=by
    intro A2 X2 m2 Ks h2 hX2 vd EA mB
    obtain ⟨A',σ',F',m',v',L',X',Gt,g1,g2,g3,g4,g5,g6,g7⟩:=ih (L:=L++oE) (Z:=Z.drop e.sz) (Fi:=Ks) bc.2 h2 (by simp[hv]) (by simp[hL,uj,cI]) (by simp[Z6]) hX2 (fun i z hz=>by
     by_cases hi:i=j
     ·subst hi;rw[bV (by omega)] at hz;simp only[hv,Nat.sub_self,eN,aR] at hz;subst hz;rw[fL hL,iD (by omega)];exact EA
     ·have aj:i < j:=by
       have:=(aM.1 hz).1;simp only[aS,List.length_singleton,hv] at this;omega
      rw[bW (by omega)] at hz;have h6:i*e.sz+e.sz<=j*e.sz:=by rw[<-fA];exact bD _ (by omega)
      rw[dI (by omega),dH (by simp;omega)]
      exact vd i z hz) mB
    refine ⟨A',σ',F',m',v',L',X',Gt,g1,g2,by omega,by rw[g4];congr 1;omega,fun b i=>by have:=g5 b i;rw[show j+(ps.length+1)=j+1+ps.length by omega];exact this,g6,?_⟩
    rw[k5,Dj (pl:=fun i=>some (i*e.sz,e.sz)) rfl uj (lQ uj (an.one _ k6)) (by simp[hL,Z6])];rw[fK hL,show j*e.sz+e.sz=L.length+e.sz by omega,gV,dN (by omega),bP,iB];exact g7
   have t8:∀ (i:Nat) (y:e.den),v[i]?=some y->an P w A1 e m [] y ((L.drop (i*e.sz)).take e.sz) (Fi i):=fun i y hy=>an.mono (P:=P) (A':=A1) k2 (fun _ _ _ _ h=>h) (fun _ _ h=>h) e (hr i y hy) (fun _ _=>aN _) (fun _ _ _ _ h=>h);split at k1
   ·rename_i hm;subst hm;refine Z7 (Ks:=fd Fi j Fv) k3 (fun b i=>?_) (fun i y hy=>?_) (by simp only[fd,aI];exact k6) k1
    ·have h1:=sM j 1 (fd Fi j Fv) b i;have h2:ba j (fd Fi j Fv) b i=ba j Fi b i:=by rw[J1 Fi (aN j)]
     have h3:ba 1 (fun k=>fd Fi j Fv (j+k)) b i=Fv b i:=by simp[ba,fd]
     have:=hX b i;omega
    ·have:i≠j:=by have:=(aM.1 hy).1;omega
     simp only[fd];rw[bA this];exact t8 i y hy
   ·
    have so:∃ A2:Cells,(∀ b i,A1 b i->A2 b i)/\Rel P C A2 (fun _ _=>0) o6 a w F1/\Ro P w A2 e v1 oE/\∀ (i:Nat) (y:e.den),v[i]?=some y->Ro P w A2 e y ((L.drop (i*e.sz)).take e.sz):=by
     refine ⟨fun b i=>A1 b i\/1<=X b i+Fv b i,fun _ _ h=>.inl h,k3.giveUp (fun _ _ h=>.inl h) (fun b i ha=>ha.imp id fun hp=>⟨hp,rfl⟩) (fun _ _=>aW _),an.wc (fun _ _ h=>.inl h) e k6 (fun b i hp=>.inr (by omega)),fun i y hy=>?_⟩
     have hi:=(aM.1 hy).1;exact an.wc (fun _ _ h=>.inl h) e (t8 i y hy) (fun b k hp=>.inr (by have:=c7 Fi (show i < j by omega) b k;have:=hX b k;omega))
    obtain ⟨A2,a1,a2,a3,a4⟩:=so;exact Z7 (Ks:=fun _ _ _=>0) a2 (fun b i=>by rw[nf];exact aW _) (fun i y hy=>Ro.rep _ _ (gm _) (a4 i y hy)) (Ro.rep _ _ (gm _) a3) k1
  ·cases hk
theorem HR (h:du P C A σ a w F) (kS:∀ i T,E.TI i=some T->bd P T (.inl i)=true) {t n:Nat} {ps:Array (Nat×Operand)} {fz:Nat->Bool} (ho:o.op=.buildSlice t n ps) (bc:ps.toList.all (fun p=>dj P p.2)=true) {K:St->Option R}
  (hk:(pV E t fun t=>match t with
  | .U e=>if Nat.beq n ps.size&&e.uR&&Nat.ble (n*e.sz) 16777216 then E2 σ e fz ps.toList 0 (am e) [] fun m v σ=>K (σ.bY o.dst (.own (.U e) (.U true m) [] v)) else none
  | _=>none)=some x):o.wp P a w (fun a' w'=>Nx P C K x a' w'/\Ext w w' (fun _ _=>0)) Q:=by
 obtain ⟨T,hT,hk⟩:=fx hk;have gf:=kS _ _ hT;split at hk
 ·rename_i e;split at hk
  ·rename_i hc;simp only[aF,eI,dP] at hc;obtain ⟨⟨hn,hz⟩,k_⟩:=hc;have hl:=gf;simp only[bd,aF] at hl;have h2:=hl.2;split at h2
   ·rename_i el hu;simp only[aF,dP] at h2;obtain ⟨kt,ox⟩:=h2;obtain ⟨Lz,Z8⟩:=uh e hz;obtain ⟨r1,r2,r3⟩:=zU (P:=P) (w:=w) (A:=A) _ Z8 ox;obtain ⟨inf,i1,i2,i3,i4⟩:=lz (lR ox);obtain ⟨z,z1,z2⟩:=i4 Lz Z8;have hzl:z.cells.size=e.sz:=by rw[<-r3,<- z2];simp
    obtain ⟨A',σ',F',m',v',L',X',Gt,g1,g2,g3,g4,g5,g6,g7⟩:=V5 (P:=P) kt ps.toList (n:=0) (L:=[]) (Z:=((Array.range (n*e.sz)).map (z.cells[· % z.cells.size]!)).toList) (Fi:=fun _ _ _=>0) (m:=am e) bc h rfl (by simp) (by simp[hn]) (fun b i=>by rw[nf];exact aW _) (fun i y hy=>by cases hy) hk;simp only[bP,Array.toArray_toList] at g7;simp only[bE] at g3 g4 g5;have CD:ps.toList.length=n:=by simpa using hn.symm
    rw[CD] at g3 g4 g5
    have f_:(execOp a.eval o).run P w=.ok (.value (.slice (some ⟨w.heap.size,0,none⟩) n n)) (w.alloc (.cells L'.toArray el)):=by
     by_cases zm:n*e.sz=0
     ·have:n=0:=by rcases Nat.mul_eq_zero.1 zm with h | h <;> omega
      subst this;have ui:ps=#[]:=by apply fF;omega
      subst ui;have UJ:L'=[]:=by simpa using g4
      subst UJ;simp[execOp,ho,Instr.buildSlice,run_underlying hu,Go.sizeOf,typeInfo,i1,Instr.fill,newRow,show Array.range 0=#[] from rfl]
     ·have:=run_buildSlice (P:=P) w t el n (ps.map fun (i,x)=>(i,a.eval x)) L'.toArray inf z hu i1 z1 (by rw[i2];simp;omega) (by rw[i2];exact zm) (by rw[i2];simpa using g7);simp only[execOp,ho,this,Sem.run_bind,Result.andThen_ok,Sem.run_pure]
    refine ou (w':=w.alloc (.cells L'.toArray el)) f_ ?_
    have ov:=Ef g2 (K:=K) (x:=x) (d:=o.dst) (e:=e) (m:=m') (v:=v') (c:=L'.toArray) (cap:=n) (el:=el) (fr:=(0,0)) (Fi:=Gt) (.inr (aN _)) g1 (by simp[g4]) (by simp only[maxLen];have:=Nat.le_mul_of_pos_right n kt;omega) (by omega)
     (fun b i=>by rw[g3];exact g5 b i) (fun i y hy=>⟨(L'.drop (i*e.sz)).take e.sz,an.length _ (g6 i y hy),(fun j u hu=>by
      rw[bK] at hu;split at hu
      ·rw[bM] at hu;simpa using hu
      ·cases hu),g6 i y hy⟩)
    rw[g3] at ov;exact ⟨ov,nG w _⟩
   ·cases h2
  ·cases hk
 ·cases hk
end
end OT
namespace OT
open Go
section
variable {P:Program} {C:Ctx} {A:Cells} {X:FP} {σ:St} {a:Act} {w:World} {F:Nat->FP} {R:Type} {x:R} {Q:Exit->Act->World->Prop} {o:Oper} {E:Env}
theorem Rel.world (h:Rel P C A X σ a w F) {w1:World} {G:FP} (hw:Ext w w1 G) (hG:∀ b i,1<=G b i->1<=X b i):Rel P C A X σ a w1 F:=by
 have sq:∀ b i,A b i->∀ u,ce w b i=some u->ce w1 b i=some u:=fun b i ha u hu=>by
  refine hw.cell b i (h.kO b i (.inr ha)) ?_ u hu;rcases bF (G b i) with h0 | h0
  ·exact h0
  ·exact absurd ha (h.pW b i (by have:=hG b i h0;omega))
 have C9:∀ j,j < σ.n->∀ b i,1<=F j b i->(∀ u,ce w b i=some u->ce w1 b i=some u)/\w1.frozen? ⟨b,i,none⟩=w.frozen? ⟨b,i,none⟩:=fun j hj b i hp=>by
  have hs:=c7 F hj b i;have hb:=h.kO b i (.inl (by omega));refine ⟨fun u hu=>hw.cell b i hb ?_ u hu,hw.xQ b i hb⟩
  rcases bF (G b i) with h0 | h0
  ·exact h0
  ·have:=hG b i h0;have:=h.o5 b i;omega
 have nF:wZ σ a w σ a w1:=fun r p snap hb=>⟨hb,fun bc=>⟨bc,fun hl pl ip=>⟨pl.H,pl.cs,by
  have aj:=sO ip
  exact ve (h.im r aj) rfl rfl sq (fun b i hp=>(C9 r aj b i hp).1) ip,fun _=>rfl⟩⟩⟩
 refine ⟨h.size,h.defers,fun i hi=>cu.mY nF (fun _ _ h=>h) sq hw.tQ (C9 i hi) (h.im i hi),fun d r p snap hm=>qT.mY nF (h.gh d r p snap hm),h.o5,h.pW,fun b i hp=>cP (h.kO b i hp) hw.size,
  h.mo,h.ext.trans hw (fun b i hb hz=>?_),h.own,h.a0,h.a1,h.oA,fun r t m H v hg hl=>?_,fun j k hm R' jV=>?_⟩
 ·rcases bF (G b i) with h0 | h0
  ·exact h0
  ·rcases h.own b i (by have:=hG b i h0;omega) with h1 | h1 <;> omega
 ·obtain ⟨b,h1,h2⟩:=h.whole r t m H v hg hl;exact ⟨b,h1,hw.tQ _ _ h2⟩
 ·rcases bZ j σ.n with hj | hj
  ·have oq:=h.im j hj
   cases uU:c_ w (tmp a j) (σ.get j) with
   | none=>exfalso;cases hg:σ.get j <;> rw[hg] at uU jV <;> simp only[c_] at uU jV <;> first | (cases jV;done) | (cases uU;done) | (split at uU <;> simp_all)
   | some R0=>
    rw[wh oq (fun b i hp=>(C9 j hj b i hp).1) uU] at jV;injection jV with jV;subst jV;exact h.nw j k hm _ uU
  ·rw[lY (dK.2 hj)] at jV;cases jV
theorem Gu {b o sz:Nat} {n:Nat} (h:∀ i,i < n->∃ L:List Value,L.length=sz/\Has w b (o+i*sz) L):Has w b o (rd w b o (n*sz))/\∀ i L,i < n->L.length=sz->Has w b (o+i*sz) L->((rd w b o (n*sz)).drop (i*sz)).take sz=L:=by
 have Eg:∀ j,j < n*sz->(ce w b (o+j)).isSome=true:=fun j hj=>by
  have kt:0 < sz:=by rcases bF sz with h0 | h0;(· subst h0;simp at hj);exact h0
  have hi:j / sz < n:=Nat.div_lt_of_lt_mul (by rw[fR];exact hj);obtain ⟨L,h1,h2⟩:=h _ hi;have hm:j % sz < L.length:=by rw[h1];exact iP _ kt
  have:=h2 (j % sz) _ (aA hm);have e:o+j / sz*sz+j % sz=o+j:=by have:=gI j sz;rw[fR] at this;omega
  rw[e] at this;rw[this];rfl
 refine ⟨fun j u hu=>?_,fun i L hi hl hL=>?_⟩
 ·have hj:=(aM.1 hu).1;rw[xx] at hj;unfold rd at hu;rw[eK,iU hj] at hu;simp only[cD,aR] at hu;obtain ⟨u',QW⟩:=fW.1 (Eg j hj);rw[QW] at hu ⊢;exact dB some hu
 ·have h6:i*sz+sz<=n*sz:=by rw[<-fA];exact bD _ (by omega)
  apply fQ;intro j;rw[bK,bM];by_cases hj:j < sz
  ·rw[aU hj];unfold rd;rw[eK,iU (by omega)];have:=hL j L[j] (aA (by omega));rw[show o+i*sz+j=o+(i*sz+j) by omega] at this;rw[aA (by omega)];simp[this]
  ·rw[bA hj,cW (by omega)]
theorem Gv {e:Ty} {m:Md} {H:List Path} (hH:hole H=false) {v:List e.den} {cs:List Value} {Fv:FP} (hr:an P w A (.U e) m H v cs Fv) :
  ∃ xa cap news Fi,cs=[.slice xa (List.length v) cap]/\(List.length v<=cap/\(xa=none->List.length v=0))/\(∀ ad,xa=some ad->(0 < cap->ad.spot=none)/\Has w ad.block ad.off news)/\news.length=List.length v*e.sz/\(∀ u ∈ news,u.oneCell'=true) /\
   (∀ (i:Nat) (y:e.den),v[i]?=some y->an P w A e m.e (H.filterMap (kZ i)) y ((news.drop (i*e.sz)).take e.sz) (Fi i))/\(∀ b i,ba (List.length v) Fi b i<=Fv b i) /\
   (m.own=true->List.length v<=cap/\cap<=maxLen/\(xa=none->cap=0)/\∀ ad,xa=some ad->ad.off=0/\ad.spot=none/\gc w ad.block (cap*e.sz,wY e)/\∀ b i,b_ ad.block 0 (cap*e.sz) b i+ba (List.length v) Fi b i<=Fv b i):=by
 have mQ:∀ (news:List Value) (Fi:Nat->FP),news.length=List.length v*e.sz->(∀ (i:Nat) (y:e.den),v[i]?=some y->an P w A e m.e (H.filterMap (kZ i)) y ((news.drop (i*e.sz)).take e.sz) (Fi i))->∀ u ∈ news,u.oneCell'=true:=by
  intro news Fi hl ox u hu;obtain ⟨j,hj,rfl⟩:=dD.1 hu;have kt:0 < e.sz:=by rcases bF e.sz with h0 | h0;(· rw[hl,h0] at hj;simp at hj);exact h0
  have hi:j / e.sz < List.length v:=Nat.div_lt_of_lt_mul (by rw[fR,<- hl];exact hj);have h1:=an.one _ (ox _ _ (aA hi));refine h1 _ (cB (i:=j % e.sz) ?_);rw[bK,aU (iP _ kt),bM];have:j / e.sz*e.sz+j % e.sz=j:=by rw[fR];exact gI j e.sz
  rw[this,aA hj]
 simp only[an,hH,aG,aL] at hr;split at hr
 ·rename_i fu;obtain ⟨xa,cap,rfl,h1,h2,h3,h4⟩:=hr
  cases xa with
  | none=>
   have k_:=h3 rfl;have NN:List.length v=0:=by omega
   have hv:v=[]:=bH NN;subst hv;exact ⟨none,cap,[],fun _ _ _=>0,rfl,⟨aW _,fun _=>rfl⟩,(fun ad e=>by cases e),by simp,(fun u hu=>by cases hu),(fun i y hy=>by cases hy),fun b i=>by rw[nf];exact aW _,fun _=>⟨h1,h2,h3,fun ad e=>by cases e⟩⟩
  | some ad=>
   obtain ⟨g1,g2,g3,Fi,g4,g5⟩:=h4 ad rfl
   have hp:∀ i,i < List.length v->∃ L:List Value,L.length=e.sz/\Has w ad.block (0+i*e.sz) L:=fun i hi=>by
    obtain ⟨L,l1,l2,_⟩:=g5 i _ (aA hi);exact ⟨L,l1,by rw[bE];exact l2⟩
   obtain ⟨p1,p2⟩:=Gu hp
   have ox:∀ (i:Nat) (y:e.den),v[i]?=some y->an P w A e m.e (H.filterMap (kZ i)) y (((rd w ad.block 0 (List.length v*e.sz)).drop (i*e.sz)).take e.sz) (Fi i):=fun i y hy=>by
    obtain ⟨L,l1,l2,l3⟩:=g5 i y hy;rw[p2 i L (aM.1 hy).1 l1 (by rw[bE];exact l2)];exact l3
   refine ⟨some ad,cap,rd w ad.block 0 (List.length v*e.sz),Fi,rfl,⟨h1,(fun e=>by cases e)⟩,fun cr e=>?_,xx _ _ _ _,mQ _ _ (xx _ _ _ _) ox,ox,fun b i=>by have:=g4 b i;omega,fun _=>⟨h1,h2,h3,fun cr e=>?_⟩⟩
   ·injection e with e;subst e;exact ⟨fun _=>g2,by rw[g1];exact p1⟩
   ·injection e with e;subst e;exact ⟨g1,g2,g3,g4⟩
 ·rename_i fu;obtain ⟨rfl,qt,xa,cap,rfl,h1,h2,h3⟩:=hr
  cases xa with
  | none=>
   have hv:v=[]:=bH (h2 rfl);subst hv;exact ⟨none,cap,[],fun _ _ _=>0,rfl,⟨aW _,fun _=>rfl⟩,(fun ad e=>by cases e),by simp,(fun u hu=>by cases hu),(fun i y hy=>by cases hy),(fun b i=>by rw[nf];exact aW _),fun h=>absurd h fu⟩
  | some ad=>
   obtain ⟨g1,g2⟩:=h3 ad rfl
   have hp:∀ i,i < List.length v->∃ L:List Value,L.length=e.sz/\Has w ad.block (ad.off+i*e.sz) L:=fun i hi=>by
    obtain ⟨L,l1,l2,_⟩:=g2 i _ (aA hi);exact ⟨L,l1,fun j u hu=>(l2 j u hu).1⟩
   obtain ⟨p1,p2⟩:=Gu hp
   have ox:∀ (i:Nat) (y:e.den),v[i]?=some y->an P w A e m.e (([]:List Path).filterMap (kZ i)) y (((rd w ad.block ad.off (List.length v*e.sz)).drop (i*e.sz)).take e.sz) (fun _ _=>0):=fun i y hy=>by
    obtain ⟨L,l1,l2,l3⟩:=g2 i y hy;rw[p2 i L (aM.1 hy).1 l1 (fun j u hu=>(l2 j u hu).1)];exact Ro.rep _ _ qt l3
   refine ⟨some ad,cap,rd w ad.block ad.off (List.length v*e.sz),fun _ _ _=>0,rfl,⟨h1,(fun e=>by cases e)⟩,fun cr e=>?_,xx _ _ _ _,mQ _ _ (xx _ _ _ _) ox,ox,(fun b i=>by rw[nf];exact aW _),fun h=>absurd h fu⟩
   injection e with e;subst e;exact ⟨g1,p1⟩
theorem xC {e:Ty} {m:Md} {v:List e.den} {cs:List Value} {Fv:FP} (hr:an P w A (.U e) m [] v cs Fv) :
  ∃ xa cap news Fi,cs=[.slice xa (List.length v) cap]/\(List.length v<=cap/\(xa=none->List.length v=0))/\(∀ ad,xa=some ad->(0 < cap->ad.spot=none)/\Has w ad.block ad.off news)/\news.length=List.length v*e.sz/\(∀ u ∈ news,u.oneCell'=true) /\
   (∀ (i:Nat) (y:e.den),v[i]?=some y->an P w A e m.e [] y ((news.drop (i*e.sz)).take e.sz) (Fi i))/\(∀ b i,ba (List.length v) Fi b i<=Fv b i) /\
   (m.own=true->List.length v<=cap/\cap<=maxLen/\(xa=none->cap=0)/\∀ ad,xa=some ad->ad.off=0/\ad.spot=none/\gc w ad.block (cap*e.sz,wY e)/\∀ b i,b_ ad.block 0 (cap*e.sz) b i+ba (List.length v) Fi b i<=Fv b i):=
 Gv rfl hr
theorem NO (h:Rel P C A X σ a w F) {s:Slot} {tv:Value} {G:FP} (hs:cu P A σ a w tv s G) {mv:Bool} {e:Ty} {tx:TypeId} (Bx:(∃ e',P.underlying tx=some (.slice e'))\/P.underlying tx=some .string)
  {K:Md->List e.den->St->Option R} (hk:D9 σ s e mv K=some x) :
  ∃ (A':Cells) (σ':St) (F':Nat->FP) (me:Md) (y:List e.den) (news:List Value) (Fv:FP) (Fi:Nat->FP),K me y σ'=some x/\(∀ b i,A b i->A' b i)/\Rel P C A' (fun b i=>X b i+Fv b i) σ' a w F'/\qy σ σ' /\
   Src P e.sz tx tv (List.length y) news w/\(∀ k,k<=List.length y->(Builtin.firstCells e.sz k tv).run P w=.ok (news.take (k*e.sz)).toArray w)/\(∀ (i:Nat) (z:e.den),y[i]?=some z->an P w A' e me [] z ((news.drop (i*e.sz)).take e.sz) (Fi i))/\∀ b i,ba (List.length y) Fi b i<=Fv b i:=by
 unfold D9 at hk;split at hk
 ·rename_i s';obtain ⟨e1,hk⟩:=cv hk;injection e1 with e1;subst e1;obtain ⟨cs,h1,h2⟩:=hs;simp only[Ro] at h2;subst h2;have zg:tv=.string ⟨List.toArray s'⟩:=h1;subst zg;have hlen:(byteCells ⟨List.toArray s'⟩)=List.map (fun (b:UInt8)=>Value.int .u8 b.toNat) s':=by simp[byteCells]
  have kt:(⟨List.toArray s'⟩:ByteArray).size=List.length s':=rfl;refine ⟨A,σ,F,.leaf,s',byteCells ⟨List.toArray s'⟩,fun _ _=>0,fun _ _ _=>0,hk,fun _ _ h=>h,h,qy.refl σ,⟨Bx,fun _=>rfl,firstCells_string _ w,firstCells_string _ w.drew,by rw[byteCells_length,kt];simp[Ty.sz],fun u hu=>?_⟩,fun k hk=>?_,fun i z hz=>?_,fun b i=>by rw[nf];exact aW _⟩
  ·obtain ⟨_,_,rfl⟩:=fT.1 hu;rfl
  ·rw[hlen];have Ta:((⟨List.toArray s'⟩:ByteArray).extract 0 k).data.toList=s'.take k:=by simp[ByteArray.data_extract]
   simp only[Builtin.firstCells,Sem.run_pure,Ty.sz,iR];congr 1;apply eX;simp only[Array.toList_map,Ta,List.map_take]
  ·have:((byteCells ⟨List.toArray s'⟩).drop (i*Ty.sz (.int .u8))).take (Ty.sz (.int .u8))=[Value.int .u8 z.toNat]:=by
    show ((byteCells ⟨List.toArray s'⟩).drop (i*1)).take 1=_;rw[hlen,iR,List.take_one,List.head?_drop,eK,hz];rfl
   exact this
 ·rename_i s' Z3;obtain ⟨A',σ',F',m,v,cs,Fv,k1,k2,k3,k4,kr,k5,k6⟩:=ud h hs hk;obtain ⟨xa,cap,news,Fi,r1,r2,r3,r4,r5,r6,r7,r8⟩:=xC k6;rw[r1,df _ _ rfl] at k5;subst k5
  have xB:∀ ad,xa=some ad->∀ j u,news[j]?=some u->w.cell? (ad.add j)=some u:=fun ad e1 j u hu=>by
   obtain ⟨g1,g2⟩:=r3 ad e1;have hj:=(aM.1 hu).1
   have Dg:0 < cap:=by
    rcases bF cap with h0 | h0
    ·have:List.length v=0:=by have:=r2.1;omega
     rw[r4,this,gG] at hj;omega
    ·exact h0
   obtain ⟨b,off,sp⟩:=ad;have:=g1 Dg;simp only at this;subst this;rw[pz];exact qR (g2 j u hu) (r5 u (cB hu))
  refine ⟨A',σ',F',m.e,v,news,Fv,Fi,k1,k2,k3,kr,?_,?_,r6,r7⟩
  rotate_left
  ·intro k hk
   cases xa with
   | none=>
    have h0:=r2.2 rfl;have hn:news=[]:=bH (by rw[r4,h0,gG]);subst hn;simp only[List.take_nil];exact run_firstCells_none w e.sz k (List.length v) cap
   | some ad=>
    have hc:=xB ad rfl;have hle:k*e.sz<=List.length v*e.sz:=bD _ hk
    have:=run_firstCells_some (P:=P) w e.sz k ad (List.length v) cap (news.take (k*e.sz)) (by simp;omega) (fun j u hu=>by
     rw[bK] at hu;split at hu
     ·exact hc j u hu
     ·cases hu)
    simpa [Builtin.firstCells] using this
  cases xa with
  | none=>
   have h0:=r2.2 rfl;have hn:news=[]:=bH (by rw[r4,h0,gG]);subst hn;rw[h0];exact ⟨Bx,fun _=>rfl,run_firstCells_none w e.sz 0 0 cap,run_firstCells_none w.drew e.sz 0 0 cap,by simp,fun u hu=>by cases hu⟩
  | some ad=>
   have hc:=xB ad rfl;exact ⟨Bx,fun _=>rfl,run_firstCells_some w e.sz (List.length v) ad (List.length v) cap news r4 hc,run_firstCells_some w.drew e.sz (List.length v) ad (List.length v) cap news r4 (by simpa using hc),r4,r5⟩
theorem Fc {e:Ty} {me:Md} {v y:List e.den} {ez news:List Value} {Fi Gi:Nat->FP} (hl:ez.length=List.length v*e.sz)
  (h1:∀ (i:Nat) (z:e.den),v[i]?=some z->an P w A e me [] z ((ez.drop (i*e.sz)).take e.sz) (Fi i)) (h2:∀ (i:Nat) (z:e.den),y[i]?=some z->an P w A e me [] z ((news.drop (i*e.sz)).take e.sz) (Gi i)) :
  ∀ (i:Nat) (z:e.den),(v++y)[i]?=some z->an P w A e me [] z (((ez++news).drop (i*e.sz)).take e.sz) (if i < List.length v then Fi i else Gi (i - List.length v)):=by
 intro i z hz;by_cases hi:i < List.length v
 ·rw[aU hi];rw[bW hi] at hz;have h6:i*e.sz+e.sz<=List.length v*e.sz:=by rw[<-fA];exact bD _ (by omega)
  rw[dI (by omega),dH (by simp;omega)];exact h1 i z hz
 ·rw[bA hi];rw[bV (by omega)] at hz;have h6:List.length v*e.sz<=i*e.sz:=bD _ (by omega);rw[gV,dN (by omega),bP,hl,<- gD];exact h2 _ z hz
theorem Fe (n m:Nat) (Fi Gi:Nat->FP) (b i:Nat):ba (n+m) (fun i=>if i < n then Fi i else Gi (i - n)) b i=ba n Fi b i+ba m Gi b i:=by
 rw[sM];congr 1
 ·have:=qw (n:=n) (f:=fun i=>if i < n then Fi i else Gi (i - n)) (g:=Fi) (fun j hj=>by simp only[aU hj]);rw[this]
 ·have:=qw (n:=m) (f:=fun j=>(fun i=>if i < n then Fi i else Gi (i - n)) (n+j)) (g:=Gi) (fun j hj=>by
   simp only;rw[bA (by omega),iB]);rw[this]
theorem step_append (h:du P C A σ a w F) (kS:∀ i T,E.TI i=some T->bd P T (.inl i)=true) {t tx:Nat} {y z:Operand} (ho:o.op=.call { callee:=.builtin .append,args:=#[y,z],argTypes:=#[t,tx] }) (bc:dj P y=true/\dj P z=true)
  (Bx:(∃ e',P.underlying tx=some (.slice e'))\/P.underlying tx=some .string) {mv:Bool} {K:St->Option R} (hk:HC E σ t (dr σ y) z mv o.dst K=some x):o.wp P a w (Nx P C K x) Q:=by
 unfold HC at hk;obtain ⟨T,hT,hk⟩:=fx hk;have gf:=kS _ _ hT;split at hk
 ·rename_i e;have hl:=gf;simp only[bd,aF] at hl;have h2:=hl.2;split at h2;rotate_left
  ·cases h2
  rename_i el hu;simp only[aF,dP] at h2;obtain ⟨kt,ox⟩:=h2;obtain ⟨inf,zv,i1,i2,i3,i4,i5,_⟩:=vg (lR ox)
  rcases fh h bc.1 with hs | ⟨xs,e'⟩
  rotate_left
  ·rw[e'] at hk;simp[nD] at hk
  obtain ⟨A1,o6,F1,m,v,cs,Fv,k1,k2,k3,k4,kr,k5,k6⟩:=ud h hs hk;split at k1;rotate_left
  ·cases k1
  rename_i fu
  rcases fh k3 bc.2 with uW | ⟨xs,e'⟩
  rotate_left
  ·rw[e'] at k1;simp[D9,nD] at k1
  obtain ⟨A2,ly,F2,me,yv,news,Fw,Gi,q1,q2,q3,qr,q4,_,q5,q6⟩:=NO k3 uW Bx k1;split at q1;rotate_left
  ·cases q1
  rename_i k_;obtain ⟨xa,cap,ez,Fi,r1,r2,r3,r4,r5,r6,r7,r8⟩:=xC k6;obtain ⟨c1,c2,c3,c4⟩:=r8 fu;rw[r1,df _ _ rfl] at k5;have Z9:∀ (i:Nat) (z:e.den),v[i]?=some z->an P w A2 e m.e [] z ((ez.drop (i*e.sz)).take e.sz) (Fi i):=fun i z hz=>an.mono (P:=P) (A':=A2) q2 (fun _ _ _ _ h=>h) (fun _ _ h=>h) e (r6 i z hz) (fun _ _=>aN _) (fun _ _ _ _ h=>h)
  have tM:∃ (A3:Cells) (X3:FP) (Hi:Nat->FP),Rel P C A3 X3 ly a w F2/\(∀ (i:Nat) (z:e.den),(v++yv)[i]?=some z->an P w A3 e (if me=m.e then me else az e) [] z (((ez++news).drop (i*e.sz)).take e.sz) (Hi i)) /\
    (∀ b i,ba (List.length v+List.length yv) Hi b i<=X3 b i)/\∀ ad,xa=some ad->∀ b i,b_ ad.block 0 (cap*e.sz) b i+ba (List.length v+List.length yv) Hi b i<=X3 b i:=by
   by_cases Cy:me=m.e
   ·subst Cy;refine ⟨A2,_,_,q3,by simp only[aI];exact Fc r4 Z9 q5,fun b i=>?_,fun ad fm b i=>?_⟩
    ·rw[Fe];have:=r7 b i;have:=q6 b i;omega
    ·rw[Fe];have:=(c4 ad fm).2.2.2 b i;have:=q6 b i;omega
   ·simp only[bA Cy]
    obtain ⟨B,W7,zn,hB3⟩:∃ B:FP,(∀ b i,B b i+ba (List.length v) Fi b i<=Fv b i)/\(∀ ad,xa=some ad->∀ b i,b_ ad.block 0 (cap*e.sz) b i=B b i)/\∀ b i,B b i<=1:=by
     cases xa with
     | none=>exact ⟨fun _ _=>0,fun b i=>by show 0+_<=_;have:=r7 b i;omega,(fun ad e=>by cases e),fun _ _=>aW _⟩
     | some ad=>exact ⟨b_ ad.block 0 (cap*e.sz),(c4 ad rfl).2.2.2,(fun cr e=>by injection e with e;subst e;exact fun _ _=>rfl),fun b i=>by simp only[b_];split <;> omega⟩
    obtain ⟨A3,qF⟩:∃ A3:Cells,∀ b i,A3 b i↔(A2 b i\/(1<=0+Fv b i+Fw b i/\B b i=0)):=⟨fun b i=>A2 b i\/(1<=0+Fv b i+Fw b i/\B b i=0),fun _ _=>jT⟩
    refine ⟨A3,B,fun _ _ _=>0,q3.giveUp (fun b i h=>(qF b i).2 (.inl h)) (fun b i ha=>(qF b i).1 ha) (fun b i=>by have:=W7 b i;omega),?_,fun b i=>by rw[nf];exact aW _,fun ad fm b i=>by rw[nf,zn ad fm];exact aN _⟩
    have po:∀ b i,(0+Fv b i+Fw b i)+ba ly.n F2 b i<=1:=fun b i=>q3.o5 b i
    have hv3:∀ (i:Nat) (z:e.den),v[i]?=some z->an P w A3 e (az e) [] z ((ez.drop (i*e.sz)).take e.sz) (fun _ _=>0):=fun i z hz=>Ro.rep _ _ (gm _) (an.wc (fun b i h=>(qF b i).2 (.inl h)) e (Z9 i z hz) fun b k hp=>(qF b k).2 (.inr (by
     have h1:=c7 Fi (aM.1 hz).1 b k;have h2:=W7 b k;have h3:=po b k
     constructor <;> omega)))
    have hy3:∀ (i:Nat) (z:e.den),yv[i]?=some z->an P w A3 e (az e) [] z ((news.drop (i*e.sz)).take e.sz) (fun _ _=>0):=fun i z hz=>Ro.rep _ _ (gm _) (an.wc (fun b i h=>(qF b i).2 (.inl h)) e (q5 i z hz) fun b k hp=>(qF b k).2 (.inr (by
     have h1:=c7 Gi (aM.1 hz).1 b k;have h2:=W7 b k;have h3:=po b k;have h4:=q6 b k
     constructor <;> omega)))
    exact fun i z hz=>by simpa using Fc (Fi:=fun _ _ _=>0) (Gi:=fun _ _ _=>0) r4 hv3 hy3 i z hz
  obtain ⟨A3,X3,Hi,n1,n2,n3,n4⟩:=tM;have zb:List.length (v++yv)=List.length v+List.length yv:=by simp
  by_cases oI:List.length v+List.length yv<=cap
  ·cases xa with
   | none=>
    have hc0:=c3 rfl;have NN:v=[]:=bH (by omega);have Q_:yv=[]:=bH (by omega);subst NN;subst Q_;have vh:(Builtin.firstCells e.sz 0 (a.eval z)).run P w=.ok news.toArray w:=by have:=q4.cells;simpa using this
    have f_:(execOp a.eval o).run P w=.ok (.value (.slice none 0 cap)) w:=by
     rcases q4.kind with ⟨e',o7⟩ | o7 <;>
      simp[execOp,ho,resolve,invoke,builtin,Builtin.append_,k5,run_underlying hu,run_underlying o7,Go.sizeOf,typeInfo,i1,q4.len,i2,vh]
    refine ou f_ (pA n1 q1 (Fd:=fun _ _=>0) ⟨[.slice none 0 cap],(df _ _ rfl).symm,?_⟩ (fun _ _=>aW _) (fun _ _ _ _ e=>by cases e));simp only[an,hole,bT,aG,aL,Md.own,aI];exact ⟨none,cap,rfl,aW _,c2,c3,fun ad e=>by cases e⟩
   | some ad=>
    obtain ⟨d1,d4,d2,d3⟩:=c4 ad rfl;obtain ⟨_,d5⟩:=r3 ad rfl;obtain ⟨b,off,sp⟩:=ad;simp only at d1 d2 d3 d4 d5;subst d1;subst d4;have U3:∀ b' i,b_ b 0 (cap*e.sz) b' i+ba (List.length v+List.length yv) Hi b' i<=X3 b' i:=n4 _ rfl;have CD:=q4.newsLen;have zo:List.length v*e.sz+news.length<=cap*e.sz:=by rw[CD,<- cI];exact bD _ oI
    have mS:∀ j,j < cap*e.sz->(w.cell? ⟨b,j,none⟩).isSome=true:=fun j hj=>by
     obtain ⟨c,e',fr,w1,w2,w3⟩:=d2;unfold World.cell?;simp only[w1,eP,aG,aL];rw[cN (by omega)];rfl
    have f_:=run_append_room_src (P:=P) w t tx o.type el inf hu i1 b 0 (List.length v) cap (a.eval z) (List.length yv) news (by rw[i2];exact q4) oI (fun j hj=>by rw[i2,bE];exact mS _ (by omega)) (fun j hj=>by rw[i2,bE];exact d2.frozen (by omega));rw[i2,bE] at f_
    have OS:(execOp a.eval o).run P w=.ok (.value (.slice (some ⟨b,0,none⟩) (List.length v+List.length yv) cap)) (w.setCells b (List.length v*e.sz) news):=by
     simp[execOp,ho,resolve,invoke,builtin,k5,f_]
    have dm:=k9 (b:=b) (o:=List.length v*e.sz) news w (List.length v*e.sz)
    have W8:∀ b' i,1<=b_ b (List.length v*e.sz) news.length b' i->1<=b_ b 0 (cap*e.sz) b' i:=fun b' i hp=>by
     simp only[b_] at hp ⊢;split at hp
     ·rw[aU (by omega)];exact aN _
     ·omega
    have U4:=n1.world dm (fun b' i hp=>by have:=W8 b' i hp;have:=U3 b' i;omega);refine ou OS (pA U4 q1 (Fd:=X3) ⟨[.slice (some ⟨b,0,none⟩) (List.length v+List.length yv) cap],(df _ _ rfl).symm,?_⟩ (fun _ _=>aN _) (fun _ _ _ _ e=>by cases e));simp only[an,hole,bT,aG,aL,Md.own,aI,Md.e];refine ⟨some ⟨b,0,none⟩,cap,by rw[zb],by omega,c2,(fun e=>by cases e),fun cr e'=>?_⟩
    injection e' with e';subst e';refine ⟨rfl,rfl,dm.tQ _ _ d2,Hi,fun b' i=>by rw[zb];exact U3 b' i,fun i zz hz=>?_⟩
    have fa:=n2 i zz hz;have HS:i < List.length v+List.length yv:=by have:=(aM.1 hz).1;omega
    refine ⟨_,an.length _ fa,?_,?_⟩
    ·
     have pD:Has (w.setCells b (List.length v*e.sz) news) b 0 (ez++news):=fun j u hu=>by
      rw[bE];by_cases hj:j < ez.length
      ·rw[bW hj] at hu;have hold:=d5 j u hu;rw[bE] at hold;refine dm.cell b j (by obtain ⟨c,e',fr,w1,_⟩:=d2;exact (bR.1 w1).1) ?_ u hold;simp only[b_];rw[bA (by omega)]
      ·rw[bV (by omega)] at hu;have:=oH (w:=w) (b:=b) (o:=List.length v*e.sz) (L:=news) (fun k hk=>mS _ (by omega)) q4.one _ u hu;rw[<-this];congr 1;omega
     intro j u hu;rw[bK] at hu;split at hu
     ·rw[bM] at hu;have:=pD _ u hu;rw[bE] at this;exact this
     ·cases hu
    ·simp only[eQ];refine an.mono (P:=P) (fun _ _ h=>h) (fun b' k ha u hu=>dm.cell b' k (n1.kO b' k (.inr ha)) ?_ u hu) dm.tQ e fa (fun _ _=>aN _) (fun b' k hp u hu=>dm.cell b' k ?_ ?_ u hu)
     ·rcases bF (b_ b (List.length v*e.sz) news.length b' k) with h0 | h0
      ·exact h0
      ·exact absurd ha (n1.pW b' k (by have:=W8 b' k h0;have:=U3 b' k;omega))
     ·exact n1.kO b' k (.inl (by have:=c7 Hi HS b' k;have:=n3 b' k;omega))
     ·rcases bF (b_ b (List.length v*e.sz) news.length b' k) with h0 | h0
      ·exact h0
      ·have h1:=W8 b' k h0;have h2:=U3 b' k;have h3:=c7 Hi HS b' k;have h4:=n1.o5 b' k;omega
  ·
   have OU:(Builtin.firstCells inf.size (List.length v) (.slice xa (List.length v) cap)).run P w.drew=.ok ez.toArray w.drew:=by
    cases xa with
    | none=>
     have h0:=r2.2 rfl;have:ez=[]:=bH (by rw[r4,h0,gG]);subst this;exact run_firstCells_none w.drew inf.size (List.length v) (List.length v) cap
    | some ad=>
     obtain ⟨_,d4,_,_⟩:=c4 ad rfl;obtain ⟨_,d5⟩:=r3 ad rfl;obtain ⟨b,off,sp⟩:=ad;simp only at d4 d5;subst d4;exact run_firstCells_some w.drew inf.size (List.length v) ⟨b,off,none⟩ (List.length v) cap ez (by rw[i2];exact r4) (fun j u hu=>by rw[pz];exact qR (d5 j u hu) (r5 u (cB hu)))
   simp only[bz] at k_
   have f_:=run_append_grow_src (P:=P) w t tx o.type el inf zv hu i1 i4 xa (List.length v) cap ez OU (a.eval z) (List.length yv) news (by rw[i2];exact q4) (by omega) (by omega)
    (growslice_fits (by omega) (bJ (gT k_ i3) (by decide)))
   have OS:(execOp a.eval o).run P w=.ok (.value (.slice (some ⟨w.heap.size,0,none⟩) (List.length v+List.length yv) (grownCap w (List.length v+List.length yv) cap el)))
     (w.drew.alloc (.cells ((ez++news).toArray++Builtin.zeroCells zv.cells (grownCap w (List.length v+List.length yv) cap el - (List.length v+List.length yv))) el)):=by
    simp[execOp,ho,resolve,invoke,builtin,k5,f_]
   have Di:=grownCap_ge w (List.length v+List.length yv) cap el;have NP:=grownCap_le_maxLen w (List.length v+List.length yv) cap el (by simp only[maxLen];omega);have CD:=q4.newsLen
   have ov:=Ef n1.drew (K:=K) (x:=x) (d:=o.dst) (e:=e) (m:=if me=m.e then me else az e) (v:=v++yv) (c:=(ez++news).toArray++Builtin.zeroCells zv.cells (grownCap w (List.length v+List.length yv) cap el - (List.length v+List.length yv)))
    (cap:=grownCap w (List.length v+List.length yv) cap el) (el:=el) (fr:=(0,0)) (Fi:=Hi) (.inr (aN _)) q1
    (by
     rw[fI,size_zeroCells,i5,dM,aS,r4,CD,<- cI,<- cI]
     congr 1;omega) NP (by rw[zb];exact Di)
    (fun b i=>by rw[zb];exact n3 b i) (fun i zz hz=>by
     have fa:=n2 i zz hz;refine ⟨_,an.length _ fa,fun j u hu=>?_,an.mono (P:=P) (w:=w) (w':=w.drew) (A:=A3) (A':=A3) (fun _ _ h=>h) (fun _ _ _ _ h=>h) (fun b n hn=>hn) e fa (fun _ _=>aN _) (fun _ _ _ _ h=>h)⟩
     rw[bK] at hu;split at hu
     ·rw[bM] at hu;have aj:=(aM.1 hu).1;rw[dW (by simpa using aj)]
      simpa using hu
     ·cases hu)
   rw[zb] at ov;exact ou OS ov
 ·cases hk
end
end OT
namespace OT
open Go
section
variable {P:Program} {C:Ctx} {A:Cells} {X:FP} {σ:St} {a:Act} {w:World} {F:Nat->FP} {R:Type} {x:R} {Q:Exit->Act->World->Prop} {o:Oper} {E:Env}
theorem Jl (h:du P C A σ a w F) {f:Nat} {first cs:Array Operand} (ho:o.op=.makeFunc (.func f) first cs) (c6:(P.funcs[f]?).any (fun fn=>fn.nfree == cs.size)=true) {K:St->Option R}
  (hk:(if first.size=0 then
   match cs.toList with
   | []=>K (σ.bY o.dst (.val .fn (f,0)))
   | [.tmp i]=>match σ.get i with
    | .box (.int .i64) _ _ n=>K (((σ.put i .dead).put i (.cp (.int .i64) n)).bY o.dst (.val .fn (f,n)))
    | _=>none
   | _=>none
  else none)=some x):Tk P o a w (Nx P C K x):=by
 simp only[Option.any_eq_true,jN] at c6;obtain ⟨fn,hf,hn⟩:=c6;split at hk
 ·rename_i h0;have Kt:first=#[]:=fF h0
  subst Kt;split at hk
  ·rename_i oG;have oG:cs=#[]:=by apply eX;simpa using oG
   subst oG;refine f7 (v:=.func (.func f) #[] #[]) (by simp[execOp,ho,Instr.makeFunc]) (cj h hk ⟨[.func (.func f) #[] #[]],rfl,#[],rfl,fn,hf,.inl ⟨by simpa using hn,rfl⟩⟩ (fun _ _ _ _ e=>by cases e))
  ·rename_i i oG;have oG:cs=#[.tmp i]:=by apply eX;simpa using oG
   subst oG;split at hk
   ·rename_i m H n hg
    have hi:i < σ.n:=by
     rcases bZ i σ.n with hi | hi
     ·exact hi
     ·rw[lY (dK.2 hi)] at hg;cases hg
    have hs:=h.im i hi;rw[hg] at hs;obtain ⟨b,off,L,F1,s1,s2,s3,s4,s5,s6⟩:=hs;simp only[an,Ro] at s6;subst s6;have h1:=h.put hi (s:=.dead) (v:=tmp a i) (Fd:=fun _ _=>0) (X':=F i) trivial (fun b k=>by omega) (fun _ _ _ _ e=>by cases e);rw[qU] at h1;have hle:∀ b' i',b_ b off 1 b' i'<=F i b' i':=fun b' i'=>by have:=s5 b' i';simp only[Ty.sz] at this;omega
    have h2:=h1.giveUp (A1:=fun b' i'=>A b' i'\/1<=b_ b off 1 b' i') (X1:=fun _ _=>0) (fun _ _ h=>.inl h) (fun b' i' ha=>ha.imp id fun hp=>⟨by have:=hle b' i';omega,rfl⟩) (fun _ _=>aW _);have mS:ce w b off=some (.int .i64 n):=s3 0 _ rfl;have hA:1<=b_ b off 1 b off:=by simp[b_]
    have h3:=h2.put (d:=i) hi (s:=.cp (.int .i64) n) (v:=tmp a i) (Fd:=fun _ _=>0) (X':=fun _ _=>0)
     ⟨⟨b,off,none⟩,by rw[s1],rfl,[.int .i64 n],rfl,(fun j u hu=>by
      cases j with
      | zero=>injection hu with hu;subst hu;exact ⟨mS,.inr hA⟩
      | succ j=>cases hu),rfl⟩ (fun b k=>by omega) (fun _ _ _ _ e=>by cases e)
    rw[qU] at h3;have ev:a.eval (.tmp i)=.pointer (some ⟨b,off,none⟩):=s1
    refine f7 (v:=.func (.func f) #[] #[.pointer (some ⟨b,off,none⟩)]) (by simp[execOp,ho,Instr.makeFunc,ev])
     (cj h3 hk ⟨[.func (.func f) #[] #[.pointer (some ⟨b,off,none⟩)]],rfl,_,rfl,fn,hf,.inr ⟨by simpa using hn,_,rfl,rfl,mS,.inr hA⟩⟩ (fun _ _ _ _ e=>by cases e))
   ·cases hk
  ·cases hk
 ·cases hk
theorem Mt (h:du P C A σ a w F) {y:Operand} (ho:o.op=.assign y) (bc:dj P y=true) {T:Nat} {mv:Bool} {K:St->Option R} (hk:HD E σ T y mv o.dst K=some x):Tk P o a w (Nx P C K x):=by
 refine f7 (v:=a.eval y) (by simp[execOp,ho]) ?_;unfold HD at hk;by_cases W9:∃ i xs,y=.tmp i/\σ.get i=.rq xs
 ·obtain ⟨i,xs,rfl,hg⟩:=W9;have e:dr σ (.tmp i)=.rq xs:=by simp only[dr,hg]
  rw[e] at hk
  cases xs with
  | nil=>
   have hi:i < σ.n:=by
    rcases bZ i σ.n with hi | hi
    ·exact hi
    ·rw[lY (dK.2 hi)] at hg;cases hg
   have hs:=h.im i hi;rw[hg] at hs;obtain ⟨vs,Fi,h1,h2,h3⟩:=hs;exact cj h hk ⟨vs,fun _ _ _=>0,h1,fun b i=>by simp[ba],fun j y hy=>by cases hy⟩ (fun _ _ _ _ e=>by cases e)
  | cons _ _=>cases hk
 rcases fh h bc with hs | ⟨xs,e⟩
 rotate_left
 ·exfalso
  cases y with
  | tmp i=>
   simp only[dr] at e;cases hg:σ.get i <;> rw[hg] at e <;> first | (cases e;done) | exact W9 ⟨i,_,rfl,hg⟩
  | const v=>simp only[dr] at e;unfold xw at e;split at e <;> first | (cases e;done) | (split at e <;> cases e)
  | func f=>cases e
  | global g=>cases e
 split at hk
 ·exact cj h hk trivial (fun _ _ _ _ e=>by cases e)
 ·rename_i hv;rw[hv] at hs;obtain ⟨t,hT,hk⟩:=fx hk;split at hk
  ·have hs:a.eval y=.slice none 0 0:=hs;rw[hs];refine cj h hk ⟨[.slice none 0 0],(df _ _ rfl).symm,?_⟩ (fun _ _ _ _ e=>by cases e);simp only[an,hole,bT,aG,aL,am,sK,Md.own,aI];exact ⟨none,0,rfl,aN _,by simp[maxLen],fun _=>rfl,fun ad fm=>by cases fm⟩
  ·cases hk
 ·rename_i hv;rw[hv] at hs;obtain ⟨vs,Fi,h1,h2,h3⟩:=hs;exact cj h hk ⟨vs,Fi,h1,h2,fun j y hy=>by cases hy⟩ (fun _ _ _ _ e=>by cases e)
 ·cases hk
 ·rename_i r p snap hv;rw[hv] at hs;split at hk
  ·split at hk
   ·obtain ⟨A',σ',F',m,v,cs,Fv,k1,k2,k3,k4,kr,k5,k6⟩:=ud h hs hk;rw[k5];exact zh k3 k1 k6 (fun b i=>by omega)
   ·cases hk
  ·cases hk
 ·rename_i r p snap lo hi hv;rw[hv] at hs;split at hk
  ·split at hk
   ·obtain ⟨A',σ',F',m,v,cs,Fv,k1,k2,k3,k4,kr,k5,k6⟩:=ud h hs hk;rw[k5];exact zh k3 k1 k6 (fun b i=>by omega)
   ·cases hk
  ·cases hk
 ·rename_i r p snap hv;rw[hv] at hs;split at hk
  ·rename_i t m H v hg;split at hk
   ·rename_i hc;simp only[aF,cM] at hc;split at hk
    ·rename_i i hd
     have hr:r < σ.n:=by
      rcases bZ r σ.n with hi | hi
      ·exact hi
      ·rw[lY (dK.2 hi)] at hg;cases hg
     have oq:=h.im r hr;rw[hg] at oq;obtain ⟨b,off,L,F1,s1,s2,s3,s4,s5,s6⟩:=oq;obtain ⟨pl,b',o',g1,g2,g3,g4⟩:=hs.2 hc.1.1
     have ip:place σ a w r []=some ⟨t,H,rd w b off t.sz,some (b,off)⟩:=by
      unfold place;rw[hg,s1];rfl
     rw[ip] at g1;injection g1 with g1;subst g1;simp only[aR,bS] at g2;obtain ⟨rfl,rfl⟩:=g2;have h1:=h.put hr (s:=.dead) (v:=tmp a r) (Fd:=fun _ _=>0) (X':=F r) trivial (fun b k=>by omega) (fun _ _ _ _ e=>by cases e);rw[qU] at h1;obtain ⟨bw,w1,w2⟩:=h.whole r t m H v hg (Gj hc.2);rw[s1] at w1;injection w1 with w1;injection w1 with w1;injection w1 with w1 w3;subst w1;have:=pA (K:=K) (x:=x) (d:=some i) h1 hk (v:=a.eval y) (s:=.box t m H v) (Fd:=F r) ⟨b,off,L,F1,g3,s2,s3,s4,s5,s6⟩ (fun b i=>aN _) (fun t' m' H' v' e=>by injection e with e1;subst e1;exact ⟨b,by rw[g3,w3],w2⟩);rw[hd];exact this
    ·cases hk
   ·exact cj h hk hs (fun _ _ _ _ e=>by cases e)
  ·exact cj h hk hs (fun _ _ _ _ e=>by cases e)
 ·exact cj h hk hs (fun t m H v e=>Ix σ _ t m H v e)
theorem EC {α:Type} (v y:List α) {lo n:Nat} (h:lo+n<=v.length) (hy:n<=y.length):(rX v lo n y).length=v.length:=by
 simp only[rX,aS,bQ,bI];omega
theorem Tb {α:Type} (v y:List α) {lo n:Nat} (h:lo+n<=v.length) (hy:n<=y.length) (i:Nat):(rX v lo n y)[i]?=if lo<=i/\i < lo+n then y[i - lo]? else v[i]?:=by
 unfold rX;by_cases h1:i < lo
 ·rw[bA (by omega),bL,bW (by simp;omega),eW h1]
 ·by_cases h2:i < lo+n
  ·rw[aU (by omega),bL,bV (by simp;omega),bW (by simp;omega)];have:(v.take lo).length=lo:=by simp;omega
   rw[this,eW (by omega)]
  ·rw[bA (by omega),bV (by simp;omega),bM];have:(v.take lo++y.take n).length=lo+n:=by simp;omega
   rw[this];congr 1;omega
theorem IB (h:du P C A σ a w F) {r:Nat} {p:Path} {e:Ty} {m:Md} {v y:List e.den} {news:List Value} {Gi:Nat->FP} {me:Md} {lo n:Nat} {K:St->Option R} (uX:At σ r p (.U e) m [] v) (fu:m.own=true) (hf:e.flat=true) (hn:lo+n<=List.length v) (hy:n<=List.length y)
  (hl:news.length=List.length y*e.sz) (mQ:∀ u ∈ news,u.oneCell'=true) (ox:∀ (i:Nat) (z:e.den),y[i]?=some z->an P w A e me [] z ((news.drop (i*e.sz)).take e.sz) (Gi i))
  (hk:uY σ r p (.U e) m (rX v lo n y) (fun σ'=>K { σ' with vr:=(σ.lX r v7).vr,aT:=σ.aT })=some x) :
  ∃ (xa:Option Addr) (cap:Nat) (ad:Option (Nat×Nat)) (w2:World) (A3:Cells) (σ':St) (F3:Nat->FP),place σ a w r p=some ⟨.U e,[],[.slice xa (List.length v) cap],ad⟩/\K σ'=some x/\du P C A3 σ' a w2 F3 /\
   (xa=none->w2=w/\List.length v=0)/\∀ ad,xa=some ad->ad.off=0/\ad.spot=none/\(n=0->w2=w)/\(storeCells ⟨ad.block,lo*e.sz,none⟩ (news.take (n*e.sz))).run P w=.ok () w2:=by
 obtain ⟨hr,m2,H2,v2,c9,wl,F2,q1,q2,q3,q4,q5,q6⟩:=A4 h hk;obtain ⟨_,e2,e3,e4⟩:=uX.inj q1;subst e2;subst e3;have e4:=iA e4;subst e4;have fa:=q3;simp only[an,hole,bT,aG,aL,fu,aI] at q3;obtain ⟨xa,cap,rfl,c1,c2,c3,c4⟩:=q3;have zb:=EC v y hn hy;have yf:∀ b i,F r b i<=1:=fun b i=>by have:=h.o5 b i;have:=c7 F hr b i;omega
 have fin:∀ (w2:World),Ext w w2 (fun b i=>0+(F2 b i+je wl (Ty.U e).sz b i))->(∀ b o,wl=some (b,o)->Has w2 b o [.slice xa (List.length v) cap])->an P w2 A (.U e) m [] (rX v lo n y) [.slice xa (List.length v) cap] F2 ->
   (∀ (i:Nat) (z:e.den),(rX v lo n y)[i]?=some z->∀ ad,xa=some ad->∃ L,L.length=e.sz/\Has w2 ad.block (ad.off+i*e.sz) L/\an P w2 A e .leaf [] z L (fun _ _=>0)) ->
   ∃ (A3:Cells) (σ':St) (F3:Nat->FP),K σ'=some x/\du P C A3 σ' a w2 F3:=by
  intro w2 g1 g2 g3 g4;obtain ⟨A3,yj,Fr,n1,n2,n3,n4,n5⟩:=q6 w2 A _ F2 (fun _ _=>0) g1 (fun _ _ h=>h) (fun _ _ h=>.inl h) (fun b i=>by omega) g2 (fun _=>rfl) g3;refine ⟨A3,_,_,n1,n5 v7 (xi (h.mo r)) (C7 (h.mo r)) rfl fun p' snap hb bc hlen=>?_⟩
  have h5:=E7 (h.mo r) hb bc;refine ⟨dh p'+1,False,by omega,fun _=>.inl (by omega),fun _=>by omega,?_⟩
  intro q pl hq hp
  cases q with
  | nil=>
   simp only[bh,aR] at hp;subst hp;exact ⟨_,_,rfl,fun _=>rfl⟩
  | cons s q=>
   cases s with
   | idx i=>
    cases xa with
    | none=>simp[bh,hole] at hp
    | some ad=>
     simp only[bh,hole,bT,aG,aL,eQ] at hp ⊢;split at hp
     ·rename_i hi;rw[aU hi];have k8:i < (rX v lo n y).length:=by rw[zb];exact hi
      obtain ⟨L,l1,l2,l3⟩:=g4 i _ (aA k8) ad rfl;rw[dt l2 l1];obtain ⟨H',br,h1,h2⟩:=zQ (A:=A) (m:=.leaf) (v:=(rX v lo n y)[i]) (F:=fun _ _=>0) q e l3 (.inr hf) hp;exact ⟨H',br,h1,fun h=>by rcases h with ⟨_,hs⟩ | h;rw[h2 hf] at hs;cases hs;exact h.elim⟩
     ·cases hp
   | _=>simp[bh] at hp
 cases xa with
 | none=>
  have h0:=c3 rfl;have NN:List.length v=0:=by omega
  have Ra:rX v lo n y=v:=by
   have:n=0:=by omega
   subst this;have hv:v=[]:=bH NN;subst hv;simp[rX]
  obtain ⟨A3,yj,F3,n1,n2⟩:=fin w (Ext.refl _ _) (fun b o e=>(q5 b o e).1) (by rw[Ra];exact fa) (fun i z hz ad e=>by cases e);exact ⟨none,cap,wl,w,A3,yj,F3,q2,n1,n2,fun _=>⟨rfl,NN⟩,fun ad e=>by cases e⟩
 | some ad=>
  obtain ⟨d1,d2,d3,Fi,d4,d5⟩:=c4 ad rfl;obtain ⟨b,off,sp⟩:=ad;simp only at d1 d2 d3 d4 d5;subst d1;subst d2;have hle:lo*e.sz+n*e.sz<=cap*e.sz:=by rw[<-cI];exact bD _ (by omega)
  have CD:(news.take (n*e.sz)).length=n*e.sz:=by
   rw[bQ,hl,fD];exact bD _ hy
  have mS:∀ j,j < cap*e.sz->(w.cell? ⟨b,j,none⟩).isSome=true:=fun j hj=>by
   obtain ⟨c,e',fr,w1,w2,w3⟩:=d3;unfold World.cell?;simp only[w1,eP,aG,aL];rw[cN (by omega)];rfl
  have c6:=run_storeCells_cells (P:=P) b (lo*e.sz) (news.take (n*e.sz)) 0 w (fun j hj=>by rw[cY];exact mS _ (by omega)) (fun j hj=>by rw[cY];exact d3.frozen (by omega)) (fun u hu=>mQ u (dZ hu));rw[cY] at c6;have dm:=k9 (b:=b) (o:=lo*e.sz) (news.take (n*e.sz)) w (lo*e.sz);rw[CD] at dm
  have xP:∀ b' i,b_ b (lo*e.sz) (n*e.sz) b' i<=b_ b 0 (cap*e.sz) b' i:=fun b' i=>by
   simp only[b_];split
   ·rw[aU (by omega)];exact aN _
   ·exact aW _
  have hA:∀ b' i,A b' i->∀ u,ce w b' i=some u->ce (w.setCells b (lo*e.sz) (news.take (n*e.sz))) b' i=some u:=fun b' i ha u hu=>by
   refine dm.cell b' i (h.kO b' i (.inr ha)) ?_ u hu;rcases bF (b_ b (lo*e.sz) (n*e.sz) b' i) with h0 | h0
   ·exact h0
   ·exact absurd ha (h.pW b' i (by have:=xP b' i;have:=d4 b' i;have:=q4 b' i;have:=c7 F hr b' i;omega))
  have OV:∀ (i:Nat) (z:e.den),(rX v lo n y)[i]?=some z->∃ L,L.length=e.sz/\Has (w.setCells b (lo*e.sz) (news.take (n*e.sz))) b (i*e.sz) L/\Ro P (w.setCells b (lo*e.sz) (news.take (n*e.sz))) A e z L:=by
   intro i z hz;rw[Tb v y hn hy] at hz;split at hz
   ·rename_i hi;have t8:=an.flat _ hf (ox _ z hz);refine ⟨_,Ro.length _ t8,fun j u hu=>?_,Ro.mono hA (fun _ _ h=>h) e t8⟩
    rw[bK] at hu;split at hu
    ·rename_i hj;rw[bM] at hu;have h6:(i - lo)*e.sz+e.sz<=n*e.sz:=by rw[<-fA];exact bD _ (by omega)
     have:=oH (w:=w) (b:=b) (o:=lo*e.sz) (L:=news.take (n*e.sz)) (fun k hk=>mS _ (by omega)) (fun u hu=>mQ u (dZ hu)) ((i - lo)*e.sz+j) u (by rw[eW (by omega)];exact hu);rw[<-this];have h7:i*e.sz=lo*e.sz+(i - lo)*e.sz:=by rw[<-cI];congr 1;omega
     congr 1;omega
    ·cases hu
   ·rename_i hi;obtain ⟨L,l1,l2,l3⟩:=d5 i z hz;have t8:=an.flat _ hf l3;refine ⟨L,l1,fun j u hu=>?_,Ro.mono hA (fun _ _ h=>h) e t8⟩
    refine dm.cell b _ (by obtain ⟨c,e',fr,w1,_⟩:=d3;exact (bR.1 w1).1) ?_ u (l2 j u hu);have hj:=(aM.1 hu).1;simp only[b_];rw[bA];rintro ⟨_,h8,h9⟩;rcases bZ i lo with U5 | U5
    ·have h6:i*e.sz+e.sz<=lo*e.sz:=by rw[<-fA];exact bD _ (by omega)
     omega
    ·have h6:lo*e.sz+n*e.sz<=i*e.sz:=by rw[<-cI];exact bD _ (by omega)
     omega
  have Ed:an P (w.setCells b (lo*e.sz) (news.take (n*e.sz))) A (.U e) m [] (rX v lo n y) [.slice (some ⟨b,0,none⟩) (List.length v) cap] F2:=by
   simp only[an,hole,bT,aG,aL,fu,aI];refine ⟨some ⟨b,0,none⟩,cap,by rw[zb],by omega,c2,(fun e=>by cases e),fun cr e'=>?_⟩
   injection e' with e';subst e';refine ⟨rfl,rfl,dm.tQ _ _ d3,fun _ _ _=>0,fun b' i=>by rw[nf];have h9:=d4 b' i;show b_ b 0 (cap*e.sz) b' i+0<=F2 b' i;omega,fun i z hz=>?_⟩
   obtain ⟨L,l1,l2,l3⟩:=OV i z hz;exact ⟨L,l1,l2,Ro.flat _ _ hf l3⟩
  have xS:∀ b' o',wl=some (b',o')->Has (w.setCells b (lo*e.sz) (news.take (n*e.sz))) b' o' [.slice (some ⟨b,0,none⟩) (List.length v) cap]:=fun b' o' ea j u hu=>by
   have h1:=(q5 b' o' ea).1 j u hu;have hj:=(aM.1 hu).1;have h2:=q4 b' (o'+j);have h3:=d4 b' (o'+j);have h4:=xP b' (o'+j);have h5:=yf b' (o'+j);have h7:=c7 F hr b' (o'+j)
   have h6:je wl (Ty.U e).sz b' (o'+j)=1:=by
    subst ea;have W_:j=0:=by simpa using hj
    subst W_;simp[je,b_,Ty.sz]
   exact dm.cell _ _ (h.kO b' (o'+j) (.inl (by show 1<=0+_;omega))) (by omega) u h1
  obtain ⟨A3,yj,F3,n1,n2⟩:=fin _ (dm.mono fun b' i hz=>by
    have hz:0+(F2 b' i+je wl (Ty.U e).sz b' i)=0:=hz
    have h2:=xP b' i;have h3:=d4 b' i;omega) xS Ed (fun i z hz ad e=>by
    injection e with e;subst e;obtain ⟨L,l1,l2,l3⟩:=OV i z hz
    exact ⟨L,l1,by simpa using l2,Ro.flat _ _ hf l3⟩)
  refine ⟨_,cap,wl,_,A3,yj,F3,q2,n1,n2,(fun e=>by cases e),fun cr e'=>?_⟩
  injection e' with e';subst e';refine ⟨rfl,rfl,fun zm=>?_,c6⟩
  subst zm;simp[World.setCells]
theorem Rb (h:du P C A σ a w F) (kS:∀ i T,E.TI i=some T->bd P T (.inl i)=true) {t tx:Nat} {y z:Operand} (ho:o.op=.call { callee:=.builtin .copy,args:=#[y,z],argTypes:=#[t,tx] }) (bc:dj P y=true/\dj P z=true)
  (Bx:(∃ e',P.underlying tx=some (.slice e'))\/P.underlying tx=some .string) {K:St->Option R} (hk:Oo E σ t y (dr σ z) o.dst K=some x):o.wp P a w (Nx P C K x) Q:=by
 unfold Oo at hk;obtain ⟨T,hT,hk⟩:=fx hk;have gf:=kS _ _ hT;split at hk
 ·rename_i e;have hl:=gf;simp only[bd,aF] at hl;have h2:=hl.2;split at h2;rotate_left
  ·cases h2
  rename_i el hu;simp only[aF,dP] at h2;obtain ⟨kt,ox⟩:=h2;have Xa:=run_sizeOf (P:=P) (w:=w) ox;split at hk;rotate_left
  ·cases hk
  rename_i hf
  rcases fh h bc.2 with uW | ⟨xs,e'⟩
  rotate_left
  ·rw[e'] at hk;simp[D9,nD] at hk
  obtain ⟨A2,ly,F2,me,yv,news,Fw,Gi,q1,q2,q3,qr,q4,q4',q5,q6⟩:=NO h uW Bx hk;have h2:du P C A2 ly a w F2:=q3.less fun _ _=>aW _
  have run:∀ (xa:Option Addr) (n cap:Nat) (w2:World),a.eval y=.slice xa n cap->(match (generalizing:=false) xa with | none=>w2=w | some ad=>(storeCells ad (news.take (min (List.length yv) n*e.sz))).run P w=.ok () w2) ->
    (execOp a.eval o).run P w=.ok (.value (.int .i64 ((min (List.length yv) n:Nat):Int))) w2:=by
   intro xa n cap w2 hy c6;have U6:=q4' (min (List.length yv) n) (jQ _ _)
   cases xa with
   | none=>
    simp only at c6;subst c6;simp[execOp,ho,resolve,invoke,builtin,Builtin.copy_,hy,run_underlying hu,q4.len,Xa,iS] at U6 ⊢;simp[U6,goInt]
   | some ad=>
    simp only at c6;simp[execOp,ho,resolve,invoke,builtin,Builtin.copy_,hy,run_underlying hu,q4.len,Xa,iS] at U6 c6 ⊢;simp[U6,c6,goInt]
  rcases fh h2 bc.1 with hs | ⟨xs,e'⟩
  rotate_left
  ·rw[e'] at q1;cases q1
  split at q1
  ·rename_i r p snap lo hi hv;rw[hv] at hs;split at q1
   ·rename_i ov;obtain ⟨hr,t',m',H',v',br,cr,F',h1,uX,h3,h4,h5,h6⟩:=mf h2 q1;split at h1
    ·rename_i hc;simp only[aF,bN] at hc;obtain ⟨fu,hH⟩:=hc;subst hH;obtain ⟨e1,h1⟩:=cv h1;subst e1;obtain ⟨pl,e2,xa,n,cap,uV,cap',g1,g2,g3,g4,g5,g6,g7,g8,g9,g10,g11⟩:=hs.2 ov
     have hvn:n=List.length v':=by
      rw[g1] at h3;injection h3 with h3;subst h3;simp only at g3;subst g3;simp only[an,hole,bT,aG,aL,fu,aI] at h4;obtain ⟨_,_,h4,_⟩:=h4;injection h4 with h4;injection h4
     obtain ⟨xb,Bv,wl,w2,A3,yj,F3,c1,c2,c3,c4,c5⟩:=IB h2 (K:=fun σ'=>K (σ'.bY o.dst (.val (.int .i64) ((min (List.length yv) (hi - lo):Nat):Int)))) ⟨uX⟩ fu hf (lo:=lo) (n:=min (List.length yv) (hi - lo)) (by omega) (jQ _ _) q4.newsLen q4.one q5 h1;rw[c1] at g1;injection g1 with g1;subst g1;simp only[cV,Value.slice.injEq,eJ] at g3;obtain ⟨rfl,g3,rfl⟩:=g3;injection g2 with g2;subst g2;refine ou (run uV (hi - lo) cap' w2 g6 ?_) (cj c3 c2 ⟨[.int .i64 _],rfl,rfl⟩ (fun _ _ _ _ e=>by cases e))
     cases xb with
     | none=>rw[g9 rfl];exact (c4 rfl).1
     | some ad=>
      obtain ⟨Xb,k1,k2,k3,k4⟩:=g10 ad rfl;rw[k1];obtain ⟨j1,j2,j3,j4⟩:=c5 ad rfl;simp only;by_cases aj:lo < hi
      ·have:Xb=⟨ad.block,lo*e.sz,none⟩:=by
        have h1:=k4 aj;obtain ⟨x1,x2,x3⟩:=Xb;simp only at k2 k3 h1;rw[k3,k2,j2,h1,j1,bE]
       rw[this];exact j4
      ·have zm:min (List.length yv) (hi - lo)=0:=by omega
       rw[zm,gG,jD];rw[j3 zm];rfl
    ·cases h1
   ·cases q1
  ·rename_i r p snap hv;rw[hv] at hs;split at q1
   ·rename_i ov;obtain ⟨hr,t',m',H',v',br,cr,F',h1,uX,h3,h4,h5,h6⟩:=mf h2 q1;split at h1
    ·rename_i hc;simp only[aF,bN] at hc;obtain ⟨fu,hH⟩:=hc;subst hH;obtain ⟨e1,h1⟩:=cv h1;subst e1;obtain ⟨pl,g1,g2,g3⟩:=hs.2 ov;obtain ⟨xb,Bv,wl,w2,A3,yj,F3,c1,c2,c3,c4,c5⟩:=IB h2 (K:=fun σ'=>K (σ'.bY o.dst (.val (.int .i64) ((min (List.length yv) (List.length v'):Nat):Int)))) ⟨uX⟩ fu hf (lo:=0) (n:=min (List.length yv) (List.length v')) (by omega) (jQ _ _) q4.newsLen q4.one q5 h1;rw[c1] at g1;injection g1 with g1;subst g1;simp only[df (.U e) _ rfl] at g2;refine ou (run xb (List.length v') Bv w2 g2 ?_) (cj c3 c2 ⟨[.int .i64 _],rfl,rfl⟩ (fun _ _ _ _ e=>by cases e))
     cases xb with
     | none=>exact (c4 rfl).1
     | some ad=>
      obtain ⟨j1,j2,j3,j4⟩:=c5 ad rfl;obtain ⟨b,off,sp⟩:=ad;simp only at j1 j2 j4 ⊢;subst j1;subst j2
      simpa using j4
    ·cases h1
   ·cases q1
  ·cases q1
 ·cases hk
end
end OT
namespace OT
open Go
def kV (w:World):(t:Ty)->Md->List Path->List Value->FP
 | .pair a b,m,H,cs=>fun x i=>kV w a m.l (H.filterMap u_) (cs.take a.sz) x i+kV w b m.r (H.filterMap va) (cs.drop a.sz) x i
 | .U e,m,H,cs=>
  if hole H then fun _ _=>0 else if m.own then
   match cs with
   | [.slice (some ad) n cap]=>fun x i=>b_ ad.block 0 (cap*e.sz) x i+ba n (fun j=>kV w e m.e (H.filterMap (kZ j)) (rd w ad.block (j*e.sz) e.sz)) x i
   | _=>fun _ _=>0
  else fun _ _=>0
 | .ptr e,m,H,cs=>
  if hole H then fun _ _=>0 else if m.own then
   match cs with
   | [.pointer (some ad)]=>fun x i=>b_ ad.block 0 e.sz x i+kV w e m.e [] (rd w ad.block 0 e.sz) x i
   | _=>fun _ _=>0
  else fun _ _=>0
 | .map _ _,m,H,cs=>
  if hole H then fun _ _=>0 else if m.own then
   match cs with
   | [.map (some r)]=>b_ r 0 1
   | _=>fun _ _=>0
  else fun _ _=>0
 | _,_,_,_=>fun _ _=>0
section
variable {P:Program} {w w1:World} {A:Cells}
theorem an.fp:∀ (t:Ty) {m:Md} {H:List Path} {v:t.den} {cs:List Value} {F:FP},an P w A t m H v cs F->an P w A t m H v cs (kV w t m H cs)/\∀ b i,kV w t m H cs b i<=F b i:=by
 intro t
 induction t with
 | pair a b kN kE=>
  intro m H v cs F h;obtain ⟨h0,F1,F2,hs,h1,h2⟩:=h;obtain ⟨a1,a2⟩:=kN h1;obtain ⟨b1,b2⟩:=kE h2;exact ⟨⟨h0,_,_,fun _ _=>aN _,a1,b1⟩,fun b i=>by have:=a2 b i;have:=b2 b i;have:=hs b i;simp only[kV];omega⟩
 | U e ih=>
  intro m H v cs F h;have h':=h;simp only[an] at h;split at h
  ·rename_i hh;exact ⟨by simp only[an,hh,aI];exact h,fun b i=>by simp only[kV,hh,aI];exact aW _⟩
  ·rename_i hh;split at h
   ·rename_i hm;obtain ⟨xa,cap,rfl,h1,h2,h3,h4⟩:=h
    cases xa with
    | none=>
     refine ⟨?_,fun b i=>by simp only[kV,hh,hm,aI,aG,aL];exact aW _⟩
     simp only[an,hh,hm,aI,aG,aL];exact ⟨none,cap,rfl,h1,h2,h3,fun ad e=>by cases e⟩
    | some ad=>
     obtain ⟨g1,g2,g3,Fi,g4,g5⟩:=h4 ad rfl
     have each:∀ (i:Nat) (x:e.den),v[i]?=some x->∃ L:List Value,L.length=e.sz/\Has w ad.block (i*e.sz) L/\an P w A e m.e (H.filterMap (kZ i)) x L (kV w e m.e (H.filterMap (kZ i)) (rd w ad.block (i*e.sz) e.sz)) /\
       ∀ b k,kV w e m.e (H.filterMap (kZ i)) (rd w ad.block (i*e.sz) e.sz) b k<=Fi i b k:=fun i x hx=>by
      obtain ⟨L,l1,l2,l3⟩:=g5 i x hx;obtain ⟨q1,q2⟩:=ih l3;rw[dt l2 l1];exact ⟨L,l1,l2,q1,q2⟩
     have hle:∀ b i,ba (List.length v) (fun j=>kV w e m.e (H.filterMap (kZ j)) (rd w ad.block (j*e.sz) e.sz)) b i<=ba (List.length v) Fi b i:=fun b i=>HJ b i fun j hj=>by
      obtain ⟨_,_,_,_,q⟩:=each j _ (aA hj);exact q b i
     refine ⟨?_,fun b i=>by simp only[kV,hh,hm,aI,aG,aL];have:=hle b i;have:=g4 b i;omega⟩
     simp only[an,hh,hm,aI,aG,aL];refine ⟨some ad,cap,rfl,h1,h2,h3,fun cr e'=>?_⟩
     injection e' with e';subst e';refine ⟨g1,g2,g3,fun j=>kV w e m.e (H.filterMap (kZ j)) (rd w ad.block (j*e.sz) e.sz),fun b i=>by simp only[kV,hh,hm,aI,aG,aL];exact aN _,fun i x hx=>?_⟩
     obtain ⟨L,l1,l2,l3,_⟩:=each i x hx;exact ⟨L,l1,l2,l3⟩
   ·rename_i hm;exact ⟨by simp only[an,hh,hm,aG,aL];exact h,fun b i=>by simp only[kV,hh,hm,aG,aL];exact aW _⟩
 | ptr e ih=>
  intro m H v cs F h;simp only[an] at h;split at h
  ·rename_i hh;exact ⟨by simp only[an,hh,aI];exact h,fun b i=>by simp only[kV,hh,aI];exact aW _⟩
  ·rename_i hh;split at h
   ·rename_i hm;obtain ⟨b0,rfl,h1,L,F1,h2,h3,h4,h5⟩:=h;obtain ⟨q1,q2⟩:=ih h5;refine ⟨?_,fun b i=>by simp only[kV,hh,hm,aI,aG,aL,dt h3 h2];have:=q2 b i;have:=h4 b i;omega⟩
    simp only[an,hh,hm,aI,aG,aL];exact ⟨b0,rfl,h1,L,_,h2,h3,fun b i=>by simp only[kV,hh,hm,aI,aG,aL,dt h3 h2];exact aN _,q1⟩
   ·rename_i hm;exact ⟨by simp only[an,hh,hm,aG,aL];exact h,fun b i=>by simp only[kV,hh,hm,aG,aL];exact aW _⟩
 | arr n e ih=>intro m H v cs F h;exact ⟨h,fun _ _=>aW _⟩
 | map k v=>
  intro m H x cs F h;simp only[an] at h;split at h
  ·rename_i hh;exact ⟨by simp only[an,hh,aI];exact h,fun b i=>by simp only[kV,hh,aI];exact aW _⟩
  ·rename_i hh;split at h
   ·rename_i hm;obtain ⟨h1,h2,r,qE,rfl,h4,h5,h6,h7⟩:=h;refine ⟨?_,fun b i=>?_⟩
    ·simp only[an,hh,hm,aI,aG,aL];exact ⟨h1,h2,r,qE,rfl,h4,by simp[kV,hh,hm,b_],h6,h7⟩
    ·simp only[kV,hh,hm,aI,aG,aL,b_];split
     ·rename_i hc;obtain ⟨rfl,zV,vQ⟩:=hc;have:i=0:=by omega
      subst this;exact h5
     ·exact aW _
   ·rename_i hm;exact ⟨by simp only[an,hh,hm,aG,aL];exact h,fun b i=>by simp only[kV,hh,hm,aG,aL];exact aW _⟩
 | _=>intro m H v cs F h;exact ⟨h,fun _ _=>aW _⟩
theorem OW:∀ (t:Ty) {m:Md} {H:List Path} {v:t.den} {cs:List Value} {F:FP},an P w A t m H v cs F->(∀ b i,1<=F b i->∀ u,ce w b i=some u->ce w1 b i=some u)->kV w1 t m H cs=kV w t m H cs:=by
 intro t
 induction t with
 | pair a b kN kE=>
  intro m H v cs F h hF;obtain ⟨h0,F1,F2,hs,h1,h2⟩:=h;have e1:=kN h1 (fun b i hp=>hF b i (by have:=hs b i;omega));have e2:=kE h2 (fun b i hp=>hF b i (by have:=hs b i;omega));simp only[kV,e1,e2]
 | U e ih=>
  intro m H v cs F h hF;simp only[an] at h;split at h
  ·rename_i hh;simp only[kV,hh,aI]
  ·rename_i hh;split at h
   ·rename_i hm;obtain ⟨xa,cap,rfl,h1,h2,h3,h4⟩:=h
    cases xa with
    | none=>simp only[kV]
    | some ad=>
     obtain ⟨g1,g2,g3,Fi,g4,g5⟩:=h4 ad rfl;simp only[kV,hh,hm,aI,aG,aL];funext b i;congr 1;refine iE (iE (qw fun j hj=>?_) b) i;obtain ⟨L,l1,l2,l3⟩:=g5 j _ (aA hj);have hle:j*e.sz+e.sz<=cap*e.sz:=by rw[<-fA];exact bD _ (by omega)
     have l2':Has w1 ad.block (j*e.sz) L:=fun k u hu=>hF _ _ (by
      have hk:=(aM.1 hu).1;have:=g4 ad.block (j*e.sz+k);have h9:b_ ad.block 0 (cap*e.sz) ad.block (j*e.sz+k)=1:=by simp only[b_];rw[aU ⟨trivial,by omega,by omega⟩]
      omega) u (l2 k u hu)
     rw[dt l2' l1,dt l2 l1];exact ih l3 (fun b i hp=>hF b i (by have:=g4 b i;have:=c7 Fi hj b i;omega))
   ·rename_i hm;simp only[kV,hh,hm,aG,aL]
 | ptr e ih=>
  intro m H v cs F h hF;simp only[an] at h;split at h
  ·rename_i hh;simp only[kV,hh,aI]
  ·rename_i hh;split at h
   ·rename_i hm;obtain ⟨b0,rfl,h1,L,F1,h2,h3,h4,h5⟩:=h
    have Ku:Has w1 b0 0 L:=fun k u hu=>hF _ _ (by
     have hk:=(aM.1 hu).1;have:=h4 b0 (0+k);have h9:b_ b0 0 e.sz b0 (0+k)=1:=by simp only[b_];rw[aU ⟨trivial,by omega,by omega⟩]
     omega) u (h3 k u hu)
    simp only[kV,hh,hm,aI,aG,aL,dt h3 h2,dt Ku h2];rw[ih h5 (fun b i hp=>hF b i (by have:=h4 b i;omega))]
   ·rename_i hm;simp only[kV,hh,hm,aG,aL]
 | _=>intro m H v cs F h hF;rfl
theorem Ro.indep {A':Cells}:∀ (t:Ty) {v:t.den} {cs:List Value},t.flat=true->t.rV=true->Ro P w A t v cs->Ro P w A' t v cs:=by
 intro t
 induction t with
 | pair a b kN kE=>
  intro v cs hf hn h;simp only[Ty.flat,Ty.rV,aF] at hf hn;exact ⟨kN hf.1 hn.1 h.1,kE hf.2 hn.2 h.2⟩
 | arr n e ih=>
  intro v cs hf hn h;exact ⟨h.1,h.2.1,h.2.2.1,fun i x hx=>ih hf hn (h.2.2.2 i x hx)⟩
 | U e ih=>intro v cs hf;simp[Ty.flat] at hf
 | ptr e ih=>intro v cs hf;simp[Ty.flat] at hf
 | fn=>intro v cs hf hn;simp[Ty.rV] at hn
 | map k v=>intro v cs hf;simp[Ty.flat] at hf
 | _=>intro v cs hf hn h;exact h
theorem an.indep {A':Cells}:∀ (t:Ty) {v:t.den} {cs:List Value} {F:FP},t.rV=true->an P w A t (am t) [] v cs F->an P w A' t (am t) [] v cs F:=by
 intro t
 induction t with
 | pair a b kN kE=>
  intro v cs F hn h;simp only[Ty.rV,aF] at hn;obtain ⟨h0,F1,F2,hs,h1,h2⟩:=h;exact ⟨h0,F1,F2,hs,kN hn.1 h1,kE hn.2 h2⟩
 | U e ih=>
  intro v cs F hn h;simp only[an,hole,bT,aG,aL,am,sK,Md.own,aI] at h ⊢;obtain ⟨xa,cap,h1,h2,h3,h4,h5⟩:=h;refine ⟨xa,cap,h1,h2,h3,h4,fun ad e'=>?_⟩
  obtain ⟨g1,g2,g3,Fi,g4,g5⟩:=h5 ad e';refine ⟨g1,g2,g3,Fi,g4,fun i x hx=>?_⟩
  obtain ⟨L,l1,l2,l3⟩:=g5 i x hx;exact ⟨L,l1,l2,ih hn l3⟩
 | ptr e ih=>
  intro v cs F hn h;simp only[an,hole,bT,aG,aL,am,sK,Md.own,aI] at h ⊢;obtain ⟨b,h1,h2,L,F1,h3,h4,h5,h6⟩:=h;exact ⟨b,h1,h2,L,F1,h3,h4,h5,ih hn h6⟩
 | arr n e ih=>
  intro v cs F hn h;exact ⟨h.1,Ro.indep _ (by have:=h.2.1;simpa [Ty.flat] using this) hn h.2⟩
 | fn=>intro v cs F hn;simp[Ty.rV] at hn
 | map k v=>
  intro x cs F hn h;simp only[Ty.rV,aF] at hn;simp only[an,hole,bT,aG,aL,am,sK,Md.own,aI] at h ⊢;obtain ⟨h1,h2,r,qE,h3,h4,h5,h6,h7⟩:=h;refine ⟨h1,h2,r,qE,h3,h4,h5,h6,fun i y hy=>?_⟩
  obtain ⟨kc,vc,g1,g2,g3⟩:=h7 i y hy;exact ⟨kc,vc,g1,Ro.indep k h1 hn.1 g2,Ro.indep v h2 hn.2 g3⟩
 | _=>intro v cs F hn h;exact h
theorem an.free {A':Cells} {t:Ty} {m:Md} {v:t.den} {cs:List Value} {F:FP} (ho:(t.flat||decide (m=am t))=true) (hn:t.rV=true) (h:an P w A t m [] v cs F):an P w A' t m [] v cs F:=by
 simp only[cX,bO] at ho;rcases ho with ho | ho
 ·exact Ro.flat t F ho (Ro.indep t ho hn (an.flat t ho h))
 ·subst ho;exact an.indep t hn h
def World.news (w w2:World):World:={ w2 with heap:=(w.heap.toList++w2.heap.toList.drop w.heap.size).toArray }
theorem IC {w2:World} (h:w.heap.size<=w2.heap.size) (k:Nat):(World.news w w2).heap[k]?=if k < w.heap.size then w.heap[k]? else w2.heap[k]?:=by
 simp only[World.news,gN];by_cases hk:k < w.heap.size
 ·rw[aU hk,bW (by simpa using hk),dE]
 ·rw[bA hk,bV (by simp;omega),bM,dE];congr 1;simp;omega
theorem xD {w2:World} (h:w.heap.size<=w2.heap.size):(World.news w w2).heap.size=w2.heap.size:=by simp[World.news];omega
theorem uk {w2:World} (h:w.heap.size<=w2.heap.size) {b:Nat} (hb:b < w.heap.size):(World.news w w2).heap[b]?=w.heap[b]?:=by rw[IC h,aU hb]
theorem By {w2:World} (h:w.heap.size<=w2.heap.size) {b:Nat} (hb:w.heap.size<=b):(World.news w w2).heap[b]?=w2.heap[b]?:=by rw[IC h,bA (by omega)]
theorem Aw {w2:World} {b:Nat} (h:w2.heap[b]?=w.heap[b]?) (i:Nat):ce w2 b i=ce w b i:=wX h i
theorem xl {w2:World} {b:Nat} (h:w2.heap[b]?=w.heap[b]?) (i:Nat):w2.frozen? ⟨b,i,none⟩=w.frozen? ⟨b,i,none⟩:=by simp[World.frozen?,h]
theorem wm {w2:World} {b:Nat} (h:w2.heap[b]?=w.heap[b]?) (n:Nat×Bool):gc w b n↔gc w2 b n:=by unfold gc;rw[h]
theorem gc.lt {b:Nat} {n:Nat×Bool} (h:gc w b n):b < w.heap.size:=by
 obtain ⟨c,e,fr,h1,_⟩:=h;exact (bR.1 h1).1
theorem Ff {w2:World} {F:FP} (h:Ext w w2 F):Ext w (World.news w w2) (fun _ _=>0)/\Ext (World.news w w2) w2 F:=by
 have hs:=h.size
 refine ⟨⟨by rw[xD hs];exact hs,fun b i hb _ u hu=>by rw[Aw (uk hs hb)];exact hu,fun b n hn=>(wm (uk hs hn.lt) n).1 hn,fun b i hb=>xl (uk hs hb) i,h.os,h.tape,h.output,fun b hb _=>uk hs hb,h.drawn⟩,
  ⟨by rw[xD hs];exact aN _,fun b i hb hz u hu=>?_,fun b n hn=>?_,fun b i hb=>?_,rfl,rfl,rfl,fun b hb hz=>?_,aN _⟩⟩
 ·by_cases qI:b < w.heap.size
  ·rw[Aw (uk hs qI)] at hu;exact h.cell b i qI hz u hu
  ·rw[Aw (w:=w2) (By hs (fP qI))] at hu;exact hu
 ·by_cases qI:b < w.heap.size
  ·exact h.tQ b n ((wm (uk hs qI) n).2 hn)
  ·exact (wm (w:=w2) (By hs (fP qI)) n).2 hn
 ·by_cases qI:b < w.heap.size
  ·rw[xl (uk hs qI)];exact h.xQ b i qI
  ·exact (xl (w:=w2) (By hs (fP qI)) i).symm
 ·by_cases qI:b < w.heap.size
  ·rw[uk hs qI];exact h.obj b qI hz
  ·exact (By hs (fP qI)).symm
end
def ArgRel (P:Program) (w:World) (A:Cells) (ho:List Path->Bool) (pm:PM) (t:Ty) (v:t.den) (x:Value) (F:FP):Prop:=
 match pm with
 | .ro=>∃ cs,x=cg t cs/\Ro P w A t v cs
 | .fix f=>(∃ cs,x=cg t cs/\Ro P w A t v cs)/\∀ e:t=.fn,(e ▸ v:Ty.fn.den).1=f
 | .py m=>∃ b o L F1,x=.pointer (some ⟨b,o,none⟩)/\L.length=t.sz/\Has w b o L/\(∀ j,j < t.sz->w.frozen? ⟨b,o+j,none⟩=false)/\(∀ b' i,b_ b o t.sz b' i+F1 b' i<=F b' i)/\an P w A t m [] v L F1
 | .nO m=>∃ cs,x=cg t cs/\an P w A t m [] v cs F
 | .nc m=>∃ H cs,ho H=true/\x=cg t cs/\an P w A t m H v cs F
 | .sB m=>∃ b o L F1,x=.pointer (some ⟨b,o,none⟩)/\L.length=t.sz/\Has w b o L/\(∀ j,j < t.sz->w.frozen? ⟨b,o+j,none⟩=false)/\(∀ b' i,b_ b o t.sz b' i+F1 b' i<=F b' i)/\an P w A t m [] v L F1
def oY (P:Program) (w:World) (A:Cells) (ho:List Path->Bool):(ps:List (PM×Ty))->(c8 (ps.map (·.2))).den->List Value->FP->Prop
 | [],_,xs,_=>xs=[]
 | (pm,t)::ps,v,xs,F=>∃ (x:Value) (Kv:List Value) (F1 F2:FP),xs=x::Kv/\(∀ b i,F1 b i+F2 b i<=F b i)/\ArgRel P w A ho pm t v.1 x F1/\oY P w A ho ps v.2 Kv F2
abbrev Kw:List Path->Bool:=fun H=>H.isEmpty
theorem oY.none {P:Program} {w:World} {A:Cells} {ho:List Path->Bool} (hh:∀ H,ho H=true->H=[]):∀ (ps:List (PM×Ty)) {v:(c8 (ps.map (·.2))).den} {xs:List Value} {F:FP},oY P w A ho ps v xs F->oY P w A Kw ps v xs F
 | [],_,_,_,h=>h
 | (pm,t)::ps,_,_,_,⟨x,Kv,F1,F2,h1,h2,h3,h4⟩=>⟨x,Kv,F1,F2,h1,h2,by
  cases pm with
  | nc m=>obtain ⟨H,cs,g1,g2⟩:=h3;rw[hh H g1] at g2;exact ⟨[],cs,rfl,g2⟩
  | _=>exact h3,oY.none hh ps h4⟩
def m8 (P:Program) (w:World) (A:Cells):(ps:List (PM×Ty))->(c8 (lJ ps)).den->List Value->FP->Prop
 | [],_,_,_=>True
 | (.ro,_)::ps,v,xs,F=>m8 P w A ps v xs.tail F
 | (.fix _,_)::ps,v,xs,F=>m8 P w A ps v xs.tail F
 | (.sB _,_)::ps,v,xs,F=>m8 P w A ps v xs.tail F
 | (.nc _,_)::ps,v,xs,F=>m8 P w A ps v xs.tail F
 | (.py m,t)::ps,v,xs,F=>∃ (F1 F2:FP),(∀ b i,F1 b i+F2 b i<=F b i)/\(∃ b o L F3,xs.head?=some (.pointer (some ⟨b,o,none⟩))/\L.length=t.sz/\Has w b o L/\(∀ b' i,b_ b o t.sz b' i+F3 b' i<=F1 b' i)/\an P w A t m [] v.1 L F3)/\m8 P w A ps v.2 xs.tail F2
 | (.nO m,t)::ps,v,xs,F=>∃ (F1 F2:FP),(∀ b i,F1 b i+F2 b i<=F b i)/\(∃ cs,xs.head?=some (cg t cs)/\an P w A t m [] v.1 cs F1)/\m8 P w A ps v.2 xs.tail F2
def mT (P:Program) (w:World) (A:Cells) (rs:List FS) (rv:Value) (F:FP):Prop:=
 match rs with
 | []=>True
 | [x]=>∃ cs,rv=cg x.t cs/\an P w A x.t x.m [] x.v cs F
 | xs=>∃ (vs:Array Value) (Fi:Nat->FP),rv=.tuple vs/\(∀ b i,ba xs.length Fi b i<=F b i)/\∀ j x,xs[j]?=some x->∃ v cs,vs[j]?=some v/\v=cg x.t cs/\an P w A x.t x.m [] x.v cs (Fi j)
def Sound (P:Program) (f:FuncId) (g:sC):Prop:=
 ∀ (w:World) (A:Cells) (F0:FP) (v:(c8 (g.ps.map (·.2))).den) (xs:List Value),oY P w A (g.Cw v) g.ps v xs F0->(∀ b i,F0 b i<=1)->(∀ b i,1<=F0 b i->¬ A b i)->(∀ b i,1<=F0 b i\/A b i->b < w.heap.size) ->
  ∀ out,g.F v=some out->Calls P f xs.toArray w fun e w'=>∃ rv,e=.returned rv/\Ext w w' F0/\∃ (A':Cells) (G GR GM:FP),(∀ b i,A b i->A' b i)/\(∀ b i,A' b i->A b i\/1<=F0 b i\/w.heap.size<=b) /\
   (∀ b i,1<=G b i->1<=F0 b i\/w.heap.size<=b)/\(∀ b i,G b i<=1)/\(∀ b i,1<=G b i->¬ A' b i)/\(∀ b i,1<=G b i\/A' b i->b < w'.heap.size)/\(∀ b i,GR b i+GM b i<=G b i) /\
   mT P w' A' (lK g.rs out).1 rv GR/\m8 P w' A' g.ps (lK g.rs out).2 xs GM
def tH (P:Program) (f:FuncId) (cap:Bool):Prop:=∃ fn,P.funcs[f]?=some fn/\(fn.name == "runtime.NumGoroutine")=false/\fn.body.isNone=false/\fn.nfree=(match cap with | true=>1 | false=>0)
end OT
